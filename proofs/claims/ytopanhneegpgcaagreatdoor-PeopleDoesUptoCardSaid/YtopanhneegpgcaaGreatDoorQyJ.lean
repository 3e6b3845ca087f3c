/- Parts of one proof. Conditions: as each theorem says. -/
import Derived.Sort.Row
import Derived.Sort.Grow
import Derived.Shelf.Spec.SlicesInsert
import Derived.Shelf.Spec.SlicesInsertGrow
import Derived.Shelf.Lays2
import Derived.Ground.Names2Prog
import Derived.Test.YtopanhneegpgcaaGreatDoorProg
import Derived.Shelf.SlSortCmp.WholeK
import Derived.Lib.Bytealg
import Derived.Shelf.SlSortCmp.NoneTotal
import Derived.Ground.SlsfProg
import Derived.Shelf.SlIter.Nil
import Derived.Shelf.SortM.Plain
import Derived.Shelf.SortM.SortNone
import Derived.Ground.GgzProg
import Derived.Ground.SlgmProg
import Derived.Shelf.Spec.SlicesGrow
import Derived.Ground.Names8Prog
import Derived.Test.YtopanhneegpgcaaGreatDoorQyI
open Array renaming ext'->dY,getElem?_append_left->gD,getElem?_eq_some_iff->aT,getElem?_modify->fW,size_append->iN
open Bool renaming and_eq_true->aI,not_eq_true'->bM,or_true->iC
open Int renaming eq_ofNat_of_zero_le->eU
open List renaming append_assoc->aU,append_nil->bJ,eq_nil_of_length_eq_zero->aW,ext_getElem?->bN,getElem?_append_left->aF,getElem?_append_right->aG,getElem?_drop->bU,getElem?_eq_getElem->aH,getElem?_eq_some_iff->aC,le_antisymm->fJ,le_trans->iO,length_append->aD,length_drop->bL,length_map->aE,length_replicate->fY,length_set->bW,length_take->bX,map_append->cC,map_id->fI,mem_cons->aN,mem_cons_of_mem->aM,mem_cons_self->aO,mem_map->aY,nodup_cons->eL,not_lt->fX,pairwise_cons->bD,replicate->bI,size_toArray->eB
open Nat renaming add_assoc->dP,beq->aJ,le_refl->aL,mul_one->dQ,zero_add->aV,zero_le->bG
open Go.Proofs.Tryz renaming prog->aA
open Go.Builtin renaming zeroCells->Wa
open Go.Lib renaming compareBytes->Pb
open Go.Op renaming bytesLess->j9
open Go.Proofs.Tryz renaming func102->F2,func189->H8,func257->H9,func258->F3,func298->I0,func299->I1,isAgg0->B0,isAgg164->G6,isAgg165->G0,isAgg201->C6,isAgg22->B8,isAgg240->I3,isAgg241->I7,isAgg247->E9,isAgg249->F5,isAgg25->D1,isAgg274->J6,isAgg278->L9,isAgg3->B4,isAgg301->M4,isAgg302->M8,isAgg4->A1,isAgg5->C2,isAgg9->A5,isAgg94->J2,sizeOf0->B1,sizeOf164->G7,sizeOf165->G1,sizeOf201->C7,sizeOf22->B9,sizeOf240->I4,sizeOf241->I8,sizeOf247->F0,sizeOf249->F6,sizeOf25->D2,sizeOf274->J7,sizeOf278->M1,sizeOf3->B5,sizeOf301->M5,sizeOf302->M9,sizeOf4->A3,sizeOf5->C3,sizeOf9->A6,sizeOf94->J3,underlying0->A9,underlying164->G5,underlying165->F9,underlying201->C5,underlying22->B7,underlying240->I2,underlying241->I6,underlying247->D9,underlying249->F4,underlying25->C9,underlying274->J5,underlying278->J9,underlying3->B3,underlying301->M3,underlying302->M7,underlying4->A0,underlying5->C1,underlying9->A8,underlying94->J0,zeroValue0->B2,zeroValue164->G8,zeroValue165->G3,zeroValue201->C8,zeroValue22->C0,zeroValue240->I5,zeroValue241->I9,zeroValue247->F1,zeroValue249->F7,zeroValue25->D3,zeroValue274->J8,zeroValue278->M2,zeroValue3->B6,zeroValue301->M6,zeroValue302->N2,zeroValue4->A4,zeroValue5->C4,zeroValue9->A7,zeroValue94->J4
open Go.Proofs.Tryz
namespace Go.Proofs.YtopanhneegpgcaaGreatDoor.Am
open Go Go.RowKit Go.Sort
section
variable {P:Program}{B:r9}{S0:Mem}{w0 w w':World}{E0:List EI}{L0:List Q0}{V:Nat->Value}{ss:List (Nat×SV)}{e:Ty}{T:TypeId}{xs ys:List (den e)}
theorem yyA(R:l3 ⟨S0,U5 L0,w0⟩ S0 E0 L0 ⟨(0,.own 0 0)::ss,[.H' 0 e T xs]⟩ V w0):∃v cs rs,L0=[.H' v xs.length (l0 e) cs rs T]/\E0=[.H' 0 (V 0) (l0 e)]/\RL S0 cs xs/\dc S0 v (V 0) xs.length/\(V 0).oneCell'=true /\((xs=[]/\∃a c,V 0 = .slice a 0 c)∨∃b c fz,V 0=sl b 0 xs.length c/\v=sl b 0 xs.length c/\xs.length<=c/\cs.length=xs.length*l0 e/\c*l0 e<=(cs++rs).length/\w0.heap[b]? = some (.cells (cs++rs).toArray T fz)/\Lf T fz (cs++rs).length):=by
 obtain⟨J,p,g,i,v,v',cs,rs,rfl,rfl,j,d⟩:=R.obj 0 _ rfl;have q:L0.length=1:=R.lL;have s:E0.length=1:=R.lE;obtain⟨t,u,m,x⟩:=(show VB S0 E0 (.own 0 0) (V 0)from R.sl 0);rw[i]at m;cases m;have y:V 0=v':=(x _ _ _ rfl).2 rfl;subst y;have k:L0=[.H' v xs.length (l0 e) cs rs T]:=by
  match L0,q,g with
  |[r],_,g=>simp at g;rw[g]
 have l:E0=[.H' 0 (V 0) (l0 e)]:=by
  match E0,s,i with
  |[r],_,i=>simp at i;rw[i]
 refine⟨v,cs,rs,k,l,j,d,t,?_⟩;have z:Y3 L0 0=some (.H' v xs.length (l0 e) cs rs T):=by rw[N7];exact g
 rcases R.hs.own 0 _ z with⟨f,A,_,_⟩|⟨b,c,fz,f,C,E,F,H,I⟩
 ·left;refine⟨aW A,?_⟩;rcases d with h|⟨_,_,_,a,h⟩
  ·exact⟨none,0,by rw[h,f]⟩
  ·exact⟨a,0,h⟩
 ·rcases d with h|⟨h,_⟩
  ·by_cases o:xs=[]
   ·left;refine⟨o,some ⟨b,0,none⟩,c,?_⟩;rw[h,f,o];rfl
   ·right;exact⟨b,c,fz,by rw[h,f],f,C,E,F,H,I⟩
  ·rw[f]at h;cases h
theorem wV{v u:Value}{cs rs:LV}(H:HS ⟨S0,U5 L0,w0⟩ S0 w' [.H' v ys.length (l0 e) cs rs T])(d:E0=[.H' 0 u (l0 e)])(b:RL S0 cs ys)(c:dc S0 v u ys.length):∃f E' l a g,(∀{γ:Type} (k:Ex->St->Option γ),out [] [(none,(⟨[],[.H' e T]⟩:c7))] (ys:List (den e)) k=k .normal a)/\Mem.le S0 f/\l8 1 E0 E'/\l3 ⟨S0,U5 L0,w0⟩ f E' l a g w'/\Sa a.hp/\1<=a.hp.length/\Value.tuple #[]=gh (sg g 0 0):=by
 obtain⟨q,m⟩:=ei e;have p:∀y:den (.sl e),w8 [.H' e T] [.v (.sl e) y]=[.H' 0 e T y]:=fun y=>by rw[w8,m];rfl
 refine⟨S0,E0,_,⟨[],[.H' 0 e T ys]⟩,fun _=>undef,fun k=>?_,Mem.le_refl _,l8.refl _ _,⟨H,rfl,by rw[d];rfl,fun i o h=>?_,fun t=>trivial⟩,?_,aL _,rfl⟩
 ·show k (cd none) ((c7.put _ _).X0 [])=_;rw[show(c7.put (⟨[],[.H' e T]⟩:c7) ys)=⟨[],[.H' 0 e T ys]⟩from congrArg (fun hp=>(⟨[],hp⟩:St)) (p _)];rfl
 ·cases i with
  |zero=>cases h;exact⟨_,_,rfl,by rw[d];rfl,v,u,cs,rs,rfl,rfl,b,c⟩
  |succ i=>simp at h
 ·intro i r x z s j;cases i with
  |zero=>cases j;rfl
  |succ i=>simp at j
theorem xbJ{v u b:Value}{cs rs:LV}(H:HS ⟨S0,U5 L0,w0⟩ S0 w' [.H' v ys.length (l0 e) cs rs T])(x:E0=[.H' 0 u (l0 e)])(f:RL S0 cs ys)(g:dc S0 v b ys.length)(y:b.oneCell'=true):∃d E' j c m,(∀{γ:Type} (k:Ex->St->Option γ),out [] [(none,(⟨[(0,.h (.sl e))],[.dead]⟩:c7))] (ys:List (den e)) k=k .normal c)/\Mem.le S0 d/\l8 1 E0 E'/\l3 ⟨S0,U5 L0,w0⟩ d E' j c m w'/\Sa c.hp/\1<=c.hp.length/\b=gh (sg m 0 1):=by
 have z:l3 ⟨S0,U5 L0,w0⟩ S0 [.H' 1 b (l0 e)] [.H' v ys.length (l0 e) cs rs T] ⟨[(0,.own 0 1)],[.H' 1 e T ys]⟩ (fun _=>b) w':=by
  refine⟨H,rfl,rfl,fun i o h=>?_,fun t=>?_⟩
  ·cases i with
   |zero=>cases h;exact⟨_,_,rfl,rfl,v,b,cs,rs,rfl,rfl,f,g⟩
   |succ i=>simp at h
  ·cases t with
   |zero=>exact VR.ig (show VC S0 _ (.own 0 1) b from⟨y,_,rfl,fun r v' s A=>by cases A;exact⟨aL 1,fun _=>rfl⟩⟩)|succ t=>trivial
 obtain⟨d,E',j,hS,l,C⟩:=yQ z 0;refine⟨d,E',j,⟨[(0,.v (.sl e) ys)],[.dead]⟩,fun _=>b,fun k=>rfl,hS,fun k a M p=>?_,C,?_,aL _,rfl⟩
 ·obtain rfl:k=0:=by omega
  rw[x]at p;cases p;obtain⟨E,F,I⟩:=l 0 _ rfl;refine⟨E,F,.inl ⟨_,_,_,rfl,?_⟩⟩;rcases I with rfl|rfl|⟨J,v',rfl,N⟩
  ·exact .inr ⟨1,b,rfl,fun h=>by cases h⟩
  ·exact .inl rfl
  ·exact .inr ⟨J,v',rfl,fun h=>by omega⟩
 ·intro i K O Q L q;cases i with
  |zero=>cases q
  |succ i=>simp at q
theorem HS.Bg{b n c k sz:Nat}{fz:Nat×Nat}{cs rs cs' rs':LV}(H:HS B S0 w [.H' (sl b 0 n c) n sz cs rs T])(_u:w.heap[b]? = some (.cells (cs++rs).toArray T fz))(g:Lf T fz (cs++rs).length)(d:c*sz<=(cs++rs).length)(v:n<=c)(hk:k<=n)(q:cs'.length=k*sz)(a:(cs'++rs').length=(cs++rs).length) (h:w'.os=w.os) (j:w'.tape=w.tape) (l:w'.output=w.output) (m:w.heap.size<=w'.heap.size) (s:∀i,i<w.heap.size->i≠b->w'.heap[i]? = w.heap[i]?) (f:w'.heap[b]? = some (.cells (cs'++rs').toArray T fz)):HS B S0 w' [.H' (sl b 0 k c) k sz cs' rs' T]:=
 HS.Gb H (k:=0) (r:=.H' (sl b 0 n c) n sz cs rs T) (r':=.H' (sl b 0 k c) k sz cs' rs' T) rfl m h j l (fun i t o=>s i t fun e=>o (by rw[e];rfl)) (.inr ⟨b,c,fz,rfl,by omega,q,by rw[a];exact d,f,by rw[a];exact g⟩) fun x p=>.inl p
theorem UQ{c:Type}[Inhabited c]{enc:c->Value}{ds:List c}{cs rs:LV}{b q:Nat}{fz:Nat×Nat}{os:Array Obj}(g:w.heap[b]? = some (.cells (cs++rs).toArray T fz))(h:cs.length=ds.length):(grow (putRow enc (Go.Sort.ahead w q) b 0 ds.toArray) os).heap[b]? = some (.cells (ds.map enc++rs).toArray T fz)/\(∀i,i<w.heap.size->i≠b->(grow (putRow enc (Go.Sort.ahead w q) b 0 ds.toArray) os).heap[i]? = w.heap[i]?)/\w.heap.size<=(grow (putRow enc (Go.Sort.ahead w q) b 0 ds.toArray) os).heap.size:=by
 have k:b<w.heap.size:=(aT.1 g).1;have d:(putRow enc (Go.Sort.ahead w q) b 0 ds.toArray).heap.size=w.heap.size:=by simp[putRow,mapBlock,Go.Sort.ahead]
 refine⟨?_,fun i l f=>?_,?_⟩
 ·show((putRow enc (Go.Sort.ahead w q) b 0 ds.toArray).heap++os)[b]? = _;rw[gD (by rw[d];exact k)];have:(putRow enc (Go.Sort.ahead w q) b 0 ds.toArray).heap[b]? = some (onCells (putCells enc 0 ds.toArray) (.cells (cs++rs).toArray T fz)):=by show(w.heap.modify b _)[b]? = _;rw[fW,zJ rfl,g];rfl
  rw[this];show some (Obj.cells (putCells enc 0 ds.toArray (cs++rs).toArray) T fz)=_;congr 2;apply Array.ext_getElem?;intro j;unfold putCells;rw[Array.getElem?_mapIdx];simp only[List.getElem?_toArray,eB,bG,true_and,aV,Nat.sub_zero];by_cases a:j<ds.length
  ·rw[aF (by omega),aF (by rw[aE];exact a),List.getElem?_map,aH a,aH (show j<cs.length by omega)];simp[a]
  ·rw[aG (by omega),aG (by rw[aE];omega),aE,h];cases rs[j-ds.length]? with
   |none=>rfl|some x=>simp[a]
 ·show((putRow enc (Go.Sort.ahead w q) b 0 ds.toArray).heap++os)[i]? = _;rw[gD (by rw[d];exact l)];show(w.heap.modify b _)[i]? = _;rw[fW,zI (Ne.symm f)]
 ·show _<=((putRow enc (Go.Sort.ahead w q) b 0 ds.toArray).heap++os).size;rw[iN,d];omega
theorem holds_of{c:Type}[Inhabited c]{enc:c->Value}{ds:List c}{rs:LV}{b:Nat}{fz:Nat×Nat}(f:w.heap[b]? = some (.cells (ds.map enc++rs).toArray T fz))(a:Lf T fz (ds.map enc++rs).length):Go.Sort.Holds enc w b 0 ds.toArray:=fun j d=>by
 have d:j<ds.length:=by simpa using d
 constructor
 ·rw[aV];simp only[World.cell?,f];simp[d,aF]
 ·unfold World.frozen?;simp only[f];rw[aD,aE]at a;rcases a with h|⟨h,_⟩
  ·rw[h];simp
  ·have:¬fz.1<=0+j:=by omega
   simp[];omega
theorem EN:∀{l:kE} {cs:LV},@RL (den .s) (Q9 .s) S0 cs l->cs=l.map encStr
 |[],_,h=>h|x::l,_,h=>by obtain⟨c,d,b,a,f⟩:=h;have a:c=[str x]:=a;rw[b,a,EN f];rfl
end
section
variable {P:Program}{G:List (Nat×Obj)}
def zt{a:Type}(le:a->a->Bool)(x:a):List a->List a
 |[]=>[x]|y::l=>bif le x y then x::y::l else y::zt le x l
def bf{a:Type}(le:a->a->Bool):List a->List a
 |[]=>[]|x::l=>zt le x (bf le l)
theorem yuR{a:Type}(le:a->a->Bool)(x:a):∀l:List a,(zt le x l).Perm (x::l)
 |[]=>.refl _|y::l=>by
  unfold zt;cases le x y with
  |true=>exact .refl _|false=>exact((yuR le x l).cons y).trans (.swap x y l)
theorem jh{a:Type}(le:a->a->Bool):∀l:List a,(bf le l).Perm l
 |[]=>.refl _|x::l=>(yuR le x _).trans ((jh le l).cons x)
theorem yuO{f:Type}{le:f->f->Bool}(k:∀a b,le a b=true∨le b a=true)(d:∀a b c,le a b=true->le b c=true->le a c=true)(x:f):∀{l:List f},l.Pairwise (fun a b=>le a b=true)->(zt le x l).Pairwise fun a b=>le a b=true
 |[],_=>List.pairwise_singleton _ _|y::l,h=>by
  unfold zt;have g:=bD.1 h;cases i:le x y with
  |true=>
   refine bD.2 ⟨fun z hz=>?_,h⟩;rcases aN.1 hz with rfl|hz
   ·exact i
   ·exact d _ _ _ i (g.1 z hz)
  |false=>
   have j:le y x=true:=(k x y).resolve_left (by rw[i];simp);refine bD.2 ⟨fun z hz=>?_,yuO k d x g.2⟩;rcases aN.1 ((yuR le x l).mem_iff.1 hz)with rfl|hz
   ·exact j
   ·exact g.1 z hz
theorem WD{f:Type}{le:f->f->Bool}(g:∀a b,le a b=true∨le b a=true)(d:∀a b c,le a b=true->le b c=true->le a c=true):∀l:List f,(bf le l).Pairwise fun a b=>le a b=true
 |[]=>.nil|x::l=>yuO g d x (WD g d l)
theorem JK{g:Type}{R:g->g->Prop}:∀{l m:List g},(∀a∈l,∀b∈l,R a b->R b a->a=b)->l.Perm m->l.Pairwise R->m.Pairwise R->l=m
 |[],m,_,hp,_,_=>(List.nil_perm.1 hp).symm|a::l,[],_,hp,_,_=>absurd hp.length_eq (by simp)|a::l,b::m,k,hp,o,p=>by
  have c:=bD.1 o;have d:=bD.1 p;have i:a=b:=by
   rcases aN.1 (hp.mem_iff.1 aO)with h|h
   ·exact h
   ·have f:b∈a::l:=hp.mem_iff.2 aO;rcases aN.1 f with j|j
    ·exact j.symm
    ·exact k a aO b f (c.1 b j) (d.1 a h)
  subst i;rw[JK (fun x q y r=>k x (aM _ q) y (aM _ r)) hp.cons_inv c.2 d.2]
def De(x y:Bs):Bool:=!(j9 y x)
theorem YG{x y:Bs}:De x y=true↔x<=y:=by unfold De;rw[bytesLess_eq,bM,decide_eq_false_iff_not];exact fX
theorem yV(a b:Bs):De a b=true∨De b a=true:=by rw[YG,YG];exact List.le_total a b
theorem AV(a b c:Bs)(h:De a b=true)(k:De b c=true):De a c=true:=by rw[YG]at *;exact iO h k
def Mi(xs:kE):kE:=bf De xs
theorem Rx(xs:kE):(xs.mergeSort fun x y=>decide (x<=y))=Mi xs:=by
 have d:(xs.mergeSort fun x y=>decide (x<=y)).Pairwise fun x y=>x<=y:=by
  refine(List.pairwise_mergeSort (le:=fun x y=>decide (x<=y)) (fun a b c h k=>?_) (fun a b=>?_) xs).imp fun h=>zD h
  ·exact zA (iO (zD h) (zD k))
  ·rcases List.le_total a b with h|h<;>simp[h]
 refine JK (R:=fun x y=>x<=y) (fun a _ b _ h k=>fJ h k) ((List.mergeSort_perm _ _).trans (jh De xs).symm) d ((WD yV AV xs).imp fun h=>YG.1 h)
theorem XD{f:FuncId}{T:TypeId}(r:s8 P f) (M:∀(a:Option Addr) (c:Nat) (w:World),Calls P f #[.slice a 0 c] w fun x w'=>x = .returned (.tuple #[])/\w'=w) (N:∀(b c:Nat) (l:kE) (w:World),Go.Sort.Holds encStr w b 0 l.toArray->b<w.heap.size->l.length<4611686018427387904->Calls P f #[.slice (some ⟨b,0,none⟩) l.length c] w fun x w'=>x = .returned (.tuple #[])/\∃n os,w'=grow (putRow encStr (Go.Sort.ahead w n) b 0 (l.mergeSort fun x y=>decide (x<=y)).toArray) os):
  P' P G f ⟨⟨[(0,.own 0)],[.H' .s T]⟩,0,[(none,⟨[],[.H' .s T]⟩)],fun(xs:kE)=>bif decide (xs.length<1152921504606846976)then some (Mi xs)else none⟩:=by
 refine⟨r,fun S0 w0 z E0 L0 (xs:kE) (d:kE) _ i R k=>?_⟩;have k:(bif decide (xs.length<1152921504606846976)then some (Mi xs)else none)=some d:=k;obtain⟨m,k⟩:=r7 k;have m:=zD m;have O:Mi xs=d:=ka k;subst O;have i:z.length=1:=i;obtain⟨u,rfl⟩:∃u,z=[u]:=by
  match z,i with
  |[u],_=>exact⟨u,rfl⟩
 have Zb:(c7.put (⟨[(0,.own 0)],[.H' .s T]⟩:c7) xs)=⟨[(0,.own 0 0)],[.H' 0 .s T xs]⟩:=rfl;have R:l3 ⟨S0,U5 L0,w0⟩ S0 E0 L0 ⟨[(0,.own 0 0)],[.H' 0 .s T xs]⟩ (fun t=>[u].getD t undef) w0:=by rw[<-Zb];exact R
 obtain⟨v,cs,F,A,I,j,o,ho,Q⟩:=yyA R;have g:(Mi xs).length=xs.length:=(jh De xs).length_eq;have C:=EN j;have H:=R.hs;rcases Q with⟨J,a,c,h⟩|⟨b,c,fz,h,S,U,k2,W,p,K⟩
 ·have h:u = .slice a 0 c:=h;have E:Mi xs=[]:=by rw[J];rfl
  rw[h];refine(M a c w0).mono ?_;rintro x w' ⟨rfl,rfl⟩;refine⟨_,rfl,?_⟩;rw[E];rw[J]at j o A;exact wV (e:=.s) (ys:=[]) (by rw[A]at H ⊢;exact H) I j o
 ·have h:u=sl b 0 xs.length c:=h;subst C;have X:b<w0.heap.size:=(aT.1 p).1;rw[h];refine(N b c xs w0 (holds_of p K) X (by omega)).mono ?_;rintro x w' ⟨rfl,q,os,rfl⟩;refine⟨_,rfl,?_⟩;rw[Rx];obtain⟨Y,Z,g3⟩:=UQ (enc:=encStr) (ds:=Mi xs) (q:=q) (os:=os) p (by rw[aE,g]);have H1:HS ⟨S0,U5 L0,w0⟩ S0 w0 [.H' (sl b 0 xs.length c) xs.length 1 (xs.map encStr) F T]:=by rw[A,S]at H ⊢;exact H
  have L:=HS.Bg (w':=grow (putRow encStr (Go.Sort.ahead w0 q) b 0 (Mi xs).toArray) os) H1 p K W U (aL _) (cs':=(Mi xs).map encStr) (rs':=F) (by rw[aE,g,dQ]) (by rw[aD,aD,aE,aE,g]) rfl rfl rfl g3 Z Y;rw[<-g]at L;refine wV (e:=.s) (ys:=Mi xs) L I (DN _) ?_;rw[g];exact .inl h
theorem jm{f:FuncId}{T:TypeId}{cp:kE->kE}(E:s8 P f)(F:∀l,(cp l).length<=l.length)(I:cp []=[]) (h0:∀(a:Option Addr) (c:Nat) (w:World),Calls P f #[.slice a 0 c] w fun x w'=>x = .returned (.slice a 0 c)/\w'=w) (h1:∀(b c:Nat) (l:kE) (w:World),Go.Sort.Holds encStr w b 0 l.toArray->l.length<=9223372036854775807->l.length<=c->Calls P f #[.slice (some ⟨b,0,none⟩) l.length c] w fun x w'=>x = .returned (.slice (some ⟨b,0,none⟩) (cp l).length c)/\∃n,w'=putRow encStr (Go.Sort.ahead w n) b 0 (cp l++bI (l.length-(cp l).length) []).toArray):
  P' P G f ⟨⟨[(0,.own 0)],[.H' .s T]⟩,1,[(none,⟨[(0,.h (.sl .s))],[.dead]⟩)],fun(xs:kE)=>bif decide (xs.length<1152921504606846976)then some (cp xs)else none⟩:=by
 refine⟨E,fun S0 w0 J E0 L0 (xs:kE) (d:kE) _ i R o=>?_⟩;have o:(bif decide (xs.length<1152921504606846976)then some (cp xs)else none)=some d:=o;obtain⟨p,o⟩:=r7 o;have p:=zD p;have hd:cp xs=d:=ka o;subst hd;have i:J.length=1:=i;obtain⟨u,rfl⟩:∃u,J=[u]:=by
  match J,i with
  |[u],_=>exact⟨u,rfl⟩
 have Zb:(c7.put (⟨[(0,.own 0)],[.H' .s T]⟩:c7) xs)=⟨[(0,.own 0 0)],[.H' 0 .s T xs]⟩:=rfl;have R:l3 ⟨S0,U5 L0,w0⟩ S0 E0 L0 ⟨[(0,.own 0 0)],[.H' 0 .s T xs]⟩ (fun t=>[u].getD t undef) w0:=by rw[<-Zb];exact R
 obtain⟨v,cs,r,K,W,j,y,ho,hc⟩:=yyA R;have L:=EN j;have H:=R.hs;rcases hc with⟨X,a,c,g⟩|⟨b,c,fz,g,hv,Y,k2,k3,M,Z⟩
 ·have g:u = .slice a 0 c:=g;have N:cp xs=[]:=by rw[X];exact I
  rw[g];refine(h0 a c w0).mono ?_;rintro x w' ⟨rfl,rfl⟩;refine⟨_,rfl,?_⟩;rw[N];rw[X]at j y K;refine xbJ (e:=.s) (ys:=[]) (by rw[K]at H ⊢;exact H) W j ?_ rfl;rw[<-g];exact y
 ·have g:u=sl b 0 xs.length c:=g;subst L;rw[g];refine(h1 b c xs w0 (holds_of M Z) (by omega) Y).mono ?_;rintro x w' ⟨rfl,q,rfl⟩;refine⟨_,rfl,?_⟩;have hl:=F xs;obtain⟨C,O,Q⟩:=UQ (enc:=encStr) (ds:=cp xs++bI (xs.length-(cp xs).length) []) (q:=q) (os:=#[]) M (by rw[aE,aD,fY];omega);rw[grow_empty]at C O Q;have H1:HS ⟨S0,U5 L0,w0⟩ S0 w0 [.H' (sl b 0 xs.length c) xs.length 1 (xs.map encStr) r T]:=by rw[K,hv]at H ⊢;exact H
  have S:(cp xs).length=(cp xs).length*1:=(dQ _).symm;generalize z:cp xs++bI (xs.length-(cp xs).length) ([]:Bs)=ds at C O Q ⊢;have m:ds.map encStr++r=(cp xs).map encStr++((bI (xs.length-(cp xs).length) ([]:Bs)).map encStr++r):=by rw[<-z,cC,aU]
  generalize (bI (xs.length-(cp xs).length) ([]:Bs)).map encStr++r=rs' at m;have U:ds.length=xs.length:=by rw[<-z,aD,fY];omega
  have A:((cp xs).map encStr++rs').length=(xs.map encStr++r).length:=by rw[<-m];simp only[aD,aE,U]
  rw[m]at C;generalize cp xs=ys at *;have H2:=HS.Bg (w':=putRow encStr (Go.Sort.ahead w0 q) b 0 ds.toArray) (cs':=ys.map encStr) (rs':=rs') (k:=ys.length) H1 M Z k3 Y hl (by rw[aE];exact S) A rfl rfl rfl Q O C;exact xbJ (e:=.s) (ys:=ys) H2 W (DN _) (.inl rfl) rfl
end
end Go.Proofs.YtopanhneegpgcaaGreatDoor.Am
namespace Go.Proofs
open Go.Shelf Go.RowKit Go.Lib
variable {P:Program}{ρ:Ren}
set_option maxHeartbeats 4000000 in
set_option maxRecDepth 100000 in
theorem YtopanhneegpgcaaGreatDoor.KK(L:Lays2.n22 P ρ)(b o n c d q m e:Nat)(vs:List Value)(w:World)(E:0<m)(a:n+m<=c)(l:n+m<=1048576)(g:vs.length=m) (h:∀j,j<m->(w.cell? ⟨b,o+n+j,none⟩).isSome=true) (i:∀j,j<m->w.frozen? ⟨b,o+n+j,none⟩=false) (k:∀j v,vs[j]? = some v->w.cell? ⟨d,q+j,none⟩=some v) (p:∀v∈vs,v.oneCell'=true):Calls P (ρ.f 22) #[.slice (some ⟨b,o,none⟩) n c,.int .i64 n,.slice (some ⟨d,q,none⟩) m e] w fun x w'=>x = .returned (.slice (some ⟨b,o,none⟩) (n+m) c)/\w'=w.setCells b (o+n) vs:=by
 have F:=run_underlying L.t0;have H:=run_underlying L.t3;have I:=run_underlying L.t4;have u9:=run_underlying L.t9;have r:=run_underlying L.t24;have t0:=L.t0;have J:=L.a0;have K:=L.z0;have M:=L.v0;have t3:=L.t3;have N:=L.a3;have O:=L.z3;have Q:=L.v3;have t4:=L.t4;have R:=L.a4;have z4:=L.z4;have S:=L.v4;have t9:=L.t9;have U:=L.a9;have W:=L.z9;have X:=L.v9;have t24:=L.t24;have s:=L.a24;have y:=L.z24;have z:=L.v24;have mixed:=L.mixed;have A:¬((m:Int)=0):=by omega
 have src:Src P 1 (ρ.t 24) (.slice (some ⟨d,q,none⟩) m e) m vs w:=Src.ofSlice w L.t24 ⟨d,q,none⟩ m e vs (by omega) (fun j u C=>by rw[Addr.add_lit];exact k j u C) p
 go_enter L.f22,Body2.n22_ntmps ρ
 go_wp2_with (at_builtin;refine wpList_append_room1 _ rfl _ _ (ρ.t 24) (ρ.t 24) rfl (ρ.t 9) _ _ L.t24 L.i9 b o n c rfl _ rfl m vs src a (by rw[g];exact h) (by rw[g];exact i) ?_)
 go_ret
 exact⟨rfl,rfl⟩
set_option maxHeartbeats 4000000 in
set_option maxRecDepth 100000 in
theorem YtopanhneegpgcaaGreatDoor.LK(L:Lays2.n22 P ρ)(b o n c i d q m e:Nat)(cs vs:List Value)(w:World)(hi:i<n)(hm:0<m)(s:n+m<=c)(Z:n+m<=1048576)(S:d≠b)(u:cs.length=n)(z:vs.length=m) (A:∀j v,cs[j]? = some v->w.cell? ⟨b,o+j,none⟩=some v) (g:∀j,j<n+m->(w.cell? ⟨b,o+j,none⟩).isSome=true) (l:∀j,j<n+m->w.frozen? ⟨b,o+j,none⟩=false) (C:∀j v,vs[j]? = some v->w.cell? ⟨d,q+j,none⟩=some v) (E:∀v∈cs,v.oneCell'=true) (U:∀v∈vs,v.oneCell'=true) (tA tB:TypeId) (F H:Nat) (I:w.shape? d=some (tA,F)) (J:w.shape? b=some (tB,H)) (K:H≠0) (M:w.frozen? ⟨d,q,none⟩=false) (N:w.frozen? ⟨d,F,none⟩=false):Calls P (ρ.f 22) #[.slice (some ⟨b,o,none⟩) n c,.int .i64 i,.slice (some ⟨d,q,none⟩) m e] w fun x w'=>x = .returned (.slice (some ⟨b,o,none⟩) (n+m) c)/\w'=(w.drew.setCells b (o+(i+m)) (cs.drop i)).setCells b (o+i) vs:=by
 have u0:=run_underlying L.t0;have u3:=run_underlying L.t3;have u4:=run_underlying L.t4;have u9:=run_underlying L.t9;have u24:=run_underlying L.t24;have t0:=L.t0;have a0:=L.a0;have z0:=L.z0;have v0:=L.v0;have t3:=L.t3;have a3:=L.a3;have z3:=L.z3;have v3:=L.v3;have t4:=L.t4;have a4:=L.a4;have z4:=L.z4;have v4:=L.v4;have t9:=L.t9;have a9:=L.a9;have z9:=L.z9;have v9:=L.v9;have t24:=L.t24;have a24:=L.a24;have z24:=L.z24;have v24:=L.v24;have mixed:=L.mixed;have hm0:¬((m:Int)=0):=by omega
 have X:¬((i:Int)=(n:Int)):=by omega
 have p:(P.info? (ρ.t 9)).map (·.size)=some 1:=by obtain⟨i0,O,h0,E,U⟩:=info_parts L.i9;rw[O];simp[E]
 have Q:(cs.drop i).length=n-i:=by rw[bL,u]
 have apart:∀x y,(callFunc (ρ.f 29) #[.slice (some ⟨d,q,none⟩) m e,.slice (some ⟨b,o+(i+m),none⟩) x y]).run P w = .ok (.value (.bool false)) w:=fun x y=>by rw[run_callFunc_extern L.f29 (by kernel_rfl) (by kernel_rfl) (by kernel_rfl) (e:=Extern.SlicesOverlaps.overlaps #[(ρ.t 24),(ρ.t 24)] #[(ρ.t 4)]) (by kernel_rfl),Lib.run_overlaps_apart w (ρ.t 24) (ρ.t 4) (ρ.t 9) L.t24 1 L.z9 ⟨d,q,none⟩ ⟨b,o+(i+m),none⟩ m e x y S tA tB F H I J K M N];rfl
 have hw:IntKind.i64.wrap ((i:Int)+(m:Int))=(i:Int)+(m:Int):=by rw[IntKind.wrap_i64];omega
 have hw2:IntKind.i64.wrap ((n:Int)+(m:Int))=(n:Int)+(m:Int):=by rw[IntKind.wrap_i64];omega
 have f1:(0:Int)<=(i:Int)+(m:Int):=by omega
 have f2:i<=n:=by omega
 have f3:((i:Int)+(m:Int)).toNat=i+m:=by omega
 have f4:¬(c=i+m):=by omega
 have f5:(i:Int)<=(n:Int)+(m:Int):=by omega
 have f6:¬(c=i):=by omega
 have up:∀ty x y,(Builtin.copy_ #[(ρ.t 24),(ρ.t 24)] ty #[.slice (some ⟨b,o+(i+m),none⟩) (n+m-(i+m)) x,.slice (some ⟨b,o+i,none⟩) (n+m-i) y]).run P w.drew = .ok (goInt (cs.drop i).length) (w.drew.setCells b (o+(i+m)) (cs.drop i)):=fun ty x y=>
  run_copy_cells w.drew _ _ ty (ρ.t 9) b (o+(i+m)) (n+m-(i+m)) x ⟨b,o+i,none⟩ (n+m-i) y (cs.drop i) L.t24 p (by rw[Q];simp only[Nat.min_def];split<;>omega) (fun j v a=>by rw[Addr.add_lit,dP];exact A (i+j) v (by rwa[bU]at a)) (fun j a=>by rw[dP];exact g _ (by omega)) (fun j a=>by rw[dP];exact l _ (by omega)) fun v hv=>E v (List.mem_of_mem_drop hv)
 obtain⟨W,r⟩:∃W,W=w.drew.setCells b (o+(i+m)) (cs.drop i):=⟨_,rfl⟩;have R:∀k,k<n+m->(W.cell? ⟨b,o+k,none⟩).isSome=true:=fun k hk=>by rw[r];exact isSome_setCells b _ _ _ (fun j a=>by rw[dP];exact g _ (by omega)) _ (g k hk)
 have put:∀(V:World),(∀x,V.cell? x=W.cell? x)->(∀x,V.frozen? x=W.frozen? x)->∀ty x,(Builtin.copy_ #[(ρ.t 24),(ρ.t 24)] ty #[.slice (some ⟨b,o+i,none⟩) (n+m-i) x,.slice (some ⟨d,q,none⟩) m e]).run P V = .ok (goInt vs.length) (V.setCells b (o+i) vs):=fun V Y hf ty x=>
  run_copy_cells V _ _ ty (ρ.t 9) b (o+i) (n+m-i) x ⟨d,q,none⟩ m e vs L.t24 p (by rw[z];simp only[Nat.min_def];split<;>omega) (fun j v a=>by rw[Addr.add_lit,Y,r,World.cell?_setCells_out b _ _ _ _ (fun h _=>absurd h S)];exact C j v a) (fun j a=>by rw[Y,dP];exact R _ (by omega)) (fun j a=>by rw[hf,r,World.frozen?_setCells,dP];exact l _ (by omega)) U
 rw[<-r]at up
 go_enter L.f22,Body2.n22_ntmps ρ
 go_wp2_with (simp only[apart])
 go_region_law_o (refine step_copy_runI rfl _ _ (ρ.t 24) (ρ.t 24) rfl _ _ (by simp[Act.eval,Act.put]) (by simp[Act.eval,Act.put]) (up _ _ _) ?_)
 go_wp2_with (at_builtin;refine wpList_copy_runI _ rfl _ _ (ρ.t 24) (ρ.t 24) rfl _ _ rfl rfl (put _ (fun _=>rfl) (fun _=>rfl) _ _) ?_)
 go_ret
 first|exact⟨rfl,rfl⟩|exact⟨rfl,by rw[r]⟩
end Go.Proofs
namespace Go.Proofs.YtopanhneegpgcaaGreatDoor.Am
open Go Go.Proofs Go.RowKit Go.Sort Go.Shelf
theorem setCells_at{b:Nat}{T:TypeId}{fz:Nat×Nat}:∀(vs:LV) (o:Nat) (w:World) (cs:LV),w.heap[b]? = some (.cells cs.toArray T fz)->o+vs.length<=cs.length ->(w.setCells b o vs).heap[b]? = some (.cells (lay cs o vs).toArray T fz)/\(∀i,i≠b->(w.setCells b o vs).heap[i]? = w.heap[i]?)/\(w.setCells b o vs).heap.size=w.heap.size/\(w.setCells b o vs).os=w.os/\(w.setCells b o vs).tape=w.tape/\(w.setCells b o vs).output=w.output
 |[],o,w,cs,h,_=>by
  have:lay cs o []=cs:=by cases cs<;>rfl
  rw[this];exact⟨h,fun _ _=>rfl,rfl,rfl,rfl,rfl⟩
 |v::vs,o,w,cs,h,d=>by
  have d:o+(vs.length+1)<=cs.length:=d;obtain⟨g,k,l,m,p,q⟩:=setCells_at vs (o+1) (w.setCell ⟨b,o,none⟩ v) (cs.set o v) (ymD h) (by rw[bW];omega);refine⟨?_,fun i f=>(k i f).trans ?_,l.trans ?_,m,p,q⟩
  ·show((w.setCell ⟨b,o,none⟩ v).setCells b (o+1) vs).heap[b]? = _;rw[g];congr 3;apply bN;intro j;rw[Df,Df,bW,List.getElem?_set];by_cases a:o<=j/\j<o+(vs.length+1)
   ·rw[zJ (show o<=j/\j<o+(v::vs).length/\j<cs.length from⟨a.1,a.2,by omega⟩)];by_cases c:o=j
    ·subst c;rw[zI (by omega),zJ rfl,zJ (by omega)];simp
    ·rw[zJ (by omega),show j-o=(j-(o+1))+1 by omega,List.getElem?_cons_succ]
   ·rw[zI (show ¬(o<=j/\j<o+(v::vs).length/\j<cs.length)from fun h=>a ⟨h.1,h.2.1⟩),zI (by omega),zI (by omega)]
  ·show(w.heap.modify b _)[i]? = _;rw[fW,zI (Ne.symm f)]
  ·show(w.heap.modify b _).size=_;simp
theorem YD{cs vs rs:LV}(h:vs.length<=rs.length):lay (cs++rs) cs.length vs=cs++vs++rs.drop vs.length:=by
 apply bN;intro j;rw[Df,aU];by_cases b:j<cs.length
 ·rw[zI (by omega),aF b,aF b]
 ·by_cases a:j<cs.length+vs.length
  ·rw[zJ ⟨by omega,a,by rw[aD];omega⟩,aG (by omega),aF (by omega)]
  ·rw[zI (by omega),aG (by omega),aG (by omega),aG (by omega),bU];congr 1;omega
theorem ZD{cs vs rs:LV}{i:Nat}(c:i<=cs.length)(h:vs.length<=rs.length):lay (lay (cs++rs) (i+vs.length) (cs.drop i)) i vs=cs.take i++vs++cs.drop i++rs.drop vs.length:=by
 apply bN;intro j;have d:(cs.take i).length=i:=by rw[bX];omega
 have hB:(cs.drop i).length=cs.length-i:=bL;rw[Df,Df,VM,aU,aU];by_cases a:j<i
 ·rw[zI (by omega),zI (by omega),aF (by omega),aF (by omega),List.getElem?_take_of_lt a]
 ·by_cases b:j<i+vs.length
  ·rw[zJ ⟨by omega,b,by rw[aD];omega⟩,aG (by omega),aF (by omega)];congr 1;omega
  ·rw[zI (by omega)];by_cases f:j<i+vs.length+(cs.length-i)
   ·rw[zJ ⟨by omega,by omega,by rw[aD];omega⟩,aG (by omega),aG (by omega),aF (by omega)];congr 1;omega
   ·rw[zI (by omega),aG (by omega),aG (by omega),aG (by omega),aG (by omega),bU];congr 1;omega
def Sx(xs:kE)(i:Int)(vs:kE):Option kE:=bif decide (0<=i)&&decide (i.toNat<=xs.length)&&decide (1<=vs.length)&&decide (xs.length+vs.length<=1048576)then some (xs.take i.toNat++vs++xs.drop i.toNat)else none
theorem FN(l:kE):∀v∈l.map encStr,v.oneCell'=true:=fun v h=>by obtain⟨x,_,rfl⟩:=aY.1 h;rfl
section
variable {P:Program}{G:List (Nat×Obj)}{ρ:Ren}
theorem Bt{z:Value}(a:z.cells.size=1)(n:Nat):(Wa z.cells n).size=n:=by simp[Wa,a]
theorem Ct(L:Lays2.n22 P ρ)(hT:ρ.t 9≠so)(hfn:s8 P (ρ.f 22)):
  P' P G (ρ.f 22) ⟨⟨[(0,.own 0),(1,.h (.i .i64)),(2,.own 1)],[.H' .s (ρ.t 9),.H' .s (ρ.t 9)]⟩,1,[(none,⟨[(0,.own 2)],[.dead,.dead,.H' .s (ρ.t 9)]⟩)],fun(x:Int×kE×kE)=>Sx x.2.1 x.1 x.2.2⟩:=by
 refine⟨hfn,fun S0 w0 us E0 L0 (x:Int×kE×kE) (d:kE) _ hul R hy=>?_⟩;obtain⟨i,xs,vs⟩:=x;have hy:Sx xs i vs=some d:=hy;unfold Sx at hy;obtain⟨hb,hy⟩:=r7 hy;cases hy;simp only[aI,zE]at hb;obtain⟨⟨⟨hi0,hin⟩,hm1⟩,hbig⟩:=hb;obtain⟨k,rfl⟩:=eU hi0;simp only[Int.toNat_natCast]at hin ⊢;have hul:us.length=3:=hul;obtain⟨u,ui,uv,rfl⟩:∃u ui uv,us=[u,ui,uv]:=by
  match us,hul with
  |[u,ui,uv],_=>exact⟨u,ui,uv,rfl⟩
 have Zb:(c7.put (⟨[(0,.own 0),(1,.h (.i .i64)),(2,.own 1)],[.H' .s (ρ.t 9),.H' .s (ρ.t 9)]⟩:c7) (((k:Int),xs,vs):Int×kE×kE))=⟨[(0,.own 0 0),(1,.v (.i .i64) (k:Int)),(2,.own 1 0)],[.H' 0 .s (ρ.t 9) xs,.H' 0 .s (ρ.t 9) vs]⟩:=rfl;have R:l3 ⟨S0,U5 L0,w0⟩ S0 E0 L0 ⟨[(0,.own 0 0),(1,.v (.i .i64) (k:Int)),(2,.own 1 0)],[.H' 0 .s (ρ.t 9) xs,.H' 0 .s (ρ.t 9) vs]⟩ (fun t=>[u,ui,uv].getD t undef) w0:=by rw[<-Zb];exact R
 obtain⟨r0,ee0,g1,g2,v,v',cs,rs,rfl,rfl,hrl,hsm⟩:=R.obj 0 _ rfl;obtain⟨r1,ee1,j1,j2,z,z',ds,qs,rfl,rfl,hrl2,hsm2⟩:=R.obj 1 _ rfl;obtain⟨_,e1',h8,h9⟩:=(show VB S0 E0 (.own 0 0) u from R.sl 0);rw[g2]at h8;cases h8;obtain rfl:u=v':=(h9 _ _ _ rfl).2 rfl;obtain⟨_,e2',h8',h9'⟩:=(show VB S0 E0 (.own 1 0) uv from R.sl 2);rw[j2]at h8';cases h8';obtain rfl:uv=z':=(h9' _ _ _ rfl).2 rfl;have hui:u7 (.i .i64) S0 [ui] (k:Int):=R.sl 1;have hui:ui = .int .i64 (k:Int):=by have h:[ui]=[Value.int .i64 (k:Int)]:=hui;injection h
 subst hui;have hL:L0.length=2:=R.lL;have hE:E0.length=2:=R.lE;have hcs:=EN hrl;have hds:=EN hrl2;subst hcs;subst hds;have hk0:Y3 L0 0=some (.H' v xs.length 1 (xs.map encStr) rs (ρ.t 9)):=by rw[N7];exact g1
 have hk1:Y3 L0 1=some (.H' z vs.length 1 (vs.map encStr) qs (ρ.t 9)):=by rw[N7];exact j1
 have huz:z=uv:=(hsm2.eq (i:=0) (show 0<vs.length from hm1)).symm;subst huz;obtain⟨vb,vc,vfz,hz,a1,a2,a3,a4,a5⟩:∃b c fz,z=sl b 0 vs.length c/\vs.length<=c/\(vs.map encStr).length=vs.length*1/\c*1<=(vs.map encStr++qs).length/\w0.heap[b]? = some (.cells (vs.map encStr++qs).toArray (ρ.t 9) fz)/\Lf (ρ.t 9) fz (vs.map encStr++qs).length:=by
  rcases R.hs.own 1 _ hk1 with⟨_,h,_⟩|h
  ·omega
  ·exact h
 have hvs:∀j y,(vs.map encStr)[j]? = some y->w0.cell? ⟨vb,0+j,none⟩=some y:=fun j y hj=>by have hjl:=(aC.1 hj).1;rw[yk a4,aV,aF hjl];exact hj
 -- a new own slice behind two that are gone
 have fin:∀{w':World} {X:Value} {cs' rs':LV},HS ⟨S0,U5 L0,w0⟩ S0 w' [.H' (.slice none 0 0) 0 0 [] [] 0,.H' (.slice none 0 0) 0 0 [] [] 0,.H' X (xs.take k++vs++xs.drop k).length 1 cs' rs' (ρ.t 9)]->cs'=(xs.take k++vs++xs.drop k).map encStr->X.oneCell'=true ->
   ∃v',Ending.returned X = .returned v'/\∃N O L' g Q,(∀{γ:Type} (S:Ex->St->Option γ),out [] [(none,(⟨[(0,.own 2)],[.dead,.dead,.H' .s (ρ.t 9)]⟩:c7))] (xs.take k++vs++xs.drop k:kE) S=S .normal g)/\Mem.le S0 N/\l8 2 E0 O/\l3 ⟨S0,U5 L0,w0⟩ N O L' g Q w'/\Sa g.hp/\2<=g.hp.length/\v'=gh (sg Q 0 1):=fun {w' X cs' rs'} H hc I=>by
  subst hc;refine⟨X,rfl,S0,[.dead,.dead,.H' 0 X 1],_,⟨[(0,.own 2 0)],[.dead,.dead,.H' 0 .s (ρ.t 9) (xs.take k++vs++xs.drop k)]⟩,fun _=>X,fun k=>rfl,Mem.le_refl _,fun k a hk ha=>?_,⟨H,rfl,rfl,fun i o h=>?_,fun t=>?_⟩,?_,by simp,rfl⟩
  ·rcases Nat.lt_or_ge k 1 with h|h
   ·obtain rfl:k=0:=by omega
    rw[g2]at ha;cases ha;exact⟨.dead,rfl,.inl ⟨_,_,_,rfl,.inl rfl⟩⟩
   ·obtain rfl:k=1:=by omega
    rw[j2]at ha;cases ha;exact⟨.dead,rfl,.inl ⟨_,_,_,rfl,.inl rfl⟩⟩
  ·match i with
   |0=>cases h;exact⟨_,_,rfl,rfl,rfl,rfl⟩
   |1=>cases h;exact⟨_,_,rfl,rfl,rfl,rfl⟩
   |2=>cases h;exact⟨_,_,rfl,rfl,X,X,_,rs',rfl,rfl,DN _,.inl rfl⟩
   |i+3=>simp at h
  ·cases t with
   |zero=>exact VR.ig (show VC S0 _ (.own 2 0) X from⟨I,_,rfl,fun r v' s he=>by cases he;exact⟨aL 0,fun _=>rfl⟩⟩)|succ t=>trivial
  ·intro i ver e' T' xs' hi
   match i with
   |0=>cases hi
   |1=>cases hi
   |2=>cases hi;rfl
   |i+3=>simp at hi
 obtain⟨q0,q1,J⟩:∃q0 q1,L0=[q0,q1]:=by
  match L0,hL with
  |[q0,q1],_=>exact⟨q0,q1,rfl⟩
 have hq0:q0 = .H' v xs.length 1 (xs.map encStr) rs (ρ.t 9):=by rw[J]at g1;exact Option.some.inj g1
 have hq1:q1 = .H' z vs.length 1 (vs.map encStr) qs (ρ.t 9):=by rw[J]at j1;exact Option.some.inj j1
 have deadI:∀{w:World} {A:List Q0} {r:Q0},HS ⟨S0,U5 L0,w0⟩ S0 w (r::A)->HS ⟨S0,U5 L0,w0⟩ S0 w A:=fun {w A r} H=>H.rm 0;have fresh:∀{w':World} {cs' rs':LV} {cap:Nat},Ext w0 w'->w'.heap[w0.heap.size]? = some (.cells (cs'++rs').toArray (ρ.t 9) (0,0))->cs'.length=(xs.take k++vs++xs.drop k).length->cs'=(xs.take k++vs++xs.drop k).map encStr->(xs.take k++vs++xs.drop k).length<=cap->cap<=(cs'++rs').length ->
   ∃v',Ending.returned (sl w0.heap.size 0 (xs.take k++vs++xs.drop k).length cap) = .returned v'/\∃N O L' g Q,(∀{γ:Type} (S:Ex->St->Option γ),out [] [(none,(⟨[(0,.own 2)],[.dead,.dead,.H' .s (ρ.t 9)]⟩:c7))] (xs.take k++vs++xs.drop k:kE) S=S .normal g)/\Mem.le S0 N/\l8 2 E0 O/\l3 ⟨S0,U5 L0,w0⟩ N O L' g Q w'/\Sa g.hp/\2<=g.hp.length/\v'=gh (sg Q 0 1):=fun {w' cs' rs' cap} hx hh hl hc I h2=>by
  have H1:HS ⟨S0,U5 L0,w0⟩ S0 w0 []:=by have:=R.hs;rw[J]at this;have h3:=HS.rm (HS.rm this 0) 0;rw[J];exact h3
  have H2:=H1.push hx (r:=.H' (sl w0.heap.size 0 (xs.take k++vs++xs.drop k).length cap) (xs.take k++vs++xs.drop k).length 1 cs' rs' (ρ.t 9)) (.inr ⟨w0.heap.size,cap,(0,0),rfl,I,by rw[hl,dQ],by rw[dQ];exact h2,hh,.inl rfl⟩) fun b hb=>by cases hb;exact aL _
  exact fin (HS.na (HS.na H2 0 0) 0 0) hc rfl
 have q:(xs.take k++vs++xs.drop k).length=xs.length+vs.length:=by simp only[aD,bX,bL];omega
 have U:(xs.take k++vs++xs.drop k).map encStr=(xs.map encStr).take k++vs.map encStr++(xs.map encStr).drop k:=by rw[cC,cC,List.map_take,List.map_drop]
 have hz1:∀n,(Wa (Value.string ⟨#[]⟩).cells n).toList.length=n:=fun n=>by simpa using Bt (z:=Value.string ⟨#[]⟩) rfl n
 -- at the end, no room
 have E:∀(F:Option Addr) (c:Nat),u = .slice F xs.length c->xs.length<=c->c<xs.length+vs.length->k=xs.length->(F=none->xs.length=0)->(∀a,F=some a->∀j y,(xs.map encStr)[j]? = some y->w0.cell? (a.add j)=some y) ->
   Calls P (ρ.f 22) [u,.int .i64 (k:Int),z].toArray w0 fun e w'=>∃v,e = .returned v/\∃N O L' g Q,(∀{γ:Type} (S:Ex->St->Option γ),out [] [(none,(⟨[(0,.own 2)],[.dead,.dead,.H' .s (ρ.t 9)]⟩:c7))] (xs.take k++vs++xs.drop k:kE) S=S .normal g)/\Mem.le S0 N/\l8 2 E0 O/\l3 ⟨S0,U5 L0,w0⟩ N O L' g Q w'/\Sa g.hp/\2<=g.hp.length/\v=gh (sg Q 0 1):=fun F c hu hc1 hc2 hk hnil hcell=>by
  subst hk;rw[hu,hz];refine(Any2.slices_Insert_string_end_grow L F xs.length c vb 0 vs.length vc (xs.map encStr) (vs.map encStr) w0 hm1 hc1 hc2 (by omega) (by simp) (by simp) hnil hcell hvs (FN vs)).mono ?_;rintro e w' ⟨rfl,rfl⟩;have Z:=grownCap_ge w0 (xs.length+vs.length) c (ρ.t 9);have ht:xs.take xs.length++vs++xs.drop xs.length=xs++vs:=by rw[List.take_length,List.drop_length,bJ]
  have:=fresh (w':=w0.drew.alloc (.cells ((xs.map encStr++vs.map encStr).toArray++Wa (Value.string ⟨#[]⟩).cells (grownCap w0 (xs.length+vs.length) c (ρ.t 9)-(xs.length+vs.length))) (ρ.t 9))) (cs':=xs.map encStr++vs.map encStr) (rs':=(Wa (Value.string ⟨#[]⟩).cells (grownCap w0 (xs.length+vs.length) c (ρ.t 9)-(xs.length+vs.length))).toList) (cap:=grownCap w0 (xs.length+vs.length) c (ρ.t 9)) (Ext.trans (Ext.drew w0) (Ext.alloc w0.drew _)) (by
   have I:=Od w0.drew (.cells ((xs.map encStr++vs.map encStr).toArray++Wa (Value.string ⟨#[]⟩).cells (grownCap w0 (xs.length+vs.length) c (ρ.t 9)-(xs.length+vs.length))) (ρ.t 9));rw[show(w0.drew).heap.size=w0.heap.size from rfl]at I;rw[I];congr 2
   apply dY;simp) (by rw[q];simp) (by rw[ht,cC]) (by rw[q];exact Z) (by rw[aD,hz1,aD,aE,aE];omega)
  rw[q]at this;exact this
 rcases R.hs.own 0 _ hk0 with⟨hv,hn,_,_⟩|⟨b,c,fz,hv,b1,b2,b3,b4,b5⟩
 ·-- nothing is in it
  have hx:xs=[]:=aW hn;obtain⟨a,hu⟩:∃a,u = .slice a 0 0:=by
   rcases hsm with h|⟨_,_,_,a,h⟩
   ·exact⟨none,by rw[h,hv]⟩
   ·exact⟨a,h⟩
  exact E a 0 (by rw[hu,hn]) (by omega) (by omega) (by omega) (fun _=>hn) (fun a _ j y hj=>by rw[hx]at hj;simp at hj)
 ·have hu:u=sl b 0 xs.length c:=by
   rcases hsm with h|⟨h,_⟩
   ·rw[h,hv]
   ·rw[hv]at h;cases h
  have hbne:vb≠b:=fun e=>by have:=R.hs.inj 0 1 _ _ b hk0 hk1 (by rw[hv];rfl) (by rw[hz,e];rfl);omega
  have hcell:∀j y,(xs.map encStr)[j]? = some y->w0.cell? ⟨b,0+j,none⟩=some y:=fun j y hj=>by have hjl:=(aC.1 hj).1;rw[yk b4,aV,aF hjl];exact hj
  have hblen:(xs.map encStr++rs).length=xs.length+rs.length:=by rw[aD,aE]
  rw[dQ]at b3;have spare:∀j,j<c->(w0.cell? ⟨b,j,none⟩).isSome=true/\w0.frozen? ⟨b,j,none⟩=false:=fun j hj=>by refine⟨?_,wZ b4 b5 (by omega)⟩;rw[yk b4,aH (by omega)];rfl
  have inpl:∀{w':World},xs.length+vs.length<=c->w'.heap[b]? = some (.cells ((xs.map encStr).take k++vs.map encStr++(xs.map encStr).drop k++rs.drop vs.length).toArray (ρ.t 9) fz)->(∀i,i≠b->w'.heap[i]? = w0.heap[i]?)->w'.heap.size=w0.heap.size->w'.os=w0.os->w'.tape=w0.tape->w'.output=w0.output ->
    ∃v',Ending.returned (sl b 0 (xs.length+vs.length) c) = .returned v'/\∃N O L' g Q,(∀{γ:Type} (S:Ex->St->Option γ),out [] [(none,(⟨[(0,.own 2)],[.dead,.dead,.H' .s (ρ.t 9)]⟩:c7))] (xs.take k++vs++xs.drop k:kE) S=S .normal g)/\Mem.le S0 N/\l8 2 E0 O/\l3 ⟨S0,U5 L0,w0⟩ N O L' g Q w'/\Sa g.hp/\2<=g.hp.length/\v'=gh (sg Q 0 1):=fun {w'} hroom hnew hoth hsz hos htp hop=>by
   have hl2:((xs.map encStr).take k++vs.map encStr++(xs.map encStr).drop k++rs.drop vs.length).length=(xs.map encStr++rs).length:=by simp only[aD,bX,bL,aE];omega
   have H1:HS ⟨S0,U5 L0,w0⟩ S0 w0 [.H' (sl b 0 xs.length c) xs.length 1 (xs.map encStr) rs (ρ.t 9)]:=by have h2:=R.hs;rw[J,hq0,hv]at h2;have h3:=HS.rm h2 1;rw[J,hq0,hv];exact h3
   have H2:=HS.Gb H1 (k:=0) (w':=w') (r:=.H' (sl b 0 xs.length c) xs.length 1 (xs.map encStr) rs (ρ.t 9)) (r':=.H' (sl b 0 (xs.length+vs.length) c) (xs.length+vs.length) 1 ((xs.map encStr).take k++vs.map encStr++(xs.map encStr).drop k) (rs.drop vs.length) (ρ.t 9)) rfl (by omega) hos htp hop (fun i _ hne=>hoth i fun e=>hne (by rw[e];rfl)) (.inr ⟨b,c,fz,rfl,hroom,by simp only[aD,bX,bL,aE];omega,by rw[hl2,dQ];exact b3,hnew,by rw[hl2];exact b5⟩) fun b' hb'=>.inl hb';have H3:HS ⟨S0,U5 L0,w0⟩ S0 w' [.H' (sl b 0 (xs.length+vs.length) c) (xs.take k++vs++xs.drop k).length 1 ((xs.map encStr).take k++vs.map encStr++(xs.map encStr).drop k) (rs.drop vs.length) (ρ.t 9)]:=by rw[q];exact H2
   exact fin (HS.na (HS.na H3 0 0) 0 0) U.symm rfl
  by_cases hkn:k=xs.length
  ·by_cases hroom:xs.length+vs.length<=c
   ·have hk:=hkn;rw[hu,hz];subst hkn;refine(YtopanhneegpgcaaGreatDoor.KK L b 0 xs.length c vb 0 vs.length vc (vs.map encStr) w0 hm1 hroom hbig (by simp) (fun j hj=>by rw[aV];exact(spare _ (by omega)).1) (fun j hj=>by rw[aV];exact(spare _ (by omega)).2) hvs (FN vs)).mono ?_;rintro e w' ⟨rfl,rfl⟩;rw[aV];obtain⟨s1,s2,s3,s4,s5,s6⟩:=setCells_at (vs.map encStr) xs.length w0 _ b4 (by rw[aE];omega);refine inpl hroom ?_ s2 s3 s4 s5 s6;rw[s1];have I:=YD (cs:=xs.map encStr) (vs:=vs.map encStr) (rs:=rs) (by rw[aE];omega);rw[aE,aE]at I;have e1:(xs.map encStr).take xs.length=xs.map encStr:=List.take_of_length_le (by rw[aE];omega);have e2:(xs.map encStr).drop xs.length=[]:=List.drop_eq_nil_of_le (by rw[aE];omega);rw[I,e1,e2,bJ]
   ·exact E (some ⟨b,0,none⟩) c hu b1 (by omega) hkn (fun h=>by cases h) (fun a ha j y hj=>by cases ha;rw[yd];exact hcell j y hj)
  ·have hk:k<xs.length:=by omega
   rw[hu,hz];by_cases hroom:xs.length+vs.length<=c
   ·refine (YtopanhneegpgcaaGreatDoor.LK L b 0 xs.length c k vb 0 vs.length vc (xs.map encStr) (vs.map encStr) w0 hk hm1 hroom hbig hbne (by simp) (by simp) hcell (fun j hj => by rw [Nat.zero_add]; exact (spare _ (by omega)).1) (fun j hj => by rw [Nat.zero_add]; exact (spare _ (by omega)).2) hvs (FN xs) (FN vs) (ρ.t 9) (ρ.t 9) (vs.map encStr ++ qs).length (xs.map encStr ++ rs).length (by simp [World.shape?, a4]) (by simp [World.shape?, b4]) (by omega) (wZ a4 a5 (by rw [List.length_append, List.length_map]; omega)) (by
        unfold World.frozen?;simp only[a4];rcases a5 with h|⟨_,h⟩
        ·rw[h];simp
        ·exact absurd h hT)).mono ?_
    rintro e w' ⟨rfl,rfl⟩;rw[aV,aV];obtain⟨s1,s2,s3,s4,s5,s6⟩:=setCells_at ((xs.map encStr).drop k) (k+vs.length) w0.drew _ b4 (by rw[bL,aE];omega);obtain⟨t1,t2,t3,t4,t5,t6⟩:=setCells_at (vs.map encStr) k (w0.drew.setCells b (k+vs.length) ((xs.map encStr).drop k)) _ s1 (by rw[VM,aE];omega);refine inpl hroom ?_ (fun i hi=>(t2 i hi).trans (s2 i hi)) (t3.trans s3) (t4.trans s4) (t5.trans s5) (t6.trans s6);rw[t1];have I:=ZD (cs:=xs.map encStr) (vs:=vs.map encStr) (rs:=rs) (i:=k) (by rw[aE];omega) (by rw[aE];omega);rw[aE]at I;rw[I]
   ·refine(Any2.slices_Insert_string_grow L b 0 xs.length c k vb 0 vs.length vc (xs.map encStr) (vs.map encStr) w0 hk hm1 b1 (by omega) (by omega) (by simp) (by simp) hcell hvs (FN xs) (FN vs)).mono ?_;rintro e w' ⟨rfl,rfl⟩;have Z:=grownCap_ge w0 (xs.length+vs.length) c (ρ.t 9);generalize hG:grownCap w0 (xs.length+vs.length) c (ρ.t 9)=GC at Z;have hA0:=Od w0 (.cells (((xs.map encStr).take k).toArray++Wa (Value.string ⟨#[]⟩).cells (xs.length+vs.length-k)++Wa (Value.string ⟨#[]⟩).cells (GC-(xs.length+vs.length))) (ρ.t 9));have hA:(w0.alloc (.cells (((xs.map encStr).take k).toArray++Wa (Value.string ⟨#[]⟩).cells (xs.length+vs.length-k)++Wa (Value.string ⟨#[]⟩).cells (GC-(xs.length+vs.length))) (ρ.t 9))).drew.heap[w0.heap.size]? = some (.cells ((xs.map encStr).take k++(Wa (Value.string ⟨#[]⟩).cells (xs.length+vs.length-k)).toList++(Wa (Value.string ⟨#[]⟩).cells (GC-(xs.length+vs.length))).toList).toArray (ρ.t 9) (0,0)):=by refine Eq.trans hA0 ?_;congr 2;apply dY;simp
    have e1:=Ext.trans (Ext.alloc w0 (.cells (((xs.map encStr).take k).toArray++Wa (Value.string ⟨#[]⟩).cells (xs.length+vs.length-k)++Wa (Value.string ⟨#[]⟩).cells (GC-(xs.length+vs.length))) (ρ.t 9))) (Ext.drew _);generalize (w0.alloc (.cells (((xs.map encStr).take k).toArray++Wa (Value.string ⟨#[]⟩).cells (xs.length+vs.length-k)++Wa (Value.string ⟨#[]⟩).cells (GC-(xs.length+vs.length))) (ρ.t 9))).drew=W1 at hA e1 ⊢;have K:=hz1 (xs.length+vs.length-k);have W:=hz1 (GC-(xs.length+vs.length));generalize (Wa (Value.string ⟨#[]⟩).cells (xs.length+vs.length-k)).toList=Z1 at hA K;generalize (Wa (Value.string ⟨#[]⟩).cells (GC-(xs.length+vs.length))).toList=Z2 at hA W;have p:((xs.map encStr).take k).length=k:=by rw[bX,aE];omega
    obtain⟨s1,s2,s3,s4,s5,s6⟩:=setCells_at (vs.map encStr) k W1 _ hA (by simp only[aD,p,K,W,aE];omega);obtain⟨t1,t2,t3,t4,t5,t6⟩:=setCells_at ((xs.map encStr).drop k) (k+vs.length) (W1.setCells w0.heap.size k (vs.map encStr)).drew _ s1 (by rw[VM];simp only[aD,p,K,W,bL,aE];omega);have hx:Ext w0 ((W1.setCells w0.heap.size k (vs.map encStr)).drew.setCells w0.heap.size (k+vs.length) ((xs.map encStr).drop k)):=by
     refine⟨t4.trans (s4.trans e1.os),t5.trans (s5.trans e1.tape),t6.trans (s6.trans e1.output),?_,fun j hj=>?_⟩
     ·rw[t3];exact Nat.le_trans e1.size (Nat.le_of_eq s3.symm)
     ·rw[t2 j (by omega)];exact(s2 j (by omega)).trans (e1.block j hj)
    have:=fresh (cs':=(xs.map encStr).take k++vs.map encStr++(xs.map encStr).drop k) (rs':=Z2) (cap:=GC) hx (by
     rw[t1];congr 3;apply bN;intro j;rw[Df,Df,VM,aE];simp only[aD,p,K,W,bL,aE];by_cases I:j<k
     ·rw[zI (by omega),zI (by omega)];rw[aU,aU,aU,aF (by omega),aF (by omega)]
     ·by_cases h2:j<k+vs.length
      ·rw[zI (by omega),zJ ⟨by omega,h2,by omega⟩,aU,aU,aG (by omega),p,aF (by rw[aE];omega)]
      ·by_cases h3:j<xs.length+vs.length
       ·rw[zJ ⟨by omega,by omega,by omega⟩,aU,aU,aG (by omega),p,aG (by rw[aE];omega),aE,aF (by rw[bL,aE];omega)];congr 1;omega
       ·rw[zI (by omega),zI (by omega),aG (by rw[aD,p,K];omega),aD,p,K,aG (by simp only[aD,p,bL,aE];omega)];congr 1
        simp only[aD,p,bL,aE];omega) (by rw[<-U,aE]) U.symm (by rw[q];exact Z) (by simp only[aD,p,W,bL,aE];omega)
    rw[q]at this;exact this
end
end Go.Proofs.YtopanhneegpgcaaGreatDoor.Am
namespace Go.Proofs
open Go.Shelf
def Tryz.Tx:Go.Shelf.Ren:=⟨fun|22=>261|29=>302|30=>303|36=>329|17=>340|n=>n,fun|24=>22|9=>9|3=>3|4=>4|0=>0|n=>n,fun|n=>n⟩
theorem Tryz.insS:Go.Proofs.Lays2.n22 aA Tryz.Tx:={mixed:=by kernel_rfl,f17:=U0 func340,f22:=U0 func261,f29:=U0 func302,f30:=U0 func303,f36:=U0 func329,t0:=A9,a0:=B0,z0:=B1,v0:=B2,t3:=B3,a3:=B4,z3:=B5,v3:=B6,t4:=A0,a4:=A1,z4:=A3,v4:=A4,t9:=A8,a9:=A5,z9:=A6,v9:=A7,t24:=B7,a24:=B8,z24:=B9,v24:=C0,i9:=by kernel_rfl }
end Go.Proofs
namespace Go.Proofs.YtopanhneegpgcaaGreatDoor.Am
open Go Go.Proofs Go.RowKit Go.Sort
section
variable {G:List (Nat×Obj)}
def Ni(a b:Bs):Option Int:=some (Pb a b)
def yoT:PC:=⟨[.h .s,.h .s],[.i .i64],fun x=>Ni x.1 x.2,false⟩
theorem yoA:Z0 aA G 90 yoT:=pc2 (t1:=.s) (t2:=.s) (rts:=[.i .i64]) rfl rfl rfl (Y5 func90 (by kernel_rfl) (by kernel_rfl)) fun S w a b y _ _ h=>by cases h;refine(Tryz.strings_Compare ⟨a.toArray⟩ ⟨b.toArray⟩ w).mono ?_;rintro e w' ⟨rfl,rfl⟩;exact⟨rfl,Ext.refl _⟩
def VQ(xs:kE):Option kE:=bif decide (xs.length<1152921504606846976)then some (Mi xs)else none
def WQ(xs:kE):Option kE:=bif decide (xs.length<1152921504606846976)then some (Lib.compact xs)else none
def kq(x:Int×kE×kE):Option kE:=Sx x.2.1 x.1 x.2.2
theorem insK:P' aA G 261 ⟨⟨[(0,.own 0),(1,.h (.i .i64)),(2,.own 1)],[.H' .s 9,.H' .s 9]⟩,1,[(none,⟨[(0,.own 2)],[.dead,.dead,.H' .s 9]⟩)],kq⟩:=
 Ct Tryz.insS (by decide) (Y5 func261 (by kernel_rfl) (by kernel_rfl))
theorem XQ:P' aA G 102 ⟨⟨[(0,.own 0)],[.H' .s 9]⟩,0,[(none,⟨[],[.H' .s 9]⟩)],VQ⟩:=
 XD (Y5 F2 (by kernel_rfl) (by kernel_rfl)) (fun a c w=>Tryz.slices_Sort_string_none a c w) fun b c l w d f g=>Tryz.slices_Sort_string b 0 c l w d f g
theorem Ux:P' aA G 103 ⟨⟨[(0,.own 0)],[.H' .s 9]⟩,1,[(none,⟨[(0,.h (.sl .s))],[.dead]⟩)],WQ⟩:=
 jm (cp:=fun l=>@Lib.compact Bs _ _ l) (Y5 func103 (by kernel_rfl) (by kernel_rfl)) (fun l=>@Lib.compact_length_le Bs _ _ l) rfl (fun a c w=>Tryz.slices_Compact_string_empty a c w) fun b c l w d f g=>Tryz.slices_Compact_string b 0 c l w d f g
end
end Go.Proofs.YtopanhneegpgcaaGreatDoor.Am
namespace Go.Proofs.YtopanhneegpgcaaGreatDoor.Am
open Go Go.Proofs Go.RowKit Go.Sort Go.Shelf
def T5(x:Bs×Bs):LV:=[str x.1,str x.2]
theorem yyP(x:Bs×Bs):(T5 x).length=2:=rfl
theorem yzB(x:Bs×Bs):∀v∈T5 x,v.oneCell'=true:=fun v h=>by simp[T5]at h;rcases h with rfl|rfl<;>rfl
theorem lq:∀(ds:kD) (t:Nat),t<ds.length*2->(ds.flatMap T5)[t]? = some ((T5 ds[t/2]!)[t%2]!)
 |[],t,h=>by simp at h
 |x::ds,0,_=>rfl|x::ds,1,_=>rfl|x::ds,t+2,h=>by
  have a:t<ds.length*2:=by simp at h;omega
  have:=lq ds t a;rw[show(t+2)/2=t/2+1 by omega,show(t+2)%2=t%2 by omega];simpa[T5]using this
theorem Vx(ds:kD):(ds.flatMap T5).length=ds.length*2:=by
 induction ds with
 |nil=>rfl|cons x ds a=>simp only[List.flatMap_cons,aD,a,yyP,List.length_cons];omega
theorem BV(ds:kD):flatK T5 2 ds.toArray=(ds.flatMap T5).toArray:=by
 have a:(flatK T5 2 ds.toArray).size=ds.length*2:=by rw[size_flatK];simp
 refine Array.ext (by rw[a];simp only[eB,Vx]) fun t b g=>?_;have h:t<ds.length*2:=by rw[<-a];exact b
 have c:=get_flatK T5 2 ds.toArray t (by simpa using h);rw[getElem!_pos _ t b]at c;have d:=lq ds t h;rw[aH (by rw[Vx];exact h)]at d;rw[c,List.getElem_toArray,Option.some.inj d];have f:ds.toArray[t/2]! = ds[t/2]!:=by rw[getElem!_def,getElem!_def];simp
 rw[f]
abbrev T2:Ty:=.pr .s .s
theorem Wx{S0:Mem}:∀{l:kD} {cs:LV},@RL (den T2) (Q9 T2) S0 cs l->cs=l.flatMap T5
 |[],_,h=>h|x::l,_,h=>by obtain⟨c,d,f,g,i⟩:=h;obtain⟨j,k,m,a,b⟩:=g;have a:j=[str x.1]:=a;have b:k=[str x.2]:=b;rw[f,m,a,b,Wx i];rfl
theorem km{S0:Mem}:∀(l:kD),@RL (den T2) (Q9 T2) S0 (l.flatMap T5) l
 |[]=>rfl|x::l=>⟨T5 x,l.flatMap T5,rfl,⟨[str x.1],[str x.2],rfl,rfl,rfl⟩,km l⟩
def Cc:kE->Bool
 |[]=>true|x::l=>!(l.any fun y=>y==x)&&Cc l
theorem xdI:∀{l:kE},Cc l=true->l.Nodup
 |[],_=>.nil|x::l,h=>by unfold Cc at h;rw[aI,bM]at h;refine eL.2 ⟨fun a=>?_,xdI h.2⟩;have:=List.any_eq_false.1 h.1 x a;simp at this
def Su(xs:kD):kD:=bf (fun x y=>De x.1 y.1) xs
def ZG(xs:kD):Option kD:=bif Cc (xs.map (·.1))&&decide (xs.length<1152921504606846976)then some (Su xs)else none
section
variable {P:Program}{G:List (Nat×Obj)}{ρ:Ren}
theorem Oi{xs:kD}{d:Array (Bs×Bs)}{z:Bs×Bs->Bs×Bs->Int}(q:∀x y,ltOf z x y=j9 x.1 y.1)(f:(xs.map (·.1)).Nodup)(hp:PermIn 0 xs.toArray.size xs.toArray d)(F:SortedIn (ltOf z) 0 xs.toArray.size d):d.toList=Su xs:=by
 obtain⟨A,_,C⟩:=hp;have g:d.toList.Perm xs:=by
  have H:d.extract 0 xs.toArray.size=d:=by rw[<-A];simp
  have I:xs.toArray.extract 0 xs.toArray.size=xs.toArray:=by simp
  rw[H,I]at C;simpa using C
 refine JK (R:=fun x y=>De x.1 y.1=true) (fun a r b p h k=>?_) (g.trans (jh _ xs).symm) ?_ (WD (fun a b=>yV a.1 b.1) (fun a b c=>AV a.1 b.1 c.1) xs)
 ·have s:a.1=b.1:=fJ (YG.1 h) (YG.1 k);exact Dc f (g.mem_iff.1 r) (g.mem_iff.1 p) s
 ·rw[List.pairwise_iff_getElem];intro i j J K t;have u:i<d.size:=by simpa using J
  have m:j<d.size:=by simpa using K
  have E:=F i j (bG _) t (by rw[<-A];exact m);rw[q,getElem!_pos d j m,getElem!_pos d i u]at E;show De _ _=true;unfold De;simp only[Array.getElem_toList];rw[E];rfl
where Dc:∀{xs:kD},(xs.map (·.1)).Nodup->∀{a b:Bs×Bs},a∈xs->b∈xs->a.1=b.1->a=b
 |[],_,_,_,h,_,_=>by cases h
 |x::xs,f,a,b,r,p,v=>by
  have f:=eL.1 f;rcases aN.1 r with rfl|o
  ·rcases aN.1 p with rfl|l
   ·rfl
   ·exact(f.1 (aY.2 ⟨b,l,v.symm⟩)).elim
  ·rcases aN.1 p with rfl|l
   ·exact(f.1 (aY.2 ⟨a,o,v⟩)).elim
   ·exact Dc f.2 o l v
theorem Cg:∀(x y:Bs),decide (Pb x y<0)=decide (x<y)
 |[],[]=>by simp[Pb]
 |[],_::_=>by simp[Pb]
 |_::_,[]=>by simp[Pb]
 |a::x,b::y=>by
  refine decide_eq_decide.2 ?_;have g:=decide_eq_decide.1 (Cg x y);have i:Pb (a::x) (b::y)=if a<b then -1 else if b<a then 1 else Pb x y:=by rw[Pb]
  rw[List.cons_lt_cons_iff,<-g,i];by_cases c:a<b
  ·simp[c]
  ·by_cases d:b<a
   ·have f:¬a=b:=fun e=>by subst e;exact c d
    simp[c,d,f]
   ·have f:a=b:=UInt8.le_antisymm (UInt8.not_lt.1 d) (UInt8.not_lt.1 c);rw[zI c,zI d];exact⟨fun h=>.inr ⟨f,h⟩,fun h=>h.elim (fun h=>absurd h c) fun h=>h.2⟩
theorem Dg(x y:Bs×Bs):ltOf (fun x y:Bs×Bs=>Pb x.1 y.1) x y=j9 x.1 y.1:=by unfold ltOf;rw[bytesLess_eq];exact Cg x.1 y.1
theorem mE:SWO (ltOf fun x y:Bs×Bs=>Pb x.1 y.1) where
 irrefl x:=by rw[Dg,bytesLess_eq];simp[List.lt_irrefl]
 trans x y z h1 h2:=by rw[Dg,bytesLess_eq,zE]at *;exact List.lt_trans h1 h2
 ntrans x y z h1 h2:=by rw[Dg,bytesLess_eq,decide_eq_false_iff_not]at *;rw[fX]at *;exact iO h2 h1
theorem Xx{f g:FuncId}{T:TypeId}(A:s8 P f) (Y:∀(a:Option Addr) (c:Nat) (w:World),Calls P f #[.slice a 0 c,.func (.func g) #[] #[]] w fun x w'=>x = .returned (.tuple #[])/\w'=w) (Z:∀(b c:Nat) (d:Array (Bs×Bs)) (w:World),HoldsK T5 2 w b 0 d->b<w.heap.size->d.size<4611686018427387904->Calls P f #[.slice (some ⟨b,0,none⟩) d.size c,.func (.func g) #[] #[]] w fun x w'=>x = .returned (.tuple #[])/\∃o n os,PermIn 0 d.size d o/\SortedIn (ltOf fun x y:Bs×Bs=>Pb x.1 y.1) 0 d.size o/\w'=sortWorldK T5 2 w b 0 n o os):
  P' P G f ⟨⟨[(0,.own 0),(1,.fn g [] [])],[.H' T2 T]⟩,0,[(none,⟨[],[.H' T2 T]⟩)],fun(xs:kD)=>ZG xs⟩:=by
 refine⟨A,fun S0 w0 C E0 L0 (xs:kD) (d:kD) _ j R p=>?_⟩;have p:ZG xs=some d:=p;unfold ZG at p;obtain⟨s,p⟩:=r7 p;have E:=xdI (Z3 s);have hlt:=zD (Y4 s);have F:Su xs=d:=Option.some.inj p;subst F;have j:C.length=2:=j;obtain⟨u,k,rfl⟩:∃u k,C=[u,k]:=by
  match C,j with
  |[u,k],_=>exact⟨u,k,rfl⟩
 have Zb:(c7.put (⟨[(0,.own 0),(1,.fn g [] [])],[.H' T2 T]⟩:c7) xs)=⟨[(0,.own 0 0),(1,.fn g [] [])],[.H' 0 T2 T xs]⟩:=rfl;have R:l3 ⟨S0,U5 L0,w0⟩ S0 E0 L0 ⟨[(0,.own 0 0),(1,.fn g [] [])],[.H' 0 T2 T xs]⟩ (fun t=>[u,k].getD t undef) w0:=by rw[<-Zb];exact R
 obtain⟨x1,y1,l,q1,q2⟩:=(show VC S0 E0 (.fn g [] []) k from R.sl 1);cases q1;cases q2;have l:k = .func (.func g) #[] #[]:=l;subst l;obtain⟨v,cs,I,J,O,m,r,ho,hc⟩:=yyA R;have h:(Su xs).length=xs.length:=(jh _ xs).length_eq;have K:=Wx m;have H:=R.hs;rcases hc with⟨Q,a,c,i⟩|⟨b,c,fz,i,hv,k1,k2,k3,z,S⟩
 ·have i:u = .slice a 0 c:=i;have L:Su xs=[]:=by rw[Q];rfl
  rw[i];refine(Y a c w0).mono ?_;rintro x w' ⟨rfl,rfl⟩;refine⟨_,rfl,?_⟩;rw[L];rw[Q]at m r J;exact wV (e:=T2) (ys:=[]) (by rw[J]at H ⊢;exact H) O m r
 ·have i:u=sl b 0 xs.length c:=i;subst K;have s:b<w0.heap.size:=(aT.1 z).1;rw[i];have hh:HoldsK T5 2 w0 b 0 xs.toArray:=by
   unfold HoldsK;rw[BV];have M:w0.heap[b]? = some (.cells ((xs.flatMap T5).map id++I).toArray T fz):=by rw[fI];exact z
   exact holds_of M (by rw[fI];exact S)
  have U:=Z b c xs.toArray w0 hh s (by simp;omega);simp only[eB]at U;refine U.mono ?_;rintro x w' ⟨rfl,o,q,os,hp,hs,rfl⟩;refine⟨_,rfl,?_⟩;have F:o.toList=Su xs:=Oi Dg E (by simpa using hp) (by simpa using hs);have N:o=(Su xs).toArray:=by rw[<-F]
  subst N;unfold sortWorldK putRowK;rw[BV];obtain⟨W,g2,g3⟩:=UQ (enc:=id) (ds:=(Su xs).flatMap T5) (q:=q) (os:=os) z (by rw[Vx,Vx,h]);rw[fI]at W;have H1:HS ⟨S0,U5 L0,w0⟩ S0 w0 [.H' (sl b 0 xs.length c) xs.length 2 (xs.flatMap T5) I T]:=by rw[J,hv]at H ⊢;exact H
  have X:=HS.Bg (w':=grow (putRow id (Go.Sort.ahead w0 q) b 0 ((Su xs).flatMap T5).toArray) os) H1 z S k3 k1 (aL _) (cs':=(Su xs).flatMap T5) (rs':=I) (by rw[Vx,h]) (by rw[aD,aD,Vx,Vx,h]) rfl rfl rfl g3 g2 W;rw[<-h]at X;refine wV (e:=T2) (ys:=Su xs) X O (km _) ?_;rw[h];exact .inl i
end
end Go.Proofs.YtopanhneegpgcaaGreatDoor.Am
namespace Go.Proofs
open Go.Shelf
def Tryz.Dt:Go.Shelf.Ren:=⟨fun|6=>88|15=>189|14=>188|28=>257|29=>258|20=>249|21=>250|22=>251|23=>252|24=>253|25=>254|26=>255|27=>256|46=>297|47=>298|48=>299|49=>300|50=>301|57=>328|n=>n,fun|22=>31|24=>33|25=>120|3=>3|39=>201|0=>0|53=>247|55=>249|4=>4|46=>241|45=>240|50=>94|5=>5|9=>9|66=>274|70=>278|76=>301|77=>302|n=>n,fun|n=>n⟩
theorem Tryz.lH:Go.Proofs.SlLaysF0.n6 aA Tryz.Dt:={mixed:=by kernel_rfl,f6:=⟨Tryz.f88.name,by decide,U0 func88⟩,f14:=⟨Tryz.f188.name,by decide,U0 func188⟩,f15:=U0 H8,f20:=⟨Tryz.f249.name,by decide,U0 func249⟩,f21:=⟨Tryz.f250.name,by decide,U0 func250⟩,f22:=⟨Tryz.f251.name,by decide,U0 func251⟩,f23:=⟨Tryz.f252.name,by decide,U0 func252⟩,f24:=⟨Tryz.f253.name,by decide,U0 func253⟩,f25:=⟨Tryz.f254.name,by decide,U0 func254⟩,f26:=⟨Tryz.f255.name,by decide,U0 func255⟩,f27:=⟨Tryz.f256.name,by decide,U0 func256⟩,f28:=U0 H9,f29:=U0 F3,f46:=⟨Tryz.f297.name,by decide,U0 func297⟩,f47:=U0 I0,f48:=U0 I1,f49:=⟨Tryz.f300.name,by decide,U0 func300⟩,f50:=⟨Tryz.f301.name,by decide,U0 func301⟩,f57:=⟨Tryz.f328.name,by decide,U0 func328⟩,t0:=A9,a0:=B0,z0:=B1,v0:=B2,t3:=B3,a3:=B4,z3:=B5,v3:=B6,t4:=A0,a4:=A1,z4:=A3,v4:=A4,t5:=C1,a5:=C2,z5:=C3,v5:=C4,t9:=A8,a9:=A5,z9:=A6,v9:=A7,t22:=underlying31,a22:=isAgg31,z22:=sizeOf31,v22:=zeroValue31,t25:=underlying120,a25:=isAgg120,z25:=sizeOf120,v25:=zeroValue120,t39:=C5,a39:=C6,z39:=C7,v39:=C8,t45:=I2,a45:=I3,z45:=I4,v45:=I5,t46:=I6,a46:=I7,z46:=I8,v46:=I9,t50:=J0,a50:=J2,z50:=J3,v50:=J4,t53:=D9,a53:=E9,z53:=F0,v53:=F1,t55:=F4,a55:=F5,z55:=F6,v55:=F7,t66:=J5,a66:=J6,z66:=J7,v66:=J8,t70:=J9,a70:=L9,z70:=M1,v70:=M2,t76:=M3,a76:=M4,z76:=M5,v76:=M6,t77:=M7,a77:=M8,z77:=M9,v77:=N2 }
def Tryz.Et:Go.Shelf.Ren:=⟨fun|6=>210|15=>189|14=>277|28=>257|29=>258|20=>308|21=>309|22=>310|23=>311|24=>312|25=>313|26=>314|27=>315|46=>331|47=>298|48=>299|49=>332|50=>333|57=>341|n=>n,fun|22=>72|24=>75|25=>158|3=>3|39=>201|0=>0|53=>247|55=>249|4=>4|46=>241|45=>240|50=>94|5=>5|9=>9|66=>274|70=>278|76=>301|77=>302|n=>n,fun|n=>n⟩
theorem Tryz.mH:Go.Proofs.SlLaysF0.n6 aA Tryz.Et:={mixed:=by kernel_rfl,f6:=⟨Tryz.f210.name,by decide,U0 func210⟩,f14:=⟨Tryz.f277.name,by decide,U0 func277⟩,f15:=U0 H8,f20:=⟨Tryz.f308.name,by decide,U0 func308⟩,f21:=⟨Tryz.f309.name,by decide,U0 func309⟩,f22:=⟨Tryz.f310.name,by decide,U0 func310⟩,f23:=⟨Tryz.f311.name,by decide,U0 func311⟩,f24:=⟨Tryz.f312.name,by decide,U0 func312⟩,f25:=⟨Tryz.f313.name,by decide,U0 func313⟩,f26:=⟨Tryz.f314.name,by decide,U0 func314⟩,f27:=⟨Tryz.f315.name,by decide,U0 func315⟩,f28:=U0 H9,f29:=U0 F3,f46:=⟨Tryz.f331.name,by decide,U0 func331⟩,f47:=U0 I0,f48:=U0 I1,f49:=⟨Tryz.f332.name,by decide,U0 func332⟩,f50:=⟨Tryz.f333.name,by decide,U0 func333⟩,f57:=⟨Tryz.f341.name,by decide,U0 func341⟩,t0:=A9,a0:=B0,z0:=B1,v0:=B2,t3:=B3,a3:=B4,z3:=B5,v3:=B6,t4:=A0,a4:=A1,z4:=A3,v4:=A4,t5:=C1,a5:=C2,z5:=C3,v5:=C4,t9:=A8,a9:=A5,z9:=A6,v9:=A7,t22:=underlying72,a22:=isAgg72,z22:=sizeOf72,v22:=zeroValue72,t25:=underlying158,a25:=isAgg158,z25:=sizeOf158,v25:=zeroValue158,t39:=C5,a39:=C6,z39:=C7,v39:=C8,t45:=I2,a45:=I3,z45:=I4,v45:=I5,t46:=I6,a46:=I7,z46:=I8,v46:=I9,t50:=J0,a50:=J2,z50:=J3,v50:=J4,t53:=D9,a53:=E9,z53:=F0,v53:=F1,t55:=F4,a55:=F5,z55:=F6,v55:=F7,t66:=J5,a66:=J6,z66:=J7,v66:=J8,t70:=J9,a70:=L9,z70:=M1,v70:=M2,t76:=M3,a76:=M4,z76:=M5,v76:=M6,t77:=M7,a77:=M8,z77:=M9,v77:=N2 }
end Go.Proofs
namespace Go.Proofs
open Go.Shelf Go.RowKit Go.Lib Go.Sort
set_option maxHeartbeats 1000000 in
theorem YtopanhneegpgcaaGreatDoor.cmpP(x y:List UInt8×List UInt8)(W:World):Calls aA 89 #[.agg (YtopanhneegpgcaaGreatDoor.Am.T5 x).toArray,.agg (YtopanhneegpgcaaGreatDoor.Am.T5 y).toArray] W fun e w'=>e = .returned (.int .i64 (Pb x.1 y.1))/\∃q c,w'=grow (W.drewN q) c:=by
 have a:=fun b=>Tryz.strings_Compare ⟨x.1.toArray⟩ ⟨y.1.toArray⟩ b;change ∀b,Calls aA 90 _ _ _ at a;change ∀b,Calls _ _ _ _ fun e w'=>e = .returned (.int .i64 (Pb x.1 y.1))/\w'=b at a;show Calls _ _ #[.agg #[.string ⟨x.1.toArray⟩,.string ⟨x.2.toArray⟩],.agg #[.string ⟨y.1.toArray⟩,.string ⟨y.2.toArray⟩]] _ _;generalize Pb x.1 y.1=r at a ⊢
 go_enter func89,Tryz.ntmps89
 go_wp2_with (go_at_call 90;refine(a _).mono ?_;rintro e w' ⟨rfl,rfl⟩)
 go_ret
 exact⟨rfl,0,_,by rw[alloc_eq_grow,alloc_eq_grow,grow_grow];rfl⟩
end Go.Proofs
namespace Go.Proofs.YtopanhneegpgcaaGreatDoor.Am
open Go Go.Proofs Go.RowKit Go.Sort
section
variable {G:List (Nat×Obj)}
theorem Yx:P' aA G 88 ⟨⟨[(0,.own 0),(1,.fn 89 [] [])],[.H' T2 33]⟩,0,[(none,⟨[],[.H' T2 33]⟩)],fun(xs:List (List UInt8×List UInt8))=>ZG xs⟩:=
 Xx (Y5 func88 (by kernel_rfl) (by kernel_rfl)) (fun a c w=>AnyF.slices_SortFunc_none Tryz.lH a c _ w) fun b c d w f g h=>AnyQ.slices_SortFunc Tryz.lH 2 isAgg33 sizeOf33 T5 yyP yzB (fun x y:List UInt8×List UInt8=>Pb x.1 y.1) mE 89 #[] b 0 c d w (enters_of func89 (by kernel_rfl) rfl) (fun _ _ _ _ x y=>YtopanhneegpgcaaGreatDoor.cmpP x y _) f g h
end
end Go.Proofs.YtopanhneegpgcaaGreatDoor.Am
namespace Go.Proofs
open Go.Shelf
def Tryz.Pc:Go.Shelf.Ren:=⟨fun|7=>133|10=>215|n=>n,fun|23=>160|26=>9|3=>157|28=>165|0=>0|27=>164|33=>25|4=>4|n=>n,fun|n=>n⟩
theorem Tryz.nE:Go.Proofs.SlLaysZ.n7 aA Tryz.Pc:={mixed:=by kernel_rfl,f7:=⟨Tryz.f133.name,by decide,U0 func133⟩,f10:=⟨Tryz.f215.name,by decide,U0 func215⟩,t0:=A9,a0:=B0,z0:=B1,v0:=B2,t4:=A0,a4:=A1,z4:=A3,v4:=A4,t23:=underlying160,a23:=isAgg160,z23:=sizeOf160,v23:=zeroValue160,t26:=A8,a26:=A5,z26:=A6,v26:=A7,t27:=G5,a27:=G6,z27:=G7,v27:=G8,t28:=F9,a28:=G0,z28:=G1,v28:=G3,t33:=C9,a33:=D1,z33:=D2,v33:=D3 }
def Tryz.Qc:Go.Shelf.Ren:=⟨fun|7=>196|10=>260|n=>n,fun|23=>123|26=>9|3=>133|28=>165|0=>0|27=>164|33=>25|4=>4|n=>n,fun|n=>n⟩
theorem Tryz.oE:Go.Proofs.SlLaysZ.n7 aA Tryz.Qc:={mixed:=by kernel_rfl,f7:=⟨Tryz.f196.name,by decide,U0 func196⟩,f10:=⟨Tryz.f260.name,by decide,U0 func260⟩,t0:=A9,a0:=B0,z0:=B1,v0:=B2,t4:=A0,a4:=A1,z4:=A3,v4:=A4,t23:=underlying123,a23:=isAgg123,z23:=sizeOf123,v23:=zeroValue123,t26:=A8,a26:=A5,z26:=A6,v26:=A7,t27:=G5,a27:=G6,z27:=G7,v27:=G8,t28:=F9,a28:=G0,z28:=G1,v28:=G3,t33:=C9,a33:=D1,z33:=D2,v33:=D3 }
def Tryz.Rc:Go.Shelf.Ren:=⟨fun|7=>203|10=>271|n=>n,fun|23=>125|26=>9|3=>51|28=>165|0=>0|27=>164|33=>25|4=>4|n=>n,fun|n=>n⟩
theorem Tryz.pE:Go.Proofs.SlLaysZ.n7 aA Tryz.Rc:={mixed:=by kernel_rfl,f7:=⟨Tryz.f203.name,by decide,U0 func203⟩,f10:=⟨Tryz.f271.name,by decide,U0 func271⟩,t0:=A9,a0:=B0,z0:=B1,v0:=B2,t4:=A0,a4:=A1,z4:=A3,v4:=A4,t23:=underlying125,a23:=isAgg125,z23:=sizeOf125,v23:=zeroValue125,t26:=A8,a26:=A5,z26:=A6,v26:=A7,t27:=G5,a27:=G6,z27:=G7,v27:=G8,t28:=F9,a28:=G0,z28:=G1,v28:=G3,t33:=C9,a33:=D1,z33:=D2,v33:=D3 }
def Tryz.Sc:Go.Shelf.Ren:=⟨fun|7=>204|10=>272|n=>n,fun|23=>122|26=>9|3=>77|28=>165|0=>0|27=>164|33=>25|4=>4|n=>n,fun|n=>n⟩
theorem Tryz.qE:Go.Proofs.SlLaysZ.n7 aA Tryz.Sc:={mixed:=by kernel_rfl,f7:=⟨Tryz.f204.name,by decide,U0 func204⟩,f10:=⟨Tryz.f272.name,by decide,U0 func272⟩,t0:=A9,a0:=B0,z0:=B1,v0:=B2,t4:=A0,a4:=A1,z4:=A3,v4:=A4,t23:=underlying122,a23:=isAgg122,z23:=sizeOf122,v23:=zeroValue122,t26:=A8,a26:=A5,z26:=A6,v26:=A7,t27:=G5,a27:=G6,z27:=G7,v27:=G8,t28:=F9,a28:=G0,z28:=G1,v28:=G3,t33:=C9,a33:=D1,z33:=D2,v33:=D3 }
def Tryz.Tc:Go.Shelf.Ren:=⟨fun|7=>205|10=>273|n=>n,fun|23=>124|26=>9|3=>49|28=>165|0=>0|27=>164|33=>25|4=>4|n=>n,fun|n=>n⟩
theorem Tryz.rE:Go.Proofs.SlLaysZ.n7 aA Tryz.Tc:={mixed:=by kernel_rfl,f7:=⟨Tryz.f205.name,by decide,U0 func205⟩,f10:=⟨Tryz.f273.name,by decide,U0 func273⟩,t0:=A9,a0:=B0,z0:=B1,v0:=B2,t4:=A0,a4:=A1,z4:=A3,v4:=A4,t23:=underlying124,a23:=isAgg124,z23:=sizeOf124,v23:=zeroValue124,t26:=A8,a26:=A5,z26:=A6,v26:=A7,t27:=G5,a27:=G6,z27:=G7,v27:=G8,t28:=F9,a28:=G0,z28:=G1,v28:=G3,t33:=C9,a33:=D1,z33:=D2,v33:=D3 }
def Tryz.Uc:Go.Shelf.Ren:=⟨fun|6=>132|8=>214|9=>102|11=>279|13=>189|12=>202|23=>257|24=>258|14=>262|15=>263|16=>264|17=>265|18=>266|19=>267|20=>268|21=>269|22=>270|25=>304|26=>298|27=>299|28=>305|29=>306|30=>307|31=>330|n=>n,fun|26=>9|28=>165|24=>22|0=>0|3=>3|37=>201|48=>247|50=>249|4=>4|40=>241|39=>240|45=>94|5=>5|9=>9|51=>274|55=>278|57=>301|58=>302|33=>25|n=>n,fun|n=>n⟩
theorem Tryz.ic:Go.Proofs.SlLaysZ.n6 aA Tryz.Uc:={mixed:=by kernel_rfl,f6:=⟨Tryz.f132.name,by decide,U0 func132⟩,f8:=⟨Tryz.f214.name,by decide,U0 func214⟩,f11:=⟨Tryz.f279.name,by decide,U0 func279⟩,t0:=A9,a0:=B0,z0:=B1,v0:=B2,t24:=B7,a24:=B8,z24:=B9,v24:=C0,t26:=A8,a26:=A5,z26:=A6,v26:=A7,t28:=F9,a28:=G0,z28:=G1,v28:=G3,i26:=by kernel_rfl }
def Tryz.Ft:Go.Shelf.Ren:=⟨fun|6=>102|8=>189|9=>202|19=>257|20=>258|21=>262|22=>263|23=>264|24=>265|25=>266|26=>267|27=>268|28=>269|29=>270|36=>304|31=>298|32=>299|37=>305|38=>306|39=>307|41=>330|n=>n,fun|27=>22|29=>9|3=>3|32=>201|26=>22|0=>0|44=>247|46=>249|4=>4|36=>241|35=>240|41=>94|5=>5|9=>9|53=>274|57=>278|63=>301|64=>302|n=>n,fun|n=>n⟩
theorem Tryz.nH:Go.Proofs.SlLaysM.n6 aA Tryz.Ft:={mixed:=by kernel_rfl,f6:=⟨Tryz.f102.name,by decide,U0 F2⟩,f8:=U0 H8,f9:=⟨Tryz.f202.name,by decide,U0 func202⟩,f19:=U0 H9,f20:=U0 F3,f21:=⟨Tryz.f262.name,by decide,U0 func262⟩,f22:=⟨Tryz.f263.name,by decide,U0 func263⟩,f23:=⟨Tryz.f264.name,by decide,U0 func264⟩,f24:=⟨Tryz.f265.name,by decide,U0 func265⟩,f25:=⟨Tryz.f266.name,by decide,U0 func266⟩,f26:=⟨Tryz.f267.name,by decide,U0 func267⟩,f27:=⟨Tryz.f268.name,by decide,U0 func268⟩,f28:=⟨Tryz.f269.name,by decide,U0 func269⟩,f29:=⟨Tryz.f270.name,by decide,U0 func270⟩,f31:=U0 I0,f32:=U0 I1,f36:=⟨Tryz.f304.name,by decide,U0 func304⟩,f37:=⟨Tryz.f305.name,by decide,U0 func305⟩,f38:=⟨Tryz.f306.name,by decide,U0 func306⟩,f39:=⟨Tryz.f307.name,by decide,U0 func307⟩,f41:=⟨Tryz.f330.name,by decide,U0 func330⟩,t0:=A9,a0:=B0,z0:=B1,v0:=B2,t3:=B3,a3:=B4,z3:=B5,v3:=B6,t4:=A0,a4:=A1,z4:=A3,v4:=A4,t5:=C1,a5:=C2,z5:=C3,v5:=C4,t9:=A8,a9:=A5,z9:=A6,v9:=A7,t26:=B7,a26:=B8,z26:=B9,v26:=C0,t27:=B7,a27:=B8,z27:=B9,v27:=C0,t29:=A8,a29:=A5,z29:=A6,v29:=A7,t32:=C5,a32:=C6,z32:=C7,v32:=C8,t35:=I2,a35:=I3,z35:=I4,v35:=I5,t36:=I6,a36:=I7,z36:=I8,v36:=I9,t41:=J0,a41:=J2,z41:=J3,v41:=J4,t44:=D9,a44:=E9,z44:=F0,v44:=F1,t46:=F4,a46:=F5,z46:=F6,v46:=F7,t53:=J5,a53:=J6,z53:=J7,v53:=J8,t57:=J9,a57:=L9,z57:=M1,v57:=M2,t63:=M3,a63:=M4,z63:=M5,v63:=M6,t64:=M7,a64:=M8,z64:=M9,v64:=N2 }
end Go.Proofs
namespace Go.Proofs
open Go.RowKit Go.Maps Go.Sort Go.Shelf
theorem YtopanhneegpgcaaGreatDoor.Yd(m:Nat):AnyZ.SortsIn aA Tryz.Uc Fence.wide m:=
 ⟨fun N' c a ss W f b d=>callsIn_wide.2 (AnyM.slices_Sort_string Tryz.nH N' c a ss W f b d),
  fun p a W=>callsIn_wide.2 (AnyM.slices_Sort_string_none Tryz.nH p a W)⟩
theorem YtopanhneegpgcaaGreatDoor.lm(c b nn:Nat)(a:DataW Unit)(w:World)(hB:c<w.heap.size)(g:w.cell? ⟨c,0,none⟩=some (.map (some b)))(h:w.ownsMap aA 9 YtopanhneegpgcaaGreatDoor.Am.jd b nn a)(d:Maps.size a<=maxLen)(i:Maps.size a*16<=140737488355328):Calls aA 132 #[.func (.func 215) #[] #[.pointer (some ⟨c,0,none⟩)]] w fun e w'=>∃(v:Value) (ss:List (List UInt8)),e = .returned v/\ss.Perm (strKeys a)/\w'.ownsRow w.heap.size 9 1 v ss.length ((ss.mergeSort (fun x y=>decide (x<=y))).map encStr)/\(v = .slice none 0 0↔ss=[])/\Below w.heap.size w w':=by
 have f:SeqGives Fence.wide 2 aA 215 #[.pointer (some ⟨c,0,none⟩)] encStr (fun ss=>ss.Perm (strKeys a)) (Maps.size a) w:=
  AnyZ.keys_gives (ρ:=Tryz.Pc) { Tryz.nE with } Fence.wide _ trivial rfl (by omega) c b nn a _ hB g h
 have cS:=AnyZ.sorted_in Tryz.ic Fence.wide 5 trivial trivial trivial trivial rfl (by omega) (YtopanhneegpgcaaGreatDoor.Yd _) (enters_of F2 (by kernel_rfl) rfl) 215 #[.pointer (some ⟨c,0,none⟩)] trivial (enters_of func215 (by kernel_rfl) rfl) _ _ d i _ f;exact(callsIn_wide (n:=5)).1 cS
theorem YtopanhneegpgcaaGreatDoor.nm(c b nn:Nat)(a:DataW Unit)(w:World)(hB:c<w.heap.size)(g:w.cell? ⟨c,0,none⟩=some (.map (some b)))(h:w.ownsMap aA 9 YtopanhneegpgcaaGreatDoor.Am.jd b nn a)(d:Maps.size a<=maxLen)(i:Maps.size a*16<=140737488355328):Calls aA 132 #[.func (.func 260) #[] #[.pointer (some ⟨c,0,none⟩)]] w fun e w'=>∃(v:Value) (ss:List (List UInt8)),e = .returned v/\ss.Perm (strKeys a)/\w'.ownsRow w.heap.size 9 1 v ss.length ((ss.mergeSort (fun x y=>decide (x<=y))).map encStr)/\(v = .slice none 0 0↔ss=[])/\Below w.heap.size w w':=by
 have f:SeqGives Fence.wide 2 aA 260 #[.pointer (some ⟨c,0,none⟩)] encStr (fun ss=>ss.Perm (strKeys a)) (Maps.size a) w:=
  AnyZ.keys_gives (ρ:=Tryz.Qc) { Tryz.oE with } Fence.wide _ trivial rfl (by omega) c b nn a _ hB g h
 have cS:=AnyZ.sorted_in Tryz.ic Fence.wide 5 trivial trivial trivial trivial rfl (by omega) (YtopanhneegpgcaaGreatDoor.Yd _) (enters_of F2 (by kernel_rfl) rfl) 260 #[.pointer (some ⟨c,0,none⟩)] trivial (enters_of func260 (by kernel_rfl) rfl) _ _ d i _ f;exact(callsIn_wide (n:=5)).1 cS
theorem YtopanhneegpgcaaGreatDoor.om(c b nn:Nat)(a:DataW Unit)(w:World)(hB:c<w.heap.size)(g:w.cell? ⟨c,0,none⟩=some (.map (some b)))(h:w.ownsMap aA 9 YtopanhneegpgcaaGreatDoor.Am.jd b nn a)(d:Maps.size a<=maxLen)(i:Maps.size a*16<=140737488355328):Calls aA 132 #[.func (.func 271) #[] #[.pointer (some ⟨c,0,none⟩)]] w fun e w'=>∃(v:Value) (ss:List (List UInt8)),e = .returned v/\ss.Perm (strKeys a)/\w'.ownsRow w.heap.size 9 1 v ss.length ((ss.mergeSort (fun x y=>decide (x<=y))).map encStr)/\(v = .slice none 0 0↔ss=[])/\Below w.heap.size w w':=by
 have f:SeqGives Fence.wide 2 aA 271 #[.pointer (some ⟨c,0,none⟩)] encStr (fun ss=>ss.Perm (strKeys a)) (Maps.size a) w:=
  AnyZ.keys_gives (ρ:=Tryz.Rc) { Tryz.pE with } Fence.wide _ trivial rfl (by omega) c b nn a _ hB g h
 have cS:=AnyZ.sorted_in Tryz.ic Fence.wide 5 trivial trivial trivial trivial rfl (by omega) (YtopanhneegpgcaaGreatDoor.Yd _) (enters_of F2 (by kernel_rfl) rfl) 271 #[.pointer (some ⟨c,0,none⟩)] trivial (enters_of func271 (by kernel_rfl) rfl) _ _ d i _ f;exact(callsIn_wide (n:=5)).1 cS
theorem YtopanhneegpgcaaGreatDoor.qm(c b nn:Nat)(a:DataW Unit)(w:World)(hB:c<w.heap.size)(g:w.cell? ⟨c,0,none⟩=some (.map (some b)))(h:w.ownsMap aA 9 YtopanhneegpgcaaGreatDoor.Am.jd b nn a)(d:Maps.size a<=maxLen)(i:Maps.size a*16<=140737488355328):Calls aA 132 #[.func (.func 272) #[] #[.pointer (some ⟨c,0,none⟩)]] w fun e w'=>∃(v:Value) (ss:List (List UInt8)),e = .returned v/\ss.Perm (strKeys a)/\w'.ownsRow w.heap.size 9 1 v ss.length ((ss.mergeSort (fun x y=>decide (x<=y))).map encStr)/\(v = .slice none 0 0↔ss=[])/\Below w.heap.size w w':=by
 have f:SeqGives Fence.wide 2 aA 272 #[.pointer (some ⟨c,0,none⟩)] encStr (fun ss=>ss.Perm (strKeys a)) (Maps.size a) w:=
  AnyZ.keys_gives (ρ:=Tryz.Sc) { Tryz.qE with } Fence.wide _ trivial rfl (by omega) c b nn a _ hB g h
 have cS:=AnyZ.sorted_in Tryz.ic Fence.wide 5 trivial trivial trivial trivial rfl (by omega) (YtopanhneegpgcaaGreatDoor.Yd _) (enters_of F2 (by kernel_rfl) rfl) 272 #[.pointer (some ⟨c,0,none⟩)] trivial (enters_of func272 (by kernel_rfl) rfl) _ _ d i _ f;exact(callsIn_wide (n:=5)).1 cS
theorem YtopanhneegpgcaaGreatDoor.tm(c b nn:Nat)(a:DataW Unit)(w:World)(hB:c<w.heap.size)(g:w.cell? ⟨c,0,none⟩=some (.map (some b)))(h:w.ownsMap aA 9 YtopanhneegpgcaaGreatDoor.Am.jd b nn a)(d:Maps.size a<=maxLen)(i:Maps.size a*16<=140737488355328):Calls aA 132 #[.func (.func 273) #[] #[.pointer (some ⟨c,0,none⟩)]] w fun e w'=>∃(v:Value) (ss:List (List UInt8)),e = .returned v/\ss.Perm (strKeys a)/\w'.ownsRow w.heap.size 9 1 v ss.length ((ss.mergeSort (fun x y=>decide (x<=y))).map encStr)/\(v = .slice none 0 0↔ss=[])/\Below w.heap.size w w':=by
 have f:SeqGives Fence.wide 2 aA 273 #[.pointer (some ⟨c,0,none⟩)] encStr (fun ss=>ss.Perm (strKeys a)) (Maps.size a) w:=
  AnyZ.keys_gives (ρ:=Tryz.Tc) { Tryz.rE with } Fence.wide _ trivial rfl (by omega) c b nn a _ hB g h
 have cS:=AnyZ.sorted_in Tryz.ic Fence.wide 5 trivial trivial trivial trivial rfl (by omega) (YtopanhneegpgcaaGreatDoor.Yd _) (enters_of F2 (by kernel_rfl) rfl) 273 #[.pointer (some ⟨c,0,none⟩)] trivial (enters_of func273 (by kernel_rfl) rfl) _ _ d i _ f;exact(callsIn_wide (n:=5)).1 cS
end Go.Proofs
namespace Go.Proofs.YtopanhneegpgcaaGreatDoor.Am
open Go Go.RowKit
def qa:Code->List Bool->Code
 |.seq a b,q::p=>bif q then qa a p else qa b p
 |.cond _ a b,q::p=>bif q then qa a p else qa b p
 |.block _ b,p=>qa b p|.loop b,[]=>b|_,_=>.skip
noncomputable def za{β:Type}(N0 n:Nat)(τ:TE)(Γ:CT)(η:HT):Code->List Bool->(Ex->St->Option β)->Ex->St->Option β
 |.seq a b,q::p,k=>bif q then za N0 n τ Γ η a p (nx k fun c=>run N0 n τ Γ η b c k)else za N0 n τ Γ η b p k
 |.cond _ a b,q::p,k=>bif q then za N0 n τ Γ η a p k else za N0 n τ Γ η b p k
 |.block id b,p,k=>za N0 n τ Γ η b p (N' id k)|_,_,k=>k
noncomputable def Dd{β:Type}(N0 n:Nat)(τ:TE)(Γ:CT)(η:HT):Code->List Bool->St->(St->Option β)->(Ex->St->Option β)->Option β
 |.seq a b,q::p,d,h,k=>bif q then Dd N0 n τ Γ η a p d h (nx k fun d=>run N0 n τ Γ η b d k)else run N0 n τ Γ η a d (nx k fun d=>Dd N0 n τ Γ η b p d h k)
 |.cond c a b,q::p,d,h,k=>match ev d c with
  |some (.v .b t)=>bif t then(bif q then Dd N0 n τ Γ η a p d h k else run N0 n τ Γ η a d k)else(bif q then run N0 n τ Γ η b d k else Dd N0 n τ Γ η b p d h k)|_=>none
 |.block id b,p,d,h,k=>Dd N0 n τ Γ η b p d h (N' id k)|.loop _,[],d,h,_=>h d|_,_,_,_,_=>none
noncomputable def inK{β:Type}(N0 n:Nat)(τ:TE)(Γ:CT)(η:HT)(b:Code)(a:St)(ag:St->Option β)(k:Ex->St->Option β):List (Option β):=match b with
 |.seq (.region _ f false) c=>match f.toList with
  |⟨some d,.next (.tmp t) false,_,_,_,none⟩::l=>Wh n a d t fun a=>steps n τ Γ f.toList l a fun a=>run N0 n τ Γ η c a (nx k ag)
  |_=>[none]
 |_=>[none]
structure NH where
 p0:List Bool
 mm:List Mk
 s:c7
 kp:List Nat
 outs:List (Option Nat×c7)
 p:List Bool
 si:c7
 kpi:List Nat
noncomputable def sE(N0 n:Nat)(τ:TE)(_Γ:CT)(η:HT)(H:NH)(_b:Code)(_a:St):Ex->St->Option ((b8 H.s.o8⊕b8 H.si.o8)⊕DS H.outs):=nx (fun e a=>ya Sum.inr (inj N0 H.outs e a)) fun a=>ya (fun y=>Sum.inl (Sum.inl y)) (H.s.get N0 a)
noncomputable def MK(N0:Nat)(H:NH)(a:St):Option ((b8 H.s.o8⊕b8 H.si.o8)⊕DS H.outs):=ya (fun y=>Sum.inl (Sum.inr y)) (H.si.get N0 a)
noncomputable def Gt(N0 n:Nat)(τ:TE)(Γ:CT)(η:HT)(H:NH)(b:Code)(a:St):b8 H.s.o8⊕b8 H.si.o8->List (Option ((b8 H.s.o8⊕b8 H.si.o8)⊕DS H.outs))
 |.inl x=>[Dd N0 n τ Γ η b H.p ((H.s.put x).X0 (Ae (z8 b) a H.kp)) (MK N0 H) (sE N0 n τ Γ η H b a)]|.inr y=>inK N0 n τ Γ η (qa b H.p) ((H.si.put y).X0 (Ae (z8 b) a H.kpi)) (MK N0 H) (za N0 n τ Γ η b H.p (sE N0 n τ Γ η H b a))
noncomputable def CV{β:Type}(N0 n:Nat)(τ:TE)(Γ:CT)(η:HT)(H:NH)(b:Code)(a:St)(k:Ex->St->Option β):Option β:=match H.s.get N0 (Xe a H.mm) with
 |some s0=>Option.bind (U8 (Gt N0 n τ Γ η H b (Xe a H.mm)) (Sum.inl s0)) fun d=>out (Ae (z8 b) (Xe a H.mm) H.kp) H.outs d k
 |none=>none
noncomputable def DV(τ:TE)(Γ:CT)(η:HT)(H:NH)(f:Func)(I:c7)(outs:List (Option Nat×c7))(a:b8 I.o8):Option (DS outs):=match f.body with
 |none=>none|some c=>Dd I.hp.length f.ntmps τ Γ η c H.p0 (I.put a) (fun b=>CV I.hp.length f.ntmps τ Γ η H (qa c H.p0) b (za I.hp.length f.ntmps τ Γ η c H.p0 (Xh τ f I.hp.length outs))) (Xh τ f I.hp.length outs)
def Ga(P:Program):Code->List Bool->(Exit->Act->World->Prop)->Exit->Act->World->Prop
 |.seq a b,q::p,Q=>bif q then Ga P a p (Exit.then (b.wp P Q) Q)else Ga P b p Q
 |.cond _ a b,q::p,Q=>bif q then Ga P a p Q else Ga P b p Q
 |.block id b,p,Q=>Ga P b p (Exit.inBlock id Q)|_,_,Q=>Q
section
variable {β:Type}{τ:TE}{Γ:CT}{η:HT}{N0 n:Nat}{P:Program}{B:r9}{S0:Mem}{E0:List EI}{m0:FM}{D:List Nat}
def Qi(N0 n:Nat)(B:r9)(S0:Mem)(E0:List EI)(m0:FM)(D:List Nat){β:Type}(k:Ex->St->Option β)(r:β)(Q:Exit->Act->World->Prop):Prop:=
 ∀e a S E L m w,k e a=some r->Mem.le S0 S->l8 N0 E0 E->p8 D m0 m->Rel n B S E L a m w->Q (MA e) (fr n m) w
theorem Qi.N'{k:Ex->St->Option β}{r:β}{Q:Exit->Act->World->Prop}{id:Nat}(h:Qi N0 n B S0 E0 m0 D k r Q):Qi N0 n B S0 E0 m0 D (N' id k) r (Exit.inBlock id Q):=fun e f S E L m w a hS b c R=>by
 cases e with
 |normal=>exact h .normal _ _ _ _ _ _ a hS b c R|ret=>exact h .ret _ _ _ _ _ _ a hS b c R|exit i=>
  simp only[Am.N']at a;cases d:aJ i id with
  |true=>rw[d]at a;have:=Nat.eq_of_beq_eq_true d;subst this;exact oo (h .normal _ _ _ _ _ _ a hS b c R)|false=>rw[d]at a;exact Nk d (h (.exit i) _ _ _ _ _ _ a hS b c R)
theorem Qi.nx{k:Ex->St->Option β}{r:β}{Q:Exit->Act->World->Prop}{g:St->Option β}{N:Act->World->Prop}(h:Qi N0 n B S0 E0 m0 D k r Q)(f:∀a S E L m w,g a=some r->Mem.le S0 S->l8 N0 E0 E->p8 D m0 m->Rel n B S E L a m w->N (fr n m) w):Qi N0 n B S0 E0 m0 D (nx k g) r (Exit.then N Q):=fun e a S E L m w b hS c d R=>by
 cases e with
 |normal=>exact f _ _ _ _ _ _ b hS c d R|ret=>exact h .ret _ _ _ _ _ _ b hS c d R|exit i=>exact h (.exit i) _ _ _ _ _ _ b hS c d R
theorem Qi.run(g:P.follows .mixedOrders=true)(a:P3 P τ)(b:X6 P Γ B){k:Ex->St->Option β}{r:β}{Q:Exit->Act->World->Prop}(h:Qi N0 n B S0 E0 m0 D k r Q){c:Code}(i:∀t,j0 (z8 c) t=true->j0 D t=true):∀d S E L m w,run N0 n τ Γ η c d k=some r->Mem.le S0 S->l8 N0 E0 E->p8 D m0 m->Rel n B S E L d m w->c.wp P Q (fr n m) w:=fun _d _S _E _L _m _w j hS l o R=>
 tt g a b c R k r Q j fun e f p q s u w' v x y z A=>h e f p q s u w' v (Mem.le_trans hS x) (l.trans y) (o.trans (z.mono i)) A
theorem cf{a b:List Nat}(h:∀t,j0 (a++b) t=true->j0 D t=true):∀t,j0 a t=true->j0 D t=true:=fun t c=>h t (by rw[ux,c];rfl)
theorem NK{a b:List Nat}(h:∀t,j0 (a++b) t=true->j0 D t=true):∀t,j0 b t=true->j0 D t=true:=fun t c=>h t (by rw[ux,c,iC])
theorem OK(i:P.follows .mixedOrders=true)(d:P3 P τ)(f:X6 P Γ B){r:β}:∀(c:Code) (p:List Bool) {k:Ex->St->Option β} {Q:Exit->Act->World->Prop},(∀t,j0 (z8 c) t=true->j0 D t=true)->Qi N0 n B S0 E0 m0 D k r Q->Qi N0 n B S0 E0 m0 D (za N0 n τ Γ η c p k) r (Ga P c p Q)
 |.seq a b,true::p,k,Q,g,h=>OK i d f a p (cf g) (h.nx (h.run i d f (NK g)))|.seq a b,false::p,k,Q,g,h=>OK i d f b p (NK g) h|.cond _ a b,true::p,k,Q,g,h=>OK i d f a p (cf g) h|.cond _ a b,false::p,k,Q,g,h=>OK i d f b p (NK g) h|.block id b,p,k,Q,g,h=>by unfold za Ga;exact OK i d f b p g h.N'
 |.seq _ _,[],_,_,_,h=>h|.cond _ _ _,[],_,_,_,h=>h|.loop _,_,_,_,_,h=>by unfold za Ga;exact h
 |.region _ _ _,_,_,_,_,h=>by unfold za Ga;exact h
 |.skip,_,_,_,_,h=>by unfold za Ga;exact h
 |.exit _,_,_,_,_,h=>by unfold za Ga;exact h
 |.ret,_,_,_,_,h=>by unfold za Ga;exact h
 |.rangeFunc _ _ _ _,_,_,_,_,h=>by unfold za Ga;exact h
 |.scope _,_,_,_,_,h=>by unfold za Ga;exact h
 |.label _,_,_,_,_,h=>by unfold za Ga;exact h
 |.goto _,_,_,_,_,h=>by unfold za Ga;exact h
 |.refuse _,_,_,_,_,h=>by unfold za Ga;exact h
theorem PK(v:P.follows .mixedOrders=true)(g:P3 P τ)(i:X6 P Γ B){r:β}{h:St->Option β}:∀(c:Code) (p:List Bool) {k:Ex->St->Option β} {Q:Exit->Act->World->Prop},(∀t,j0 (z8 c) t=true->j0 D t=true)->Qi N0 n B S0 E0 m0 D k r Q ->(∀f S E L m w,h f=some r->Mem.le S0 S->l8 N0 E0 E->p8 D m0 m->Rel n B S E L f m w->(Code.loop (qa c p)).wp P (Ga P c p Q) (fr n m) w) ->∀f S E L m w,Dd N0 n τ Γ η c p f h k=some r->Mem.le S0 S->l8 N0 E0 E->p8 D m0 m->Rel n B S E L f m w->c.wp P Q (fr n m) w
 |.seq a b,true::p,k,Q,j,l,u,f,S,E,L,m,w,d,hS,o,s,R=>wp_seq (PK v g i a p (cf j) (l.nx (l.run v g i (NK j))) u f S E L m w d hS o s R)|.seq a b,false::p,k,Q,j,l,u,f,S,E,L,m,w,d,hS,o,s,R=>
  wp_seq (Qi.run v g i (l.nx (PK v g i b p (NK j) l u)) (cf j) f S E L m w d hS o s R)
 |.cond c a b,q::p,k,Q,j,l,u,f,S,E,L,m,w,d,hS,o,s,R=>by
  simp only[Dd]at d;split at d
  ·rename_i t y;have z:o0 n m c = .bool t:=vB (p7 R y);refine Kf z (fun x=>?_) (fun x=>?_)
   ·subst x;cases q with
    |true=>exact PK v g i a p (cf j) l u f S E L m w d hS o s R|false=>exact l.run v g i (cf j) f S E L m w d hS o s R
   ·subst x;cases q with
    |true=>exact l.run v g i (NK j) f S E L m w d hS o s R|false=>exact PK v g i b p (NK j) l u f S E L m w d hS o s R
  ·cases d
 |.block id b,p,k,Q,j,l,u,f,S,E,L,m,w,d,hS,o,s,R=>by unfold Dd at d;refine wp_block (PK v g i b p j l.N' (fun f S E L m w A C F H I=>?_) f S E L m w d hS o s R);have:=u f S E L m w A C F H I;unfold qa Ga at this;exact this
 |.loop b,[],k,Q,j,l,u,f,S,E,L,m,w,d,hS,o,s,R=>u f S E L m w d hS o s R|.loop b,_::_,k,Q,j,l,u,f,S,E,L,m,w,d,hS,o,s,R=>by unfold Dd at d;cases d
 |.seq _ _,[],_,_,_,_,_,_,_,_,_,_,_,d,_,_,_,_=>by unfold Dd at d;cases d
 |.cond _ _ _,[],_,_,_,_,_,_,_,_,_,_,_,d,_,_,_,_=>by unfold Dd at d;cases d
 |.region _ _ _,_,_,_,_,_,_,_,_,_,_,_,_,d,_,_,_,_=>by unfold Dd at d;cases d
 |.skip,_,_,_,_,_,_,_,_,_,_,_,_,d,_,_,_,_=>by unfold Dd at d;cases d
 |.exit _,_,_,_,_,_,_,_,_,_,_,_,_,d,_,_,_,_=>by unfold Dd at d;cases d
 |.ret,_,_,_,_,_,_,_,_,_,_,_,_,d,_,_,_,_=>by unfold Dd at d;cases d
 |.rangeFunc _ _ _ _,_,_,_,_,_,_,_,_,_,_,_,_,d,_,_,_,_=>by unfold Dd at d;cases d
 |.scope _,_,_,_,_,_,_,_,_,_,_,_,_,d,_,_,_,_=>by unfold Dd at d;cases d
 |.label _,_,_,_,_,_,_,_,_,_,_,_,_,d,_,_,_,_=>by unfold Dd at d;cases d
 |.goto _,_,_,_,_,_,_,_,_,_,_,_,_,d,_,_,_,_=>by unfold Dd at d;cases d
 |.refuse _,_,_,_,_,_,_,_,_,_,_,_,_,d,_,_,_,_=>by unfold Dd at d;cases d
theorem QK:∀(c:Code) (p:List Bool) (t:Nat),j0 (z8 (qa c p)) t=true->j0 (z8 c) t=true
 |.seq a b,true::p,t,h=>by show j0 (z8 a++z8 b) t=true;rw[ux,QK a p t h];rfl
 |.seq a b,false::p,t,h=>by show j0 (z8 a++z8 b) t=true;rw[ux,QK b p t h,iC]
 |.cond _ a b,true::p,t,h=>by show j0 (z8 a++z8 b) t=true;rw[ux,QK a p t h];rfl
 |.cond _ a b,false::p,t,h=>by show j0 (z8 a++z8 b) t=true;rw[ux,QK b p t h,iC]
 |.block _ b,p,t,h=>QK b p t (by unfold qa at h;exact h)|.loop _,[],_,h=>h|.loop _,_::_,_,h=>by cases h
 |.seq _ _,[],_,h=>by cases h
 |.cond _ _ _,[],_,h=>by cases h
 |.region _ _ _,_,_,h=>by unfold qa at h;cases h
 |.skip,_,_,h=>by unfold qa at h;cases h
 |.exit _,_,_,h=>by unfold qa at h;cases h
 |.ret,_,_,h=>by unfold qa at h;cases h
 |.rangeFunc _ _ _ _,_,_,h=>by unfold qa at h;cases h
 |.scope _,_,_,h=>by unfold qa at h;cases h
 |.label _,_,_,h=>by unfold qa at h;cases h
 |.goto _,_,_,h=>by unfold qa at h;cases h
 |.refuse _,_,_,h=>by unfold qa at h;cases h
theorem TK(N:P.follows .mixedOrders=true)(q:P3 P τ)(r:X6 P Γ B){u:Code}{i:St}{S:Mem}{E:List EI}{L:List Q0}{m:FM}{w:World}{ag:St->Option β}{k:Ex->St->Option β}{Z:Option β->Prop}{Q:Exit->Act->World->Prop}{K:Act->World->Prop}(R:Rel n B S E L i m w)(hS:Mem.le S0 S)(O:l8 N0 E0 E)(U:p8 D m0 m)(M:∀t,j0 (z8 u) t=true->j0 D t=true)(h:¬Z none)(p:∀o∈inK N0 n τ Γ η u i ag k,Z o) (hk:∀y,Z (some y)->Qi N0 n B S0 E0 m0 D k y Q) (W:∀y,Z (some y)->∀i S E L m w,ag i=some y->Mem.le S0 S->l8 N0 E0 E->p8 D m0 m->Rel n B S E L i m w->K (fr n m) w):u.wp P (Exit.then K Q) (fr n m) w:=by
 unfold inK at p;split at p
 ·rename_i id f c;split at p
  ·rename_i d t ty pos x l a;have s:∀b,j0 (ke (⟨some d,.next (.tmp t) false,ty,pos,x,none⟩::l)) b=true->j0 D b=true:=fun b g=>M b (by show j0 (ke f.toList++z8 c) b=true;rw[ux,a,g];rfl);have z:∀b,j0 (z8 c) b=true->j0 D b=true:=fun b g=>M b (by show j0 (ke f.toList++z8 c) b=true;rw[ux,g,iC]);obtain⟨f⟩:=f;have a:f=_:=a;subst a;refine wp_seq (wp_region_lit (vx (GQ rfl) (dq R h p) ?_));rintro v w' ⟨A,L3,j,X⟩;generalize C:(steps n τ Γ _ l A fun i=>run N0 n τ Γ η c i (nx k ag))=o at j
   match o,j with
   |none,j=>exact absurd j h|some y,j=>rw[ZF];refine HQ q r (D:=D) (S0:=S) (E0:=E) (m0:=m) (fun F Y E' L' m' w' h5 H I J R4=>?_) l (fun b g=>s b (yoY g)) (Mem.le_refl _) (V4.refl _) (p8.put (s d (ypF rfl))) X C;exact Qi.run N q r ((hk y j).nx (W y j)) z F Y E' L' m' w' h5 (Mem.le_trans hS H) (O.trans (l8.of I)) (U.trans J) R4
  ·exact absurd (p _ aO) h
 ·exact absurd (p _ aO) h
theorem UK(hm:P.follows .mixedOrders=true)(F:P3 P τ)(I:X6 P Γ B){H:NH}{b:Code}{σ:St}{S:Mem}{E:List EI}{L:List Q0}{m:FM}{w:World}(R:Rel n B S E L σ m w){k:Ex->St->Option β}{r:β}{Q:Exit->Act->World->Prop}(hr:CV N0 n τ Γ η H b σ k=some r)(hS:Mem.le S0 S)(hP:l8 N0 E0 E)(hA:p8 D m0 m)(hD:∀t,j0 (z8 b) t=true->j0 D t=true)(hQ:Qi N0 n B S0 E0 m0 D k r Q):(Code.loop b).wp P Q (fr n m) w:=by
 unfold CV at hr;split at hr
 ·rename_i s0 hs0;obtain⟨dd,h1,h2⟩:=JQ hr;obtain⟨W,X⟩:=xaP h1;obtain⟨Y,E1,L1,hS1,hE1,R1⟩:=zN H.mm R;obtain⟨S2,E2,L2,hS2,hP2,R2⟩:=LA R1 (fun l=>fh l R1) hs0;have hQ1:Qi N0 n B Y E1 m (z8 b) k r Q:=fun e J f j A d w' h1 h2 h3 h4 h5=>hQ e J f j A d w' h1 (Mem.le_trans hS (Mem.le_trans hS1 h2)) (hP.trans ((l8.of hE1).trans h3)) (hA.trans (h4.mono hD)) h5;clear hQ hS hP hA hS1 hE1 R;generalize Xe σ H.mm=c at *;refine Ch (fun g a w=>∃d x f j A,a=fr n d/\Mem.le Y f/\l8 N0 E1 j/\p8 (z8 b) m d/\Rel n B f j A (H.s.put x) d w/\Ak (Gt N0 n τ Γ η H b c) g (Sum.inl x) dd) W ⟨m,s0,S2,E2,L2,rfl,hS2,hP2,p8.refl _ _,R2,X⟩ ?_;rintro g a w ⟨m2,x,S3,E3,L3,rfl,hS3,hP3,hA3,R3,hit⟩;cases g with
  |zero=>exact hit.elim|succ g=>
   have kk:∀K,K<=g->∀y,yw (fun s'=>Ak (Gt N0 n τ Γ η H b c) K s' dd) dd (some y)->Qi N0 n B Y E1 m (z8 b) (sE N0 n τ Γ η H b c) y (Exit.then (fun a' w'=>∃K,K<g+1/\∃d x f j A,a'=fr n d/\Mem.le Y f/\l8 N0 E1 j/\p8 (z8 b) m d/\Rel n B f j A (H.s.put x) d w'/\Ak (Gt N0 n τ Γ η H b c) K (Sum.inl x) dd) Q):=by
    intro K hg' y v e J f j A d w' hk M hP' N R';have fin:∀e',ya Sum.inr (inj N0 H.outs e' J)=some y->Q (MA e') (fr n d) w':=fun e' h5=>by obtain⟨d',O,rfl⟩:=QD h5;have h7:d'=dd:=v;subst h7;obtain⟨S4,E4,L4,σ4,q,u,U,_,_,h8⟩:=tK R' (kp:=Ae (z8 b) c H.kp) (fun S'' E'' hS'' t=>Cx R1 (Mem.le_trans M hS'') N H.kp t) O;rw[h8]at h2;exact hQ1 e' σ4 _ _ _ _ _ h2 (Mem.le_trans M q) (hP'.trans u) N U
    cases e with
    |normal=>obtain⟨x',O,rfl⟩:=QD hk;obtain⟨S4,E4,L4,q,u,U⟩:=LA R' (fun l=>fh l R') O;exact⟨K,Nat.lt_succ_of_le hg',d,x',S4,E4,L4,rfl,Mem.le_trans M q,hP'.trans u,N,U,v⟩
    |exit i=>exact fin (.exit i) hk|ret=>exact fin .ret hk
   have h0:=hit _ (List.mem_singleton.2 rfl);generalize hyo:Dd N0 n τ Γ η b H.p ((H.s.put x).X0 (Ae (z8 b) c H.kp)) (MK N0 H) (sE N0 n τ Γ η H b c)=o at h0
   match o,h0 with
   |some y,v=>
    refine PK hm F I b H.p (fun _ h=>h) (kk g (aL g) y v) (fun σ4 S4 E4 L4 m4 w4 ha q u hA4 U=>?_) _ S3 E3 L3 m2 w hyo hS3 hP3 hA3 (R3.X0 (Cx R1 hS3 hA3 H.kp));obtain⟨y0,O,rfl⟩:=QD ha;obtain⟨S5,E5,L5,hS5,hP5,R5⟩:=LA U (fun l=>fh l U) O;refine Ch (fun z a w=>z<=g/\∃d y f j A,a=fr n d/\Mem.le Y f/\l8 N0 E1 j/\p8 (z8 b) m d/\Rel n B f j A (H.si.put y) d w/\Ak (Gt N0 n τ Γ η H b c) z (Sum.inr y) dd) g ⟨aL g,m4,y0,S5,E5,L5,rfl,Mem.le_trans q hS5,u.trans hP5,hA4,R5,v⟩ ?_;rintro z a w' ⟨hg2,m5,y1,S6,E6,L6,rfl,hS6,hP6,hA6,R6,C⟩;cases z with
    |zero=>exact C.elim|succ z=>
     exact TK hm F I (R6.X0 (Cx R1 hS6 hA6 H.kpi)) hS6 hP6 hA6 (fun t h=>QK b H.p t h) (Z:=yw (fun s'=>Ak (Gt N0 n τ Γ η H b c) z s' dd) dd) (fun h=>h) C (fun y v=>OK hm F I b H.p (fun _ h=>h) (kk z (by omega) y v)) (fun y v σ7 S7 E7 L7 m7 w7 hg hS7 hP7 hA7 R7=>by
      obtain⟨y',O,rfl⟩:=QD hg;obtain⟨S8,E8,L8,hS8,hP8,R8⟩:=LA R7 (fun l=>fh l R7) O
      exact⟨z,Nat.lt_succ_self z,by omega,m7,y',S8,E8,L8,rfl,Mem.le_trans hS7 hS8,hP7.trans hP8,hA7,R8,v⟩)
 ·cases hr
theorem VK{G:List (Nat×Obj)}{f:FuncId}{fn:Func}{I:c7}{nr:Nat}{outs:List (Option Nat×c7)}{H:NH}(j:P.follows .mixedOrders=true)(b:P3 P τ)(l:∀B,GB G B->X6 P Γ B)(hf:P.funcs[f]? = some fn)(o:s8 P f)(v:Nat.ble I.sl.length fn.ntmps=true)(p:aJ fn.results.toList.length nr=true):P' P G f ⟨I,nr,outs,DV τ Γ η H fn I outs⟩:=by
 refine⟨o,fun S0 w0 x E0 L0 a d y g R i=>?_⟩;have i:DV τ Γ η H fn I outs a=some d:=i;have g:x.length=I.sl.length:=g;unfold DV at i;split at i
 ·cases i
 ·rename_i c z;have q:=l _ (XG y R.hs);refine Ii (rn:=fun k=>Dd I.hp.length fn.ntmps τ Γ η c H.p0 (I.put a) (fun s=>CV I.hp.length fn.ntmps τ Γ η H (qa c H.p0) s (za I.hp.length fn.ntmps τ Γ η c H.p0 k)) k) b hf z (by rw[g];exact Nat.le_of_ble_eq_true v) p R (fun A k r Q p u=>?_) i;exact PK j b q c H.p0 (D:=z8 c) (fun _ h=>h) u (fun s S E L m w C F J K M=>UK j b q M C F J K (fun t h=>QK c H.p0 t h) (OK j b q c H.p0 (fun _ h=>h) u)) _ _ _ _ _ _ p (Mem.le_refl _) (l8.refl _ _) (p8.refl _ _) A
theorem oH{G:List (Nat×Obj)}{f:FuncId}{fn:Func}{c:SC}(H:NH)(g:P.follows .mixedOrders=true)(a:P3 P τ)(b:∀B,GB G B->X6 P Γ B)(hf:P.funcs[f]? = some fn)(d:s8 P f)(i:Nat.ble c.I.sl.length fn.ntmps=true)(j:aJ fn.results.toList.length c.nr=true)(k:DV τ Γ η H fn c.I c.outs=c.p):P' P G f c:=by have h:=VK (η:=η) (outs:=c.outs) (H:=H) g a b hf d i j;rw[k]at h;exact h
end
section
variable {P:Program}{G:List (Nat×Obj)}
def WK(e:Ty)(n:Int):Option (List (den e)):=bif decide (0<=n)&&decide (n<=1048576)then some []else none
theorem Zx{f:FuncId}{e:Ty}{E:TypeId}(A:s8 P f) (N:∀(n:Nat) (w:World),n<=1048576->Calls P f #[.slice none 0 0,.int .i64 (n:Int)] w fun x w'=>∃v,x = .returned v/\((v = .slice none 0 0/\w'=w)∨∃cap arr,v = .slice (some ⟨w.heap.size,0,none⟩) 0 cap/\w'=w.drew.alloc (.cells arr E)/\cap*l0 e<=arr.size)):
  P' P G f ⟨⟨[(0,.Y'),(1,.h (.i .i64))],[]⟩,1,[(none,⟨[(0,.own 0)],[.H' e E]⟩)],fun(n:Int)=>WK e n⟩:=by
 obtain⟨q,O⟩:=ei e;have Q:∀y:den (.sl e),w8 [.H' e E] [.v (.sl e) y]=[.H' 0 e E y]:=fun y=>by rw[w8,O];rfl
 refine⟨A,fun S0 w0 C E0 L0 (x:Int) (d:List (den e)) _ c R l=>?_⟩;have l:WK e x=some d:=l;unfold WK at l;obtain⟨m,l⟩:=r7 l;cases l;simp only[aI,zE]at m;obtain⟨n,rfl⟩:=eU m.1;have c:C.length=2:=c;obtain⟨u,g,rfl⟩:∃u g,C=[u,g]:=by
  match C,c with
  |[u,g],_=>exact⟨u,g,rfl⟩
 have S:u = .slice none 0 0:=R.sl 0;have j:u7 (.i .i64) S0 [g] (n:Int):=R.sl 1;have j:g = .int .i64 (n:Int):=by have h:[g]=[Value.int .i64 (n:Int)]:=j;injection h
 subst S;subst j;have U:L0=[]:=aW R.lL;have W:E0=[]:=aW R.lE;subst U;subst W
 have fin:∀{v:Value} {w':World} {q:Q0},HS ⟨S0,U5 [],w0⟩ S0 w' [q]->(∃F z,q = .H' v 0 (l0 e) F z E/\F=[])->v.oneCell'=true->∃v',Ending.returned v = .returned v'/\∃J K X a L,(∀{Y:Type} (k:Ex->St->Option Y),out [] [(none,(⟨[(0,.own 0)],[.H' e E]⟩:c7))] ([]:List (den e)) k=k .normal a)/\Mem.le S0 J/\l8 0 [] K/\l3 ⟨S0,U5 [],w0⟩ J K X a L w'/\Sa a.hp/\0<=a.hp.length/\v'=gh (sg L 0 1):=fun {v w' q} H I Z=>by
  obtain⟨F,z,rfl,rfl⟩:=I;refine⟨v,rfl,S0,[.H' 0 v (l0 e)],[.H' v 0 (l0 e) [] z E],⟨[(0,.own 0 0)],[.H' 0 e E []]⟩,fun _=>v,fun k=>?_,Mem.le_refl _,fun k e hk=>absurd hk (Nat.not_lt_zero k),⟨H,rfl,rfl,fun i o h=>?_,fun t=>?_⟩,?_,bG _,rfl⟩
  ·show k (cd none) ((c7.put _ _).X0 [])=_;rw[show(c7.put (⟨[(0,.own 0)],[.H' e E]⟩:c7) ([]:List (den e)))=⟨[(0,.own 0 0)],[.H' 0 e E []]⟩from congrArg (fun hp=>(⟨[(0,.own 0 0)],hp⟩:St)) (Q _)];rfl
  ·cases i with
   |zero=>cases h;exact⟨_,_,rfl,rfl,v,v,[],z,rfl,rfl,rfl,.inl rfl⟩
   |succ i=>simp at h
  ·cases t with
   |zero=>exact VR.ig (show VC S0 _ (.own 0 0) v from⟨Z,_,rfl,fun r v' s he=>by cases he;exact⟨aL 0,fun _=>rfl⟩⟩)|succ t=>trivial
  ·intro i ver e' T' xs' M;cases i with
   |zero=>cases M;rfl
   |succ i=>simp at M
 refine(N n w0 (by have:=m.2;omega)).mono ?_;rintro x w' ⟨v,rfl,⟨rfl,rfl⟩|⟨cap,arr,rfl,rfl,p⟩⟩
 ·exact fin (HS.nil R.hs _ _) ⟨[],[],rfl,rfl⟩ rfl
 ·refine fin (R.hs.push (Ext.trans (Ext.drew w0) (Ext.alloc w0.drew _)) (r:=.H' (sl w0.heap.size 0 0 cap) 0 (l0 e) [] arr.toList E) (.inr ⟨w0.heap.size,cap,(0,0),rfl,bG _,by simp,by simpa using p,by simpa using Od w0.drew _,.inl rfl⟩) fun b m=>by cases m;exact aL _) ⟨[],arr.toList,rfl,rfl⟩ rfl
end
end Go.Proofs.YtopanhneegpgcaaGreatDoor.Am
namespace Go.Proofs
open Go.Shelf
def Tryz.df:Go.Shelf.Ren:=⟨fun|4=>187|n=>n,fun|22=>22|25=>9|3=>3|4=>4|9=>9|20=>20|0=>0|n=>n,fun|n=>n⟩
theorem Tryz.pH:Go.Proofs.Lays8.n4 aA Tryz.df:={mixed:=by kernel_rfl,f4:=⟨Tryz.f187.name,by decide,U0 func187⟩,t0:=A9,a0:=B0,z0:=B1,v0:=B2,t3:=B3,a3:=B4,z3:=B5,v3:=B6,t4:=A0,a4:=A1,z4:=A3,v4:=A4,t9:=A8,a9:=A5,z9:=A6,v9:=A7,t20:=underlying20,a20:=isAgg20,z20:=sizeOf20,v20:=zeroValue20,t22:=B7,a22:=B8,z22:=B9,v22:=C0 }
end Go.Proofs
namespace Go.Proofs.YtopanhneegpgcaaGreatDoor.Am
open Go Go.RowKit
theorem YQ(n:Nat)(w:World)(l:n<=1048576):Calls aA 187 #[.slice none 0 0,.int .i64 (n:Int)] w fun x w'=>∃v,x = .returned v/\((v = .slice none 0 0/\w'=w)∨∃cap arr,v = .slice (some ⟨w.heap.size,0,none⟩) 0 cap/\w'=w.drew.alloc (.cells arr 9)/\cap*l0 .s<=arr.size):=by
 obtain⟨i0,d,f,c,b⟩:=(NG (P:=aA) (τ:=[(9,⟨.s,1,[.v .s (show Bs from [])],.s,16⟩)]) (by kernel_rfl) (by kernel_rfl) 9 _ rfl).i;have c:i0.size=1:=c;have b:i0.bytes=16:=b;rcases Nat.eq_zero_or_pos n with rfl|m
 ·refine(Any8.slices_Grow_room Tryz.pH none 0 0 0 w (by omega) (by omega) (by omega) (by omega)).mono ?_;rintro _ _ ⟨rfl,rfl⟩;exact⟨_,rfl,.inl ⟨rfl,rfl⟩⟩
 ·refine(Any8.slices_Grow_grow Tryz.pH i0 _ d f (by omega) none 0 0 n [] w (by omega) (by omega) (by rw[b];omega) (by omega) (by simp) (fun _=>rfl) (fun a h=>by cases h)).mono ?_;rintro _ _ ⟨rfl,rfl⟩;refine⟨_,rfl,.inr ⟨_,_,rfl,rfl,?_⟩⟩;have g:=grownCap_ge w (0+n) 0 9;simp only[iN,size_zeroCells,eB,List.length_nil];have j:(Value.cells (zV (⟨.s,1,[.v .s (show Bs from [])],.s,16⟩:TI))).size=1:=rfl;rw[j];show _*1<=_;have k:grownCap w (0+n) 0 9=grownCap w (0+n) 0 (Tryz.df.t 25):=rfl;rw[<-k];omega
end Go.Proofs.YtopanhneegpgcaaGreatDoor.Am
