/- Parts of one proof. Conditions: as each theorem says. -/
import Derived.Sort.Row
import Derived.Sort.Grow
import Derived.Shelf.Spec.SlicesInsert
import Derived.Shelf.Spec.SlicesInsertGrow
import Derived.Shelf.Lays2
import Derived.Ground.Names2Prog
import Derived.Test.YtopanhneegpgcaaGreatDoorProg
import Derived.Shelf.SlSortCmp.WholeK
import Derived.Lib.Bytealg
import Derived.Shelf.SlSortCmp.NoneTotal
import Derived.Ground.SlsfProg
import Derived.Shelf.SlIter.Nil
import Derived.Shelf.SortM.Plain
import Derived.Shelf.SortM.SortNone
import Derived.Ground.GgzProg
import Derived.Ground.SlgmProg
import Derived.Shelf.Spec.SlicesGrow
import Derived.Ground.Names8Prog
import Derived.Test.YtopanhneegpgcaaGreatDoorQkI
open Array renaming ext'->cZ,getElem?_append_left->fH,getElem?_eq_some_iff->aR,getElem?_modify->fD,size_append->gT
open Bool renaming and_eq_true->aH,not_eq_true'->bE,or_true->gE
open Int renaming eq_ofNat_of_zero_le->dY
open List renaming append_assoc->aV,append_nil->bQ,eq_nil_of_length_eq_zero->aT,ext_getElem?->bD,getElem?_append_left->aE,getElem?_append_right->aF,getElem?_drop->bJ,getElem?_eq_getElem->aJ,getElem?_eq_some_iff->aC,le_antisymm->fI,le_trans->gU,length_append->aD,length_drop->bM,length_map->aI,length_replicate->fF,length_set->bP,length_take->dS,map_append->cN,map_id->eQ,mem_cons->aL,mem_cons_of_mem->aN,mem_cons_self->aO,mem_map->bF,nodup_cons->dM,not_lt->fE,pairwise_cons->aX,replicate->bC,size_toArray->dD
open Nat renaming add_assoc->cY,beq->aG,le_refl->aK,mul_one->cV,zero_add->aU,zero_le->bS
open Go.Proofs.Tryz renaming prog->aB
namespace Go.Proofs.YtopanhneegpgcaaGreatDoor.Am
open Go Go.RowKit Go.Sort
section
variable {P:Program}{B:Bas}{S0:Mem}{w0 w w':World}{E0:List EI}{L0:List Res}{V:Nat->Value}{ss:List (Nat×SV)}{e:Ty}{T:TypeId}{xs ys:List (den e)}
theorem ymU(R:RelV ⟨S0,zbD L0,w0⟩ S0 E0 L0 ⟨(0,.own 0 0)::ss,[.osl 0 e T xs]⟩ V w0):∃v cs rs,L0=[.osl v xs.length (tsz e) cs rs T]/\E0=[.osl 0 (V 0) (tsz e)]/\RL S0 cs xs/\Same S0 v (V 0) xs.length/\(V 0).oneCell'=true /\((xs=[]/\∃a c,V 0 = .slice a 0 c)∨∃b c fz,V 0=sl b 0 xs.length c/\v=sl b 0 xs.length c/\xs.length<=c/\cs.length=xs.length*tsz e/\c*tsz e<=(cs++rs).length/\w0.heap[b]? = some (.cells (cs++rs).toArray T fz)/\okfz T fz (cs++rs).length):=by
 obtain⟨r0,ee0,g1,g2,v,v',cs,rs,rfl,rfl,hrl,hsm⟩:=R.obj 0 _ rfl;have hL:L0.length=1:=R.lL;have hE:E0.length=1:=R.lE;obtain⟨h7,e1',h8,h9⟩:=(show VB S0 E0 (.own 0 0) (V 0)from R.sl 0);rw[g2]at h8;cases h8;have hu:V 0=v':=(h9 _ _ _ rfl).2 rfl;subst hu;have hL1:L0=[.osl v xs.length (tsz e) cs rs T]:=by
  match L0,hL,g1 with
  |[r],_,g1=>simp at g1;rw[g1]
 have hE1:E0=[.osl 0 (V 0) (tsz e)]:=by
  match E0,hE,g2 with
  |[r],_,g2=>simp at g2;rw[g2]
 refine⟨v,cs,rs,hL1,hE1,hrl,hsm,h7,?_⟩;have hk:lkR L0 0=some (.osl v xs.length (tsz e) cs rs T):=by rw[zaW];exact g1
 rcases R.hs.own 0 _ hk with⟨hv,hn,_,_⟩|⟨b,c,fz,hv,h1,h2,h3,h4,h5⟩
 ·left;refine⟨aT hn,?_⟩;rcases hsm with h|⟨_,_,_,a,h⟩
  ·exact⟨none,0,by rw[h,hv]⟩
  ·exact⟨a,0,h⟩
 ·rcases hsm with h|⟨h,_⟩
  ·by_cases hx:xs=[]
   ·left;refine⟨hx,some ⟨b,0,none⟩,c,?_⟩;rw[h,hv,hx];rfl
   ·right;exact⟨b,c,fz,by rw[h,hv],hv,h1,h2,h3,h4,h5⟩
  ·rw[hv]at h;cases h
theorem ygH{v u:Value}{cs rs:LV}(H:HS ⟨S0,zbD L0,w0⟩ S0 w' [.osl v ys.length (tsz e) cs rs T])(hE:E0=[.osl 0 u (tsz e)])(hrl:RL S0 cs ys)(hsm:Same S0 v u ys.length):∃S' E' L' σo V',(∀{γ:Type} (k:Ex->St->Option γ),out [] [(none,(⟨[],[.osl e T]⟩:Shp))] (ys:List (den e)) k=k .normal σo)/\Mem.le S0 S'/\Pin 1 E0 E'/\RelV ⟨S0,zbD L0,w0⟩ S' E' L' σo V' w'/\Ver0 σo.hp/\1<=σo.hp.length/\Value.tuple #[]=zyB (zxD V' 0 0):=by
 obtain⟨q,hq⟩:=zcW e;have e0:∀y:den (.sl e),zcF [.osl e T] [.v (.sl e) y]=[.osl 0 e T y]:=fun y=>by rw[zcF,hq];rfl
 refine⟨S0,E0,_,⟨[],[.osl 0 e T ys]⟩,fun _=>undef,fun k=>?_,Mem.le_refl _,Pin.refl _ _,⟨H,rfl,by rw[hE];rfl,fun i o h=>?_,fun t=>trivial⟩,?_,aK _,rfl⟩
 ·show k (exOf none) ((Shp.put _ _).app [])=_;rw[show(Shp.put (⟨[],[.osl e T]⟩:Shp) ys)=⟨[],[.osl 0 e T ys]⟩from congrArg (fun hp=>(⟨[],hp⟩:St)) (e0 _)];rfl
 ·cases i with
  |zero=>cases h;exact⟨_,_,rfl,by rw[hE];rfl,v,u,cs,rs,rfl,rfl,hrl,hsm⟩
  |succ i=>simp at h
 ·intro i ver e' T' xs' hi;cases i with
  |zero=>cases hi;rfl
  |succ i=>simp at hi
theorem ypW{v u u2:Value}{cs rs:LV}(H:HS ⟨S0,zbD L0,w0⟩ S0 w' [.osl v ys.length (tsz e) cs rs T])(hE:E0=[.osl 0 u (tsz e)])(hrl:RL S0 cs ys)(hsm:Same S0 v u2 ys.length)(h1:u2.oneCell'=true):∃S' E' L' σo V',(∀{γ:Type} (k:Ex->St->Option γ),out [] [(none,(⟨[(0,.h (.sl e))],[.dead]⟩:Shp))] (ys:List (den e)) k=k .normal σo)/\Mem.le S0 S'/\Pin 1 E0 E'/\RelV ⟨S0,zbD L0,w0⟩ S' E' L' σo V' w'/\Ver0 σo.hp/\1<=σo.hp.length/\u2=zyB (zxD V' 0 1):=by
 have R1:RelV ⟨S0,zbD L0,w0⟩ S0 [.osl 1 u2 (tsz e)] [.osl v ys.length (tsz e) cs rs T] ⟨[(0,.own 0 1)],[.osl 1 e T ys]⟩ (fun _=>u2) w':=by
  refine⟨H,rfl,rfl,fun i o h=>?_,fun t=>?_⟩
  ·cases i with
   |zero=>cases h;exact⟨_,_,rfl,rfl,v,u2,cs,rs,rfl,rfl,hrl,hsm⟩
   |succ i=>simp at h
  ·cases t with
   |zero=>exact VR.ofC (show VC S0 _ (.own 0 1) u2 from⟨h1,_,rfl,fun r v' s he=>by cases he;exact⟨aK 1,fun _=>rfl⟩⟩)|succ t=>trivial
 obtain⟨S',E',L',hS,hE',R2⟩:=ynV R1 0;refine⟨S',E',L',⟨[(0,.v (.sl e) ys)],[.dead]⟩,fun _=>u2,fun k=>rfl,hS,fun k a hk ha=>?_,R2,?_,aK _,rfl⟩
 ·obtain rfl:k=0:=by omega
  rw[hE]at ha;cases ha;obtain⟨a',h2,h3⟩:=hE' 0 _ rfl;refine⟨a',h2,.inl ⟨_,_,_,rfl,?_⟩⟩;rcases h3 with rfl|rfl|⟨r',v',rfl,h4⟩
  ·exact .inr ⟨1,u2,rfl,fun h=>by cases h⟩
  ·exact .inl rfl
  ·exact .inr ⟨r',v',rfl,fun h=>by omega⟩
 ·intro i ver e' T' xs' hi;cases i with
  |zero=>cases hi
  |succ i=>simp at hi
theorem HS.inplace{b n c k sz:Nat}{fz:Nat×Nat}{cs rs cs' rs':LV}(H:HS B S0 w [.osl (sl b 0 n c) n sz cs rs T])(_hh:w.heap[b]? = some (.cells (cs++rs).toArray T fz))(hfz:okfz T fz (cs++rs).length)(hcap:c*sz<=(cs++rs).length)(hn:n<=c)(hk:k<=n)(hl:cs'.length=k*sz)(hlen:(cs'++rs').length=(cs++rs).length) (hos:w'.os=w.os) (htp:w'.tape=w.tape) (hop:w'.output=w.output) (hsz:w.heap.size<=w'.heap.size) (hb:∀i,i<w.heap.size->i≠b->w'.heap[i]? = w.heap[i]?) (hnew:w'.heap[b]? = some (.cells (cs'++rs').toArray T fz)):HS B S0 w' [.osl (sl b 0 k c) k sz cs' rs' T]:=
 HS.upd H (k:=0) (r:=.osl (sl b 0 n c) n sz cs rs T) (r':=.osl (sl b 0 k c) k sz cs' rs' T) rfl hsz hos htp hop (fun i hi hne=>hb i hi fun e=>hne (by rw[e];rfl)) (.inr ⟨b,c,fz,rfl,by omega,hl,by rw[hlen];exact hcap,hnew,by rw[hlen];exact hfz⟩) fun b' hb'=>.inl hb'
theorem zuR{α:Type}[Inhabited α]{enc:α->Value}{ds:List α}{cs rs:LV}{b q:Nat}{fz:Nat×Nat}{os:Array Obj}(hh:w.heap[b]? = some (.cells (cs++rs).toArray T fz))(hl:cs.length=ds.length):(grow (putRow enc (Go.Sort.ahead w q) b 0 ds.toArray) os).heap[b]? = some (.cells (ds.map enc++rs).toArray T fz)/\(∀i,i<w.heap.size->i≠b->(grow (putRow enc (Go.Sort.ahead w q) b 0 ds.toArray) os).heap[i]? = w.heap[i]?)/\w.heap.size<=(grow (putRow enc (Go.Sort.ahead w q) b 0 ds.toArray) os).heap.size:=by
 have hb:b<w.heap.size:=(aR.1 hh).1;have hs:(putRow enc (Go.Sort.ahead w q) b 0 ds.toArray).heap.size=w.heap.size:=by simp[putRow,mapBlock,Go.Sort.ahead]
 refine⟨?_,fun i hi hne=>?_,?_⟩
 ·show((putRow enc (Go.Sort.ahead w q) b 0 ds.toArray).heap++os)[b]? = _;rw[fH (by rw[hs];exact hb)];have:(putRow enc (Go.Sort.ahead w q) b 0 ds.toArray).heap[b]? = some (onCells (putCells enc 0 ds.toArray) (.cells (cs++rs).toArray T fz)):=by show(w.heap.modify b _)[b]? = _;rw[fD,zI rfl,hh];rfl
  rw[this];show some (Obj.cells (putCells enc 0 ds.toArray (cs++rs).toArray) T fz)=_;congr 2;apply Array.ext_getElem?;intro j;unfold putCells;rw[Array.getElem?_mapIdx];simp only[List.getElem?_toArray,dD,bS,true_and,aU,Nat.sub_zero];by_cases hj:j<ds.length
  ·rw[aE (by omega),aE (by rw[aI];exact hj),List.getElem?_map,aJ hj,aJ (show j<cs.length by omega)];simp[hj]
  ·rw[aF (by omega),aF (by rw[aI];omega),aI,hl];cases rs[j-ds.length]? with
   |none=>rfl|some x=>simp[hj]
 ·show((putRow enc (Go.Sort.ahead w q) b 0 ds.toArray).heap++os)[i]? = _;rw[fH (by rw[hs];exact hi)];show(w.heap.modify b _)[i]? = _;rw[fD,zH (Ne.symm hne)]
 ·show _<=((putRow enc (Go.Sort.ahead w q) b 0 ds.toArray).heap++os).size;rw[gT,hs];omega
theorem holds_of{α:Type}[Inhabited α]{enc:α->Value}{ds:List α}{rs:LV}{b:Nat}{fz:Nat×Nat}(hh:w.heap[b]? = some (.cells (ds.map enc++rs).toArray T fz))(hfz:okfz T fz (ds.map enc++rs).length):Go.Sort.Holds enc w b 0 ds.toArray:=fun j hj=>by
 have hj:j<ds.length:=by simpa using hj
 constructor
 ·rw[aU];simp only[World.cell?,hh];simp[hj,aE]
 ·unfold World.frozen?;simp only[hh];rw[aD,aI]at hfz;rcases hfz with h|⟨h,_⟩
  ·rw[h];simp
  ·have:¬fz.1<=0+j:=by omega
   simp[];omega
theorem yeP:∀{l:List Bs} {cs:LV},@RL (den .s) (rpD .s) S0 cs l->cs=l.map encStr
 |[],_,h=>h|x::l,_,h=>by obtain⟨c,d,h1,h2,h3⟩:=h;have h2:c=[str x]:=h2;rw[h1,h2,yeP h3];rfl
end
section
variable {P:Program}{G:List (Nat×Obj)}
def insO{α:Type}(le:α->α->Bool)(x:α):List α->List α
 |[]=>[x]|y::l=>bif le x y then x::y::l else y::insO le x l
def ywY{α:Type}(le:α->α->Bool):List α->List α
 |[]=>[]|x::l=>insO le x (ywY le l)
theorem yjB{α:Type}(le:α->α->Bool)(x:α):∀l:List α,(insO le x l).Perm (x::l)
 |[]=>.refl _|y::l=>by
  unfold insO;cases le x y with
  |true=>exact .refl _|false=>exact((yjB le x l).cons y).trans (.swap x y l)
theorem zgN{α:Type}(le:α->α->Bool):∀l:List α,(ywY le l).Perm l
 |[]=>.refl _|x::l=>(yjB le x _).trans ((zgN le l).cons x)
theorem yhQ{α:Type}{le:α->α->Bool}(ht:∀a b,le a b=true∨le b a=true)(htr:∀a b c,le a b=true->le b c=true->le a c=true)(x:α):∀{l:List α},l.Pairwise (fun a b=>le a b=true)->(insO le x l).Pairwise fun a b=>le a b=true
 |[],_=>List.pairwise_singleton _ _|y::l,h=>by
  unfold insO;have h':=aX.1 h;cases hb:le x y with
  |true=>
   refine aX.2 ⟨fun z hz=>?_,h⟩;rcases aL.1 hz with rfl|hz
   ·exact hb
   ·exact htr _ _ _ hb (h'.1 z hz)
  |false=>
   have hyx:le y x=true:=(ht x y).resolve_left (by rw[hb];simp);refine aX.2 ⟨fun z hz=>?_,yhQ ht htr x h'.2⟩;rcases aL.1 ((yjB le x l).mem_iff.1 hz)with rfl|hz
   ·exact hyx
   ·exact h'.1 z hz
theorem zjE{α:Type}{le:α->α->Bool}(ht:∀a b,le a b=true∨le b a=true)(htr:∀a b c,le a b=true->le b c=true->le a c=true):∀l:List α,(ywY le l).Pairwise fun a b=>le a b=true
 |[]=>.nil|x::l=>yhQ ht htr x (zjE ht htr l)
theorem zvV{α:Type}{R:α->α->Prop}:∀{l m:List α},(∀a∈l,∀b∈l,R a b->R b a->a=b)->l.Perm m->l.Pairwise R->m.Pairwise R->l=m
 |[],m,_,hp,_,_=>(List.nil_perm.1 hp).symm|a::l,[],_,hp,_,_=>absurd hp.length_eq (by simp)|a::l,b::m,ha,hp,h1,h2=>by
  have h1':=aX.1 h1;have h2':=aX.1 h2;have hab:a=b:=by
   rcases aL.1 (hp.mem_iff.1 aO)with h|h
   ·exact h
   ·have hbl:b∈a::l:=hp.mem_iff.2 aO;rcases aL.1 hbl with h3|h3
    ·exact h3.symm
    ·exact ha a aO b hbl (h1'.1 b h3) (h2'.1 a h)
  subst hab;rw[zvV (fun x hx y hy=>ha x (aN _ hx) y (aN _ hy)) hp.cons_inv h1'.2 h2'.2]
def leS(x y:Bs):Bool:=!(Op.bytesLess y x)
theorem ydP{x y:Bs}:leS x y=true↔x<=y:=by unfold leS;rw[bytesLess_eq,bE,decide_eq_false_iff_not];exact fE
theorem yoS(a b:Bs):leS a b=true∨leS b a=true:=by rw[ydP,ydP];exact List.le_total a b
theorem yoR(a b c:Bs)(h:leS a b=true)(k:leS b c=true):leS a c=true:=by rw[ydP]at *;exact gU h k
def yiT(xs:List Bs):List Bs:=ywY leS xs
theorem sortS_eq(xs:List Bs):(xs.mergeSort fun x y=>decide (x<=y))=yiT xs:=by
 have h1:(xs.mergeSort fun x y=>decide (x<=y)).Pairwise fun x y=>x<=y:=by
  refine(List.pairwise_mergeSort (le:=fun x y=>decide (x<=y)) (fun a b c h k=>?_) (fun a b=>?_) xs).imp fun h=>zC h
  ·exact zA (gU (zC h) (zC k))
  ·rcases List.le_total a b with h|h<;>simp[h]
 refine zvV (R:=fun x y=>x<=y) (fun a _ b _ h k=>fI h k) ((List.mergeSort_perm _ _).trans (zgN leS xs).symm) h1 ((zjE yoS yoR xs).imp fun h=>ydP.1 h)
theorem sort_sc{f:FuncId}{T:TypeId}(hfn:IsFn P f) (h0:∀(a:Option Addr) (c:Nat) (w:World),Calls P f #[.slice a 0 c] w fun x w'=>x = .returned (.tuple #[])/\w'=w) (h1:∀(b c:Nat) (l:List Bs) (w:World),Go.Sort.Holds encStr w b 0 l.toArray->b<w.heap.size->l.length<4611686018427387904->Calls P f #[.slice (some ⟨b,0,none⟩) l.length c] w fun x w'=>x = .returned (.tuple #[])/\∃n os,w'=grow (putRow encStr (Go.Sort.ahead w n) b 0 (l.mergeSort fun x y=>decide (x<=y)).toArray) os):
  SCok P G f ⟨⟨[(0,.own 0)],[.osl .s T]⟩,0,[(none,⟨[],[.osl .s T]⟩)],fun(xs:List Bs)=>bif decide (xs.length<1152921504606846976)then some (yiT xs)else none⟩:=by
 refine⟨hfn,fun S0 w0 us E0 L0 (xs:List Bs) (d:List Bs) _ hul R hy=>?_⟩;have hy:(bif decide (xs.length<1152921504606846976)then some (yiT xs)else none)=some d:=hy;obtain⟨hlt,hy⟩:=zaG hy;have hlt:=zC hlt;have hd:yiT xs=d:=osi hy;subst hd;have hul:us.length=1:=hul;obtain⟨u,rfl⟩:∃u,us=[u]:=by
  match us,hul with
  |[u],_=>exact⟨u,rfl⟩
 have hput:(Shp.put (⟨[(0,.own 0)],[.osl .s T]⟩:Shp) xs)=⟨[(0,.own 0 0)],[.osl 0 .s T xs]⟩:=rfl;have R:RelV ⟨S0,zbD L0,w0⟩ S0 E0 L0 ⟨[(0,.own 0 0)],[.osl 0 .s T xs]⟩ (fun t=>[u].getD t undef) w0:=by rw[<-hput];exact R
 obtain⟨v,cs,rs,hL,hE,hrl,hsm,ho,hc⟩:=ymU R;have hsl:(yiT xs).length=xs.length:=(zgN leS xs).length_eq;have hcs:=yeP hrl;have H:=R.hs;rcases hc with⟨hx,a,c,hu⟩|⟨b,c,fz,hu,hv,k1,k2,k3,k4,k5⟩
 ·have hu:u = .slice a 0 c:=hu;have hso:yiT xs=[]:=by rw[hx];rfl
  rw[hu];refine(h0 a c w0).mono ?_;rintro x w' ⟨rfl,rfl⟩;refine⟨_,rfl,?_⟩;rw[hso];rw[hx]at hrl hsm hL;exact ygH (e:=.s) (ys:=[]) (by rw[hL]at H ⊢;exact H) hE hrl hsm
 ·have hu:u=sl b 0 xs.length c:=hu;subst hcs;have hb:b<w0.heap.size:=(aR.1 k4).1;rw[hu];refine(h1 b c xs w0 (holds_of k4 k5) hb (by omega)).mono ?_;rintro x w' ⟨rfl,q,os,rfl⟩;refine⟨_,rfl,?_⟩;rw[sortS_eq];obtain⟨g1,g2,g3⟩:=zuR (enc:=encStr) (ds:=yiT xs) (q:=q) (os:=os) k4 (by rw[aI,hsl]);have H1:HS ⟨S0,zbD L0,w0⟩ S0 w0 [.osl (sl b 0 xs.length c) xs.length 1 (xs.map encStr) rs T]:=by rw[hL,hv]at H ⊢;exact H
  have H2:=HS.inplace (w':=grow (putRow encStr (Go.Sort.ahead w0 q) b 0 (yiT xs).toArray) os) H1 k4 k5 k3 k1 (aK _) (cs':=(yiT xs).map encStr) (rs':=rs) (by rw[aI,hsl,cV]) (by rw[aD,aD,aI,aI,hsl]) rfl rfl rfl g3 g2 g1;rw[<-hsl]at H2;refine ygH (e:=.s) (ys:=yiT xs) H2 hE (yeU _) ?_;rw[hsl];exact .inl hu
theorem ywM{f:FuncId}{T:TypeId}{cp:List Bs->List Bs}(hfn:IsFn P f)(hcp:∀l,(cp l).length<=l.length)(hc0:cp []=[]) (h0:∀(a:Option Addr) (c:Nat) (w:World),Calls P f #[.slice a 0 c] w fun x w'=>x = .returned (.slice a 0 c)/\w'=w) (h1:∀(b c:Nat) (l:List Bs) (w:World),Go.Sort.Holds encStr w b 0 l.toArray->l.length<=9223372036854775807->l.length<=c->Calls P f #[.slice (some ⟨b,0,none⟩) l.length c] w fun x w'=>x = .returned (.slice (some ⟨b,0,none⟩) (cp l).length c)/\∃n,w'=putRow encStr (Go.Sort.ahead w n) b 0 (cp l++bC (l.length-(cp l).length) []).toArray):
  SCok P G f ⟨⟨[(0,.own 0)],[.osl .s T]⟩,1,[(none,⟨[(0,.h (.sl .s))],[.dead]⟩)],fun(xs:List Bs)=>bif decide (xs.length<1152921504606846976)then some (cp xs)else none⟩:=by
 refine⟨hfn,fun S0 w0 us E0 L0 (xs:List Bs) (d:List Bs) _ hul R hy=>?_⟩;have hy:(bif decide (xs.length<1152921504606846976)then some (cp xs)else none)=some d:=hy;obtain⟨hlt,hy⟩:=zaG hy;have hlt:=zC hlt;have hd:cp xs=d:=osi hy;subst hd;have hul:us.length=1:=hul;obtain⟨u,rfl⟩:∃u,us=[u]:=by
  match us,hul with
  |[u],_=>exact⟨u,rfl⟩
 have hput:(Shp.put (⟨[(0,.own 0)],[.osl .s T]⟩:Shp) xs)=⟨[(0,.own 0 0)],[.osl 0 .s T xs]⟩:=rfl;have R:RelV ⟨S0,zbD L0,w0⟩ S0 E0 L0 ⟨[(0,.own 0 0)],[.osl 0 .s T xs]⟩ (fun t=>[u].getD t undef) w0:=by rw[<-hput];exact R
 obtain⟨v,cs,rs,hL,hE,hrl,hsm,ho,hc⟩:=ymU R;have hcs:=yeP hrl;have H:=R.hs;rcases hc with⟨hx,a,c,hu⟩|⟨b,c,fz,hu,hv,k1,k2,k3,k4,k5⟩
 ·have hu:u = .slice a 0 c:=hu;have hso:cp xs=[]:=by rw[hx];exact hc0
  rw[hu];refine(h0 a c w0).mono ?_;rintro x w' ⟨rfl,rfl⟩;refine⟨_,rfl,?_⟩;rw[hso];rw[hx]at hrl hsm hL;refine ypW (e:=.s) (ys:=[]) (by rw[hL]at H ⊢;exact H) hE hrl ?_ rfl;rw[<-hu];exact hsm
 ·have hu:u=sl b 0 xs.length c:=hu;subst hcs;rw[hu];refine(h1 b c xs w0 (holds_of k4 k5) (by omega) k1).mono ?_;rintro x w' ⟨rfl,q,rfl⟩;refine⟨_,rfl,?_⟩;have hl:=hcp xs;obtain⟨g1,g2,g3⟩:=zuR (enc:=encStr) (ds:=cp xs++bC (xs.length-(cp xs).length) []) (q:=q) (os:=#[]) k4 (by rw[aI,aD,fF];omega);rw[grow_empty]at g1 g2 g3;have H1:HS ⟨S0,zbD L0,w0⟩ S0 w0 [.osl (sl b 0 xs.length c) xs.length 1 (xs.map encStr) rs T]:=by rw[hL,hv]at H ⊢;exact H
  have hcl:(cp xs).length=(cp xs).length*1:=(cV _).symm;generalize hds:cp xs++bC (xs.length-(cp xs).length) ([]:Bs)=ds at g1 g2 g3 ⊢;have hdl:ds.map encStr++rs=(cp xs).map encStr++((bC (xs.length-(cp xs).length) ([]:Bs)).map encStr++rs):=by rw[<-hds,cN,aV]
  generalize (bC (xs.length-(cp xs).length) ([]:Bs)).map encStr++rs=rs' at hdl;have hdn:ds.length=xs.length:=by rw[<-hds,aD,fF];omega
  have hlen:((cp xs).map encStr++rs').length=(xs.map encStr++rs).length:=by rw[<-hdl];simp only[aD,aI,hdn]
  rw[hdl]at g1;generalize cp xs=ys at *;have H2:=HS.inplace (w':=putRow encStr (Go.Sort.ahead w0 q) b 0 ds.toArray) (cs':=ys.map encStr) (rs':=rs') (k:=ys.length) H1 k4 k5 k3 k1 hl (by rw[aI];exact hcl) hlen rfl rfl rfl g3 g2 g1;exact ypW (e:=.s) (ys:=ys) H2 hE (yeU _) (.inl rfl) rfl
end
end Go.Proofs.YtopanhneegpgcaaGreatDoor.Am
namespace Go.Proofs
open Go.Shelf Go.RowKit Go.Lib
variable {P:Program}{ρ:Ren}
set_option maxHeartbeats 4000000 in
set_option maxRecDepth 100000 in
theorem YtopanhneegpgcaaGreatDoor.insEnd(L:Lays2.n22 P ρ)(b o n c d q m e:Nat)(vs:List Value)(w:World)(hm:0<m)(hroom:n+m<=c)(hnm:n+m<=1048576)(hvl:vs.length=m) (hsp:∀j,j<m->(w.cell? ⟨b,o+n+j,none⟩).isSome=true) (hfz:∀j,j<m->w.frozen? ⟨b,o+n+j,none⟩=false) (hvs:∀j v,vs[j]? = some v->w.cell? ⟨d,q+j,none⟩=some v) (h1:∀v∈vs,v.oneCell'=true):Calls P (ρ.f 22) #[.slice (some ⟨b,o,none⟩) n c,.int .i64 n,.slice (some ⟨d,q,none⟩) m e] w fun x w'=>x = .returned (.slice (some ⟨b,o,none⟩) (n+m) c)/\w'=w.setCells b (o+n) vs:=by
 have u0:=run_underlying L.t0;have u3:=run_underlying L.t3;have u4:=run_underlying L.t4;have u9:=run_underlying L.t9;have u24:=run_underlying L.t24;have t0:=L.t0;have a0:=L.a0;have z0:=L.z0;have v0:=L.v0;have t3:=L.t3;have a3:=L.a3;have z3:=L.z3;have v3:=L.v3;have t4:=L.t4;have a4:=L.a4;have z4:=L.z4;have v4:=L.v4;have t9:=L.t9;have a9:=L.a9;have z9:=L.z9;have v9:=L.v9;have t24:=L.t24;have a24:=L.a24;have z24:=L.z24;have v24:=L.v24;have mixed:=L.mixed;have hm0:¬((m:Int)=0):=by omega
 have src:Src P 1 (ρ.t 24) (.slice (some ⟨d,q,none⟩) m e) m vs w:=Src.ofSlice w L.t24 ⟨d,q,none⟩ m e vs (by omega) (fun j u hj=>by rw[Addr.add_lit];exact hvs j u hj) h1
 go_enter L.f22,Body2.n22_ntmps ρ
 go_wp2_with (at_builtin;refine wpList_append_room1 _ rfl _ _ (ρ.t 24) (ρ.t 24) rfl (ρ.t 9) _ _ L.t24 L.i9 b o n c rfl _ rfl m vs src hroom (by rw[hvl];exact hsp) (by rw[hvl];exact hfz) ?_)
 go_ret
 exact⟨rfl,rfl⟩
set_option maxHeartbeats 4000000 in
set_option maxRecDepth 100000 in
theorem YtopanhneegpgcaaGreatDoor.insMid(L:Lays2.n22 P ρ)(b o n c i d q m e:Nat)(cs vs:List Value)(w:World)(hi:i<n)(hm:0<m)(hroom:n+m<=c)(hnm:n+m<=1048576)(hd:d≠b)(hcl:cs.length=n)(hvl:vs.length=m) (hcs:∀j v,cs[j]? = some v->w.cell? ⟨b,o+j,none⟩=some v) (hsp:∀j,j<n+m->(w.cell? ⟨b,o+j,none⟩).isSome=true) (hfz:∀j,j<n+m->w.frozen? ⟨b,o+j,none⟩=false) (hvs:∀j v,vs[j]? = some v->w.cell? ⟨d,q+j,none⟩=some v) (h1:∀v∈cs,v.oneCell'=true) (h2:∀v∈vs,v.oneCell'=true) (tA tB:TypeId) (kA kB:Nat) (hsa:w.shape? d=some (tA,kA)) (hsb:w.shape? b=some (tB,kB)) (hkB:kB≠0) (hfa:w.frozen? ⟨d,q,none⟩=false) (hfe:w.frozen? ⟨d,kA,none⟩=false):Calls P (ρ.f 22) #[.slice (some ⟨b,o,none⟩) n c,.int .i64 i,.slice (some ⟨d,q,none⟩) m e] w fun x w'=>x = .returned (.slice (some ⟨b,o,none⟩) (n+m) c)/\w'=(w.drew.setCells b (o+(i+m)) (cs.drop i)).setCells b (o+i) vs:=by
 have u0:=run_underlying L.t0;have u3:=run_underlying L.t3;have u4:=run_underlying L.t4;have u9:=run_underlying L.t9;have u24:=run_underlying L.t24;have t0:=L.t0;have a0:=L.a0;have z0:=L.z0;have v0:=L.v0;have t3:=L.t3;have a3:=L.a3;have z3:=L.z3;have v3:=L.v3;have t4:=L.t4;have a4:=L.a4;have z4:=L.z4;have v4:=L.v4;have t9:=L.t9;have a9:=L.a9;have z9:=L.z9;have v9:=L.v9;have t24:=L.t24;have a24:=L.a24;have z24:=L.z24;have v24:=L.v24;have mixed:=L.mixed;have hm0:¬((m:Int)=0):=by omega
 have hin0:¬((i:Int)=(n:Int)):=by omega
 have hsz:(P.info? (ρ.t 9)).map (·.size)=some 1:=by obtain⟨i0,hi0,h0,h1,h2⟩:=info_parts L.i9;rw[hi0];simp[h1]
 have hdl:(cs.drop i).length=n-i:=by rw[bM,hcl]
 have apart:∀x y,(callFunc (ρ.f 29) #[.slice (some ⟨d,q,none⟩) m e,.slice (some ⟨b,o+(i+m),none⟩) x y]).run P w = .ok (.value (.bool false)) w:=fun x y=>by rw[run_callFunc_extern L.f29 (by kernel_rfl) (by kernel_rfl) (by kernel_rfl) (e:=Extern.SlicesOverlaps.overlaps #[(ρ.t 24),(ρ.t 24)] #[(ρ.t 4)]) (by kernel_rfl),Lib.run_overlaps_apart w (ρ.t 24) (ρ.t 4) (ρ.t 9) L.t24 1 L.z9 ⟨d,q,none⟩ ⟨b,o+(i+m),none⟩ m e x y hd tA tB kA kB hsa hsb hkB hfa hfe];rfl
 have hw:IntKind.i64.wrap ((i:Int)+(m:Int))=(i:Int)+(m:Int):=by rw[IntKind.wrap_i64];omega
 have hw2:IntKind.i64.wrap ((n:Int)+(m:Int))=(n:Int)+(m:Int):=by rw[IntKind.wrap_i64];omega
 have f1:(0:Int)<=(i:Int)+(m:Int):=by omega
 have f2:i<=n:=by omega
 have f3:((i:Int)+(m:Int)).toNat=i+m:=by omega
 have f4:¬(c=i+m):=by omega
 have f5:(i:Int)<=(n:Int)+(m:Int):=by omega
 have f6:¬(c=i):=by omega
 have up:∀ty x y,(Builtin.copy_ #[(ρ.t 24),(ρ.t 24)] ty #[.slice (some ⟨b,o+(i+m),none⟩) (n+m-(i+m)) x,.slice (some ⟨b,o+i,none⟩) (n+m-i) y]).run P w.drew = .ok (goInt (cs.drop i).length) (w.drew.setCells b (o+(i+m)) (cs.drop i)):=fun ty x y=>
  run_copy_cells w.drew _ _ ty (ρ.t 9) b (o+(i+m)) (n+m-(i+m)) x ⟨b,o+i,none⟩ (n+m-i) y (cs.drop i) L.t24 hsz (by rw[hdl];simp only[Nat.min_def];split<;>omega) (fun j v hj=>by rw[Addr.add_lit,cY];exact hcs (i+j) v (by rwa[bJ]at hj)) (fun j hj=>by rw[cY];exact hsp _ (by omega)) (fun j hj=>by rw[cY];exact hfz _ (by omega)) fun v hv=>h1 v (List.mem_of_mem_drop hv)
 obtain⟨W,hW⟩:∃W,W=w.drew.setCells b (o+(i+m)) (cs.drop i):=⟨_,rfl⟩;have spW:∀k,k<n+m->(W.cell? ⟨b,o+k,none⟩).isSome=true:=fun k hk=>by rw[hW];exact isSome_setCells b _ _ _ (fun j hj=>by rw[cY];exact hsp _ (by omega)) _ (hsp k hk)
 have put:∀(V:World),(∀x,V.cell? x=W.cell? x)->(∀x,V.frozen? x=W.frozen? x)->∀ty x,(Builtin.copy_ #[(ρ.t 24),(ρ.t 24)] ty #[.slice (some ⟨b,o+i,none⟩) (n+m-i) x,.slice (some ⟨d,q,none⟩) m e]).run P V = .ok (goInt vs.length) (V.setCells b (o+i) vs):=fun V hc hf ty x=>
  run_copy_cells V _ _ ty (ρ.t 9) b (o+i) (n+m-i) x ⟨d,q,none⟩ m e vs L.t24 hsz (by rw[hvl];simp only[Nat.min_def];split<;>omega) (fun j v hj=>by rw[Addr.add_lit,hc,hW,World.cell?_setCells_out b _ _ _ _ (fun h _=>absurd h hd)];exact hvs j v hj) (fun j hj=>by rw[hc,cY];exact spW _ (by omega)) (fun j hj=>by rw[hf,hW,World.frozen?_setCells,cY];exact hfz _ (by omega)) h2
 rw[<-hW]at up
 go_enter L.f22,Body2.n22_ntmps ρ
 go_wp2_with (simp only[apart])
 go_region_law_o (refine step_copy_runI rfl _ _ (ρ.t 24) (ρ.t 24) rfl _ _ (by simp[Act.eval,Act.put]) (by simp[Act.eval,Act.put]) (up _ _ _) ?_)
 go_wp2_with (at_builtin;refine wpList_copy_runI _ rfl _ _ (ρ.t 24) (ρ.t 24) rfl _ _ rfl rfl (put _ (fun _=>rfl) (fun _=>rfl) _ _) ?_)
 go_ret
 first|exact⟨rfl,rfl⟩|exact⟨rfl,by rw[hW]⟩
end Go.Proofs
namespace Go.Proofs.YtopanhneegpgcaaGreatDoor.Am
open Go Go.Proofs Go.RowKit Go.Sort Go.Shelf
theorem setCells_at{b:Nat}{T:TypeId}{fz:Nat×Nat}:∀(vs:LV) (o:Nat) (w:World) (cs:LV),w.heap[b]? = some (.cells cs.toArray T fz)->o+vs.length<=cs.length ->(w.setCells b o vs).heap[b]? = some (.cells (lay cs o vs).toArray T fz)/\(∀i,i≠b->(w.setCells b o vs).heap[i]? = w.heap[i]?)/\(w.setCells b o vs).heap.size=w.heap.size/\(w.setCells b o vs).os=w.os/\(w.setCells b o vs).tape=w.tape/\(w.setCells b o vs).output=w.output
 |[],o,w,cs,h,_=>by
  have:lay cs o []=cs:=by cases cs<;>rfl
  rw[this];exact⟨h,fun _ _=>rfl,rfl,rfl,rfl,rfl⟩
 |v::vs,o,w,cs,h,hl=>by
  have hl:o+(vs.length+1)<=cs.length:=hl;obtain⟨h1,h2,h3,h4,h5,h6⟩:=setCells_at vs (o+1) (w.setCell ⟨b,o,none⟩ v) (cs.set o v) (ybF h) (by rw[bP];omega);refine⟨?_,fun i hi=>(h2 i hi).trans ?_,h3.trans ?_,h4,h5,h6⟩
  ·show((w.setCell ⟨b,o,none⟩ v).setCells b (o+1) vs).heap[b]? = _;rw[h1];congr 3;apply bD;intro j;rw[zcN,zcN,bP,List.getElem?_set];by_cases hj:o<=j/\j<o+(vs.length+1)
   ·rw[zI (show o<=j/\j<o+(v::vs).length/\j<cs.length from⟨hj.1,hj.2,by omega⟩)];by_cases hjo:o=j
    ·subst hjo;rw[zH (by omega),zI rfl,zI (by omega)];simp
    ·rw[zI (by omega),show j-o=(j-(o+1))+1 by omega,List.getElem?_cons_succ]
   ·rw[zH (show ¬(o<=j/\j<o+(v::vs).length/\j<cs.length)from fun h=>hj ⟨h.1,h.2.1⟩),zH (by omega),zH (by omega)]
  ·show(w.heap.modify b _)[i]? = _;rw[fD,zH (Ne.symm hi)]
  ·show(w.heap.modify b _).size=_;simp
theorem lay_end{cs vs rs:LV}(h:vs.length<=rs.length):lay (cs++rs) cs.length vs=cs++vs++rs.drop vs.length:=by
 apply bD;intro j;rw[zcN,aV];by_cases hj:j<cs.length
 ·rw[zH (by omega),aE hj,aE hj]
 ·by_cases hj2:j<cs.length+vs.length
  ·rw[zI ⟨by omega,hj2,by rw[aD];omega⟩,aF (by omega),aE (by omega)]
  ·rw[zH (by omega),aF (by omega),aF (by omega),aF (by omega),bJ];congr 1;omega
theorem lay_ins{cs vs rs:LV}{i:Nat}(hi:i<=cs.length)(h:vs.length<=rs.length):lay (lay (cs++rs) (i+vs.length) (cs.drop i)) i vs=cs.take i++vs++cs.drop i++rs.drop vs.length:=by
 apply bD;intro j;have hA:(cs.take i).length=i:=by rw[dS];omega
 have hB:(cs.drop i).length=cs.length-i:=bM;rw[zcN,zcN,zbN,aV,aV];by_cases h1:j<i
 ·rw[zH (by omega),zH (by omega),aE (by omega),aE (by omega),List.getElem?_take_of_lt h1]
 ·by_cases h2:j<i+vs.length
  ·rw[zI ⟨by omega,h2,by rw[aD];omega⟩,aF (by omega),aE (by omega)];congr 1;omega
  ·rw[zH (by omega)];by_cases h3:j<i+vs.length+(cs.length-i)
   ·rw[zI ⟨by omega,by omega,by rw[aD];omega⟩,aF (by omega),aF (by omega),aE (by omega)];congr 1;omega
   ·rw[zH (by omega),aF (by omega),aF (by omega),aF (by omega),aF (by omega),bJ];congr 1;omega
def insP(xs:List Bs)(i:Int)(vs:List Bs):Option (List Bs):=bif decide (0<=i)&&decide (i.toNat<=xs.length)&&decide (1<=vs.length)&&decide (xs.length+vs.length<=1048576)then some (xs.take i.toNat++vs++xs.drop i.toNat)else none
theorem yaH(l:List Bs):∀v∈l.map encStr,v.oneCell'=true:=fun v h=>by obtain⟨x,_,rfl⟩:=bF.1 h;rfl
section
variable {P:Program}{G:List (Nat×Obj)}{ρ:Ren}
theorem xfM{z:Value}(hz:z.cells.size=1)(n:Nat):(Builtin.zeroCells z.cells n).size=n:=by simp[Builtin.zeroCells,hz]
theorem xeB(L:Lays2.n22 P ρ)(hT:ρ.t 9≠yxK)(hfn:IsFn P (ρ.f 22)):
  SCok P G (ρ.f 22) ⟨⟨[(0,.own 0),(1,.h (.i .i64)),(2,.own 1)],[.osl .s (ρ.t 9),.osl .s (ρ.t 9)]⟩,1,[(none,⟨[(0,.own 2)],[.dead,.dead,.osl .s (ρ.t 9)]⟩)],fun(x:Int×List Bs×List Bs)=>insP x.2.1 x.1 x.2.2⟩:=by
 refine⟨hfn,fun S0 w0 us E0 L0 (x:Int×List Bs×List Bs) (d:List Bs) _ hul R hy=>?_⟩;obtain⟨i,xs,vs⟩:=x;have hy:insP xs i vs=some d:=hy;unfold insP at hy;obtain⟨hb,hy⟩:=zaG hy;cases hy;simp only[aH,zD]at hb;obtain⟨⟨⟨hi0,hin⟩,hm1⟩,hbig⟩:=hb;obtain⟨k,rfl⟩:=dY hi0;simp only[Int.toNat_natCast]at hin ⊢;have hul:us.length=3:=hul;obtain⟨u,ui,uv,rfl⟩:∃u ui uv,us=[u,ui,uv]:=by
  match us,hul with
  |[u,ui,uv],_=>exact⟨u,ui,uv,rfl⟩
 have hput:(Shp.put (⟨[(0,.own 0),(1,.h (.i .i64)),(2,.own 1)],[.osl .s (ρ.t 9),.osl .s (ρ.t 9)]⟩:Shp) (((k:Int),xs,vs):Int×List Bs×List Bs))=⟨[(0,.own 0 0),(1,.v (.i .i64) (k:Int)),(2,.own 1 0)],[.osl 0 .s (ρ.t 9) xs,.osl 0 .s (ρ.t 9) vs]⟩:=rfl;have R:RelV ⟨S0,zbD L0,w0⟩ S0 E0 L0 ⟨[(0,.own 0 0),(1,.v (.i .i64) (k:Int)),(2,.own 1 0)],[.osl 0 .s (ρ.t 9) xs,.osl 0 .s (ρ.t 9) vs]⟩ (fun t=>[u,ui,uv].getD t undef) w0:=by rw[<-hput];exact R
 obtain⟨r0,ee0,g1,g2,v,v',cs,rs,rfl,rfl,hrl,hsm⟩:=R.obj 0 _ rfl;obtain⟨r1,ee1,j1,j2,z,z',ds,qs,rfl,rfl,hrl2,hsm2⟩:=R.obj 1 _ rfl;obtain⟨_,e1',h8,h9⟩:=(show VB S0 E0 (.own 0 0) u from R.sl 0);rw[g2]at h8;cases h8;obtain rfl:u=v':=(h9 _ _ _ rfl).2 rfl;obtain⟨_,e2',h8',h9'⟩:=(show VB S0 E0 (.own 1 0) uv from R.sl 2);rw[j2]at h8';cases h8';obtain rfl:uv=z':=(h9' _ _ _ rfl).2 rfl;have hui:rep (.i .i64) S0 [ui] (k:Int):=R.sl 1;have hui:ui = .int .i64 (k:Int):=by have h:[ui]=[Value.int .i64 (k:Int)]:=hui;injection h
 subst hui;have hL:L0.length=2:=R.lL;have hE:E0.length=2:=R.lE;have hcs:=yeP hrl;have hds:=yeP hrl2;subst hcs;subst hds;have hk0:lkR L0 0=some (.osl v xs.length 1 (xs.map encStr) rs (ρ.t 9)):=by rw[zaW];exact g1
 have hk1:lkR L0 1=some (.osl z vs.length 1 (vs.map encStr) qs (ρ.t 9)):=by rw[zaW];exact j1
 have huz:z=uv:=(hsm2.eq (i:=0) (show 0<vs.length from hm1)).symm;subst huz;obtain⟨vb,vc,vfz,hz,a1,a2,a3,a4,a5⟩:∃b c fz,z=sl b 0 vs.length c/\vs.length<=c/\(vs.map encStr).length=vs.length*1/\c*1<=(vs.map encStr++qs).length/\w0.heap[b]? = some (.cells (vs.map encStr++qs).toArray (ρ.t 9) fz)/\okfz (ρ.t 9) fz (vs.map encStr++qs).length:=by
  rcases R.hs.own 1 _ hk1 with⟨_,h,_⟩|h
  ·omega
  ·exact h
 have hvs:∀j y,(vs.map encStr)[j]? = some y->w0.cell? ⟨vb,0+j,none⟩=some y:=fun j y hj=>by have hjl:=(aC.1 hj).1;rw[zcT a4,aU,aE hjl];exact hj
 -- a new own slice behind two that are gone
 have fin:∀{w':World} {u2:Value} {cs' rs':LV},HS ⟨S0,zbD L0,w0⟩ S0 w' [.osl (.slice none 0 0) 0 0 [] [] 0,.osl (.slice none 0 0) 0 0 [] [] 0,.osl u2 (xs.take k++vs++xs.drop k).length 1 cs' rs' (ρ.t 9)]->cs'=(xs.take k++vs++xs.drop k).map encStr->u2.oneCell'=true ->
   ∃v',Ending.returned u2 = .returned v'/\∃S' E' L' σo V',(∀{γ:Type} (k':Ex->St->Option γ),out [] [(none,(⟨[(0,.own 2)],[.dead,.dead,.osl .s (ρ.t 9)]⟩:Shp))] (xs.take k++vs++xs.drop k:List Bs) k'=k' .normal σo)/\Mem.le S0 S'/\Pin 2 E0 E'/\RelV ⟨S0,zbD L0,w0⟩ S' E' L' σo V' w'/\Ver0 σo.hp/\2<=σo.hp.length/\v'=zyB (zxD V' 0 1):=fun {w' u2 cs' rs'} H hc h1=>by
  subst hc;refine⟨u2,rfl,S0,[.dead,.dead,.osl 0 u2 1],_,⟨[(0,.own 2 0)],[.dead,.dead,.osl 0 .s (ρ.t 9) (xs.take k++vs++xs.drop k)]⟩,fun _=>u2,fun k=>rfl,Mem.le_refl _,fun k a hk ha=>?_,⟨H,rfl,rfl,fun i o h=>?_,fun t=>?_⟩,?_,by simp,rfl⟩
  ·rcases Nat.lt_or_ge k 1 with h|h
   ·obtain rfl:k=0:=by omega
    rw[g2]at ha;cases ha;exact⟨.dead,rfl,.inl ⟨_,_,_,rfl,.inl rfl⟩⟩
   ·obtain rfl:k=1:=by omega
    rw[j2]at ha;cases ha;exact⟨.dead,rfl,.inl ⟨_,_,_,rfl,.inl rfl⟩⟩
  ·match i with
   |0=>cases h;exact⟨_,_,rfl,rfl,rfl,rfl⟩
   |1=>cases h;exact⟨_,_,rfl,rfl,rfl,rfl⟩
   |2=>cases h;exact⟨_,_,rfl,rfl,u2,u2,_,rs',rfl,rfl,yeU _,.inl rfl⟩
   |i+3=>simp at h
  ·cases t with
   |zero=>exact VR.ofC (show VC S0 _ (.own 2 0) u2 from⟨h1,_,rfl,fun r v' s he=>by cases he;exact⟨aK 0,fun _=>rfl⟩⟩)|succ t=>trivial
  ·intro i ver e' T' xs' hi
   match i with
   |0=>cases hi
   |1=>cases hi
   |2=>cases hi;rfl
   |i+3=>simp at hi
 obtain⟨q0,q1,hL2⟩:∃q0 q1,L0=[q0,q1]:=by
  match L0,hL with
  |[q0,q1],_=>exact⟨q0,q1,rfl⟩
 have hq0:q0 = .osl v xs.length 1 (xs.map encStr) rs (ρ.t 9):=by rw[hL2]at g1;exact Option.some.inj g1
 have hq1:q1 = .osl z vs.length 1 (vs.map encStr) qs (ρ.t 9):=by rw[hL2]at j1;exact Option.some.inj j1
 have deadI:∀{w:World} {A:List Res} {r:Res},HS ⟨S0,zbD L0,w0⟩ S0 w (r::A)->HS ⟨S0,zbD L0,w0⟩ S0 w A:=fun {w A r} H=>H.rm 0;have fresh:∀{w':World} {cs' rs':LV} {cap:Nat},Ext w0 w'->w'.heap[w0.heap.size]? = some (.cells (cs'++rs').toArray (ρ.t 9) (0,0))->cs'.length=(xs.take k++vs++xs.drop k).length->cs'=(xs.take k++vs++xs.drop k).map encStr->(xs.take k++vs++xs.drop k).length<=cap->cap<=(cs'++rs').length ->
   ∃v',Ending.returned (sl w0.heap.size 0 (xs.take k++vs++xs.drop k).length cap) = .returned v'/\∃S' E' L' σo V',(∀{γ:Type} (k':Ex->St->Option γ),out [] [(none,(⟨[(0,.own 2)],[.dead,.dead,.osl .s (ρ.t 9)]⟩:Shp))] (xs.take k++vs++xs.drop k:List Bs) k'=k' .normal σo)/\Mem.le S0 S'/\Pin 2 E0 E'/\RelV ⟨S0,zbD L0,w0⟩ S' E' L' σo V' w'/\Ver0 σo.hp/\2<=σo.hp.length/\v'=zyB (zxD V' 0 1):=fun {w' cs' rs' cap} hx hh hl hc h1 h2=>by
  have H1:HS ⟨S0,zbD L0,w0⟩ S0 w0 []:=by have:=R.hs;rw[hL2]at this;have h3:=HS.rm (HS.rm this 0) 0;rw[hL2];exact h3
  have H2:=H1.push hx (r:=.osl (sl w0.heap.size 0 (xs.take k++vs++xs.drop k).length cap) (xs.take k++vs++xs.drop k).length 1 cs' rs' (ρ.t 9)) (.inr ⟨w0.heap.size,cap,(0,0),rfl,h1,by rw[hl,cV],by rw[cV];exact h2,hh,.inl rfl⟩) fun b hb=>by cases hb;exact aK _
  exact fin (HS.nilOwn (HS.nilOwn H2 0 0) 0 0) hc rfl
 have hlen:(xs.take k++vs++xs.drop k).length=xs.length+vs.length:=by simp only[aD,dS,bM];omega
 have hmap:(xs.take k++vs++xs.drop k).map encStr=(xs.map encStr).take k++vs.map encStr++(xs.map encStr).drop k:=by rw[cN,cN,List.map_take,List.map_drop]
 have hz1:∀n,(Builtin.zeroCells (Value.string ⟨#[]⟩).cells n).toList.length=n:=fun n=>by simpa using xfM (z:=Value.string ⟨#[]⟩) rfl n
 -- at the end, no room
 have endGrow:∀(base:Option Addr) (c:Nat),u = .slice base xs.length c->xs.length<=c->c<xs.length+vs.length->k=xs.length->(base=none->xs.length=0)->(∀a,base=some a->∀j y,(xs.map encStr)[j]? = some y->w0.cell? (a.add j)=some y) ->
   Calls P (ρ.f 22) [u,.int .i64 (k:Int),z].toArray w0 fun e w'=>∃v,e = .returned v/\∃S' E' L' σo V',(∀{γ:Type} (k':Ex->St->Option γ),out [] [(none,(⟨[(0,.own 2)],[.dead,.dead,.osl .s (ρ.t 9)]⟩:Shp))] (xs.take k++vs++xs.drop k:List Bs) k'=k' .normal σo)/\Mem.le S0 S'/\Pin 2 E0 E'/\RelV ⟨S0,zbD L0,w0⟩ S' E' L' σo V' w'/\Ver0 σo.hp/\2<=σo.hp.length/\v=zyB (zxD V' 0 1):=fun base c hu hc1 hc2 hk hnil hcell=>by
  subst hk;rw[hu,hz];refine(Any2.slices_Insert_string_end_grow L base xs.length c vb 0 vs.length vc (xs.map encStr) (vs.map encStr) w0 hm1 hc1 hc2 (by omega) (by simp) (by simp) hnil hcell hvs (yaH vs)).mono ?_;rintro e w' ⟨rfl,rfl⟩;have hge:=grownCap_ge w0 (xs.length+vs.length) c (ρ.t 9);have ht:xs.take xs.length++vs++xs.drop xs.length=xs++vs:=by rw[List.take_length,List.drop_length,bQ]
  have:=fresh (w':=w0.drew.alloc (.cells ((xs.map encStr++vs.map encStr).toArray++Builtin.zeroCells (Value.string ⟨#[]⟩).cells (grownCap w0 (xs.length+vs.length) c (ρ.t 9)-(xs.length+vs.length))) (ρ.t 9))) (cs':=xs.map encStr++vs.map encStr) (rs':=(Builtin.zeroCells (Value.string ⟨#[]⟩).cells (grownCap w0 (xs.length+vs.length) c (ρ.t 9)-(xs.length+vs.length))).toList) (cap:=grownCap w0 (xs.length+vs.length) c (ρ.t 9)) (Ext.trans (Ext.drew w0) (Ext.alloc w0.drew _)) (by
   have h1:=zaL w0.drew (.cells ((xs.map encStr++vs.map encStr).toArray++Builtin.zeroCells (Value.string ⟨#[]⟩).cells (grownCap w0 (xs.length+vs.length) c (ρ.t 9)-(xs.length+vs.length))) (ρ.t 9));rw[show(w0.drew).heap.size=w0.heap.size from rfl]at h1;rw[h1];congr 2
   apply cZ;simp) (by rw[hlen];simp) (by rw[ht,cN]) (by rw[hlen];exact hge) (by rw[aD,hz1,aD,aI,aI];omega)
  rw[hlen]at this;exact this
 rcases R.hs.own 0 _ hk0 with⟨hv,hn,_,_⟩|⟨b,c,fz,hv,b1,b2,b3,b4,b5⟩
 ·-- nothing is in it
  have hx:xs=[]:=aT hn;obtain⟨a,hu⟩:∃a,u = .slice a 0 0:=by
   rcases hsm with h|⟨_,_,_,a,h⟩
   ·exact⟨none,by rw[h,hv]⟩
   ·exact⟨a,h⟩
  exact endGrow a 0 (by rw[hu,hn]) (by omega) (by omega) (by omega) (fun _=>hn) (fun a _ j y hj=>by rw[hx]at hj;simp at hj)
 ·have hu:u=sl b 0 xs.length c:=by
   rcases hsm with h|⟨h,_⟩
   ·rw[h,hv]
   ·rw[hv]at h;cases h
  have hbne:vb≠b:=fun e=>by have:=R.hs.inj 0 1 _ _ b hk0 hk1 (by rw[hv];rfl) (by rw[hz,e];rfl);omega
  have hcell:∀j y,(xs.map encStr)[j]? = some y->w0.cell? ⟨b,0+j,none⟩=some y:=fun j y hj=>by have hjl:=(aC.1 hj).1;rw[zcT b4,aU,aE hjl];exact hj
  have hblen:(xs.map encStr++rs).length=xs.length+rs.length:=by rw[aD,aI]
  rw[cV]at b3;have spare:∀j,j<c->(w0.cell? ⟨b,j,none⟩).isSome=true/\w0.frozen? ⟨b,j,none⟩=false:=fun j hj=>by refine⟨?_,yhW b4 b5 (by omega)⟩;rw[zcT b4,aJ (by omega)];rfl
  have inpl:∀{w':World},xs.length+vs.length<=c->w'.heap[b]? = some (.cells ((xs.map encStr).take k++vs.map encStr++(xs.map encStr).drop k++rs.drop vs.length).toArray (ρ.t 9) fz)->(∀i,i≠b->w'.heap[i]? = w0.heap[i]?)->w'.heap.size=w0.heap.size->w'.os=w0.os->w'.tape=w0.tape->w'.output=w0.output ->
    ∃v',Ending.returned (sl b 0 (xs.length+vs.length) c) = .returned v'/\∃S' E' L' σo V',(∀{γ:Type} (k':Ex->St->Option γ),out [] [(none,(⟨[(0,.own 2)],[.dead,.dead,.osl .s (ρ.t 9)]⟩:Shp))] (xs.take k++vs++xs.drop k:List Bs) k'=k' .normal σo)/\Mem.le S0 S'/\Pin 2 E0 E'/\RelV ⟨S0,zbD L0,w0⟩ S' E' L' σo V' w'/\Ver0 σo.hp/\2<=σo.hp.length/\v'=zyB (zxD V' 0 1):=fun {w'} hroom hnew hoth hsz hos htp hop=>by
   have hl2:((xs.map encStr).take k++vs.map encStr++(xs.map encStr).drop k++rs.drop vs.length).length=(xs.map encStr++rs).length:=by simp only[aD,dS,bM,aI];omega
   have H1:HS ⟨S0,zbD L0,w0⟩ S0 w0 [.osl (sl b 0 xs.length c) xs.length 1 (xs.map encStr) rs (ρ.t 9)]:=by have h2:=R.hs;rw[hL2,hq0,hv]at h2;have h3:=HS.rm h2 1;rw[hL2,hq0,hv];exact h3
   have H2:=HS.upd H1 (k:=0) (w':=w') (r:=.osl (sl b 0 xs.length c) xs.length 1 (xs.map encStr) rs (ρ.t 9)) (r':=.osl (sl b 0 (xs.length+vs.length) c) (xs.length+vs.length) 1 ((xs.map encStr).take k++vs.map encStr++(xs.map encStr).drop k) (rs.drop vs.length) (ρ.t 9)) rfl (by omega) hos htp hop (fun i _ hne=>hoth i fun e=>hne (by rw[e];rfl)) (.inr ⟨b,c,fz,rfl,hroom,by simp only[aD,dS,bM,aI];omega,by rw[hl2,cV];exact b3,hnew,by rw[hl2];exact b5⟩) fun b' hb'=>.inl hb';have H3:HS ⟨S0,zbD L0,w0⟩ S0 w' [.osl (sl b 0 (xs.length+vs.length) c) (xs.take k++vs++xs.drop k).length 1 ((xs.map encStr).take k++vs.map encStr++(xs.map encStr).drop k) (rs.drop vs.length) (ρ.t 9)]:=by rw[hlen];exact H2
   exact fin (HS.nilOwn (HS.nilOwn H3 0 0) 0 0) hmap.symm rfl
  by_cases hkn:k=xs.length
  ·by_cases hroom:xs.length+vs.length<=c
   ·have hk:=hkn;rw[hu,hz];subst hkn;refine(YtopanhneegpgcaaGreatDoor.insEnd L b 0 xs.length c vb 0 vs.length vc (vs.map encStr) w0 hm1 hroom hbig (by simp) (fun j hj=>by rw[aU];exact(spare _ (by omega)).1) (fun j hj=>by rw[aU];exact(spare _ (by omega)).2) hvs (yaH vs)).mono ?_;rintro e w' ⟨rfl,rfl⟩;rw[aU];obtain⟨s1,s2,s3,s4,s5,s6⟩:=setCells_at (vs.map encStr) xs.length w0 _ b4 (by rw[aI];omega);refine inpl hroom ?_ s2 s3 s4 s5 s6;rw[s1];have h1:=lay_end (cs:=xs.map encStr) (vs:=vs.map encStr) (rs:=rs) (by rw[aI];omega);rw[aI,aI]at h1;have e1:(xs.map encStr).take xs.length=xs.map encStr:=List.take_of_length_le (by rw[aI];omega);have e2:(xs.map encStr).drop xs.length=[]:=List.drop_eq_nil_of_le (by rw[aI];omega);rw[h1,e1,e2,bQ]
   ·exact endGrow (some ⟨b,0,none⟩) c hu b1 (by omega) hkn (fun h=>by cases h) (fun a ha j y hj=>by cases ha;rw[zbY];exact hcell j y hj)
  ·have hk:k<xs.length:=by omega
   rw[hu,hz];by_cases hroom:xs.length+vs.length<=c
   ·refine (YtopanhneegpgcaaGreatDoor.insMid L b 0 xs.length c k vb 0 vs.length vc (xs.map encStr) (vs.map encStr) w0 hk hm1 hroom hbig hbne (by simp) (by simp) hcell (fun j hj => by rw [Nat.zero_add]; exact (spare _ (by omega)).1) (fun j hj => by rw [Nat.zero_add]; exact (spare _ (by omega)).2) hvs (yaH xs) (yaH vs) (ρ.t 9) (ρ.t 9) (vs.map encStr ++ qs).length (xs.map encStr ++ rs).length (by simp [World.shape?, a4]) (by simp [World.shape?, b4]) (by omega) (yhW a4 a5 (by rw [List.length_append, List.length_map]; omega)) (by
        unfold World.frozen?;simp only[a4];rcases a5 with h|⟨_,h⟩
        ·rw[h];simp
        ·exact absurd h hT)).mono ?_
    rintro e w' ⟨rfl,rfl⟩;rw[aU,aU];obtain⟨s1,s2,s3,s4,s5,s6⟩:=setCells_at ((xs.map encStr).drop k) (k+vs.length) w0.drew _ b4 (by rw[bM,aI];omega);obtain⟨t1,t2,t3,t4,t5,t6⟩:=setCells_at (vs.map encStr) k (w0.drew.setCells b (k+vs.length) ((xs.map encStr).drop k)) _ s1 (by rw[zbN,aI];omega);refine inpl hroom ?_ (fun i hi=>(t2 i hi).trans (s2 i hi)) (t3.trans s3) (t4.trans s4) (t5.trans s5) (t6.trans s6);rw[t1];have h1:=lay_ins (cs:=xs.map encStr) (vs:=vs.map encStr) (rs:=rs) (i:=k) (by rw[aI];omega) (by rw[aI];omega);rw[aI]at h1;rw[h1]
   ·refine(Any2.slices_Insert_string_grow L b 0 xs.length c k vb 0 vs.length vc (xs.map encStr) (vs.map encStr) w0 hk hm1 b1 (by omega) (by omega) (by simp) (by simp) hcell hvs (yaH xs) (yaH vs)).mono ?_;rintro e w' ⟨rfl,rfl⟩;have hge:=grownCap_ge w0 (xs.length+vs.length) c (ρ.t 9);generalize hG:grownCap w0 (xs.length+vs.length) c (ρ.t 9)=GC at hge;have hA0:=zaL w0 (.cells (((xs.map encStr).take k).toArray++Builtin.zeroCells (Value.string ⟨#[]⟩).cells (xs.length+vs.length-k)++Builtin.zeroCells (Value.string ⟨#[]⟩).cells (GC-(xs.length+vs.length))) (ρ.t 9));have hA:(w0.alloc (.cells (((xs.map encStr).take k).toArray++Builtin.zeroCells (Value.string ⟨#[]⟩).cells (xs.length+vs.length-k)++Builtin.zeroCells (Value.string ⟨#[]⟩).cells (GC-(xs.length+vs.length))) (ρ.t 9))).drew.heap[w0.heap.size]? = some (.cells ((xs.map encStr).take k++(Builtin.zeroCells (Value.string ⟨#[]⟩).cells (xs.length+vs.length-k)).toList++(Builtin.zeroCells (Value.string ⟨#[]⟩).cells (GC-(xs.length+vs.length))).toList).toArray (ρ.t 9) (0,0)):=by refine Eq.trans hA0 ?_;congr 2;apply cZ;simp
    have e1:=Ext.trans (Ext.alloc w0 (.cells (((xs.map encStr).take k).toArray++Builtin.zeroCells (Value.string ⟨#[]⟩).cells (xs.length+vs.length-k)++Builtin.zeroCells (Value.string ⟨#[]⟩).cells (GC-(xs.length+vs.length))) (ρ.t 9))) (Ext.drew _);generalize (w0.alloc (.cells (((xs.map encStr).take k).toArray++Builtin.zeroCells (Value.string ⟨#[]⟩).cells (xs.length+vs.length-k)++Builtin.zeroCells (Value.string ⟨#[]⟩).cells (GC-(xs.length+vs.length))) (ρ.t 9))).drew=W1 at hA e1 ⊢;have hZ1:=hz1 (xs.length+vs.length-k);have hZ2:=hz1 (GC-(xs.length+vs.length));generalize (Builtin.zeroCells (Value.string ⟨#[]⟩).cells (xs.length+vs.length-k)).toList=Z1 at hA hZ1;generalize (Builtin.zeroCells (Value.string ⟨#[]⟩).cells (GC-(xs.length+vs.length))).toList=Z2 at hA hZ2;have hTk:((xs.map encStr).take k).length=k:=by rw[dS,aI];omega
    obtain⟨s1,s2,s3,s4,s5,s6⟩:=setCells_at (vs.map encStr) k W1 _ hA (by simp only[aD,hTk,hZ1,hZ2,aI];omega);obtain⟨t1,t2,t3,t4,t5,t6⟩:=setCells_at ((xs.map encStr).drop k) (k+vs.length) (W1.setCells w0.heap.size k (vs.map encStr)).drew _ s1 (by rw[zbN];simp only[aD,hTk,hZ1,hZ2,bM,aI];omega);have hx:Ext w0 ((W1.setCells w0.heap.size k (vs.map encStr)).drew.setCells w0.heap.size (k+vs.length) ((xs.map encStr).drop k)):=by
     refine⟨t4.trans (s4.trans e1.os),t5.trans (s5.trans e1.tape),t6.trans (s6.trans e1.output),?_,fun j hj=>?_⟩
     ·rw[t3];exact Nat.le_trans e1.size (Nat.le_of_eq s3.symm)
     ·rw[t2 j (by omega)];exact(s2 j (by omega)).trans (e1.block j hj)
    have:=fresh (cs':=(xs.map encStr).take k++vs.map encStr++(xs.map encStr).drop k) (rs':=Z2) (cap:=GC) hx (by
     rw[t1];congr 3;apply bD;intro j;rw[zcN,zcN,zbN,aI];simp only[aD,hTk,hZ1,hZ2,bM,aI];by_cases h1:j<k
     ·rw[zH (by omega),zH (by omega)];rw[aV,aV,aV,aE (by omega),aE (by omega)]
     ·by_cases h2:j<k+vs.length
      ·rw[zH (by omega),zI ⟨by omega,h2,by omega⟩,aV,aV,aF (by omega),hTk,aE (by rw[aI];omega)]
      ·by_cases h3:j<xs.length+vs.length
       ·rw[zI ⟨by omega,by omega,by omega⟩,aV,aV,aF (by omega),hTk,aF (by rw[aI];omega),aI,aE (by rw[bM,aI];omega)];congr 1;omega
       ·rw[zH (by omega),zH (by omega),aF (by rw[aD,hTk,hZ1];omega),aD,hTk,hZ1,aF (by simp only[aD,hTk,bM,aI];omega)];congr 1
        simp only[aD,hTk,bM,aI];omega) (by rw[<-hmap,aI]) hmap.symm (by rw[hlen];exact hge) (by simp only[aD,hTk,hZ2,bM,aI];omega)
    rw[hlen]at this;exact this
end
end Go.Proofs.YtopanhneegpgcaaGreatDoor.Am
namespace Go.Proofs
open Go.Shelf
def Tryz.insS_ren:Go.Shelf.Ren:=⟨fun|22=>261|29=>302|30=>303|36=>329|17=>340|n=>n,fun|24=>22|9=>9|3=>3|4=>4|0=>0|n=>n,fun|n=>n⟩
theorem Tryz.insS:Go.Proofs.Lays2.n22 aB Tryz.insS_ren:={mixed:=by kernel_rfl,f17:=kqz Tryz.func340 (by kernel_rfl),f22:=kqz Tryz.func261 (by kernel_rfl),f29:=kqz Tryz.func302 (by kernel_rfl),f30:=kqz Tryz.func303 (by kernel_rfl),f36:=kqz Tryz.func329 (by kernel_rfl),t0:=Tryz.underlying0,a0:=Tryz.isAgg0,z0:=Tryz.sizeOf0,v0:=Tryz.zeroValue0,t3:=Tryz.underlying3,a3:=Tryz.isAgg3,z3:=Tryz.sizeOf3,v3:=Tryz.zeroValue3,t4:=Tryz.underlying4,a4:=Tryz.isAgg4,z4:=Tryz.sizeOf4,v4:=Tryz.zeroValue4,t9:=Tryz.underlying9,a9:=Tryz.isAgg9,z9:=Tryz.sizeOf9,v9:=Tryz.zeroValue9,t24:=Tryz.underlying22,a24:=Tryz.isAgg22,z24:=Tryz.sizeOf22,v24:=Tryz.zeroValue22,i9:=by kernel_rfl }
end Go.Proofs
namespace Go.Proofs.YtopanhneegpgcaaGreatDoor.Am
open Go Go.Proofs Go.RowKit Go.Sort
section
variable {G:List (Nat×Obj)}
def yuM(a b:Bs):Option Int:=some (Lib.compareBytes a b)
def ycF:PC:=⟨[.h .s,.h .s],[.i .i64],fun x=>yuM x.1 x.2,false⟩
theorem ycE:PCok aB G 90 ycF:=pc2 (t1:=.s) (t2:=.s) (rts:=[.i .i64]) rfl rfl rfl (isFn Tryz.func90 (by kernel_rfl) (by kernel_rfl)) fun S w x1 x2 y _ _ h=>by cases h;refine(Tryz.strings_Compare ⟨x1.toArray⟩ ⟨x2.toArray⟩ w).mono ?_;rintro e w' ⟨rfl,rfl⟩;exact⟨rfl,Ext.refl _⟩
def xdY(xs:List Bs):Option (List Bs):=bif decide (xs.length<1152921504606846976)then some (yiT xs)else none
def yhR(xs:List Bs):Option (List Bs):=bif decide (xs.length<1152921504606846976)then some (Lib.compact xs)else none
def insTP(x:Int×List Bs×List Bs):Option (List Bs):=insP x.2.1 x.1 x.2.2
theorem insK:SCok aB G 261 ⟨⟨[(0,.own 0),(1,.h (.i .i64)),(2,.own 1)],[.osl .s 9,.osl .s 9]⟩,1,[(none,⟨[(0,.own 2)],[.dead,.dead,.osl .s 9]⟩)],insTP⟩:=
 xeB Tryz.insS (by decide) (isFn Tryz.func261 (by kernel_rfl) (by kernel_rfl))
theorem sortK:SCok aB G 102 ⟨⟨[(0,.own 0)],[.osl .s 9]⟩,0,[(none,⟨[],[.osl .s 9]⟩)],xdY⟩:=
 sort_sc (isFn Tryz.func102 (by kernel_rfl) (by kernel_rfl)) (fun a c w=>Tryz.slices_Sort_string_none a c w) fun b c l w h1 h2 h3=>Tryz.slices_Sort_string b 0 c l w h1 h2 h3
theorem compactK:SCok aB G 103 ⟨⟨[(0,.own 0)],[.osl .s 9]⟩,1,[(none,⟨[(0,.h (.sl .s))],[.dead]⟩)],yhR⟩:=
 ywM (cp:=fun l=>@Lib.compact Bs _ _ l) (isFn Tryz.func103 (by kernel_rfl) (by kernel_rfl)) (fun l=>@Lib.compact_length_le Bs _ _ l) rfl (fun a c w=>Tryz.slices_Compact_string_empty a c w) fun b c l w h1 h2 h3=>Tryz.slices_Compact_string b 0 c l w h1 h2 h3
end
end Go.Proofs.YtopanhneegpgcaaGreatDoor.Am
namespace Go.Proofs.YtopanhneegpgcaaGreatDoor.Am
open Go Go.Proofs Go.RowKit Go.Sort Go.Shelf
def enc2(x:Bs×Bs):LV:=[str x.1,str x.2]
theorem ynE(x:Bs×Bs):(enc2 x).length=2:=rfl
theorem ylR(x:Bs×Bs):∀v∈enc2 x,v.oneCell'=true:=fun v h=>by simp[enc2]at h;rcases h with rfl|rfl<;>rfl
theorem yyL:∀(ds:List (Bs×Bs)) (t:Nat),t<ds.length*2->(ds.flatMap enc2)[t]? = some ((enc2 ds[t/2]!)[t%2]!)
 |[],t,h=>by simp at h
 |x::ds,0,_=>rfl|x::ds,1,_=>rfl|x::ds,t+2,h=>by
  have h':t<ds.length*2:=by simp at h;omega
  have:=yyL ds t h';rw[show(t+2)/2=t/2+1 by omega,show(t+2)%2=t%2 by omega];simpa[enc2]using this
theorem zmW(ds:List (Bs×Bs)):(ds.flatMap enc2).length=ds.length*2:=by
 induction ds with
 |nil=>rfl|cons x ds ih=>simp only[List.flatMap_cons,aD,ih,ynE,List.length_cons];omega
theorem ycP(ds:List (Bs×Bs)):flatK enc2 2 ds.toArray=(ds.flatMap enc2).toArray:=by
 have hs:(flatK enc2 2 ds.toArray).size=ds.length*2:=by rw[size_flatK];simp
 refine Array.ext (by rw[hs];simp only[dD,zmW]) fun t h1 h2=>?_;have h:t<ds.length*2:=by rw[<-hs];exact h1
 have g1:=get_flatK enc2 2 ds.toArray t (by simpa using h);rw[getElem!_pos _ t h1]at g1;have g2:=yyL ds t h;rw[aJ (by rw[zmW];exact h)]at g2;rw[g1,List.getElem_toArray,Option.some.inj g2];have g3:ds.toArray[t/2]! = ds[t/2]!:=by rw[getElem!_def,getElem!_def];simp
 rw[g3]
abbrev T2:Ty:=.pr .s .s
theorem prs_of{S0:Mem}:∀{l:List (Bs×Bs)} {cs:LV},@RL (den T2) (rpD T2) S0 cs l->cs=l.flatMap enc2
 |[],_,h=>h|x::l,_,h=>by obtain⟨c,d,h1,h2,h3⟩:=h;obtain⟨c1,c2,h4,h5,h6⟩:=h2;have h5:c1=[str x.1]:=h5;have h6:c2=[str x.2]:=h6;rw[h1,h4,h5,h6,prs_of h3];rfl
theorem xeX{S0:Mem}:∀(l:List (Bs×Bs)),@RL (den T2) (rpD T2) S0 (l.flatMap enc2) l
 |[]=>rfl|x::l=>⟨enc2 x,l.flatMap enc2,rfl,⟨[str x.1],[str x.2],rfl,rfl,rfl⟩,xeX l⟩
def nodupB:List Bs->Bool
 |[]=>true|x::l=>!(l.any fun y=>y==x)&&nodupB l
theorem ypH:∀{l:List Bs},nodupB l=true->l.Nodup
 |[],_=>.nil|x::l,h=>by unfold nodupB at h;rw[aH,bE]at h;refine dM.2 ⟨fun hm=>?_,ypH h.2⟩;have:=List.any_eq_false.1 h.1 x hm;simp at this
def yfL(xs:List (Bs×Bs)):List (Bs×Bs):=ywY (fun x y=>leS x.1 y.1) xs
def yeX(xs:List (Bs×Bs)):Option (List (Bs×Bs)):=bif nodupB (xs.map (·.1))&&decide (xs.length<1152921504606846976)then some (yfL xs)else none
section
variable {P:Program}{G:List (Nat×Obj)}{ρ:Ren}
theorem sortR_of{xs:List (Bs×Bs)}{d:Array (Bs×Bs)}{cf:Bs×Bs->Bs×Bs->Int}(hcf:∀x y,ltOf cf x y=Op.bytesLess x.1 y.1)(hn:(xs.map (·.1)).Nodup)(hp:PermIn 0 xs.toArray.size xs.toArray d)(hs:SortedIn (ltOf cf) 0 xs.toArray.size d):d.toList=yfL xs:=by
 obtain⟨h1,_,h2⟩:=hp;have hp2:d.toList.Perm xs:=by
  have e1:d.extract 0 xs.toArray.size=d:=by rw[<-h1];simp
  have e2:xs.toArray.extract 0 xs.toArray.size=xs.toArray:=by simp
  rw[e1,e2]at h2;simpa using h2
 refine zvV (R:=fun x y=>leS x.1 y.1=true) (fun a ha b hb h k=>?_) (hp2.trans (zgN _ xs).symm) ?_ (zjE (fun a b=>yoS a.1 b.1) (fun a b c=>yoR a.1 b.1 c.1) xs)
 ·have hab:a.1=b.1:=fI (ydP.1 h) (ydP.1 k);exact nodup_fst hn (hp2.mem_iff.1 ha) (hp2.mem_iff.1 hb) hab
 ·rw[List.pairwise_iff_getElem];intro i j hi hj hij;have hi':i<d.size:=by simpa using hi
  have hj':j<d.size:=by simpa using hj
  have h3:=hs i j (bS _) hij (by rw[<-h1];exact hj');rw[hcf,getElem!_pos d j hj',getElem!_pos d i hi']at h3;show leS _ _=true;unfold leS;simp only[Array.getElem_toList];rw[h3];rfl
where nodup_fst:∀{xs:List (Bs×Bs)},(xs.map (·.1)).Nodup->∀{a b:Bs×Bs},a∈xs->b∈xs->a.1=b.1->a=b
 |[],_,_,_,h,_,_=>by cases h
 |x::xs,hn,a,b,ha,hb,he=>by
  have hn:=dM.1 hn;rcases aL.1 ha with rfl|ha2
  ·rcases aL.1 hb with rfl|hb2
   ·rfl
   ·exact(hn.1 (bF.2 ⟨b,hb2,he.symm⟩)).elim
  ·rcases aL.1 hb with rfl|hb2
   ·exact(hn.1 (bF.2 ⟨a,ha2,he⟩)).elim
   ·exact nodup_fst hn.2 ha2 hb2 he
theorem yuK:∀(x y:Bs),decide (Lib.compareBytes x y<0)=decide (x<y)
 |[],[]=>by simp[Lib.compareBytes]
 |[],_::_=>by simp[Lib.compareBytes]
 |_::_,[]=>by simp[Lib.compareBytes]
 |a::x,b::y=>by
  refine decide_eq_decide.2 ?_;have h4:=decide_eq_decide.1 (yuK x y);have h5:Lib.compareBytes (a::x) (b::y)=if a<b then -1 else if b<a then 1 else Lib.compareBytes x y:=by rw[Lib.compareBytes]
  rw[List.cons_lt_cons_iff,<-h4,h5];by_cases h1:a<b
  ·simp[h1]
  ·by_cases h2:b<a
   ·have h3:¬a=b:=fun e=>by subst e;exact h1 h2
    simp[h1,h2,h3]
   ·have h3:a=b:=UInt8.le_antisymm (UInt8.not_lt.1 h2) (UInt8.not_lt.1 h1);rw[zH h1,zH h2];exact⟨fun h=>.inr ⟨h3,h⟩,fun h=>h.elim (fun h=>absurd h h1) fun h=>h.2⟩
theorem yuV(x y:Bs×Bs):ltOf (fun x y:Bs×Bs=>Lib.compareBytes x.1 y.1) x y=Op.bytesLess x.1 y.1:=by unfold ltOf;rw[bytesLess_eq];exact yuK x.1 y.1
theorem swo_cmp:SWO (ltOf fun x y:Bs×Bs=>Lib.compareBytes x.1 y.1) where
 irrefl x:=by rw[yuV,bytesLess_eq];simp[List.lt_irrefl]
 trans x y z h1 h2:=by rw[yuV,bytesLess_eq,zD]at *;exact List.lt_trans h1 h2
 ntrans x y z h1 h2:=by rw[yuV,bytesLess_eq,decide_eq_false_iff_not]at *;rw[fE]at *;exact gU h2 h1
theorem sortF_sc{f g:FuncId}{T:TypeId}(hfn:IsFn P f) (h0:∀(a:Option Addr) (c:Nat) (w:World),Calls P f #[.slice a 0 c,.func (.func g) #[] #[]] w fun x w'=>x = .returned (.tuple #[])/\w'=w) (h1:∀(b c:Nat) (d:Array (Bs×Bs)) (w:World),HoldsK enc2 2 w b 0 d->b<w.heap.size->d.size<4611686018427387904->Calls P f #[.slice (some ⟨b,0,none⟩) d.size c,.func (.func g) #[] #[]] w fun x w'=>x = .returned (.tuple #[])/\∃d' n os,PermIn 0 d.size d d'/\SortedIn (ltOf fun x y:Bs×Bs=>Lib.compareBytes x.1 y.1) 0 d.size d'/\w'=sortWorldK enc2 2 w b 0 n d' os):
  SCok P G f ⟨⟨[(0,.own 0),(1,.fn g [] [])],[.osl T2 T]⟩,0,[(none,⟨[],[.osl T2 T]⟩)],fun(xs:List (Bs×Bs))=>yeX xs⟩:=by
 refine⟨hfn,fun S0 w0 us E0 L0 (xs:List (Bs×Bs)) (d:List (Bs×Bs)) _ hul R hy=>?_⟩;have hy:yeX xs=some d:=hy;unfold yeX at hy;obtain⟨hb,hy⟩:=zaG hy;have hnd:=ypH (zaR hb);have hlt:=zC (zaV hb);have hd:yfL xs=d:=Option.some.inj hy;subst hd;have hul:us.length=2:=hul;obtain⟨u,uf,rfl⟩:∃u uf,us=[u,uf]:=by
  match us,hul with
  |[u,uf],_=>exact⟨u,uf,rfl⟩
 have hput:(Shp.put (⟨[(0,.own 0),(1,.fn g [] [])],[.osl T2 T]⟩:Shp) xs)=⟨[(0,.own 0 0),(1,.fn g [] [])],[.osl 0 T2 T xs]⟩:=rfl;have R:RelV ⟨S0,zbD L0,w0⟩ S0 E0 L0 ⟨[(0,.own 0 0),(1,.fn g [] [])],[.osl 0 T2 T xs]⟩ (fun t=>[u,uf].getD t undef) w0:=by rw[<-hput];exact R
 obtain⟨x1,y1,huf,q1,q2⟩:=(show VC S0 E0 (.fn g [] []) uf from R.sl 1);cases q1;cases q2;have huf:uf = .func (.func g) #[] #[]:=huf;subst huf;obtain⟨v,cs,rs,hL,hE,hrl,hsm,ho,hc⟩:=ymU R;have hsl:(yfL xs).length=xs.length:=(zgN _ xs).length_eq;have hcs:=prs_of hrl;have H:=R.hs;rcases hc with⟨hx,a,c,hu⟩|⟨b,c,fz,hu,hv,k1,k2,k3,k4,k5⟩
 ·have hu:u = .slice a 0 c:=hu;have hso:yfL xs=[]:=by rw[hx];rfl
  rw[hu];refine(h0 a c w0).mono ?_;rintro x w' ⟨rfl,rfl⟩;refine⟨_,rfl,?_⟩;rw[hso];rw[hx]at hrl hsm hL;exact ygH (e:=T2) (ys:=[]) (by rw[hL]at H ⊢;exact H) hE hrl hsm
 ·have hu:u=sl b 0 xs.length c:=hu;subst hcs;have hb:b<w0.heap.size:=(aR.1 k4).1;rw[hu];have hh:HoldsK enc2 2 w0 b 0 xs.toArray:=by
   unfold HoldsK;rw[ycP];have k4':w0.heap[b]? = some (.cells ((xs.flatMap enc2).map id++rs).toArray T fz):=by rw[eQ];exact k4
   exact holds_of k4' (by rw[eQ];exact k5)
  have h2:=h1 b c xs.toArray w0 hh hb (by simp;omega);simp only[dD]at h2;refine h2.mono ?_;rintro x w' ⟨rfl,d',q,os,hp,hs,rfl⟩;refine⟨_,rfl,?_⟩;have hd:d'.toList=yfL xs:=sortR_of yuV hnd (by simpa using hp) (by simpa using hs);have hd2:d'=(yfL xs).toArray:=by rw[<-hd]
  subst hd2;unfold sortWorldK putRowK;rw[ycP];obtain⟨g1,g2,g3⟩:=zuR (enc:=id) (ds:=(yfL xs).flatMap enc2) (q:=q) (os:=os) k4 (by rw[zmW,zmW,hsl]);rw[eQ]at g1;have H1:HS ⟨S0,zbD L0,w0⟩ S0 w0 [.osl (sl b 0 xs.length c) xs.length 2 (xs.flatMap enc2) rs T]:=by rw[hL,hv]at H ⊢;exact H
  have H2:=HS.inplace (w':=grow (putRow id (Go.Sort.ahead w0 q) b 0 ((yfL xs).flatMap enc2).toArray) os) H1 k4 k5 k3 k1 (aK _) (cs':=(yfL xs).flatMap enc2) (rs':=rs) (by rw[zmW,hsl]) (by rw[aD,aD,zmW,zmW,hsl]) rfl rfl rfl g3 g2 g1;rw[<-hsl]at H2;refine ygH (e:=T2) (ys:=yfL xs) H2 hE (xeX _) ?_;rw[hsl];exact .inl hu
end
end Go.Proofs.YtopanhneegpgcaaGreatDoor.Am
namespace Go.Proofs
open Go.Shelf
def Tryz.sortP_ren:Go.Shelf.Ren:=⟨fun|6=>88|15=>189|14=>188|28=>257|29=>258|20=>249|21=>250|22=>251|23=>252|24=>253|25=>254|26=>255|27=>256|46=>297|47=>298|48=>299|49=>300|50=>301|57=>328|n=>n,fun|22=>31|24=>33|25=>120|3=>3|39=>201|0=>0|53=>247|55=>249|4=>4|46=>241|45=>240|50=>94|5=>5|9=>9|66=>274|70=>278|76=>301|77=>302|n=>n,fun|n=>n⟩
theorem Tryz.sortP:Go.Proofs.SlLaysF0.n6 aB Tryz.sortP_ren:={mixed:=by kernel_rfl,f6:=⟨Tryz.f88.name,by decide,kqz Tryz.func88 (by kernel_rfl)⟩,f14:=⟨Tryz.f188.name,by decide,kqz Tryz.func188 (by kernel_rfl)⟩,f15:=kqz Tryz.func189 (by kernel_rfl),f20:=⟨Tryz.f249.name,by decide,kqz Tryz.func249 (by kernel_rfl)⟩,f21:=⟨Tryz.f250.name,by decide,kqz Tryz.func250 (by kernel_rfl)⟩,f22:=⟨Tryz.f251.name,by decide,kqz Tryz.func251 (by kernel_rfl)⟩,f23:=⟨Tryz.f252.name,by decide,kqz Tryz.func252 (by kernel_rfl)⟩,f24:=⟨Tryz.f253.name,by decide,kqz Tryz.func253 (by kernel_rfl)⟩,f25:=⟨Tryz.f254.name,by decide,kqz Tryz.func254 (by kernel_rfl)⟩,f26:=⟨Tryz.f255.name,by decide,kqz Tryz.func255 (by kernel_rfl)⟩,f27:=⟨Tryz.f256.name,by decide,kqz Tryz.func256 (by kernel_rfl)⟩,f28:=kqz Tryz.func257 (by kernel_rfl),f29:=kqz Tryz.func258 (by kernel_rfl),f46:=⟨Tryz.f297.name,by decide,kqz Tryz.func297 (by kernel_rfl)⟩,f47:=kqz Tryz.func298 (by kernel_rfl),f48:=kqz Tryz.func299 (by kernel_rfl),f49:=⟨Tryz.f300.name,by decide,kqz Tryz.func300 (by kernel_rfl)⟩,f50:=⟨Tryz.f301.name,by decide,kqz Tryz.func301 (by kernel_rfl)⟩,f57:=⟨Tryz.f328.name,by decide,kqz Tryz.func328 (by kernel_rfl)⟩,t0:=Tryz.underlying0,a0:=Tryz.isAgg0,z0:=Tryz.sizeOf0,v0:=Tryz.zeroValue0,t3:=Tryz.underlying3,a3:=Tryz.isAgg3,z3:=Tryz.sizeOf3,v3:=Tryz.zeroValue3,t4:=Tryz.underlying4,a4:=Tryz.isAgg4,z4:=Tryz.sizeOf4,v4:=Tryz.zeroValue4,t5:=Tryz.underlying5,a5:=Tryz.isAgg5,z5:=Tryz.sizeOf5,v5:=Tryz.zeroValue5,t9:=Tryz.underlying9,a9:=Tryz.isAgg9,z9:=Tryz.sizeOf9,v9:=Tryz.zeroValue9,t22:=Tryz.underlying31,a22:=Tryz.isAgg31,z22:=Tryz.sizeOf31,v22:=Tryz.zeroValue31,t25:=Tryz.underlying120,a25:=Tryz.isAgg120,z25:=Tryz.sizeOf120,v25:=Tryz.zeroValue120,t39:=Tryz.underlying201,a39:=Tryz.isAgg201,z39:=Tryz.sizeOf201,v39:=Tryz.zeroValue201,t45:=Tryz.underlying240,a45:=Tryz.isAgg240,z45:=Tryz.sizeOf240,v45:=Tryz.zeroValue240,t46:=Tryz.underlying241,a46:=Tryz.isAgg241,z46:=Tryz.sizeOf241,v46:=Tryz.zeroValue241,t50:=Tryz.underlying94,a50:=Tryz.isAgg94,z50:=Tryz.sizeOf94,v50:=Tryz.zeroValue94,t53:=Tryz.underlying247,a53:=Tryz.isAgg247,z53:=Tryz.sizeOf247,v53:=Tryz.zeroValue247,t55:=Tryz.underlying249,a55:=Tryz.isAgg249,z55:=Tryz.sizeOf249,v55:=Tryz.zeroValue249,t66:=Tryz.underlying274,a66:=Tryz.isAgg274,z66:=Tryz.sizeOf274,v66:=Tryz.zeroValue274,t70:=Tryz.underlying278,a70:=Tryz.isAgg278,z70:=Tryz.sizeOf278,v70:=Tryz.zeroValue278,t76:=Tryz.underlying301,a76:=Tryz.isAgg301,z76:=Tryz.sizeOf301,v76:=Tryz.zeroValue301,t77:=Tryz.underlying302,a77:=Tryz.isAgg302,z77:=Tryz.sizeOf302,v77:=Tryz.zeroValue302 }
def Tryz.sortQ_ren:Go.Shelf.Ren:=⟨fun|6=>210|15=>189|14=>277|28=>257|29=>258|20=>308|21=>309|22=>310|23=>311|24=>312|25=>313|26=>314|27=>315|46=>331|47=>298|48=>299|49=>332|50=>333|57=>341|n=>n,fun|22=>72|24=>75|25=>158|3=>3|39=>201|0=>0|53=>247|55=>249|4=>4|46=>241|45=>240|50=>94|5=>5|9=>9|66=>274|70=>278|76=>301|77=>302|n=>n,fun|n=>n⟩
theorem Tryz.sortQ:Go.Proofs.SlLaysF0.n6 aB Tryz.sortQ_ren:={mixed:=by kernel_rfl,f6:=⟨Tryz.f210.name,by decide,kqz Tryz.func210 (by kernel_rfl)⟩,f14:=⟨Tryz.f277.name,by decide,kqz Tryz.func277 (by kernel_rfl)⟩,f15:=kqz Tryz.func189 (by kernel_rfl),f20:=⟨Tryz.f308.name,by decide,kqz Tryz.func308 (by kernel_rfl)⟩,f21:=⟨Tryz.f309.name,by decide,kqz Tryz.func309 (by kernel_rfl)⟩,f22:=⟨Tryz.f310.name,by decide,kqz Tryz.func310 (by kernel_rfl)⟩,f23:=⟨Tryz.f311.name,by decide,kqz Tryz.func311 (by kernel_rfl)⟩,f24:=⟨Tryz.f312.name,by decide,kqz Tryz.func312 (by kernel_rfl)⟩,f25:=⟨Tryz.f313.name,by decide,kqz Tryz.func313 (by kernel_rfl)⟩,f26:=⟨Tryz.f314.name,by decide,kqz Tryz.func314 (by kernel_rfl)⟩,f27:=⟨Tryz.f315.name,by decide,kqz Tryz.func315 (by kernel_rfl)⟩,f28:=kqz Tryz.func257 (by kernel_rfl),f29:=kqz Tryz.func258 (by kernel_rfl),f46:=⟨Tryz.f331.name,by decide,kqz Tryz.func331 (by kernel_rfl)⟩,f47:=kqz Tryz.func298 (by kernel_rfl),f48:=kqz Tryz.func299 (by kernel_rfl),f49:=⟨Tryz.f332.name,by decide,kqz Tryz.func332 (by kernel_rfl)⟩,f50:=⟨Tryz.f333.name,by decide,kqz Tryz.func333 (by kernel_rfl)⟩,f57:=⟨Tryz.f341.name,by decide,kqz Tryz.func341 (by kernel_rfl)⟩,t0:=Tryz.underlying0,a0:=Tryz.isAgg0,z0:=Tryz.sizeOf0,v0:=Tryz.zeroValue0,t3:=Tryz.underlying3,a3:=Tryz.isAgg3,z3:=Tryz.sizeOf3,v3:=Tryz.zeroValue3,t4:=Tryz.underlying4,a4:=Tryz.isAgg4,z4:=Tryz.sizeOf4,v4:=Tryz.zeroValue4,t5:=Tryz.underlying5,a5:=Tryz.isAgg5,z5:=Tryz.sizeOf5,v5:=Tryz.zeroValue5,t9:=Tryz.underlying9,a9:=Tryz.isAgg9,z9:=Tryz.sizeOf9,v9:=Tryz.zeroValue9,t22:=Tryz.underlying72,a22:=Tryz.isAgg72,z22:=Tryz.sizeOf72,v22:=Tryz.zeroValue72,t25:=Tryz.underlying158,a25:=Tryz.isAgg158,z25:=Tryz.sizeOf158,v25:=Tryz.zeroValue158,t39:=Tryz.underlying201,a39:=Tryz.isAgg201,z39:=Tryz.sizeOf201,v39:=Tryz.zeroValue201,t45:=Tryz.underlying240,a45:=Tryz.isAgg240,z45:=Tryz.sizeOf240,v45:=Tryz.zeroValue240,t46:=Tryz.underlying241,a46:=Tryz.isAgg241,z46:=Tryz.sizeOf241,v46:=Tryz.zeroValue241,t50:=Tryz.underlying94,a50:=Tryz.isAgg94,z50:=Tryz.sizeOf94,v50:=Tryz.zeroValue94,t53:=Tryz.underlying247,a53:=Tryz.isAgg247,z53:=Tryz.sizeOf247,v53:=Tryz.zeroValue247,t55:=Tryz.underlying249,a55:=Tryz.isAgg249,z55:=Tryz.sizeOf249,v55:=Tryz.zeroValue249,t66:=Tryz.underlying274,a66:=Tryz.isAgg274,z66:=Tryz.sizeOf274,v66:=Tryz.zeroValue274,t70:=Tryz.underlying278,a70:=Tryz.isAgg278,z70:=Tryz.sizeOf278,v70:=Tryz.zeroValue278,t76:=Tryz.underlying301,a76:=Tryz.isAgg301,z76:=Tryz.sizeOf301,v76:=Tryz.zeroValue301,t77:=Tryz.underlying302,a77:=Tryz.isAgg302,z77:=Tryz.sizeOf302,v77:=Tryz.zeroValue302 }
end Go.Proofs
namespace Go.Proofs
open Go.Shelf Go.RowKit Go.Lib Go.Sort
set_option maxHeartbeats 1000000 in
theorem YtopanhneegpgcaaGreatDoor.cmpP(x y:List UInt8×List UInt8)(W:World):Calls aB 89 #[.agg (YtopanhneegpgcaaGreatDoor.Am.enc2 x).toArray,.agg (YtopanhneegpgcaaGreatDoor.Am.enc2 y).toArray] W fun e w'=>e = .returned (.int .i64 (Lib.compareBytes x.1 y.1))/\∃q os',w'=grow (W.drewN q) os':=by
 have hcon:=fun W'=>Tryz.strings_Compare ⟨x.1.toArray⟩ ⟨y.1.toArray⟩ W';change ∀W',Calls aB 90 _ _ _ at hcon;change ∀W',Calls _ _ _ _ fun e w'=>e = .returned (.int .i64 (Lib.compareBytes x.1 y.1))/\w'=W' at hcon;show Calls _ _ #[.agg #[.string ⟨x.1.toArray⟩,.string ⟨x.2.toArray⟩],.agg #[.string ⟨y.1.toArray⟩,.string ⟨y.2.toArray⟩]] _ _;generalize Lib.compareBytes x.1 y.1=r at hcon ⊢
 go_enter Tryz.func89,Tryz.ntmps89
 go_wp2_with (go_at_call 90;refine(hcon _).mono ?_;rintro e w' ⟨rfl,rfl⟩)
 go_ret
 exact⟨rfl,0,_,by rw[alloc_eq_grow,alloc_eq_grow,grow_grow];rfl⟩
end Go.Proofs
namespace Go.Proofs.YtopanhneegpgcaaGreatDoor.Am
open Go Go.Proofs Go.RowKit Go.Sort
section
variable {G:List (Nat×Obj)}
theorem sortF89K:SCok aB G 88 ⟨⟨[(0,.own 0),(1,.fn 89 [] [])],[.osl T2 33]⟩,0,[(none,⟨[],[.osl T2 33]⟩)],fun(xs:List (List UInt8×List UInt8))=>yeX xs⟩:=
 sortF_sc (isFn Tryz.func88 (by kernel_rfl) (by kernel_rfl)) (fun a c w=>AnyF.slices_SortFunc_none Tryz.sortP a c _ w) fun b c d w h1 h2 h3=>AnyQ.slices_SortFunc Tryz.sortP 2 Tryz.isAgg33 Tryz.sizeOf33 enc2 ynE ylR (fun x y:List UInt8×List UInt8=>Lib.compareBytes x.1 y.1) swo_cmp 89 #[] b 0 c d w (enters_of Tryz.func89 (by kernel_rfl) rfl) (fun _ _ _ _ x y=>YtopanhneegpgcaaGreatDoor.cmpP x y _) h1 h2 h3
end
end Go.Proofs.YtopanhneegpgcaaGreatDoor.Am
namespace Go.Proofs
open Go.Shelf
def Tryz.keys133_ren:Go.Shelf.Ren:=⟨fun|7=>133|10=>215|n=>n,fun|23=>160|26=>9|3=>157|28=>165|0=>0|27=>164|33=>25|4=>4|n=>n,fun|n=>n⟩
theorem Tryz.keys133:Go.Proofs.SlLaysZ.n7 aB Tryz.keys133_ren:={mixed:=by kernel_rfl,f7:=⟨Tryz.f133.name,by decide,kqz Tryz.func133 (by kernel_rfl)⟩,f10:=⟨Tryz.f215.name,by decide,kqz Tryz.func215 (by kernel_rfl)⟩,t0:=Tryz.underlying0,a0:=Tryz.isAgg0,z0:=Tryz.sizeOf0,v0:=Tryz.zeroValue0,t4:=Tryz.underlying4,a4:=Tryz.isAgg4,z4:=Tryz.sizeOf4,v4:=Tryz.zeroValue4,t23:=Tryz.underlying160,a23:=Tryz.isAgg160,z23:=Tryz.sizeOf160,v23:=Tryz.zeroValue160,t26:=Tryz.underlying9,a26:=Tryz.isAgg9,z26:=Tryz.sizeOf9,v26:=Tryz.zeroValue9,t27:=Tryz.underlying164,a27:=Tryz.isAgg164,z27:=Tryz.sizeOf164,v27:=Tryz.zeroValue164,t28:=Tryz.underlying165,a28:=Tryz.isAgg165,z28:=Tryz.sizeOf165,v28:=Tryz.zeroValue165,t33:=Tryz.underlying25,a33:=Tryz.isAgg25,z33:=Tryz.sizeOf25,v33:=Tryz.zeroValue25 }
def Tryz.keys196_ren:Go.Shelf.Ren:=⟨fun|7=>196|10=>260|n=>n,fun|23=>123|26=>9|3=>133|28=>165|0=>0|27=>164|33=>25|4=>4|n=>n,fun|n=>n⟩
theorem Tryz.keys196:Go.Proofs.SlLaysZ.n7 aB Tryz.keys196_ren:={mixed:=by kernel_rfl,f7:=⟨Tryz.f196.name,by decide,kqz Tryz.func196 (by kernel_rfl)⟩,f10:=⟨Tryz.f260.name,by decide,kqz Tryz.func260 (by kernel_rfl)⟩,t0:=Tryz.underlying0,a0:=Tryz.isAgg0,z0:=Tryz.sizeOf0,v0:=Tryz.zeroValue0,t4:=Tryz.underlying4,a4:=Tryz.isAgg4,z4:=Tryz.sizeOf4,v4:=Tryz.zeroValue4,t23:=Tryz.underlying123,a23:=Tryz.isAgg123,z23:=Tryz.sizeOf123,v23:=Tryz.zeroValue123,t26:=Tryz.underlying9,a26:=Tryz.isAgg9,z26:=Tryz.sizeOf9,v26:=Tryz.zeroValue9,t27:=Tryz.underlying164,a27:=Tryz.isAgg164,z27:=Tryz.sizeOf164,v27:=Tryz.zeroValue164,t28:=Tryz.underlying165,a28:=Tryz.isAgg165,z28:=Tryz.sizeOf165,v28:=Tryz.zeroValue165,t33:=Tryz.underlying25,a33:=Tryz.isAgg25,z33:=Tryz.sizeOf25,v33:=Tryz.zeroValue25 }
def Tryz.keys203_ren:Go.Shelf.Ren:=⟨fun|7=>203|10=>271|n=>n,fun|23=>125|26=>9|3=>51|28=>165|0=>0|27=>164|33=>25|4=>4|n=>n,fun|n=>n⟩
theorem Tryz.keys203:Go.Proofs.SlLaysZ.n7 aB Tryz.keys203_ren:={mixed:=by kernel_rfl,f7:=⟨Tryz.f203.name,by decide,kqz Tryz.func203 (by kernel_rfl)⟩,f10:=⟨Tryz.f271.name,by decide,kqz Tryz.func271 (by kernel_rfl)⟩,t0:=Tryz.underlying0,a0:=Tryz.isAgg0,z0:=Tryz.sizeOf0,v0:=Tryz.zeroValue0,t4:=Tryz.underlying4,a4:=Tryz.isAgg4,z4:=Tryz.sizeOf4,v4:=Tryz.zeroValue4,t23:=Tryz.underlying125,a23:=Tryz.isAgg125,z23:=Tryz.sizeOf125,v23:=Tryz.zeroValue125,t26:=Tryz.underlying9,a26:=Tryz.isAgg9,z26:=Tryz.sizeOf9,v26:=Tryz.zeroValue9,t27:=Tryz.underlying164,a27:=Tryz.isAgg164,z27:=Tryz.sizeOf164,v27:=Tryz.zeroValue164,t28:=Tryz.underlying165,a28:=Tryz.isAgg165,z28:=Tryz.sizeOf165,v28:=Tryz.zeroValue165,t33:=Tryz.underlying25,a33:=Tryz.isAgg25,z33:=Tryz.sizeOf25,v33:=Tryz.zeroValue25 }
def Tryz.keys204_ren:Go.Shelf.Ren:=⟨fun|7=>204|10=>272|n=>n,fun|23=>122|26=>9|3=>77|28=>165|0=>0|27=>164|33=>25|4=>4|n=>n,fun|n=>n⟩
theorem Tryz.keys204:Go.Proofs.SlLaysZ.n7 aB Tryz.keys204_ren:={mixed:=by kernel_rfl,f7:=⟨Tryz.f204.name,by decide,kqz Tryz.func204 (by kernel_rfl)⟩,f10:=⟨Tryz.f272.name,by decide,kqz Tryz.func272 (by kernel_rfl)⟩,t0:=Tryz.underlying0,a0:=Tryz.isAgg0,z0:=Tryz.sizeOf0,v0:=Tryz.zeroValue0,t4:=Tryz.underlying4,a4:=Tryz.isAgg4,z4:=Tryz.sizeOf4,v4:=Tryz.zeroValue4,t23:=Tryz.underlying122,a23:=Tryz.isAgg122,z23:=Tryz.sizeOf122,v23:=Tryz.zeroValue122,t26:=Tryz.underlying9,a26:=Tryz.isAgg9,z26:=Tryz.sizeOf9,v26:=Tryz.zeroValue9,t27:=Tryz.underlying164,a27:=Tryz.isAgg164,z27:=Tryz.sizeOf164,v27:=Tryz.zeroValue164,t28:=Tryz.underlying165,a28:=Tryz.isAgg165,z28:=Tryz.sizeOf165,v28:=Tryz.zeroValue165,t33:=Tryz.underlying25,a33:=Tryz.isAgg25,z33:=Tryz.sizeOf25,v33:=Tryz.zeroValue25 }
def Tryz.keys205_ren:Go.Shelf.Ren:=⟨fun|7=>205|10=>273|n=>n,fun|23=>124|26=>9|3=>49|28=>165|0=>0|27=>164|33=>25|4=>4|n=>n,fun|n=>n⟩
theorem Tryz.keys205:Go.Proofs.SlLaysZ.n7 aB Tryz.keys205_ren:={mixed:=by kernel_rfl,f7:=⟨Tryz.f205.name,by decide,kqz Tryz.func205 (by kernel_rfl)⟩,f10:=⟨Tryz.f273.name,by decide,kqz Tryz.func273 (by kernel_rfl)⟩,t0:=Tryz.underlying0,a0:=Tryz.isAgg0,z0:=Tryz.sizeOf0,v0:=Tryz.zeroValue0,t4:=Tryz.underlying4,a4:=Tryz.isAgg4,z4:=Tryz.sizeOf4,v4:=Tryz.zeroValue4,t23:=Tryz.underlying124,a23:=Tryz.isAgg124,z23:=Tryz.sizeOf124,v23:=Tryz.zeroValue124,t26:=Tryz.underlying9,a26:=Tryz.isAgg9,z26:=Tryz.sizeOf9,v26:=Tryz.zeroValue9,t27:=Tryz.underlying164,a27:=Tryz.isAgg164,z27:=Tryz.sizeOf164,v27:=Tryz.zeroValue164,t28:=Tryz.underlying165,a28:=Tryz.isAgg165,z28:=Tryz.sizeOf165,v28:=Tryz.zeroValue165,t33:=Tryz.underlying25,a33:=Tryz.isAgg25,z33:=Tryz.sizeOf25,v33:=Tryz.zeroValue25 }
def Tryz.sortedA_ren:Go.Shelf.Ren:=⟨fun|6=>132|8=>214|9=>102|11=>279|13=>189|12=>202|23=>257|24=>258|14=>262|15=>263|16=>264|17=>265|18=>266|19=>267|20=>268|21=>269|22=>270|25=>304|26=>298|27=>299|28=>305|29=>306|30=>307|31=>330|n=>n,fun|26=>9|28=>165|24=>22|0=>0|3=>3|37=>201|48=>247|50=>249|4=>4|40=>241|39=>240|45=>94|5=>5|9=>9|51=>274|55=>278|57=>301|58=>302|33=>25|n=>n,fun|n=>n⟩
theorem Tryz.sortedA:Go.Proofs.SlLaysZ.n6 aB Tryz.sortedA_ren:={mixed:=by kernel_rfl,f6:=⟨Tryz.f132.name,by decide,kqz Tryz.func132 (by kernel_rfl)⟩,f8:=⟨Tryz.f214.name,by decide,kqz Tryz.func214 (by kernel_rfl)⟩,f11:=⟨Tryz.f279.name,by decide,kqz Tryz.func279 (by kernel_rfl)⟩,t0:=Tryz.underlying0,a0:=Tryz.isAgg0,z0:=Tryz.sizeOf0,v0:=Tryz.zeroValue0,t24:=Tryz.underlying22,a24:=Tryz.isAgg22,z24:=Tryz.sizeOf22,v24:=Tryz.zeroValue22,t26:=Tryz.underlying9,a26:=Tryz.isAgg9,z26:=Tryz.sizeOf9,v26:=Tryz.zeroValue9,t28:=Tryz.underlying165,a28:=Tryz.isAgg165,z28:=Tryz.sizeOf165,v28:=Tryz.zeroValue165,i26:=by kernel_rfl }
def Tryz.sortA_ren:Go.Shelf.Ren:=⟨fun|6=>102|8=>189|9=>202|19=>257|20=>258|21=>262|22=>263|23=>264|24=>265|25=>266|26=>267|27=>268|28=>269|29=>270|36=>304|31=>298|32=>299|37=>305|38=>306|39=>307|41=>330|n=>n,fun|27=>22|29=>9|3=>3|32=>201|26=>22|0=>0|44=>247|46=>249|4=>4|36=>241|35=>240|41=>94|5=>5|9=>9|53=>274|57=>278|63=>301|64=>302|n=>n,fun|n=>n⟩
theorem Tryz.sortA:Go.Proofs.SlLaysM.n6 aB Tryz.sortA_ren:={mixed:=by kernel_rfl,f6:=⟨Tryz.f102.name,by decide,kqz Tryz.func102 (by kernel_rfl)⟩,f8:=kqz Tryz.func189 (by kernel_rfl),f9:=⟨Tryz.f202.name,by decide,kqz Tryz.func202 (by kernel_rfl)⟩,f19:=kqz Tryz.func257 (by kernel_rfl),f20:=kqz Tryz.func258 (by kernel_rfl),f21:=⟨Tryz.f262.name,by decide,kqz Tryz.func262 (by kernel_rfl)⟩,f22:=⟨Tryz.f263.name,by decide,kqz Tryz.func263 (by kernel_rfl)⟩,f23:=⟨Tryz.f264.name,by decide,kqz Tryz.func264 (by kernel_rfl)⟩,f24:=⟨Tryz.f265.name,by decide,kqz Tryz.func265 (by kernel_rfl)⟩,f25:=⟨Tryz.f266.name,by decide,kqz Tryz.func266 (by kernel_rfl)⟩,f26:=⟨Tryz.f267.name,by decide,kqz Tryz.func267 (by kernel_rfl)⟩,f27:=⟨Tryz.f268.name,by decide,kqz Tryz.func268 (by kernel_rfl)⟩,f28:=⟨Tryz.f269.name,by decide,kqz Tryz.func269 (by kernel_rfl)⟩,f29:=⟨Tryz.f270.name,by decide,kqz Tryz.func270 (by kernel_rfl)⟩,f31:=kqz Tryz.func298 (by kernel_rfl),f32:=kqz Tryz.func299 (by kernel_rfl),f36:=⟨Tryz.f304.name,by decide,kqz Tryz.func304 (by kernel_rfl)⟩,f37:=⟨Tryz.f305.name,by decide,kqz Tryz.func305 (by kernel_rfl)⟩,f38:=⟨Tryz.f306.name,by decide,kqz Tryz.func306 (by kernel_rfl)⟩,f39:=⟨Tryz.f307.name,by decide,kqz Tryz.func307 (by kernel_rfl)⟩,f41:=⟨Tryz.f330.name,by decide,kqz Tryz.func330 (by kernel_rfl)⟩,t0:=Tryz.underlying0,a0:=Tryz.isAgg0,z0:=Tryz.sizeOf0,v0:=Tryz.zeroValue0,t3:=Tryz.underlying3,a3:=Tryz.isAgg3,z3:=Tryz.sizeOf3,v3:=Tryz.zeroValue3,t4:=Tryz.underlying4,a4:=Tryz.isAgg4,z4:=Tryz.sizeOf4,v4:=Tryz.zeroValue4,t5:=Tryz.underlying5,a5:=Tryz.isAgg5,z5:=Tryz.sizeOf5,v5:=Tryz.zeroValue5,t9:=Tryz.underlying9,a9:=Tryz.isAgg9,z9:=Tryz.sizeOf9,v9:=Tryz.zeroValue9,t26:=Tryz.underlying22,a26:=Tryz.isAgg22,z26:=Tryz.sizeOf22,v26:=Tryz.zeroValue22,t27:=Tryz.underlying22,a27:=Tryz.isAgg22,z27:=Tryz.sizeOf22,v27:=Tryz.zeroValue22,t29:=Tryz.underlying9,a29:=Tryz.isAgg9,z29:=Tryz.sizeOf9,v29:=Tryz.zeroValue9,t32:=Tryz.underlying201,a32:=Tryz.isAgg201,z32:=Tryz.sizeOf201,v32:=Tryz.zeroValue201,t35:=Tryz.underlying240,a35:=Tryz.isAgg240,z35:=Tryz.sizeOf240,v35:=Tryz.zeroValue240,t36:=Tryz.underlying241,a36:=Tryz.isAgg241,z36:=Tryz.sizeOf241,v36:=Tryz.zeroValue241,t41:=Tryz.underlying94,a41:=Tryz.isAgg94,z41:=Tryz.sizeOf94,v41:=Tryz.zeroValue94,t44:=Tryz.underlying247,a44:=Tryz.isAgg247,z44:=Tryz.sizeOf247,v44:=Tryz.zeroValue247,t46:=Tryz.underlying249,a46:=Tryz.isAgg249,z46:=Tryz.sizeOf249,v46:=Tryz.zeroValue249,t53:=Tryz.underlying274,a53:=Tryz.isAgg274,z53:=Tryz.sizeOf274,v53:=Tryz.zeroValue274,t57:=Tryz.underlying278,a57:=Tryz.isAgg278,z57:=Tryz.sizeOf278,v57:=Tryz.zeroValue278,t63:=Tryz.underlying301,a63:=Tryz.isAgg301,z63:=Tryz.sizeOf301,v63:=Tryz.zeroValue301,t64:=Tryz.underlying302,a64:=Tryz.isAgg302,z64:=Tryz.sizeOf302,v64:=Tryz.zeroValue302 }
end Go.Proofs
namespace Go.Proofs
open Go.RowKit Go.Maps Go.Sort Go.Shelf
theorem YtopanhneegpgcaaGreatDoor.sortsA(m:Nat):AnyZ.SortsIn aB Tryz.sortedA_ren Fence.wide m:=
 ⟨fun blk off cap ss W hH hblk hsz=>callsIn_wide.2 (AnyM.slices_Sort_string Tryz.sortA blk off cap ss W hH hblk hsz),
  fun p cap W=>callsIn_wide.2 (AnyM.slices_Sort_string_none Tryz.sortA p cap W)⟩
theorem YtopanhneegpgcaaGreatDoor.sorted215K(Bm b nn:Nat)(D0:DataW Unit)(w:World)(hB:Bm<w.heap.size)(hc:w.cell? ⟨Bm,0,none⟩=some (.map (some b)))(ho:w.ownsMap aB 9 YtopanhneegpgcaaGreatDoor.Am.anyV b nn D0)(hmax:Maps.size D0<=maxLen)(hb:Maps.size D0*16<=140737488355328):Calls aB 132 #[.func (.func 215) #[] #[.pointer (some ⟨Bm,0,none⟩)]] w fun e w'=>∃(v:Value) (ss:List (List UInt8)),e = .returned v/\ss.Perm (strKeys D0)/\w'.ownsRow w.heap.size 9 1 v ss.length ((ss.mergeSort (fun x y=>decide (x<=y))).map encStr)/\(v = .slice none 0 0↔ss=[])/\Below w.heap.size w w':=by
 have hseq:SeqGives Fence.wide 2 aB 215 #[.pointer (some ⟨Bm,0,none⟩)] encStr (fun ss=>ss.Perm (strKeys D0)) (Maps.size D0) w:=
  AnyZ.keys_gives (ρ:=Tryz.keys133_ren) { Tryz.keys133 with } Fence.wide _ trivial rfl (by omega) Bm b nn D0 _ hB hc ho
 have cS:=AnyZ.sorted_in Tryz.sortedA Fence.wide 5 trivial trivial trivial trivial rfl (by omega) (YtopanhneegpgcaaGreatDoor.sortsA _) (enters_of Tryz.func102 (by kernel_rfl) rfl) 215 #[.pointer (some ⟨Bm,0,none⟩)] trivial (enters_of Tryz.func215 (by kernel_rfl) rfl) _ _ hmax hb _ hseq;exact(callsIn_wide (n:=5)).1 cS
theorem YtopanhneegpgcaaGreatDoor.sorted260K(Bm b nn:Nat)(D0:DataW Unit)(w:World)(hB:Bm<w.heap.size)(hc:w.cell? ⟨Bm,0,none⟩=some (.map (some b)))(ho:w.ownsMap aB 9 YtopanhneegpgcaaGreatDoor.Am.anyV b nn D0)(hmax:Maps.size D0<=maxLen)(hb:Maps.size D0*16<=140737488355328):Calls aB 132 #[.func (.func 260) #[] #[.pointer (some ⟨Bm,0,none⟩)]] w fun e w'=>∃(v:Value) (ss:List (List UInt8)),e = .returned v/\ss.Perm (strKeys D0)/\w'.ownsRow w.heap.size 9 1 v ss.length ((ss.mergeSort (fun x y=>decide (x<=y))).map encStr)/\(v = .slice none 0 0↔ss=[])/\Below w.heap.size w w':=by
 have hseq:SeqGives Fence.wide 2 aB 260 #[.pointer (some ⟨Bm,0,none⟩)] encStr (fun ss=>ss.Perm (strKeys D0)) (Maps.size D0) w:=
  AnyZ.keys_gives (ρ:=Tryz.keys196_ren) { Tryz.keys196 with } Fence.wide _ trivial rfl (by omega) Bm b nn D0 _ hB hc ho
 have cS:=AnyZ.sorted_in Tryz.sortedA Fence.wide 5 trivial trivial trivial trivial rfl (by omega) (YtopanhneegpgcaaGreatDoor.sortsA _) (enters_of Tryz.func102 (by kernel_rfl) rfl) 260 #[.pointer (some ⟨Bm,0,none⟩)] trivial (enters_of Tryz.func260 (by kernel_rfl) rfl) _ _ hmax hb _ hseq;exact(callsIn_wide (n:=5)).1 cS
theorem YtopanhneegpgcaaGreatDoor.sorted271K(Bm b nn:Nat)(D0:DataW Unit)(w:World)(hB:Bm<w.heap.size)(hc:w.cell? ⟨Bm,0,none⟩=some (.map (some b)))(ho:w.ownsMap aB 9 YtopanhneegpgcaaGreatDoor.Am.anyV b nn D0)(hmax:Maps.size D0<=maxLen)(hb:Maps.size D0*16<=140737488355328):Calls aB 132 #[.func (.func 271) #[] #[.pointer (some ⟨Bm,0,none⟩)]] w fun e w'=>∃(v:Value) (ss:List (List UInt8)),e = .returned v/\ss.Perm (strKeys D0)/\w'.ownsRow w.heap.size 9 1 v ss.length ((ss.mergeSort (fun x y=>decide (x<=y))).map encStr)/\(v = .slice none 0 0↔ss=[])/\Below w.heap.size w w':=by
 have hseq:SeqGives Fence.wide 2 aB 271 #[.pointer (some ⟨Bm,0,none⟩)] encStr (fun ss=>ss.Perm (strKeys D0)) (Maps.size D0) w:=
  AnyZ.keys_gives (ρ:=Tryz.keys203_ren) { Tryz.keys203 with } Fence.wide _ trivial rfl (by omega) Bm b nn D0 _ hB hc ho
 have cS:=AnyZ.sorted_in Tryz.sortedA Fence.wide 5 trivial trivial trivial trivial rfl (by omega) (YtopanhneegpgcaaGreatDoor.sortsA _) (enters_of Tryz.func102 (by kernel_rfl) rfl) 271 #[.pointer (some ⟨Bm,0,none⟩)] trivial (enters_of Tryz.func271 (by kernel_rfl) rfl) _ _ hmax hb _ hseq;exact(callsIn_wide (n:=5)).1 cS
theorem YtopanhneegpgcaaGreatDoor.sorted272K(Bm b nn:Nat)(D0:DataW Unit)(w:World)(hB:Bm<w.heap.size)(hc:w.cell? ⟨Bm,0,none⟩=some (.map (some b)))(ho:w.ownsMap aB 9 YtopanhneegpgcaaGreatDoor.Am.anyV b nn D0)(hmax:Maps.size D0<=maxLen)(hb:Maps.size D0*16<=140737488355328):Calls aB 132 #[.func (.func 272) #[] #[.pointer (some ⟨Bm,0,none⟩)]] w fun e w'=>∃(v:Value) (ss:List (List UInt8)),e = .returned v/\ss.Perm (strKeys D0)/\w'.ownsRow w.heap.size 9 1 v ss.length ((ss.mergeSort (fun x y=>decide (x<=y))).map encStr)/\(v = .slice none 0 0↔ss=[])/\Below w.heap.size w w':=by
 have hseq:SeqGives Fence.wide 2 aB 272 #[.pointer (some ⟨Bm,0,none⟩)] encStr (fun ss=>ss.Perm (strKeys D0)) (Maps.size D0) w:=
  AnyZ.keys_gives (ρ:=Tryz.keys204_ren) { Tryz.keys204 with } Fence.wide _ trivial rfl (by omega) Bm b nn D0 _ hB hc ho
 have cS:=AnyZ.sorted_in Tryz.sortedA Fence.wide 5 trivial trivial trivial trivial rfl (by omega) (YtopanhneegpgcaaGreatDoor.sortsA _) (enters_of Tryz.func102 (by kernel_rfl) rfl) 272 #[.pointer (some ⟨Bm,0,none⟩)] trivial (enters_of Tryz.func272 (by kernel_rfl) rfl) _ _ hmax hb _ hseq;exact(callsIn_wide (n:=5)).1 cS
theorem YtopanhneegpgcaaGreatDoor.sorted273K(Bm b nn:Nat)(D0:DataW Unit)(w:World)(hB:Bm<w.heap.size)(hc:w.cell? ⟨Bm,0,none⟩=some (.map (some b)))(ho:w.ownsMap aB 9 YtopanhneegpgcaaGreatDoor.Am.anyV b nn D0)(hmax:Maps.size D0<=maxLen)(hb:Maps.size D0*16<=140737488355328):Calls aB 132 #[.func (.func 273) #[] #[.pointer (some ⟨Bm,0,none⟩)]] w fun e w'=>∃(v:Value) (ss:List (List UInt8)),e = .returned v/\ss.Perm (strKeys D0)/\w'.ownsRow w.heap.size 9 1 v ss.length ((ss.mergeSort (fun x y=>decide (x<=y))).map encStr)/\(v = .slice none 0 0↔ss=[])/\Below w.heap.size w w':=by
 have hseq:SeqGives Fence.wide 2 aB 273 #[.pointer (some ⟨Bm,0,none⟩)] encStr (fun ss=>ss.Perm (strKeys D0)) (Maps.size D0) w:=
  AnyZ.keys_gives (ρ:=Tryz.keys205_ren) { Tryz.keys205 with } Fence.wide _ trivial rfl (by omega) Bm b nn D0 _ hB hc ho
 have cS:=AnyZ.sorted_in Tryz.sortedA Fence.wide 5 trivial trivial trivial trivial rfl (by omega) (YtopanhneegpgcaaGreatDoor.sortsA _) (enters_of Tryz.func102 (by kernel_rfl) rfl) 273 #[.pointer (some ⟨Bm,0,none⟩)] trivial (enters_of Tryz.func273 (by kernel_rfl) rfl) _ _ hmax hb _ hseq;exact(callsIn_wide (n:=5)).1 cS
end Go.Proofs
namespace Go.Proofs.YtopanhneegpgcaaGreatDoor.Am
open Go Go.RowKit
def hole:Code->List Bool->Code
 |.seq a b,q::p=>bif q then hole a p else hole b p
 |.cond _ a b,q::p=>bif q then hole a p else hole b p
 |.block _ b,p=>hole b p|.loop b,[]=>b|_,_=>.skip
noncomputable def ctxK{β:Type}(N0 n:Nat)(τ:TE)(Γ:CT)(η:HT):Code->List Bool->(Ex->St->Option β)->Ex->St->Option β
 |.seq a b,q::p,k=>bif q then ctxK N0 n τ Γ η a p (nx k fun σ=>run N0 n τ Γ η b σ k)else ctxK N0 n τ Γ η b p k
 |.cond _ a b,q::p,k=>bif q then ctxK N0 n τ Γ η a p k else ctxK N0 n τ Γ η b p k
 |.block id b,p,k=>ctxK N0 n τ Γ η b p (blk id k)|_,_,k=>k
noncomputable def zrR{β:Type}(N0 n:Nat)(τ:TE)(Γ:CT)(η:HT):Code->List Bool->St->(St->Option β)->(Ex->St->Option β)->Option β
 |.seq a b,q::p,σ,h,k=>bif q then zrR N0 n τ Γ η a p σ h (nx k fun σ=>run N0 n τ Γ η b σ k)else run N0 n τ Γ η a σ (nx k fun σ=>zrR N0 n τ Γ η b p σ h k)
 |.cond c a b,q::p,σ,h,k=>match ev σ c with
  |some (.v .b t)=>bif t then(bif q then zrR N0 n τ Γ η a p σ h k else run N0 n τ Γ η a σ k)else(bif q then run N0 n τ Γ η b σ k else zrR N0 n τ Γ η b p σ h k)|_=>none
 |.block id b,p,σ,h,k=>zrR N0 n τ Γ η b p σ h (blk id k)|.loop _,[],σ,h,_=>h σ|_,_,_,_,_=>none
noncomputable def inK{β:Type}(N0 n:Nat)(τ:TE)(Γ:CT)(η:HT)(b:Code)(σ:St)(ag:St->Option β)(k:Ex->St->Option β):List (Option β):=match b with
 |.seq (.region _ ops false) c=>match ops.toList with
  |⟨some d,.next (.tmp t) false,_,_,_,none⟩::l=>xfO n σ d t fun σ=>steps n τ Γ ops.toList l σ fun σ=>run N0 n τ Γ η c σ (nx k ag)
  |_=>[none]
 |_=>[none]
structure NH where
 p0:List Bool
 mm:List Mk
 s:Shp
 kp:List Nat
 outs:List (Option Nat×Shp)
 p:List Bool
 si:Shp
 kpi:List Nat
noncomputable def nstK(N0 n:Nat)(τ:TE)(_Γ:CT)(η:HT)(H:NH)(_b:Code)(_σ:St):Ex->St->Option ((zbT H.s.tys⊕zbT H.si.tys)⊕DS H.outs):=nx (fun e σ=>mapO Sum.inr (inj N0 H.outs e σ)) fun σ=>mapO (fun y=>Sum.inl (Sum.inl y)) (H.s.get N0 σ)
noncomputable def nstA(N0:Nat)(H:NH)(σ:St):Option ((zbT H.s.tys⊕zbT H.si.tys)⊕DS H.outs):=mapO (fun y=>Sum.inl (Sum.inr y)) (H.si.get N0 σ)
noncomputable def nstF(N0 n:Nat)(τ:TE)(Γ:CT)(η:HT)(H:NH)(b:Code)(σ:St):zbT H.s.tys⊕zbT H.si.tys->List (Option ((zbT H.s.tys⊕zbT H.si.tys)⊕DS H.outs))
 |.inl x=>[zrR N0 n τ Γ η b H.p ((H.s.put x).app (zuA (zcO b) σ H.kp)) (nstA N0 H) (nstK N0 n τ Γ η H b σ)]|.inr y=>inK N0 n τ Γ η (hole b H.p) ((H.si.put y).app (zuA (zcO b) σ H.kpi)) (nstA N0 H) (ctxK N0 n τ Γ η b H.p (nstK N0 n τ Γ η H b σ))
noncomputable def nst{β:Type}(N0 n:Nat)(τ:TE)(Γ:CT)(η:HT)(H:NH)(b:Code)(σ:St)(k:Ex->St->Option β):Option β:=match H.s.get N0 (zvQ σ H.mm) with
 |some s0=>Option.bind (rngA (nstF N0 n τ Γ η H b (zvQ σ H.mm)) (Sum.inl s0)) fun d=>out (zuA (zcO b) (zvQ σ H.mm) H.kp) H.outs d k
 |none=>none
noncomputable def fnN(τ:TE)(Γ:CT)(η:HT)(H:NH)(f:Func)(I:Shp)(outs:List (Option Nat×Shp))(a:zbT I.tys):Option (DS outs):=match f.body with
 |none=>none|some c=>zrR I.hp.length f.ntmps τ Γ η c H.p0 (I.put a) (fun σ=>nst I.hp.length f.ntmps τ Γ η H (hole c H.p0) σ (ctxK I.hp.length f.ntmps τ Γ η c H.p0 (finS τ f I.hp.length outs))) (finS τ f I.hp.length outs)
def ctxQ(P:Program):Code->List Bool->(Exit->Act->World->Prop)->Exit->Act->World->Prop
 |.seq a b,q::p,Q=>bif q then ctxQ P a p (Exit.then (b.wp P Q) Q)else ctxQ P b p Q
 |.cond _ a b,q::p,Q=>bif q then ctxQ P a p Q else ctxQ P b p Q
 |.block id b,p,Q=>ctxQ P b p (Exit.inBlock id Q)|_,_,Q=>Q
section
variable {β:Type}{τ:TE}{Γ:CT}{η:HT}{N0 n:Nat}{P:Program}{B:Bas}{S0:Mem}{E0:List EI}{m0:FM}{D:List Nat}
def OnK(N0 n:Nat)(B:Bas)(S0:Mem)(E0:List EI)(m0:FM)(D:List Nat){β:Type}(k:Ex->St->Option β)(r:β)(Q:Exit->Act->World->Prop):Prop:=
 ∀e σ S E L m w,k e σ=some r->Mem.le S0 S->Pin N0 E0 E->Agr D m0 m->Rel n B S E L σ m w->Q (exQ e) (fr n m) w
theorem OnK.blk{k:Ex->St->Option β}{r:β}{Q:Exit->Act->World->Prop}{id:Nat}(h:OnK N0 n B S0 E0 m0 D k r Q):OnK N0 n B S0 E0 m0 D (blk id k) r (Exit.inBlock id Q):=fun e σ S E L m w hk hS hP hA R=>by
 cases e with
 |normal=>exact h .normal _ _ _ _ _ _ hk hS hP hA R|ret=>exact h .ret _ _ _ _ _ _ hk hS hP hA R|exit i=>
  simp only[Am.blk]at hk;cases hb:aG i id with
  |true=>rw[hb]at hk;have:=Nat.eq_of_beq_eq_true hb;subst this;exact b_hit (h .normal _ _ _ _ _ _ hk hS hP hA R)|false=>rw[hb]at hk;exact xaO hb (h (.exit i) _ _ _ _ _ _ hk hS hP hA R)
theorem OnK.nx{k:Ex->St->Option β}{r:β}{Q:Exit->Act->World->Prop}{g:St->Option β}{N:Act->World->Prop}(h:OnK N0 n B S0 E0 m0 D k r Q)(hn:∀σ S E L m w,g σ=some r->Mem.le S0 S->Pin N0 E0 E->Agr D m0 m->Rel n B S E L σ m w->N (fr n m) w):OnK N0 n B S0 E0 m0 D (nx k g) r (Exit.then N Q):=fun e σ S E L m w hk hS hP hA R=>by
 cases e with
 |normal=>exact hn _ _ _ _ _ _ hk hS hP hA R|ret=>exact h .ret _ _ _ _ _ _ hk hS hP hA R|exit i=>exact h (.exit i) _ _ _ _ _ _ hk hS hP hA R
theorem OnK.run(hm:P.follows .mixedOrders=true)(hτ:TEok P τ)(hΓ:CTok P Γ B){k:Ex->St->Option β}{r:β}{Q:Exit->Act->World->Prop}(h:OnK N0 n B S0 E0 m0 D k r Q){c:Code}(hD:∀t,hasN (zcO c) t=true->hasN D t=true):∀σ S E L m w,run N0 n τ Γ η c σ k=some r->Mem.le S0 S->Pin N0 E0 E->Agr D m0 m->Rel n B S E L σ m w->c.wp P Q (fr n m) w:=fun _σ _S _E _L _m _w hr hS hP hA R=>
 zuS hm hτ hΓ c R k r Q hr fun e σ' S' E' L' m' w' h1 h2 h3 h4 R1=>h e σ' S' E' L' m' w' h1 (Mem.le_trans hS h2) (hP.trans h3) (hA.trans (h4.mono hD)) R1
theorem ywP{a b:List Nat}(h:∀t,hasN (a++b) t=true->hasN D t=true):∀t,hasN a t=true->hasN D t=true:=fun t ht=>h t (by rw[zmN,ht];rfl)
theorem ysT{a b:List Nat}(h:∀t,hasN (a++b) t=true->hasN D t=true):∀t,hasN b t=true->hasN D t=true:=fun t ht=>h t (by rw[zmN,ht,gE])
theorem ybM(hm:P.follows .mixedOrders=true)(hτ:TEok P τ)(hΓ:CTok P Γ B){r:β}:∀(c:Code) (p:List Bool) {k:Ex->St->Option β} {Q:Exit->Act->World->Prop},(∀t,hasN (zcO c) t=true->hasN D t=true)->OnK N0 n B S0 E0 m0 D k r Q->OnK N0 n B S0 E0 m0 D (ctxK N0 n τ Γ η c p k) r (ctxQ P c p Q)
 |.seq a b,true::p,k,Q,hD,h=>ybM hm hτ hΓ a p (ywP hD) (h.nx (h.run hm hτ hΓ (ysT hD)))|.seq a b,false::p,k,Q,hD,h=>ybM hm hτ hΓ b p (ysT hD) h|.cond _ a b,true::p,k,Q,hD,h=>ybM hm hτ hΓ a p (ywP hD) h|.cond _ a b,false::p,k,Q,hD,h=>ybM hm hτ hΓ b p (ysT hD) h|.block id b,p,k,Q,hD,h=>by unfold ctxK ctxQ;exact ybM hm hτ hΓ b p hD h.blk
 |.seq _ _,[],_,_,_,h=>h|.cond _ _ _,[],_,_,_,h=>h|.loop _,_,_,_,_,h=>by unfold ctxK ctxQ;exact h
 |.region _ _ _,_,_,_,_,h=>by unfold ctxK ctxQ;exact h
 |.skip,_,_,_,_,h=>by unfold ctxK ctxQ;exact h
 |.exit _,_,_,_,_,h=>by unfold ctxK ctxQ;exact h
 |.ret,_,_,_,_,h=>by unfold ctxK ctxQ;exact h
 |.rangeFunc _ _ _ _,_,_,_,_,h=>by unfold ctxK ctxQ;exact h
 |.scope _,_,_,_,_,h=>by unfold ctxK ctxQ;exact h
 |.label _,_,_,_,_,h=>by unfold ctxK ctxQ;exact h
 |.goto _,_,_,_,_,h=>by unfold ctxK ctxQ;exact h
 |.refuse _,_,_,_,_,h=>by unfold ctxK ctxQ;exact h
theorem zwN(hm:P.follows .mixedOrders=true)(hτ:TEok P τ)(hΓ:CTok P Γ B){r:β}{h:St->Option β}:∀(c:Code) (p:List Bool) {k:Ex->St->Option β} {Q:Exit->Act->World->Prop},(∀t,hasN (zcO c) t=true->hasN D t=true)->OnK N0 n B S0 E0 m0 D k r Q ->(∀σ S E L m w,h σ=some r->Mem.le S0 S->Pin N0 E0 E->Agr D m0 m->Rel n B S E L σ m w->(Code.loop (hole c p)).wp P (ctxQ P c p Q) (fr n m) w) ->∀σ S E L m w,zrR N0 n τ Γ η c p σ h k=some r->Mem.le S0 S->Pin N0 E0 E->Agr D m0 m->Rel n B S E L σ m w->c.wp P Q (fr n m) w
 |.seq a b,true::p,k,Q,hD,hk,hh,σ,S,E,L,m,w,hr,hS,hP,hA,R=>wp_seq (zwN hm hτ hΓ a p (ywP hD) (hk.nx (hk.run hm hτ hΓ (ysT hD))) hh σ S E L m w hr hS hP hA R)|.seq a b,false::p,k,Q,hD,hk,hh,σ,S,E,L,m,w,hr,hS,hP,hA,R=>
  wp_seq (OnK.run hm hτ hΓ (hk.nx (zwN hm hτ hΓ b p (ysT hD) hk hh)) (ywP hD) σ S E L m w hr hS hP hA R)
 |.cond c a b,q::p,k,Q,hD,hk,hh,σ,S,E,L,m,w,hr,hS,hP,hA,R=>by
  simp only[zrR]at hr;split at hr
  ·rename_i t hc;have hv:evO n m c = .bool t:=vB (zbF R hc);refine yrR hv (fun ht=>?_) (fun ht=>?_)
   ·subst ht;cases q with
    |true=>exact zwN hm hτ hΓ a p (ywP hD) hk hh σ S E L m w hr hS hP hA R|false=>exact hk.run hm hτ hΓ (ywP hD) σ S E L m w hr hS hP hA R
   ·subst ht;cases q with
    |true=>exact hk.run hm hτ hΓ (ysT hD) σ S E L m w hr hS hP hA R|false=>exact zwN hm hτ hΓ b p (ysT hD) hk hh σ S E L m w hr hS hP hA R
  ·cases hr
 |.block id b,p,k,Q,hD,hk,hh,σ,S,E,L,m,w,hr,hS,hP,hA,R=>by unfold zrR at hr;refine wp_block (zwN hm hτ hΓ b p hD hk.blk (fun σ S E L m w h1 h2 h3 h4 h5=>?_) σ S E L m w hr hS hP hA R);have:=hh σ S E L m w h1 h2 h3 h4 h5;unfold hole ctxQ at this;exact this
 |.loop b,[],k,Q,hD,hk,hh,σ,S,E,L,m,w,hr,hS,hP,hA,R=>hh σ S E L m w hr hS hP hA R|.loop b,_::_,k,Q,hD,hk,hh,σ,S,E,L,m,w,hr,hS,hP,hA,R=>by unfold zrR at hr;cases hr
 |.seq _ _,[],_,_,_,_,_,_,_,_,_,_,_,hr,_,_,_,_=>by unfold zrR at hr;cases hr
 |.cond _ _ _,[],_,_,_,_,_,_,_,_,_,_,_,hr,_,_,_,_=>by unfold zrR at hr;cases hr
 |.region _ _ _,_,_,_,_,_,_,_,_,_,_,_,_,hr,_,_,_,_=>by unfold zrR at hr;cases hr
 |.skip,_,_,_,_,_,_,_,_,_,_,_,_,hr,_,_,_,_=>by unfold zrR at hr;cases hr
 |.exit _,_,_,_,_,_,_,_,_,_,_,_,_,hr,_,_,_,_=>by unfold zrR at hr;cases hr
 |.ret,_,_,_,_,_,_,_,_,_,_,_,_,hr,_,_,_,_=>by unfold zrR at hr;cases hr
 |.rangeFunc _ _ _ _,_,_,_,_,_,_,_,_,_,_,_,_,hr,_,_,_,_=>by unfold zrR at hr;cases hr
 |.scope _,_,_,_,_,_,_,_,_,_,_,_,_,hr,_,_,_,_=>by unfold zrR at hr;cases hr
 |.label _,_,_,_,_,_,_,_,_,_,_,_,_,hr,_,_,_,_=>by unfold zrR at hr;cases hr
 |.goto _,_,_,_,_,_,_,_,_,_,_,_,_,hr,_,_,_,_=>by unfold zrR at hr;cases hr
 |.refuse _,_,_,_,_,_,_,_,_,_,_,_,_,hr,_,_,_,_=>by unfold zrR at hr;cases hr
theorem yhA:∀(c:Code) (p:List Bool) (t:Nat),hasN (zcO (hole c p)) t=true->hasN (zcO c) t=true
 |.seq a b,true::p,t,h=>by show hasN (zcO a++zcO b) t=true;rw[zmN,yhA a p t h];rfl
 |.seq a b,false::p,t,h=>by show hasN (zcO a++zcO b) t=true;rw[zmN,yhA b p t h,gE]
 |.cond _ a b,true::p,t,h=>by show hasN (zcO a++zcO b) t=true;rw[zmN,yhA a p t h];rfl
 |.cond _ a b,false::p,t,h=>by show hasN (zcO a++zcO b) t=true;rw[zmN,yhA b p t h,gE]
 |.block _ b,p,t,h=>yhA b p t (by unfold hole at h;exact h)|.loop _,[],_,h=>h|.loop _,_::_,_,h=>by cases h
 |.seq _ _,[],_,h=>by cases h
 |.cond _ _ _,[],_,h=>by cases h
 |.region _ _ _,_,_,h=>by unfold hole at h;cases h
 |.skip,_,_,h=>by unfold hole at h;cases h
 |.exit _,_,_,h=>by unfold hole at h;cases h
 |.ret,_,_,h=>by unfold hole at h;cases h
 |.rangeFunc _ _ _ _,_,_,h=>by unfold hole at h;cases h
 |.scope _,_,_,h=>by unfold hole at h;cases h
 |.label _,_,_,h=>by unfold hole at h;cases h
 |.goto _,_,_,h=>by unfold hole at h;cases h
 |.refuse _,_,_,h=>by unfold hole at h;cases h
theorem inK_ok(hm:P.follows .mixedOrders=true)(hτ:TEok P τ)(hΓ:CTok P Γ B){bi:Code}{σ:St}{S:Mem}{E:List EI}{L:List Res}{m:FM}{w:World}{ag:St->Option β}{k:Ex->St->Option β}{Z:Option β->Prop}{Q:Exit->Act->World->Prop}{Nx:Act->World->Prop}(R:Rel n B S E L σ m w)(hS:Mem.le S0 S)(hP:Pin N0 E0 E)(hA:Agr D m0 m)(hD:∀t,hasN (zcO bi) t=true->hasN D t=true)(hz0:¬Z none)(hz:∀o∈inK N0 n τ Γ η bi σ ag k,Z o) (hk:∀y,Z (some y)->OnK N0 n B S0 E0 m0 D k y Q) (ha:∀y,Z (some y)->∀σ S E L m w,ag σ=some y->Mem.le S0 S->Pin N0 E0 E->Agr D m0 m->Rel n B S E L σ m w->Nx (fr n m) w):bi.wp P (Exit.then Nx Q) (fr n m) w:=by
 unfold inK at hz;split at hz
 ·rename_i id ops c;split at hz
  ·rename_i d t ty pos aft l hops;have hDl:∀t',hasN (ztC (⟨some d,.next (.tmp t) false,ty,pos,aft,none⟩::l)) t'=true->hasN D t'=true:=fun t' ht'=>hD t' (by show hasN (ztC ops.toList++zcO c) t'=true;rw[zmN,hops,ht'];rfl);have hDc:∀t',hasN (zcO c) t'=true->hasN D t'=true:=fun t' ht'=>hD t' (by show hasN (ztC ops.toList++zcO c) t'=true;rw[zmN,ht',gE]);obtain⟨ops⟩:=ops;have hops:ops=_:=hops;subst hops;refine wp_seq (wp_region_lit (wl_do (zsK rfl) (yyR R hz0 hz) ?_));rintro v w' ⟨σ1,L3,hy,R3⟩;generalize hyo:(steps n τ Γ _ l σ1 fun σ=>run N0 n τ Γ η c σ (nx k ag))=o at hy
   match o,hy with
   |none,hy=>exact absurd hy hz0|some y,hy=>rw[yfA];refine ycQ hτ hΓ (D:=D) (S0:=S) (E0:=E) (m0:=m) (fun σ' S' E' L' m' w' h5 hS3 hE3 hA3 R4=>?_) l (fun t' ht'=>hDl t' (ydW ht')) (Mem.le_refl _) (ELe.refl _) (Agr.put (hDl d (ydV rfl))) R3 hyo;exact OnK.run hm hτ hΓ ((hk y hy).nx (ha y hy)) hDc σ' S' E' L' m' w' h5 (Mem.le_trans hS hS3) (hP.trans (Pin.of hE3)) (hA.trans hA3) R4
  ·exact absurd (hz _ aO) hz0
 ·exact absurd (hz _ aO) hz0
theorem nst_ok(hm:P.follows .mixedOrders=true)(hτ:TEok P τ)(hΓ:CTok P Γ B){H:NH}{b:Code}{σ:St}{S:Mem}{E:List EI}{L:List Res}{m:FM}{w:World}(R:Rel n B S E L σ m w){k:Ex->St->Option β}{r:β}{Q:Exit->Act->World->Prop}(hr:nst N0 n τ Γ η H b σ k=some r)(hS:Mem.le S0 S)(hP:Pin N0 E0 E)(hA:Agr D m0 m)(hD:∀t,hasN (zcO b) t=true->hasN D t=true)(hQ:OnK N0 n B S0 E0 m0 D k r Q):(Code.loop b).wp P Q (fr n m) w:=by
 unfold nst at hr;split at hr
 ·rename_i s0 hs0;obtain⟨dd,h1,h2⟩:=zpU hr;obtain⟨fuel,hrng⟩:=ypO h1;obtain⟨S1,E1,L1,hS1,hE1,R1⟩:=yaN H.mm R;obtain⟨S2,E2,L2,hS2,hP2,R2⟩:=ybA R1 (fun l=>zhR l R1) hs0;have hQ1:OnK N0 n B S1 E1 m (zcO b) k r Q:=fun e σ' S' E' L' m' w' h1 h2 h3 h4 h5=>hQ e σ' S' E' L' m' w' h1 (Mem.le_trans hS (Mem.le_trans hS1 h2)) (hP.trans ((Pin.of hE1).trans h3)) (hA.trans (h4.mono hD)) h5;clear hQ hS hP hA hS1 hE1 R;generalize zvQ σ H.mm=σ1 at *;refine yzO (fun g a w=>∃m' x S' E' L',a=fr n m'/\Mem.le S1 S'/\Pin N0 E1 E'/\Agr (zcO b) m m'/\Rel n B S' E' L' (H.s.put x) m' w/\Rng (nstF N0 n τ Γ η H b σ1) g (Sum.inl x) dd) fuel ⟨m,s0,S2,E2,L2,rfl,hS2,hP2,Agr.refl _ _,R2,hrng⟩ ?_;rintro g a w ⟨m2,x,S3,E3,L3,rfl,hS3,hP3,hA3,R3,hit⟩;cases g with
  |zero=>exact hit.elim|succ g=>
   have kk:∀g',g'<=g->∀y,rngO (fun s'=>Rng (nstF N0 n τ Γ η H b σ1) g' s' dd) dd (some y)->OnK N0 n B S1 E1 m (zcO b) (nstK N0 n τ Γ η H b σ1) y (Exit.then (fun a' w'=>∃g',g'<g+1/\∃m' x S' E' L',a'=fr n m'/\Mem.le S1 S'/\Pin N0 E1 E'/\Agr (zcO b) m m'/\Rel n B S' E' L' (H.s.put x) m' w'/\Rng (nstF N0 n τ Γ η H b σ1) g' (Sum.inl x) dd) Q):=by
    intro g' hg' y hy e σ' S' E' L' m' w' hk hS' hP' hA' R';have fin:∀e',mapO Sum.inr (inj N0 H.outs e' σ')=some y->Q (exQ e') (fr n m') w':=fun e' h5=>by obtain⟨d',h6,rfl⟩:=znD h5;have h7:d'=dd:=hy;subst h7;obtain⟨S4,E4,L4,σ4,hS4,hP4,R4,_,_,h8⟩:=ybP R' (kp:=zuA (zcO b) σ1 H.kp) (fun S'' E'' hS'' t=>zsN R1 (Mem.le_trans hS' hS'') hA' H.kp t) h6;rw[h8]at h2;exact hQ1 e' σ4 _ _ _ _ _ h2 (Mem.le_trans hS' hS4) (hP'.trans hP4) hA' R4
    cases e with
    |normal=>obtain⟨x',h6,rfl⟩:=znD hk;obtain⟨S4,E4,L4,hS4,hP4,R4⟩:=ybA R' (fun l=>zhR l R') h6;exact⟨g',Nat.lt_succ_of_le hg',m',x',S4,E4,L4,rfl,Mem.le_trans hS' hS4,hP'.trans hP4,hA',R4,hy⟩
    |exit i=>exact fin (.exit i) hk|ret=>exact fin .ret hk
   have h0:=hit _ (List.mem_singleton.2 rfl);generalize hyo:zrR N0 n τ Γ η b H.p ((H.s.put x).app (zuA (zcO b) σ1 H.kp)) (nstA N0 H) (nstK N0 n τ Γ η H b σ1)=o at h0
   match o,h0 with
   |some y,hy=>
    refine zwN hm hτ hΓ b H.p (fun _ h=>h) (kk g (aK g) y hy) (fun σ4 S4 E4 L4 m4 w4 ha hS4 hP4 hA4 R4=>?_) _ S3 E3 L3 m2 w hyo hS3 hP3 hA3 (R3.app (zsN R1 hS3 hA3 H.kp));obtain⟨y0,h6,rfl⟩:=znD ha;obtain⟨S5,E5,L5,hS5,hP5,R5⟩:=ybA R4 (fun l=>zhR l R4) h6;refine yzO (fun g2 a w=>g2<=g/\∃m' y S' E' L',a=fr n m'/\Mem.le S1 S'/\Pin N0 E1 E'/\Agr (zcO b) m m'/\Rel n B S' E' L' (H.si.put y) m' w/\Rng (nstF N0 n τ Γ η H b σ1) g2 (Sum.inr y) dd) g ⟨aK g,m4,y0,S5,E5,L5,rfl,Mem.le_trans hS4 hS5,hP4.trans hP5,hA4,R5,hy⟩ ?_;rintro g2 a w' ⟨hg2,m5,y1,S6,E6,L6,rfl,hS6,hP6,hA6,R6,hit2⟩;cases g2 with
    |zero=>exact hit2.elim|succ g2=>
     exact inK_ok hm hτ hΓ (R6.app (zsN R1 hS6 hA6 H.kpi)) hS6 hP6 hA6 (fun t h=>yhA b H.p t h) (Z:=rngO (fun s'=>Rng (nstF N0 n τ Γ η H b σ1) g2 s' dd) dd) (fun h=>h) hit2 (fun y hy=>ybM hm hτ hΓ b H.p (fun _ h=>h) (kk g2 (by omega) y hy)) (fun y hy σ7 S7 E7 L7 m7 w7 hg hS7 hP7 hA7 R7=>by
      obtain⟨y',h6,rfl⟩:=znD hg;obtain⟨S8,E8,L8,hS8,hP8,R8⟩:=ybA R7 (fun l=>zhR l R7) h6
      exact⟨g2,Nat.lt_succ_self g2,by omega,m7,y',S8,E8,L8,rfl,Mem.le_trans hS7 hS8,hP7.trans hP8,hA7,R8,hy⟩)
 ·cases hr
theorem fnN_ok{G:List (Nat×Obj)}{f:FuncId}{fn:Func}{I:Shp}{nr:Nat}{outs:List (Option Nat×Shp)}{H:NH}(hm:P.follows .mixedOrders=true)(hτ:TEok P τ)(hΓ:∀B,GB G B->CTok P Γ B)(hf:P.funcs[f]? = some fn)(hfn:IsFn P f)(hl:Nat.ble I.sl.length fn.ntmps=true)(hr:aG fn.results.toList.length nr=true):SCok P G f ⟨I,nr,outs,fnN τ Γ η H fn I outs⟩:=by
 refine⟨hfn,fun S0 w0 us E0 L0 a d hG hul R hy=>?_⟩;have hy:fnN τ Γ η H fn I outs a=some d:=hy;have hul:us.length=I.sl.length:=hul;unfold fnN at hy;split at hy
 ·cases hy
 ·rename_i c hb;have hC:=hΓ _ (gb_in hG R.hs);refine yuC (rn:=fun k=>zrR I.hp.length fn.ntmps τ Γ η c H.p0 (I.put a) (fun σ=>nst I.hp.length fn.ntmps τ Γ η H (hole c H.p0) σ (ctxK I.hp.length fn.ntmps τ Γ η c H.p0 k)) k) hτ hf hb (by rw[hul];exact Nat.le_of_ble_eq_true hl) hr R (fun R1 k r Q hr hQ=>?_) hy;exact zwN hm hτ hC c H.p0 (D:=zcO c) (fun _ h=>h) hQ (fun σ S E L m w h1 h2 h3 h4 R2=>nst_ok hm hτ hC R2 h1 h2 h3 h4 (fun t h=>yhA c H.p0 t h) (ybM hm hτ hC c H.p0 (fun _ h=>h) hQ)) _ _ _ _ _ _ hr (Mem.le_refl _) (Pin.refl _ _) (Agr.refl _ _) R1
theorem fn_nc{G:List (Nat×Obj)}{f:FuncId}{fn:Func}{c:SC}(H:NH)(hm:P.follows .mixedOrders=true)(hτ:TEok P τ)(hΓ:∀B,GB G B->CTok P Γ B)(hf:P.funcs[f]? = some fn)(hfn:IsFn P f)(hl:Nat.ble c.I.sl.length fn.ntmps=true)(hr:aG fn.results.toList.length c.nr=true)(he:fnN τ Γ η H fn c.I c.outs=c.p):SCok P G f c:=by have h:=fnN_ok (η:=η) (outs:=c.outs) (H:=H) hm hτ hΓ hf hfn hl hr;rw[he]at h;exact h
end
section
variable {P:Program}{G:List (Nat×Obj)}
def ysH(e:Ty)(n:Int):Option (List (den e)):=bif decide (0<=n)&&decide (n<=1048576)then some []else none
theorem grow0_sc{f:FuncId}{e:Ty}{E:TypeId}(hfn:IsFn P f) (hc:∀(n:Nat) (w:World),n<=1048576->Calls P f #[.slice none 0 0,.int .i64 (n:Int)] w fun x w'=>∃v,x = .returned v/\((v = .slice none 0 0/\w'=w)∨∃cap arr,v = .slice (some ⟨w.heap.size,0,none⟩) 0 cap/\w'=w.drew.alloc (.cells arr E)/\cap*tsz e<=arr.size)):
  SCok P G f ⟨⟨[(0,.nils),(1,.h (.i .i64))],[]⟩,1,[(none,⟨[(0,.own 0)],[.osl e E]⟩)],fun(n:Int)=>ysH e n⟩:=by
 obtain⟨q,hq⟩:=zcW e;have e0:∀y:den (.sl e),zcF [.osl e E] [.v (.sl e) y]=[.osl 0 e E y]:=fun y=>by rw[zcF,hq];rfl
 refine⟨hfn,fun S0 w0 us E0 L0 (x:Int) (d:List (den e)) _ hul R hy=>?_⟩;have hy:ysH e x=some d:=hy;unfold ysH at hy;obtain⟨hb,hy⟩:=zaG hy;cases hy;simp only[aH,zD]at hb;obtain⟨n,rfl⟩:=dY hb.1;have hul:us.length=2:=hul;obtain⟨u,u2,rfl⟩:∃u u2,us=[u,u2]:=by
  match us,hul with
  |[u,u2],_=>exact⟨u,u2,rfl⟩
 have hu:u = .slice none 0 0:=R.sl 0;have hu2:rep (.i .i64) S0 [u2] (n:Int):=R.sl 1;have hu2:u2 = .int .i64 (n:Int):=by have h:[u2]=[Value.int .i64 (n:Int)]:=hu2;injection h
 subst hu;subst hu2;have hL:L0=[]:=aT R.lL;have hE:E0=[]:=aT R.lE;subst hL;subst hE
 have fin:∀{v:Value} {w':World} {q:Res},HS ⟨S0,zbD [],w0⟩ S0 w' [q]->(∃cs rs,q = .osl v 0 (tsz e) cs rs E/\cs=[])->v.oneCell'=true->∃v',Ending.returned v = .returned v'/\∃S' E' L' σo V',(∀{γ:Type} (k:Ex->St->Option γ),out [] [(none,(⟨[(0,.own 0)],[.osl e E]⟩:Shp))] ([]:List (den e)) k=k .normal σo)/\Mem.le S0 S'/\Pin 0 [] E'/\RelV ⟨S0,zbD [],w0⟩ S' E' L' σo V' w'/\Ver0 σo.hp/\0<=σo.hp.length/\v'=zyB (zxD V' 0 1):=fun {v w' q} H hq0 h1=>by
  obtain⟨cs,rs,rfl,rfl⟩:=hq0;refine⟨v,rfl,S0,[.osl 0 v (tsz e)],[.osl v 0 (tsz e) [] rs E],⟨[(0,.own 0 0)],[.osl 0 e E []]⟩,fun _=>v,fun k=>?_,Mem.le_refl _,fun k e hk=>absurd hk (Nat.not_lt_zero k),⟨H,rfl,rfl,fun i o h=>?_,fun t=>?_⟩,?_,bS _,rfl⟩
  ·show k (exOf none) ((Shp.put _ _).app [])=_;rw[show(Shp.put (⟨[(0,.own 0)],[.osl e E]⟩:Shp) ([]:List (den e)))=⟨[(0,.own 0 0)],[.osl 0 e E []]⟩from congrArg (fun hp=>(⟨[(0,.own 0 0)],hp⟩:St)) (e0 _)];rfl
  ·cases i with
   |zero=>cases h;exact⟨_,_,rfl,rfl,v,v,[],rs,rfl,rfl,rfl,.inl rfl⟩
   |succ i=>simp at h
  ·cases t with
   |zero=>exact VR.ofC (show VC S0 _ (.own 0 0) v from⟨h1,_,rfl,fun r v' s he=>by cases he;exact⟨aK 0,fun _=>rfl⟩⟩)|succ t=>trivial
  ·intro i ver e' T' xs' hi;cases i with
   |zero=>cases hi;rfl
   |succ i=>simp at hi
 refine(hc n w0 (by have:=hb.2;omega)).mono ?_;rintro x w' ⟨v,rfl,⟨rfl,rfl⟩|⟨cap,arr,rfl,rfl,hcap⟩⟩
 ·exact fin (HS.nil R.hs _ _) ⟨[],[],rfl,rfl⟩ rfl
 ·refine fin (R.hs.push (Ext.trans (Ext.drew w0) (Ext.alloc w0.drew _)) (r:=.osl (sl w0.heap.size 0 0 cap) 0 (tsz e) [] arr.toList E) (.inr ⟨w0.heap.size,cap,(0,0),rfl,bS _,by simp,by simpa using hcap,by simpa using zaL w0.drew _,.inl rfl⟩) fun b hb=>by cases hb;exact aK _) ⟨[],arr.toList,rfl,rfl⟩ rfl
end
end Go.Proofs.YtopanhneegpgcaaGreatDoor.Am
namespace Go.Proofs
open Go.Shelf
def Tryz.growS_ren:Go.Shelf.Ren:=⟨fun|4=>187|n=>n,fun|22=>22|25=>9|3=>3|4=>4|9=>9|20=>20|0=>0|n=>n,fun|n=>n⟩
theorem Tryz.growS:Go.Proofs.Lays8.n4 aB Tryz.growS_ren:={mixed:=by kernel_rfl,f4:=⟨Tryz.f187.name,by decide,kqz Tryz.func187 (by kernel_rfl)⟩,t0:=Tryz.underlying0,a0:=Tryz.isAgg0,z0:=Tryz.sizeOf0,v0:=Tryz.zeroValue0,t3:=Tryz.underlying3,a3:=Tryz.isAgg3,z3:=Tryz.sizeOf3,v3:=Tryz.zeroValue3,t4:=Tryz.underlying4,a4:=Tryz.isAgg4,z4:=Tryz.sizeOf4,v4:=Tryz.zeroValue4,t9:=Tryz.underlying9,a9:=Tryz.isAgg9,z9:=Tryz.sizeOf9,v9:=Tryz.zeroValue9,t20:=Tryz.underlying20,a20:=Tryz.isAgg20,z20:=Tryz.sizeOf20,v20:=Tryz.zeroValue20,t22:=Tryz.underlying22,a22:=Tryz.isAgg22,z22:=Tryz.sizeOf22,v22:=Tryz.zeroValue22 }
end Go.Proofs
namespace Go.Proofs.YtopanhneegpgcaaGreatDoor.Am
open Go Go.RowKit
theorem growK(n:Nat)(w:World)(hn:n<=1048576):Calls aB 187 #[.slice none 0 0,.int .i64 (n:Int)] w fun x w'=>∃v,x = .returned v/\((v = .slice none 0 0/\w'=w)∨∃cap arr,v = .slice (some ⟨w.heap.size,0,none⟩) 0 cap/\w'=w.drew.alloc (.cells arr 9)/\cap*tsz .s<=arr.size):=by
 obtain⟨i0,hi,hz,hs,hb⟩:=(yrP (P:=aB) (τ:=[(9,⟨.s,1,[.v .s (show Bs from [])],.s,16⟩)]) (by kernel_rfl) (by kernel_rfl) 9 _ rfl).i;have hs:i0.size=1:=hs;have hb:i0.bytes=16:=hb;rcases Nat.eq_zero_or_pos n with rfl|h0
 ·refine(Any8.slices_Grow_room Tryz.growS none 0 0 0 w (by omega) (by omega) (by omega) (by omega)).mono ?_;rintro _ _ ⟨rfl,rfl⟩;exact⟨_,rfl,.inl ⟨rfl,rfl⟩⟩
 ·refine(Any8.slices_Grow_grow Tryz.growS i0 _ hi hz (by omega) none 0 0 n [] w (by omega) (by omega) (by rw[hb];omega) (by omega) (by simp) (fun _=>rfl) (fun a h=>by cases h)).mono ?_;rintro _ _ ⟨rfl,rfl⟩;refine⟨_,rfl,.inr ⟨_,_,rfl,rfl,?_⟩⟩;have hge:=grownCap_ge w (0+n) 0 9;simp only[gT,size_zeroCells,dD,List.length_nil];have h1:(Value.cells (zV (⟨.s,1,[.v .s (show Bs from [])],.s,16⟩:TI))).size=1:=rfl;rw[h1];show _*1<=_;have h2:grownCap w (0+n) 0 9=grownCap w (0+n) 0 (Tryz.growS_ren.t 25):=rfl;rw[<-h2];omega
end Go.Proofs.YtopanhneegpgcaaGreatDoor.Am
