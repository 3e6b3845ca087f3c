/- Parts of one proof. Conditions: as each theorem says. -/
import Derived.Test.YtmbcolbbekbccaaGreatQkI
open Int renaming ofNat->iP
open List renaming getElem?_append_left->aF,getElem?_eq_some_iff->aC,length->eT,mem_singleton->aW,take->gD,toArray->dG
open Nat renaming beq->aG,ble->bM,blt->cM,eq_of_beq_eq_true->aB,le_of_lt->cW,lt_of_le_of_lt->cG,lt_trans->bQ,ne_of_lt->gW
open Option renaming bind->aA
namespace Go.Proofs.YtmbcolbbekbccaaGreat.Am
open Go Go.RowKit
section
variable {β:Type}
def ybT(hp:List AO):(l:List Ty)->List SV->Option (zcM l)
 |[],[]=>some ()|[t],[x]=>ofSV hp t x|t::t'::l,x::xs=>match ofSV hp t x,ybT hp (t'::l) xs with
  |some a,some r=>some (a,r)|_,_=>none
 |_,_=>none
def zhN:(l:List Ty)->zcM l->List SV
 |[],_=>[]|[t],x=>[svOf t x]|t::t'::l,x=>svOf t x.1::zhN (t'::l) x.2
def yvW(l:List Ty)(x:zcM l):SV:=match zhN l x with
 |[x]=>x|l=>.tup l
def ownsC:SV->List Nat
 |.own id _=>[id]|_=>[]
def owns(x:SV):List Nat:=(cellL x).flatMap ownsC
def frzC(id ver:Nat)(e:Ty)(xs:List (den e)):SV->SV
 |.own i w=>bif aG i id&&aG w ver then .v (.sl e) xs else .own i w
 |x=>x
def frzS(id ver:Nat)(e:Ty)(xs:List (den e)):SV->SV
 |.ag l=>.ag (l.map (frzC id ver e xs))|.tup l=>.tup (l.map fun x=>match x with
  |.ag l=>.ag (l.map (frzC id ver e xs))|x=>frzC id ver e xs x)
 |x=>frzC id ver e xs x
def frz(σ:St)(id:Nat):St:=match atN σ.hp id with
 |some (.osl ver e _ xs)=>⟨σ.sl.map fun p=>(p.1,frzS id ver e xs p.2),(setN σ.hp id .dead).map fun o=>match o with
  |.blk T cs=>.blk T (cs.map (frzC id ver e xs))|o=>o⟩
 |_=>σ
def frzL(σ:St):List Nat->St
 |[]=>σ|i::l=>frzL (frz σ i) l
def zqV:Ty->Bool
 |.sl _=>true|.pr a c=>zqV a||zqV c|.mp _ _=>true|.jk _=>true|.pt _=>true|.pm _ _ _=>true|_=>false
def noJk:Ty->Bool
 |.jk _=>false|.pm _ _ _=>false|.sl e=>noJk e|.pr a c=>noJk a&&noJk c|.pt t=>noJk t|_=>true
def zuT:SV->Bool
 |.v _ _=>true|.nils=>true|.nilp=>true|.emp=>true|.cl _ _=>true|.rm _ _ _=>true|.rp _ _ _=>true|_=>false
def fcEq:(a b:FC)->Option (PLift (a=b))
 |.h t,.h t'=>match tyEq t t' with
  |some ⟨h⟩=>some ⟨by rw[h]⟩|none=>none
 |.mpr i,.mpr j=>match decEq i j with
  |.isTrue h=>some ⟨by rw[h]⟩|.isFalse _=>none
 |_,_=>none
def fcsEq:(a b:List FC)->Option (PLift (a=b))
 |[],[]=>some ⟨rfl⟩|x::a,y::b=>match fcEq x y,fcsEq a b with
  |some ⟨h⟩,some ⟨k⟩=>some ⟨by rw[h,k]⟩|_,_=>none
 |_,_=>none
def fshEq:(a b:FSh)->Option (PLift (a=b))
 |.blk T l,.blk T' l'=>match decEq T T',fcsEq l l' with
  |.isTrue h,some ⟨k⟩=>some ⟨by rw[h,k]⟩|_,_=>none
 |.mp K V,.mp K' V'=>match tyEq K K',tyEq V V' with
  |some ⟨h⟩,some ⟨k⟩=>some ⟨by rw[h,k]⟩|_,_=>none
 |_,_=>none
def yqR:(a b:List FSh)->Option (PLift (a=b))
 |[],[]=>some ⟨rfl⟩|x::a,y::b=>match fshEq x y,yqR a b with
  |some ⟨h⟩,some ⟨k⟩=>some ⟨by rw[h,k]⟩|_,_=>none
 |_,_=>none
def castF{a c:List FSh}(h:a=c)(x:List (den (fT a))):List (den (fT c)):=h▸x
def Sh.needB:Sh->SV->List Nat
 |.h _,.own id _=>[id]|_,_=>[]
def ysG:List Sh->List SV->List Nat
 |a::l,x::xs=>a.needB x++ysG l xs|_,_=>[]
def Sh.needC:Sh->SV->List Nat
 |.fn _ a c,.fn _ a' c'=>ysG a a'++ysG c c'|a,x=>a.needB x
def yvR:List Sh->List SV->List Nat
 |a::l,x::xs=>a.needC x++yvR l xs|_,_=>[]
def Sh.need:Sh->SV->List Nat
 |.h _,x=>owns x|.ag l,.ag xs=>yvR l xs|a,x=>a.needC x
def yjN(hp:List AO):List OSh->List Nat->List Nat
 |.blk _ l::os,id::ids=>(match atN hp id with
  |some (.blk _ cs)=>yvR l cs|_=>[])++yjN hp os ids
 |_::os,_::ids=>yjN hp os ids|_,_=>[]
def Sh.bindB:Sh->SV->List (Nat×Nat)
 |.own k,.own id _=>[(k,id)]|.ptr k _,.ptr id _=>[(k,id)]|.mpr k,.mpr id=>[(k,id)]|.fs k,.fs id _=>[(k,id)]|_,_=>[]
def yqC:List Sh->List SV->List (Nat×Nat)
 |a::l,x::xs=>a.bindB x++yqC l xs|_,_=>[]
def Sh.bindC:Sh->SV->List (Nat×Nat)
 |.fn _ a c,.fn _ a' c'=>yqC a a'++yqC c c'|a,x=>a.bindB x
def yuY:List Sh->List SV->List (Nat×Nat)
 |a::l,x::xs=>a.bindC x++yuY l xs|_,_=>[]
def Sh.bindS:Sh->SV->List (Nat×Nat)
 |.ag l,.ag xs=>yuY l xs|a,x=>a.bindC x
def lkN:List (Nat×Nat)->Nat->Option Nat
 |[],_=>none|(k,i)::l,t=>bif aG k t then some i else lkN l t
def zpP(hp:List AO):Nat->List OSh->List (Nat×Nat)->List (Nat×Nat)
 |_,[],b=>b|k,.blk _ l::os,b=>zpP hp (k+1) os (match lkN b k with
  |some id=>match atN hp id with
   |some (.blk _ cs)=>b++yuY l cs|_=>b
  |none=>b)
 |k,.it j _ _::os,b=>zpP hp (k+1) os (match lkN b k with
  |some id=>match atN hp id with
   |some (.it mid _ _ _ _)=>b++[(j,mid)]|_=>b
  |none=>b)
 |k,_::os,b=>zpP hp (k+1) os b
def rhoL(n:Nat)(b:List (Nat×Nat)):Nat->List OSh->List Nat
 |_,[]=>[]|k,_::os=>(match lkN b k with
  |some id=>id|none=>n)::rhoL n b (k+1) os
def live:OSh->Bool
 |.dead=>false|_=>true
def zyM(id:Nat):List OSh->List Nat->Bool
 |o::os,i::ids=>(live o&&aG i id)||zyM id os ids|_,_=>false
def dist:List OSh->List Nat->Bool
 |o::os,i::ids=>(!(live o) || !(zyM i os ids))&&dist os ids|_,_=>true
def Sh.getB(ρ:List Nat)(hp hq:List AO):Sh->SV->Option (List SV)
 |.h t,x=>bif one t then(match zhC hq t x with
  |some y=>some [.v t y]|none=>none)else none
 |.own k,.own id ver=>match atN ρ k,atN hp id with
  |some id',some (.osl ver' _ _ _)=>bif aG id' id&&aG ver ver' then some []else none
  |some id',some (.qu ver' _ _ _)=>bif aG id' id&&aG ver ver' then some []else none
  |_,_=>none
 |.ptr k off,.ptr id off'=>match atN ρ k with
  |some id'=>bif aG id' id&&aG off off' then some []else none
  |none=>none
 |.mpr k,.mpr id=>match atN ρ k with
  |some id'=>bif aG id' id then some []else none
  |none=>none
 |.fs k,.fs id ver=>match atN ρ k,atN hp id with
  |some id',some (.fam ver' _ _ _)=>bif aG id' id&&aG ver ver' then some []else none
  |_,_=>none
 |.nilp,.nilp=>some []|.nils,.nils=>some []|.kn k n,.v (.i k') x=>match ikEq k' k with
  |some _=>bif decide (toI k' x=n)&&decide (toI k (ofI k n)=n)then some []else none
  |none=>none
 |.hc e,.cl e' xs=>match tyEq e' e with
  |some ⟨q⟩=>some [.v (.sl e) (ziC (by rw[q]:Ty.sl e'=Ty.sl e) xs)]|none=>none
 |.hr t,.rp t' x 0=>match tyEq t' t with
  |some ⟨q⟩=>some [svOf t (ziC q x)]|none=>none
 |.hr t,.ptr id 0=>match atN hq id with
  |some (.blk _ cs)=>match zdR hq t cs with
   |some y=>some [svOf t y]|none=>none
  |_=>none
 |_,_=>none
def ytR(ρ:List Nat)(hp hq:List AO):List Sh->List SV->Option (List SV)
 |[],[]=>some []|a::l,x::xs=>match a.getB ρ hp hq x,ytR ρ hp hq l xs with
  |some p,some q=>some (p++q)|_,_=>none
 |_,_=>none
def Sh.getC(ρ:List Nat)(hp hq:List AO):Sh->SV->Option (List SV)
 |.fn f a c,.fn f' a' c'=>bif aG f f' then(match ytR ρ hp hq a a',ytR ρ hp hq c c' with
  |some p,some q=>some (p++q)|_,_=>none)else none
 |a,x=>a.getB ρ hp hq x
def ypS(ρ:List Nat)(hp hq:List AO):List Sh->List SV->Option (List SV)
 |[],[]=>some []|a::l,x::xs=>match a.getC ρ hp hq x,ypS ρ hp hq l xs with
  |some p,some q=>some (p++q)|_,_=>none
 |_,_=>none
def Sh.get(ρ:List Nat)(hp hq:List AO):Sh->SV->Option (List SV)
 |.h t,x=>match ofSV hq t x with
  |some y=>some [svOf t y]|none=>none
 |.ag l,.ag xs=>ypS ρ hp hq l xs|.ag _,_=>none|a,x=>a.getC ρ hp hq x
def getL(ρ:List Nat)(hp hq:List AO):List Sh->List SV->Option (List SV)
 |[],[]=>some []|a::l,x::xs=>match a.get ρ hp hq x,getL ρ hp hq l xs with
  |some p,some q=>some (p++q)|_,_=>none
 |_,_=>none
def ywM(ρ:List Nat)(σ:St):List (Nat×Sh)->Option (List SV)
 |[]=>some []|(d,a)::l=>match a.get ρ σ.hp [] (lkS σ.sl d),ywM ρ σ l with
  |some p,some q=>some (p++q)|_,_=>none
def zhU(ρ:List Nat)(hp:List AO):List OSh->List Nat->Option (List SV)
 |[],_=>some []|.blk T l::os,id::ids=>match atN hp id with
  |some (.blk T' cs)=>bif aG T T' then(match ypS ρ hp [] l cs,zhU ρ hp os ids with
   |some p,some q=>some (p++q)|_,_=>none)else none
  |_=>none
 |.osl e T::os,id::ids=>match atN hp id with
  |some (.osl _ e' T' ys)=>bif aG T T' then(match tyEq e' e,zhU ρ hp os ids with
   |some ⟨h⟩,some q=>some (.v (.sl e) (ziC (by rw[h]:Ty.sl e'=Ty.sl e) ys)::q)|_,_=>none)else none
  |_=>none
 |.mp _ K V::os,id::ids=>match atN hp id with
  |some (.mp _ K' V' es)=>match tyEq (.mp K' V') (.mp K V),zhU ρ hp os ids with
   |some ⟨h⟩,some q=>some (.v (.mp K V) (ziC h es)::q)|_,_=>none
  |_=>none
 |.it j _ K::os,id::ids=>match atN hp id,atN ρ j with
  |some (.it mid g K' _ ks),some mid'=>match atN hp mid with
   |some (.mp g' _ _ _)=>bif aG mid mid'&&aG g g' then(match tyEq K' K,zhU ρ hp os ids with
    |some ⟨h⟩,some q=>some (.v (.sl K) (ziC (by rw[h]:Ty.sl K'=Ty.sl K) ks)::q)|_,_=>none)else none
   |_=>none
  |_,_=>none
 |.is::os,id::ids=>match atN hp id,zhU ρ hp os ids with
  |some (.is l p),some q=>some (.v .s l :: .v (.i .i64) (p:Int)::q)|_,_=>none
 |.qu e T::os,id::ids=>match atN hp id with
  |some (.qu _ e' T' ys)=>bif aG T T' then(match tyEq e' e,zhU ρ hp os ids with
   |some ⟨h⟩,some q=>some (.v (.sl e) (ziC (by rw[h]:Ty.sl e'=Ty.sl e) ys)::q)|_,_=>none)else none
  |_=>none
 |.fam T f::os,id::ids=>match atN hp id with
  |some (.fam _ T' f' ks)=>bif aG T T' then(match yqR f' f,zhU ρ hp os ids with
   |some ⟨h⟩,some q=>some (.v (.sl (fT f)) (castF h ks)::q)|_,_=>none)else none
  |_=>none
 |.dead::os,_::ids=>zhU ρ hp os ids|_,_=>none
def Sh.putB:Sh->List SV->SV×List SV
 |.h _,x::l=>(x,l)|.own id,l=>(.own id 0,l)|.ptr id off,l=>(.ptr id off,l)|.mpr id,l=>(.mpr id,l)|.fs id,l=>(.fs id 0,l)|.nilp,l=>(.nilp,l)|.nils,l=>(.nils,l)|.kn k n,l=>(.v (.i k) (ofI k n),l)|.hc e,.v (.sl e') xs::l=>(match tyEq e' e with
  |some ⟨q⟩=>.cl e (ziC (by rw[q]:Ty.sl e'=Ty.sl e) xs)|none=>.undef,l)
 |.hr t,x::l=>(match ofSV [] t x with
  |some y=>.rp t y 0|none=>.undef,l)
 |_,l=>(.undef,l)
def zzD:List Sh->List SV->List SV×List SV
 |[],l=>([],l)|a::s,l=>((a.putB l).1::(zzD s (a.putB l).2).1,(zzD s (a.putB l).2).2)
def Sh.putC:Sh->List SV->SV×List SV
 |.fn f a c,l=>(.fn f (zzD a l).1 (zzD c (zzD a l).2).1,(zzD c (zzD a l).2).2)|a,l=>a.putB l
def ybV:List Sh->List SV->List SV×List SV
 |[],l=>([],l)|a::s,l=>((a.putC l).1::(ybV s (a.putC l).2).1,(ybV s (a.putC l).2).2)
def Sh.put:Sh->List SV->SV×List SV
 |.ag s,l=>(.ag (ybV s l).1,(ybV s l).2)|a,l=>a.putC l
def putL:List Sh->List SV->List SV×List SV
 |[],l=>([],l)|a::s,l=>((a.put l).1::(putL s (a.put l).2).1,(putL s (a.put l).2).2)
def yhK:List (Nat×Sh)->List SV->List (Nat×SV)×List SV
 |[],l=>([],l)|(d,a)::s,l=>((d,(a.put l).1)::(yhK s (a.put l).2).1,(yhK s (a.put l).2).2)
def zdM:List OSh->List SV->List AO
 |[],_=>[]|.blk T s::os,l=>.blk T (ybV s l).1::zdM os (ybV s l).2|.osl e T::os,.v (.sl e') y::l=>(match tyEq e' e with
  |some ⟨h⟩=>.osl 0 e T (ziC (by rw[h]:Ty.sl e'=Ty.sl e) y)|none=>.dead)::zdM os l
 |.osl _ _::os,l=>.dead::zdM os l|.mp kp K V::os,.v (.mp K' V') y::l=>(match tyEq (.mp K' V') (.mp K V) with
  |some ⟨h⟩=>.mp (bif kp then 0 else 1) K V (ziC h y)|none=>.dead)::zdM os l
 |.mp _ _ _::os,l=>.dead::zdM os l|.it j kp K::os,.v (.sl K') y::l=>(match tyEq K' K with
  |some ⟨h⟩=>.it j (bif kp then 0 else 1) K none (ziC (by rw[h]:Ty.sl K'=Ty.sl K) y)|none=>.dead)::zdM os l
 |.it _ _ _::os,l=>.dead::zdM os l|.is::os,.v .s t :: .v (.i .i64) p::l=>.is t (Int.toNat p)::zdM os l|.is::os,l=>.dead::zdM os l|.qu e T::os,.v (.sl e') y::l=>(match tyEq e' e with
  |some ⟨h⟩=>.qu 0 e T (ziC (by rw[h]:Ty.sl e'=Ty.sl e) y)|none=>.dead)::zdM os l
 |.qu _ _::os,l=>.dead::zdM os l|.fam T f::os,.v (.sl e') y::l=>(match tyEq e' (fT f) with
  |some ⟨h⟩=>.fam 0 T f (ziC (by rw[h]:Ty.sl e'=Ty.sl (fT f)) y)|none=>.dead)::zdM os l
 |.fam _ _::os,l=>.dead::zdM os l|.dead::os,l=>.dead::zdM os l
def idB:Nat->Nat->List (Nat×Nat)
 |_,0=>[]|k,n+1=>(k,k)::idB (k+1) n
def Shp.rho(N0:Nat)(s:Shp)(σ:St):List Nat:=rhoL σ.hp.length (zpP σ.hp 0 s.hp (idB 0 N0++s.sl.flatMap fun p=>p.2.bindS (lkS σ.sl p.1))) 0 s.hp
def Shp.need(N0:Nat)(s:Shp)(σ:St):List Nat:=s.sl.flatMap (fun p=>p.2.need (lkS σ.sl p.1))++yjN σ.hp s.hp (s.rho N0 σ)
def itOk(all:List OSh):List OSh->Bool
 |[]=>true|.it j kp _::os=>(match atN all j with
  |some (.mp kp' _ _)=>(bif kp then kp' else !kp')&&itOk all os|_=>false)
 |_::os=>itOk all os
def Shp.get1(s:Shp)(ρ:List Nat)(σ:St):Option (zcM s.tys):=bif dist s.hp ρ&&itOk s.hp s.hp then(match ywM ρ σ s.sl,zhU ρ σ.hp s.hp ρ with
 |some p,some q=>ybT [] s.tys (p++q)|_,_=>none)else none
def zqS:Nat->List AO->List OSh->Bool
 |0,_,_=>true|n+1,.osl ver _ _ _::l,.osl _ _::os=>aG ver 0&&zqS n l os|n+1,.mp g _ _ _::l,.mp kp _ _::os=>((!kp)||aG g 0)&&zqS n l os|_+1,_::_,.fam _ _::_=>false|_+1,_::_,.qu _ _::_=>false|_+1,.qu _ _ _ _::_,_::_=>false|n+1,_::l,_::os=>zqS n l os|_,_,_=>true
def Shp.get(N0:Nat)(s:Shp)(σ:St):Option (zcM s.tys):=bif bM N0 s.hp.length&&zqS N0 σ.hp s.hp then s.get1 (s.rho N0 σ) (frzL σ (s.need N0 σ))else none
def Shp.put(s:Shp)(x:zcM s.tys):St:=⟨(yhK s.sl (zhN s.tys x)).1,zdM s.hp (yhK s.sl (zhN s.tys x)).2⟩
structure PC where
 ash:List Sh
 rts:List Ty
 p:zcM (ash.flatMap Sh.tys)->Option (zcM rts)
 /-- its result is a slice that has no room behind its end -/
 cl:Bool
def clS(b:Bool)(x:SV):SV:=bif b then(match x with
 |.v (.sl e) xs=>.cl e xs|x=>x)else x
def yiH(c:PC)(y:zcM c.rts):SV:=clS c.cl (yvW c.rts y)
def DS:List (Option Nat×Shp)->Type
 |[]=>Empty|[a]=>zcM a.2.tys|a::b::l=>zcM a.2.tys⊕DS (b::l)
structure SC where
 I:Shp
 nr:Nat
 outs:List (Option Nat×Shp)
 p:zcM I.tys->Option (DS outs)
structure CT where
 pc:List (Nat×PC)
 sc:List (Nat×SC)
 keep:Bool
 /-- the members of families, by their type -/
 fm:List (Nat×List FSh)
def fmAt:List (Nat×List FSh)->Nat->Option (List FSh)
 |[],_=>none|(d,x)::m,t=>bif aG d t then some x else fmAt m t
def jnOf(Γ:CT):Bool:=(fmAt Γ.fm 999999999).isSome
def mbOf(Γ:CT):Bool:=(fmAt Γ.fm 999999998).isSome
def unJ(Γ:CT):CT:=bif jnOf Γ then⟨Γ.pc,Γ.sc,Γ.keep,bif mbOf Γ then [(999999998,[])]else []⟩else Γ
def pcAt:List (Nat×PC)->Nat->Option PC
 |[],_=>none|(d,x)::m,t=>bif aG d t then some x else pcAt m t
def scAt:List (Nat×SC)->Nat->List SC
 |[],_=>[]|(d,x)::m,t=>bif aG d t then x::scAt m t else scAt m t
def keq:(t:Ty)->den t->den t->Bool
 |.i k,x,y=>decide (toI k x=toI k y)|.b,x,y=>@BEq.beq Bool _ x y|.s,x,y=>@BEq.beq Bs _ x y|.pr a c,x,y=>keq a x.1 y.1&&keq c x.2 y.2|.un,_,_=>true|_,_,_=>false
def klt:(t:Ty)->den t->den t->Bool
 |.i k,x,y=>decide (toI k x<toI k y)|.b,x,y=>!(show Bool from x)&&y|.s,x,y=>Op.bytesLess x y|.pr a c,x,y=>klt a x.1 y.1||(keq a x.1 y.1&&klt c x.2 y.2)|_,_,_=>false
section
variable {α γ:Type}
def mget(eq:α->α->Bool):List (α×γ)->α->Option γ
 |[],_=>none|(k',v)::m,k=>bif eq k' k then some v else mget eq m k
def mhas(eq:α->α->Bool):List (α×γ)->α->Bool
 |[],_=>false|(k',_)::m,k=>eq k' k||mhas eq m k
def yhT(eq:α->α->Bool)(m:List (α×γ))(k:α)(z:γ):γ:=match mget eq m k with
 |some v=>v|none=>z
def mrep(eq:α->α->Bool):List (α×γ)->α->γ->List (α×γ)
 |[],_,_=>[]|(k',v')::m,k,v=>bif eq k' k then(k,v)::m else(k',v')::mrep eq m k v
def mins(lt:α->α->Bool):List (α×γ)->α->γ->List (α×γ)
 |[],k,v=>[(k,v)]|(k',v')::m,k,v=>bif lt k' k then(k',v')::mins lt m k v else(k,v)::(k',v')::m
def mset(eq lt:α->α->Bool)(m:List (α×γ))(k:α)(v:γ):List (α×γ):=bif mhas eq m k then mrep eq m k v else mins lt m k v
def mdel(eq:α->α->Bool):List (α×γ)->α->List (α×γ)
 |[],_=>[]|(k',v')::m,k=>bif eq k' k then m else(k',v')::mdel eq m k
end
def kOk:Ty->Bool
 |.i _=>true|.s=>true|.pr .s .s=>true|_=>false
def nofn:SV->Bool
 |.fn _ _ _=>false|_=>true
def noag:SV->Bool
 |.ag _=>false|_=>true
def notu:SV->Bool
 |.undef=>false|.skp=>false|.tup _=>false|_=>true
def bindS(o:Option SV)(k:SV->Option β):Option β:=match o with
 |some x=>k x|none=>none
def arith(op:BinOp)(a c:Int):Option Int:=match op with
 |.add=>some (a+c)|.sub=>some (a-c)|.mul=>some (a*c)|_=>none
def ycR:IntKind->Bool
 |.u16=>true|_=>false
def cmpI(op:BinOp)(a c:Int):Option Bool:=match op with
 |.eql=>some (a==c)|.neq=>some (a != c)|.lss=>some (decide (a<c))|.leq=>some (decide (a<=c))|.gtr=>some (decide (c<a))|.geq=>some (decide (c<=a))|_=>none
def eqK(τ:TE)(T:TypeId)(op:BinOp)(t:Bool)(k:SV->Option β):Option β:=match tyAt τ T with
 |some ⟨.pt _,_,_,_,_⟩=>match op with
  |.eql=>k (.v .b t)|.neq=>k (.v .b (!t))|_=>none
 |_=>none
def eqN(τ:TE)(T:TypeId)(op:BinOp)(t:Bool)(k:SV->Option β):Option β:=match tyAt τ T with
 |some ⟨.sl _,_,_,_,_⟩=>match op with
  |.eql=>k (.v .b t)|.neq=>k (.v .b (!t))|_=>none
 |_=>none
def eqM(τ:TE)(T:TypeId)(op:BinOp)(t:Bool)(k:SV->Option β):Option β:=match tyAt τ T with
 |some ⟨.map _ _,_,_,_,_⟩=>match op with
  |.eql=>k (.v .b t)|.neq=>k (.v .b (!t))|_=>none
 |_=>none
def eqI:List SV->List SV->Option Bool
 |[.v (.i q) a],[.v (.i q') c]=>match ikEq q' q with
  |some ⟨_⟩=>some (decide (toI q a=toI q' c))|none=>none
 |_,_=>none
def eqBo:List SV->List SV->Option Bool
 |[.v .b a],[.v .b c]=>some (@BEq.beq Bool _ a c)|_,_=>none
def eqSt:List SV->List SV->Option Bool
 |[.v .s a],[.v .s c]=>some (@BEq.beq Bs _ a c)|_,_=>none
def eqF(τ:TE)(q:TypeId->List SV->List SV->Option Bool):List (TypeId×Nat)->List SV->List SV->Option Bool
 |[],_,_=>some true|[(F,o)],l,l'=>match tyAt τ F with
  |some f=>q F (pc l o f.sz) (pc l' o f.sz)|none=>none
 |(F,o)::fs,l,l'=>match tyAt τ F with
  |some f=>match q F (pc l o f.sz) (pc l' o f.sz),eqF τ q fs l l' with
   |some a,some b=>some (a&&b)|_,_=>none
  |none=>none
def incr:List (TypeId×Nat)->Bool
 |a::b::l=>cM a.2 b.2&&incr (b::l)|_=>true
def eqT(τ:TE):Nat->TypeId->List SV->List SV->Option Bool
 |0,_,_,_=>none|n+1,T,l,l'=>match tyAt τ T with
  |some f=>bif aG l.length f.sz&&aG l'.length f.sz then(match f.td with
   |.st fs=>bif incr fs then eqF τ (eqT τ n) fs l l' else none
   |.ar N F=>match tyAt τ F with
    |some g=>eqF τ (eqT τ n) ((List.range' 0 N).map fun j=>(F,j*g.sz)) l l'|none=>none
   |.int _=>eqI l l'|.b=>eqBo l l'|.s=>eqSt l l'|_=>none)else none
  |none=>none
def binAg(τ:TE)(T:TypeId)(op:BinOp)(l l':List SV)(k:SV->Option β):Option β:=match tyAt τ T with
 |some f=>bif f.agg then(match eqT τ 8 T l l' with
  |some t=>match op with
   |.eql=>k (.v .b t)|.neq=>k (.v .b (!t))|_=>none
  |none=>none)else none
 |none=>none
def bin(τ:TE)(T:TypeId)(op:BinOp)(x y:SV)(k:SV->Option β):Option β:=match x,y with
 |.v (.i q) a,.v (.i q') c=>match op with
  |.shl=>bif ycR q then none else aA (chk (decide (0<=toI q' c))) fun _=>k (.v (.i q) (exI q (shlI q (toI q a) (toI q' c))))
  |.shr=>bif ycR q then none else aA (chk (decide (0<=toI q' c))) fun _=>k (.v (.i q) (exI q (shrI q (toI q a) (toI q' c))))
  |op=>match ikEq q' q with
   |none=>none|some ⟨h⟩=>match op with
    |.quo=>aA (chk (toI q' c != 0)) fun _=>k (.v (.i q) (ofI q (Int.tdiv (toI q a) (toI q' c))))
    |.rem=>bif ycR q then none else aA (chk (decide (0<toI q' c))) fun _=>k (.v (.i q) (exI q (Int.tmod (toI q a) (toI q' c))))
    |op=>match arith op (toI q a) (toI q' c) with
     |some r=>k (.v (.i q) (ofI q r))|none=>match cmpI op (toI q a) (toI q' c) with
      |some t=>k (.v .b t)|none=>match bitD op q a (ziC (by rw[h]:Ty.i q'=Ty.i q) c) with
       |some r=>k (.v (.i q) r)|none=>none
 |.v .s a,.v .s c=>match op with
  |.add=>aA (app a c) fun r=>k (.v .s r)
  |.eql=>k (.v .b (@BEq.beq Bs _ a c))|.neq=>k (.v .b (@bne Bs _ a c))|.lss=>k (.v .b (Op.bytesLess a c))|.leq=>k (.v .b (Op.bytesLess a c || @BEq.beq Bs _ a c))|.gtr=>k (.v .b (!(Op.bytesLess a c || @BEq.beq Bs _ a c)))|.geq=>k (.v .b (!(Op.bytesLess a c)))|_=>none
 |.v .b a,.v .b c=>match tyAt τ T with
  |some ⟨.b,_,_,_,_⟩=>match op with
   |.eql=>k (.v .b (@BEq.beq Bool _ a c))|.neq=>k (.v .b (@bne Bool _ a c))|_=>none
  |_=>none
 |.nils,.nils=>eqN τ T op true k|.nn _ _,.nils=>eqN τ T op false k|.nilm,.nilm=>eqM τ T op true k|.nilp,.nilp=>eqK τ T op true k|.ptr _ _,.nilp=>eqK τ T op false k|.rp _ _ _,.nilp=>eqK τ T op false k|.v (.pt _) _,.nilp=>eqK τ T op false k|.v (.pm _ _ _) _,.nilp=>eqK τ T op false k|.ag l,.ag l'=>binAg τ T op l l' k|_,_=>none
def un(op:UnOp)(x:SV)(k:SV->Option β):Option β:=match op,x with
 |.not,.v .b t=>k (.v .b (!t))|.neg,.v (.i q) a=>k (.v (.i q) (ofI q (0-toI q a)))|_,_=>none
def elemAt(τ:TE)(T:TypeId):Option TI:=match tyAt τ T with
 |some ⟨.sl E,_,_,_,_⟩=>tyAt τ E|_=>none
def xdX(τ:TE)(T:TypeId)(hp:List AO)(x:SV)(k:Int->Option β):Option β:=match tyAt τ T with
 |some ⟨.s,_,_,_,_⟩=>match x with
  |.v .s l=>k (eT l:Int)|_=>none
 |some ⟨.sl _,_,_,_,_⟩=>match x with
  |.v (.sl _) l=>k (eT l:Int)|.v (.jk _) l=>k (iP l)|.cl _ l=>k (eT l:Int)|.rm _ n l=>k ((gD n l).length:Int)|.nils=>k 0|.own id ver=>match atN hp id with
   |some (.osl ver' _ _ xs)=>bif aG ver ver' then k (xs.length:Int)else none
   |some (.qu ver' _ _ xs)=>bif aG ver ver' then k (xs.length:Int)else none
   |_=>none
  |.fs id ver=>match atN hp id with
   |some (.fam ver' _ _ ks)=>bif aG ver ver' then k (ks.length:Int)else none
   |_=>none
  |_=>none
 |some ⟨.map _ _,_,_,_,_⟩=>match x with
  |.mpr id=>match atN hp id with
   |some (.mp _ _ _ es)=>k (es.length:Int)|_=>none
  |_=>none
 |_=>none
def ynL(f:List FSh)(x:den (fT f)):List SV:=match zdM (f.map FSh.up) (zhN _ (toS f x)) with
 |.blk _ cs::_=>cs|_=>[]
def deref(hp:List AO)(p:SV)(sz:Nat)(k:List SV->Option β):Option β:=match p with
 |.ptr id off=>match atN hp id with
  |some (.blk _ cs)=>k (pc cs off sz)|_=>none
 |.rp t x off=>bif bM (off+sz) (tsz t)then k (pc (cellsOf t x) off sz)else none
 |.ep id ver i off=>match atN hp id with
  |some (.osl ver' e _ xs)=>bif aG ver ver'&&bM (off+sz) (tsz e)then aA (idx xs i) fun x=>k (pc (cellsOf e x) off sz)else none
  |some (.qu ver' e _ xs)=>bif aG ver ver'&&bM (off+sz) (tsz e)then aA (idx xs i) fun x=>k (pc (cellsOf e x) off sz)else none
  |_=>none
 |.fe id ver i=>match atN hp id with
  |some (.fam ver' _ _ ks)=>bif aG ver ver'&&aG sz 1 then aA (chk (decide (0<=i)&&decide (i<(ks.length:Int)))) fun _=>k [.fp id i 0]else none
  |_=>none
 |.fp id i off=>match atN hp id with
  |some (.fam _ _ f ks)=>aA (idx ks i) fun x=>bif cM 0 sz&&bM (off+sz) (ynL f x).length&&(pc (ynL f x) off sz).all zuT then k (pc (ynL f x) off sz)else none
  |_=>none
 |.v (.pt t) x=>bif bM sz (tsz t)then k (pc (cellsOf t x) 0 sz)else none
 |_=>none
def zuR(hp:List AO)(p:SV)(n:Nat):Option SV:=match p with
 |.ptr id off=>match atN hp id with
  |some (.blk _ _)=>some (.ptr id (off+n))|_=>none
 |.rp t x off=>some (.rp t x (off+n))|.ep id ver i off=>match atN hp id with
  |some (.osl ver' _ _ _)=>bif aG ver ver' then some (.ep id ver i (off+n))else none
  |some (.qu ver' _ _ _)=>bif aG ver ver' then some (.ep id ver i (off+n))else none
  |_=>none
 |.fp id i off=>match atN hp id with
  |some (.fam _ _ _ _)=>some (.fp id i (off+n))|_=>none
 |.v (.pt t) x=>some (.rp t x n)|.v (.pm _ t _) x=>some (.rp t x.1 n)|_=>none
def fieldAt(τ:TE)(T i:Nat):Option (Nat×TI):=match tyAt τ T with
 |some ⟨.st fs,_,_,_,_⟩=>match atN fs i with
  |some (F,o)=>match tyAt τ F with
   |some f=>some (o,f)|none=>none
  |none=>none
 |_=>none
def yoM(τ:TE):List (TypeId×Nat)->Option (List (Nat×Nat))
 |[]=>some []|(F,o)::l=>match tyAt τ F,yoM τ l with
  |some f,some r=>some ((o,f.sz)::r)|_,_=>none
def znT(pl:List (Nat×Nat))(σ:St):List (Nat×Operand)->List SV->Option (List SV)
 |[],l=>some l|(i,x)::ps,l=>match ev σ x,atN pl i with
  |some sv,some (o,z)=>bif aG (cellL sv).length z&&bM (o+z) l.length&&notu sv then znT pl σ ps (layS l o (cellL sv))else none
  |_,_=>none
def ypX(t:Bool)(x y:SV)(k:SV->Option β):Option β:=match x,y with
 |.v a x,.v c y=>match tyEq c a with
  |some ⟨h⟩=>k (.v a (bif t then x else ziC h y))|none=>none
 |x,y=>bif t then k x else k y
def idxA(hp:List AO)(f:TI)(x:SV)(i:Int)(k:SV->Option β):Option β:=match x with
 |.v (.sl e) xs=>bif aG f.sz (tsz e)then aA (idx xs i) fun x=>k (.rp e x 0)else none
 |.v (.jk _) l=>bif aG f.sz 1 then aA (chk (decide (0<=i)&&decide (i<iP l))) fun _=>k .jp else none
 |.cl e xs=>bif aG f.sz (tsz e)then aA (idx xs i) fun x=>k (.rp e x 0)else none
 |.rm e n xs=>bif aG f.sz (tsz e)then aA (idx (gD n xs) i) fun x=>k (.rp e x 0)else none
 |.own id ver=>match atN hp id with
  |some (.osl ver' e _ xs)=>bif aG ver ver'&&aG f.sz (tsz e)then aA (chk (decide (0<=i)&&decide (i<(xs.length:Int)))) fun _=>k (.ep id ver i 0)else none
  |some (.qu ver' e _ xs)=>bif aG ver ver'&&aG f.sz (tsz e)then aA (chk (decide (0<=i)&&decide (i<(xs.length:Int)))) fun _=>k (.ep id ver i 0)else none
  |_=>none
 |.fs id ver=>match atN hp id with
  |some (.fam ver' _ _ ks)=>bif aG ver ver'&&aG f.sz 1 then aA (chk (decide (0<=i)&&decide (i<(ks.length:Int)))) fun _=>k (.fe id ver i)else none
  |_=>none
 |_=>none
def kTs:TD->Ty->Bool
 |.int _,.i _=>true|.s,.s=>true|_,_=>false
def isSt(τ:TE)(F:TypeId):Bool:=match tyAt τ F with
 |some ⟨.s,_,_,_,_⟩=>true|_=>false
def kTd(τ:TE)(d:TD)(K:Ty):Bool:=match d,K with
 |.st [(F,0),(H,1)],.pr .s .s=>isSt τ F&&isSt τ H|d,K=>kTs d K
def vTd(f:TI)(V:Ty):Bool:=bif f.agg then !(one V)else one V
def optI(σ:St):Option Operand->Option (Option Int)
 |none=>some none|some x=>match ev σ x with
  |some (.v (.i q) a)=>some (some (toI q a))|_=>none
def subO{α:Type}(xs:List α):Option Int->Option Int->Option (List α)
 |some lo,some hi=>sub3 xs lo hi|some lo,none=>subL xs lo|none,some hi=>subH xs hi|none,none=>some xs
def subM{α:Type}(xs:List α)(n:Nat):Option Int->Option Int->Option (List α)
 |none,some hi=>subH xs hi|a,b=>subO (gD n xs) a b
def bOk:SV->Bool
 |.fn _ _ _=>false|.undef=>false|.skp=>false|.tup _=>false|.ag l=>l.all nofn|_=>true
def evs(σ:St):List Operand->Option (List SV)
 |[]=>some []|x::l=>match ev σ x,evs σ l with
  |some a,some r=>some (a::r)|_,_=>none
def isC0:Operand->Bool
 |.const (.int _ 0)=>true|_=>false
def idxC:Nat->Nat->Int->(Nat->Option β)->Option β
 |0,_,_,_=>none|n+1,j,i,k=>bif decide (i=(j:Int))then k j else idxC n (j+1) i k
def arrP(z:Nat):Nat->Nat->List (Nat×Nat)
 |0,_=>[]|n+1,j=>(j*z,z)::arrP z n (j+1)
def op1r(τ:TE)(σ:St)(T:TypeId)(x hi:Operand)(k:SV->Option β):Option β:=match optI σ (some hi),tyAt τ T with
 |some (some b),some ⟨.sl E,_,_,_,_⟩=>match tyAt τ E,ev σ x with
  |some f,some (.v (.sl e) xs)=>bif aG f.sz (tsz e)then aA (subH xs b) fun _=>k (.rm e b.toNat xs)else none
  |_,_=>none
 |_,_=>none
def op1b(τ:TE)(σ:St)(o:Op)(k:SV->Option β):Option β:=match o with
 |.slice T x lo hi none=>match optI σ lo,optI σ hi with
  |some a,some b=>match tyAt τ T with
   |some ⟨.s,_,_,_,_⟩=>match ev σ x with
    |some (.v .s l)=>aA (subO l a b) fun r=>k (.v .s r)
    |_=>none
   |some ⟨.sl E,_,_,_,_⟩=>match tyAt τ E,ev σ x with
    |some f,some (.v (.sl e) xs)=>bif aG f.sz (tsz e)then aA (subO xs a b) fun r=>k (.v (.sl e) r)else none
    |some f,some (.cl e xs)=>bif aG f.sz (tsz e)then aA (subO xs a b) fun r=>k (.v (.sl e) r)else none
    |some f,some (.rm e n xs)=>bif aG f.sz (tsz e)then aA (subM xs n a b) fun r=>k (.v (.sl e) r)else none
    |some f,some .nils=>bif aG f.sz (tsz f.ty)then aA (subO ([]:List (den f.ty)) a b) fun r=>k (.v (.sl f.ty) r)else none
    |_,_=>none
   |_=>none
  |_,_=>none
 |.slice T x none (some hi) (some mx)=>match elemAt τ T,ev σ hi,ev σ mx,ev σ x with
  |some f,some (.v (.i q) b),some (.v (.i q') c),some (.v (.sl e) xs)=>bif aG f.sz (tsz e)then(bif isC0 hi&&isC0 mx then k .emp else aA (chk (decide (toI q b=toI q' c))) fun _=>aA (subH xs (toI q b)) fun r=>k (.cl e r))else none|some f,some (.v (.i q) b),some (.v (.i q') c),some (.v (.jk T') l)=>bif aG f.sz 1 then aA (chk (decide (toI q b=iP l)&&decide (toI q' c=iP l))) fun _=>k (.v (.jk T') l)else none
  |some f,some (.v (.i _) _),some (.v (.i _) _),some (.nn e _)=>bif aG f.sz (tsz e)&&(isC0 hi&&isC0 mx)then k .emp else none
  |some f,some (.v (.i _) _),some (.v (.i _) _),some (.own id ver)=>match atN σ.hp id with
   |some (.osl ver' e _ _)=>bif aG ver ver'&&aG f.sz (tsz e)&&(isC0 hi&&isC0 mx)then k .emp else none
   |_=>none
  |_,_,_,_=>none
 |.convert T D x=>match tyAt τ T,tyAt τ D with
  |some ⟨.sl E,_,_,_,_⟩,some ⟨.s,_,_,_,_⟩=>match tyAt τ E with
   |some ⟨.int .u8,_,_,_,_⟩=>bindS (ev σ x) fun x=>match zhC σ.hp (.sl (.i .u8)) x with
    |some l=>k (.v .s l)|none=>none
   |_=>none
  |_,_=>none
 |.lookup T m x ok=>match tyAt τ T with
  |some ⟨.map Kt Vt,_,_,_,_⟩=>match tyAt τ Kt,tyAt τ Vt,ev σ m,ev σ x with
   |some kt,some f,some (.mpr id),some x=>match atN σ.hp id with
    |some (.mp _ K V es)=>match ofSV [] K x,zdR [] V f.z with
     |some key,some z=>bif kTd τ kt.td K&&vTd f V then(bif ok then k (.tup [svOf V (yhT (keq K) es key z),.v .b (mhas (keq K) es key)])else k (svOf V (yhT (keq K) es key z)))else none|_,_=>none
    |_=>none
   |_,_,_,_=>none
  |_=>none
 |.makeFunc (.func f) a c=>match evs σ a.toList,evs σ c.toList with
  |some a,some c=>bif a.all bOk&&c.all bOk then k (.fn f a c)else none
  |_,_=>none
 |.call ⟨.builtin .max,⟨[x,y]⟩,_⟩=>match ev σ x,ev σ y with
  |some (.v (.i .i64) a),some (.v (.i .i64) b)=>k (.v (.i .i64) (bif decide (toI .i64 a<=toI .i64 b)then b else a))|_,_=>none
 |.call ⟨.builtin .min,⟨[x,y]⟩,_⟩=>match ev σ x,ev σ y with
  |some (.v (.i .i64) a),some (.v (.i .i64) b)=>k (.v (.i .i64) (bif decide (toI .i64 a<=toI .i64 b)then a else b))|_,_=>none
 |.entry x=>match ev σ x with
  |some (.ptr i 0)=>match atN σ.hp i with
   |some (.it mid g K (some c) _)=>match atN σ.hp mid with
    |some (.mp g' K' V es)=>match tyEq K K' with
     |some ⟨h⟩=>bif aG g g' then aA (mget (keq K') es (ziC h c)) fun v=>k (.tup [svOf K' (ziC h c),svOf V v])else none
     |none=>none
    |_=>none
   |_=>none
  |_=>none
 |_=>none
def idxAr(τ:TE)(σ:St)(T:TypeId)(x i:Operand)(k:SV->Option β):Option β:=match tyAt τ T with
 |some ⟨.ar N E,_,_,_,_⟩=>match tyAt τ E with
  |some f=>bindS (ev σ x) fun x=>bindS (ev σ i) fun i=>match i with
   |.v (.i q) i=>idxC N 0 (toI q i) fun j=>bindS (zuR σ.hp x (j*f.sz)) k
   |_=>none
  |none=>none
 |_=>none
def op1(τ:TE)(σ:St)(o:Op)(k:SV->Option β):Option β:=match o with
 |.move x=>bindS (ev σ x) k|.assign x=>bindS (ev σ x) k|.pick c a b=>match ev σ c with
  |some (.v .b t)=>bindS (ev σ a) fun x=>bindS (ev σ b) fun y=>ypX t x y k
  |_=>none
 |.binOp op T x (.const .nilIface) _=>match tyAt τ T,ev σ x with
  |some ⟨.ifc,_,_,_,_⟩,some (.v .er a)=>match op with
   |.eql=>k (.v .b (!(show Bool from a)))|.neq=>k (.v .b a)|_=>none
  |_,_=>none
 |.binOp op T x y _=>bindS (ev σ x) fun x=>bindS (ev σ y) fun y=>bin τ T op x y k
 |.unOp op _ x=>bindS (ev σ x) fun x=>un op x k
 |.convert T D x=>match ev σ x,tyAt τ T,tyAt τ D with
  |some (.v (.i q) a),some _,some ⟨.int q',_,_,_,_⟩=>k (.v (.i q') (ofI q' (toI q a)))|_,_,_=>op1b τ σ (.convert T D x) k
 |.call ⟨.builtin .len,⟨[x]⟩,⟨[T]⟩⟩=>bindS (ev σ x) fun x=>xdX τ T σ.hp x fun n=>k (.v (.i .i64) n)
 |.load T a=>match tyAt τ T with
  |some f=>bindS (ev σ a) fun p=>deref σ.hp p f.sz fun l=>bindS (svAt f l) k
  |none=>none
 |.field T x i=>match fieldAt τ T i with
  |some (o,f)=>bindS (ev σ x) fun x=>match x with
   |.ag l=>bindS (svAt f (pc l o f.sz)) k|_=>none
  |none=>none
 |.fieldAddr T x i=>match fieldAt τ T i with
  |some (o,f)=>bif cM 0 f.sz then bindS (ev σ x) fun x=>bindS (zuR σ.hp x o) k else none
  |none=>none
 |.indexAddr T x i=>match elemAt τ T with
  |some f=>bindS (ev σ x) fun x=>bindS (ev σ i) fun i=>match i with
   |.v (.i q) i=>idxA σ.hp f x (toI q i) k|_=>none
  |none=>idxAr τ σ T x i k
 |.index T x i=>match tyAt τ T with
  |some ⟨.s,_,_,_,_⟩=>bindS (ev σ x) fun x=>bindS (ev σ i) fun i=>match x,i with
   |.v .s l,.v (.i q) i=>aA (idx l (toI q i)) fun c=>k (.v (.i .u8) c)
   |_,_=>none
  |some ⟨.ar N E,_,_,_,_⟩=>match tyAt τ E with
   |some f=>bindS (ev σ x) fun x=>bindS (ev σ i) fun i=>match x,i with
    |.ag l,.v (.i q) i=>idxC N 0 (toI q i) fun j=>bindS (svAt f (pc l (j*f.sz) f.sz)) k
    |_,_=>none
   |none=>none
  |_=>none
 |.extract x i=>bindS (ev σ x) fun x=>match x with
  |.tup l=>bindS (atN l i) k|_=>none
 |.build T ps=>match tyAt τ T with
  |some ⟨.st fs,_,z,_,_⟩=>match yoM τ fs with
   |some pl=>match znT pl σ ps.toList z with
    |some l=>k (.ag l)|none=>none
   |none=>none
  |some ⟨.ar N E,_,z,_,_⟩=>match tyAt τ E with
   |some f=>match znT (arrP f.sz N 0) σ ps.toList z with
    |some l=>k (.ag l)|none=>none
   |none=>none
  |_=>none
 |.nilCheck x=>bindS (ev σ x) fun x=>bindS (zuR σ.hp x 0) k
 |o=>op1b τ σ o k
def op0(τ:TE)(σ:St)(o:Op)(k:SV->Option β):Option β:=match o with
 |.move x=>op1 τ σ (.move x) k|.assign x=>op1 τ σ (.assign x) k|.pick c a b=>op1 τ σ (.pick c a b) k|.binOp op T x y T'=>op1 τ σ (.binOp op T x y T') k|.unOp op T x=>op1 τ σ (.unOp op T x) k|.convert T D x=>match ev σ x,tyAt τ T,tyAt τ D with
  |some (.v (.i q) a),some _,some ⟨.int q',_,_,_,_⟩=>k (.v (.i q') (ofI q' (toI q a)))|_,_,_=>none
 |.field T x i=>op1 τ σ (.field T x i) k|.extract x i=>op1 τ σ (.extract x i) k|_=>none
def slOk(e:TI):Bool:=cM 0 e.sz&&bM e.nb 2048&&(e.agg||aG e.sz 1)
def zoG(σ:St)(x:Operand)(ash:List Operand):Option (Nat×List SV):=match ev σ x,evs σ ash with
 |some (.fn f a c),some xs=>some (f,a++xs++c)|_,_=>none
def argS:Nat->List SV->List (Nat×SV)
 |_,[]=>[]|i,x::l=>(i,x)::argS (i+1) l
def ygR(c:PC)(hq:List AO)(xs:List SV):Option (zcM (c.ash.flatMap Sh.tys)):=match getL [] [] hq c.ash xs with
 |some p=>ybT [] _ p|none=>none
def ziL(os:List OSh)(ρ:List Nat)(base k:Nat):Nat:=match atN os k,atN ρ k with
 |some o,some id=>bif live o then id else base
 |_,_=>base+1+(k-os.length)
def srcK(i:Nat):List OSh->List Nat->Nat->Option Nat
 |o::os,id::ids,k=>bif live o&&aG id i then some k else srcK i os ids (k+1)
 |_,_,_=>none
def mapI{α γ:Type}(g:Nat->α->γ):Nat->List α->List γ
 |_,[]=>[]|i,x::l=>g i x::mapI g (i+1) l
def zxQ(hp:List AO)(id:Nat):Nat:=match atN hp id with
 |some (.osl v _ _ _)=>v|_=>0
def renB(f v:Nat->Nat):SV->SV
 |.ptr id off=>.ptr (f id) off|.own id _=>.own (f id) (v id)|.ep id _ i off=>.ep (f id) (v id) i off|.mpr id=>.mpr (f id)|.fs id r=>.fs (f id) r|.fe id r i=>.fe (f id) r i|.fp id i off=>.fp (f id) i off|x=>x
def renV(f v:Nat->Nat):SV->SV
 |.ag l=>.ag (l.map (renB f v))|x=>renB f v x
def renC(f v:Nat->Nat):SV->SV
 |.fn g a c=>.fn g (a.map (renV f v)) (c.map (renV f v))|x=>renB f v x
def renA(f v:Nat->Nat):SV->SV
 |.ag l=>.ag (l.map (renC f v))|x=>renC f v x
def renN(f v:Nat->Nat):AO->AO
 |.blk T cs=>.blk T (cs.map (renC f v))|o=>o
def renO(f v:Nat->Nat):AO->Option AO->AO
 |_,some (.blk T cs)=>.blk T (cs.map (renC f v))|.osl r _ _ _,some (.osl _ e T xs)=>.osl r e T xs|.mp g' _ _ _,some (.mp g K V es)=>.mp (g+g') K V es|_,_=>.dead
def zoW(f v:Nat->Nat)(os:List OSh)(ρ:List Nat)(hpo hp:List AO):List AO:=mapI (fun i o=>match srcK i os ρ 0 with
 |some k=>renO f v o (atN hpo k)|none=>o) 0 hp
def resL(sl:List (Nat×SV)):Nat->Nat->List SV
 |_,0=>[]|i,n+1=>lkS sl i::resL sl (i+1) n
def resT:List SV->SV
 |[x]=>x|l=>.tup l
def noIt:AO->Bool
 |.it _ _ _ _ _=>false|.is _ _=>false|.qu _ _ _ _=>false|.fam _ _ _ _=>false|.famO _ _ _ _ _=>false|_=>true
def noQ:OSh->Bool
 |.qu _ _=>false|_=>true
def yyO(os:List OSh)(ρ:List Nat)(nr:Nat)(σ σo:St)(k:SV->St->Option β):Option β:=
 bif(resL σo.sl 0 nr).all notu&&(σo.hp.all noIt&&os.all noQ)then k (resT ((resL σo.sl 0 nr).map (renA (ziL os ρ σ.hp.length) fun id=>zxQ σ.hp (ziL os ρ σ.hp.length id))))
  ⟨σ.sl,zoW (ziL os ρ σ.hp.length) (fun id=>zxQ σ.hp (ziL os ρ σ.hp.length id)) os ρ σo.hp σ.hp++(.dead::(σo.hp.drop os.length).map (renN (ziL os ρ σ.hp.length) fun id=>zxQ σ.hp (ziL os ρ σ.hp.length id)))⟩else none
inductive Ex where
 |normal|exit (id:Nat)|ret
def exOf:Option Nat->Ex
 |none=>.normal|some n=>bif aG n 1000000 then .ret else .exit n
def St.app(σ:St)(l:List (Nat×SV)):St:=⟨σ.sl++l,σ.hp⟩
def out(kp:List (Nat×SV)):(outs:List (Option Nat×Shp))->DS outs->(Ex->St->Option β)->Option β
 |[],_,_=>none|[a],x,k=>k (exOf a.1) ((a.2.put x).app kp)|a::b::l,x,k=>match x with
  |.inl x=>k (exOf a.1) ((a.2.put x).app kp)|.inr x=>out kp (b::l) x k
def zoN(σ:St)(x:Operand)(ash:List Operand)(xs:List SV)(k:SV->St->Option β):List SC->Option β
 |[]=>none|c::l=>bif aG xs.length c.I.sl.length then(match zoG (frzL σ (c.I.need 0 ⟨argS 0 xs,σ.hp⟩)) x ash with
  |some (_,xs')=>match c.I.get1 (c.I.rho 0 ⟨argS 0 xs',(frzL σ (c.I.need 0 ⟨argS 0 xs,σ.hp⟩)).hp⟩) ⟨argS 0 xs',(frzL σ (c.I.need 0 ⟨argS 0 xs,σ.hp⟩)).hp⟩ with
   |some a=>aA (c.p a) fun d=>out [] c.outs d fun _ σo=>yyO c.I.hp (c.I.rho 0 ⟨argS 0 xs',(frzL σ (c.I.need 0 ⟨argS 0 xs,σ.hp⟩)).hp⟩) c.nr (frzL σ (c.I.need 0 ⟨argS 0 xs,σ.hp⟩)) σo k
   |none=>zoN σ x ash xs k l
  |none=>none)else zoN σ x ash xs k l
def ytZ(Γ:CT)(σ:St)(x:Operand)(ash:List Operand)(k:SV->St->Option β):Option β:=match zoG σ x ash with
 |some (f,xs)=>match pcAt Γ.pc f with
  |some c=>bif c.rts.any zqV then(match zoG (frzL σ (xs.flatMap owns)) x ash with
    |some (_,xs')=>match ygR c [] xs' with
     |some a=>aA (c.p a) fun y=>k (yiH c y) (frzL σ (xs.flatMap owns))
     |none=>zoN σ x ash xs k (scAt Γ.sc f)
    |none=>none)
   else(match ygR c σ.hp xs with
    |some a=>aA (c.p a) fun y=>k (yiH c y) σ
    |none=>zoN σ x ash xs k (scAt Γ.sc f))
  |none=>zoN σ x ash xs k (scAt Γ.sc f)
 |none=>none
def bslL(σ:St)(e:Ty):Nat->List (Nat×Operand)->Option (List (den e))
 |_,[]=>some []|i,(j,x)::l=>bif aG i j then(match ev σ x with
  |some x=>match ofSV [] e x,bslL σ e (i+1) l with
   |some y,some r=>some (y::r)|_,_=>none
  |none=>none)else none
def zkA(σ:St):List Operand->List Nat
 |[]=>[]|x::l=>match ev σ x with
  |some x=>owns x++zkA σ l|none=>zkA σ l
def srcL(τ:TE)(hp:List AO)(T T':TypeId)(e:Ty)(y:SV):Option (List (den e)):=bif aG T T' then zhC hp (.sl e) y else match tyAt τ T' with
 |some ⟨.s,_,_,_,_⟩=>match y with
  |.v .s l=>match tyEq (.i .u8) e with
   |some ⟨h⟩=>some (ziC (by rw[h]:Ty.sl (.i .u8)=Ty.sl e) (show Bs from l))|none=>none
  |_=>none
 |_=>none
def op2b(τ:TE)(Γ:CT)(σ:St)(o:Op)(k:SV->St->Option β):Option β:=match o with
 |.call ⟨.builtin .append,⟨[x,y]⟩,⟨[T,T']⟩⟩=>match tyAt τ T,ev σ x,ev σ y with
  |some ⟨.sl E,_,_,_,_⟩,some x,some y=>match tyAt τ E with
   |some f=>bif slOk f then(match x with
    |.own id ver=>match atN σ.hp id with
     |some (.osl ver' e E' xs)=>bif aG ver ver'&&aG E E'&&aG f.sz (tsz e)then(match srcL τ σ.hp T T' e y with
      |some ys=>aA (app xs ys) fun r=>k (.own id (ver+1)) ⟨σ.sl,setN σ.hp id (.osl (ver+1) e E r)⟩
      |none=>none)else none
     |some (.qu ver' e E' xs)=>bif aG ver ver'&&aG E E'&&aG f.sz (tsz e)&&aG T T' then(match zhC σ.hp (.sl e) y with
      |some ys=>aA (app xs ys) fun r=>k (.own id (ver+1)) ⟨σ.sl,setN σ.hp id (.qu (ver+1) e E r)⟩
      |none=>none)else none
     |_=>none
    |.nils=>bif aG f.sz (tsz f.ty)then(match srcL τ σ.hp T T' f.ty y with
      |some ys=>aA (app [] ys) fun r=>k (.own σ.hp.length 0) ⟨σ.sl,σ.hp++[.osl 0 f.ty E r]⟩
      |none=>none)else none
    |.emp=>bif aG f.sz (tsz f.ty)&&aG T T' then(match zhC σ.hp (.sl f.ty) y with
      |some ys=>aA (app [] ys) fun r=>k (.own σ.hp.length 0) ⟨σ.sl,σ.hp++[.osl 0 f.ty E r]⟩
      |none=>none)else none
    |.cl e xs=>bif aG f.sz (tsz e)&&aG T T' then(match zhC σ.hp (.sl e) y with
      |some ys=>aA (app xs ys) fun r=>k (.v (.sl e) r) σ
      |none=>none)else none
    |_=>none)else none
   |none=>none
  |_,_,_=>none
 |.buildSlice T n ps=>match tyAt τ T with
  |some ⟨.sl E,_,_,_,_⟩=>match tyAt τ E with
   |some f=>bif slOk f&&aG f.sz (tsz f.ty)&&aG n ps.toList.length&&bM (n*f.sz) 65536 then(match bslL (frzL σ (zkA σ (ps.toList.map (·.2)))) f.ty 0 ps.toList with
    |some r=>k (.own (frzL σ (zkA σ (ps.toList.map (·.2)))).hp.length 0) ⟨(frzL σ (zkA σ (ps.toList.map (·.2)))).sl,(frzL σ (zkA σ (ps.toList.map (·.2)))).hp++[.osl 0 f.ty E r]⟩|none=>none)else none
   |none=>none
  |_=>none
 |.slice T x lo hi none=>match ev σ x with
  |some (.own id ver)=>match atN σ.hp id with
   |some (.qu ver' e E xs)=>match optI σ lo,hi,elemAt τ T with
    |some (some a),none,some f=>bif aG ver ver'&&aG f.sz (tsz e)then aA (subL xs a) fun r=>k (.own id (ver+1)) ⟨σ.sl,setN σ.hp id (.qu (ver+1) e E r)⟩else none
    |_,_,_=>none
   |_=>match lo,hi with
    |none,some y=>op1r τ (frz σ id) T x y fun x=>k x (frz σ id)
    |lo,hi=>op1b τ (frz σ id) (.slice T x lo hi none) fun x=>k x (frz σ id)
  |_=>op1b τ σ (.slice T x lo hi none) fun x=>k x σ
 |.makeMap T none=>match tyAt τ T with
  |some ⟨.map K V,_,_,_,_⟩=>match tyAt τ K,tyAt τ V with
   |some a,some c=>k (.mpr σ.hp.length) ⟨σ.sl,σ.hp++[.mp 0 a.ty c.ty []]⟩|_,_=>none
  |_=>none
 |.next x true=>match ev σ x with
  |some (.ptr i 0)=>match atN σ.hp i with
   |some (.is l p)=>bif decide (p<l.length)then k (.tup [.v .b true,.v (.i .i64) (p:Int),.v (.i .i32) (nxR l p)]) ⟨σ.sl,setN σ.hp i (.is l (nxP l p))⟩else k (.tup [.v .b false]) ⟨σ.sl,setN σ.hp i (.is l (nxP l p))⟩
   |_=>none
  |_=>none
 |.range T x=>match tyAt τ T,ev σ x with
  |some ⟨.s,_,_,_,_⟩,some (.v .s l)=>k (.ptr σ.hp.length 0) ⟨σ.sl,σ.hp++[.is l 0]⟩|some ⟨.map Kt _,_,_,_,_⟩,some (.mpr id)=>match tyAt τ Kt,atN σ.hp id with
   |some kt,some (.mp g K _ es)=>bif kTd τ kt.td K then k (.ptr σ.hp.length 0) ⟨σ.sl,σ.hp++[.it id g K none (es.map Prod.fst)]⟩else none
   |_,_=>none
  |_,_=>none
 |.mapUpdate T m x y=>match tyAt τ T with
  |some ⟨.map Kt _,_,_,_,_⟩=>match tyAt τ Kt,ev σ m,ev σ x,ev (frzL σ (zkA σ [y])) y with
   |some kt,some (.mpr id),some x,some y'=>match atN (frzL σ (zkA σ [y])).hp id with
    |some (.mp g K V es)=>match ofSV [] K x,ofSV [] V y' with
     |some key,some v=>bif kTd τ kt.td K then(bif Γ.keep then aA (chk (mhas (keq K) es key)) fun _=>k .undef ⟨(frzL σ (zkA σ [y])).sl,setN (frzL σ (zkA σ [y])).hp id (.mp g K V (mrep (keq K) es key v))⟩
      else k .undef ⟨(frzL σ (zkA σ [y])).sl,setN (frzL σ (zkA σ [y])).hp id (.mp (g+1) K V (mset (keq K) (klt K) es key v))⟩)else none
     |_,_=>none
    |_=>none
   |_,_,_,_=>none
  |_=>none
 |.insert T m x y=>match tyAt τ T with
  |some ⟨.map Kt _,_,_,_,_⟩=>match tyAt τ Kt,ev σ m,ev σ x,ev (frzL σ (zkA σ [y])) y with
   |some kt,some (.mpr id),some x,some y'=>match atN (frzL σ (zkA σ [y])).hp id with
    |some (.mp g K V es)=>match ofSV [] K x,ofSV [] V y' with
     |some key,some v=>bif kTd τ kt.td K then(bif Γ.keep then aA (chk (mhas (keq K) es key)) fun _=>k .undef ⟨(frzL σ (zkA σ [y])).sl,setN (frzL σ (zkA σ [y])).hp id (.mp g K V (mrep (keq K) es key v))⟩
      else k .undef ⟨(frzL σ (zkA σ [y])).sl,setN (frzL σ (zkA σ [y])).hp id (.mp (g+1) K V (mset (keq K) (klt K) es key v))⟩)else none
     |_,_=>none
    |_=>none
   |_,_,_,_=>none
  |_=>none
 |.call ⟨.builtin .delete,⟨[m,x]⟩,⟨[T,_]⟩⟩=>match tyAt τ T with
  |some ⟨.map Kt _,_,_,_,_⟩=>match tyAt τ Kt,ev σ m,ev σ x with
   |some kt,some (.mpr id),some x=>match atN σ.hp id with
    |some (.mp g K V es)=>match ofSV [] K x with
     |some key=>bif kTd τ kt.td K then k (.tup []) ⟨σ.sl,setN σ.hp id (.mp g K V (mdel (keq K) es key))⟩else none
     |none=>none
    |_=>none
   |_,_,_=>none
  |_=>none
 |.convert T D x=>match tyAt τ T,tyAt τ D with
  |some ⟨.s,_,_,_,_⟩,some ⟨.sl E,_,_,_,_⟩=>match tyAt τ E,ev σ x with
   |some ⟨.int .u8,_,_,_,_⟩,some (.v .s l)=>bif aG E byteT then k (.own σ.hp.length 0) ⟨σ.sl,σ.hp++[.osl 0 (.i .u8) E l]⟩else none
   |_,_=>none
  |_,_=>op1 τ σ (.convert T D x) fun x=>k x σ
 |o=>op1 τ σ o fun x=>k x σ
def op2(τ:TE)(Γ:CT)(σ:St)(o:Op)(T:TypeId)(k:SV->St->Option β):Option β:=match o with
 |.call ⟨.value x,ash,_⟩=>ytZ Γ σ x ash.toList k|.makeSlice T n c=>match tyAt τ T,ev σ n,ev σ c with
  |some ⟨.sl E,_,_,_,_⟩,some (.v (.i q) n),some (.v (.i q') c)=>match tyAt τ E with
   |some e=>match zdR [] e.ty e.z with
    |some z=>bif slOk e then aA (chk (decide (toI q n<=toI q' c)&&decide (toI q' c<=(LIM:Int)))) fun _=>aA (mkL (toI q n) z) fun xs=>k (.own σ.hp.length 0) ⟨σ.sl,σ.hp++[.osl 0 e.ty E xs]⟩else none
    |none=>none
   |none=>none
  |_,_,_=>none
 |.store T a x=>match tyAt τ T,ev σ a,ev σ x with
  |some f,some (.ptr id off),some x=>match atN σ.hp id with
   |some (.blk B cs)=>bif aG (cellL x).length f.sz&&bM (off+f.sz) cs.length&&notu x then k .undef ⟨σ.sl,setN σ.hp id (.blk B (layS cs off (cellL x)))⟩else none
   |_=>none
  |some f,some .jp,some x=>bif jnOf Γ&&(aG f.sz 1&&(aG (cellL x).length 1&&notu x))then k .undef σ else none
  |some f,some (.ep id ver i 0),some x=>match atN σ.hp id with
   |some (.osl ver' e E xs)=>bif aG ver ver'&&aG f.sz (tsz e)then(match ofSV [] e x with
    |some y=>aA (setL xs i y) fun r=>k .undef ⟨σ.sl,setN σ.hp id (.osl ver' e E r)⟩
    |none=>none)else none
   |_=>none
  |some f,some (.ep id ver i off),some x=>match atN σ.hp id with
   |some (.osl ver' e E xs)=>bif aG ver ver'&&(aG (cellL x).length f.sz&&bM (off+f.sz) (tsz e)&&notu x)then aA (idx xs i) fun x0=>(match zdR [] e (layS (cellsOf e x0) off (cellL x)) with
    |some y=>aA (setL xs i y) fun r=>k .undef ⟨σ.sl,setN σ.hp id (.osl ver' e E r)⟩
    |none=>none)else none
   |_=>none
  |_,_,_=>none
 |.alloc T=>match tyAt τ T with
  |some f=>bif f.agg||aG f.sz 1 then k (.ptr σ.hp.length 0) ⟨σ.sl,σ.hp++[.blk T f.z]⟩else none
  |none=>none
 |.box T x=>match tyAt τ T,ev σ x with
  |some f,some x=>bif aG (cellL x).length f.sz&&notu x then k (.ptr σ.hp.length 0) ⟨σ.sl,σ.hp++[.blk T (cellL x)]⟩else none
  |_,_=>none
 |o=>op2b τ Γ σ o k
def hasN:List Nat->Nat->Bool
 |[],_=>false|x::l,t=>aG x t||hasN l t
def zrK(W:List Nat):Nat->List AO->List AO
 |_,[]=>[]|i,o::l=>(bif hasN W i then .dead else o)::zrK W (i+1) l
def ofS(f:List FSh)(x:zcM (sF f).tys):den (fT f):=ofP (f.flatMap FSh.tys) (cast (by rw[xbW]) x)
def upN:Nat->Nat->List Nat
 |_,0=>[]|b,n+1=>b::upN (b+1) n
def rootB:List FSh->Bool
 |.blk _ _::_=>true|_=>false
def foc(σ:St)(t:Nat)(k:St->Option β):Option β:=match lkS σ.sl t with
 |.fp id i 0=>match atN σ.hp id with
  |some (.fam v T f ks)=>bif rootB f then aA (idx ks i) fun x=>k ⟨(t,.ptr σ.hp.length 0)::σ.sl,setN σ.hp id (.famO v T f ks i)++(zdM (f.map FSh.up) (zhN _ (toS f x))).map (renN (fun j=>σ.hp.length+j) fun _=>0)⟩else none
  |_=>none
 |_=>none
def unf1(σ:St)(t id:Nat)(i0:Int)(base:Nat)(k:St->Option β):Option β:=match atN σ.hp id with
 |some (.famO v T f ks i)=>bif rootB f then(match (sF f).get1 (upN base f.length) ⟨[(0,.ptr base 0)],σ.hp⟩ with
  |some x=>aA (setL ks i (ofS f x)) fun r=>k ⟨(t,.fp id i0 0)::σ.sl,zrK (upN base f.length) 0 (setN σ.hp id (.fam v T f r))⟩
  |none=>none)else none
 |_=>none
def unfN(σ:St)(id base:Nat):List Nat:=match atN σ.hp id with
 |some (.famO _ _ f _ _)=>yjN σ.hp (f.map FSh.up) (upN base f.length)|_=>[]
def unf(σ:St)(t id:Nat)(i0:Int)(base:Nat)(k:St->Option β):Option β:=unf1 (frzL σ (unfN σ id base)) t id i0 base k
def callF(τ:TE)(Γ:CT)(o:Op)(T:TypeId):List Nat->St->(SV->St->Option β)->Option β
 |[],σ,k=>op2 τ Γ σ o T k|t::ts,σ,k=>match lkS σ.sl t with
  |.fp id i _=>foc σ t fun σ1=>callF τ Γ o T ts σ1 fun x σ2=>unf σ2 t id i σ.hp.length (k x)
  |_=>none
def fpL(σ:St):List Operand->List Nat
 |.tmp t::l=>(match lkS σ.sl t with
  |.fp _ _ _=>[t]|_=>[])++fpL σ l
 |_::l=>fpL σ l|[]=>[]
def yqQ(E:TypeId)(f:List FSh)(i:Nat)(σ:St)(k:SV->St->Option β):Option β:=match (sF f).get1 ((sF f).rho 0 ⟨[(0,.ptr i 0)],σ.hp⟩) ⟨[(0,.ptr i 0)],σ.hp⟩ with
 |some x=>k (.fs σ.hp.length 0) ⟨σ.sl,zrK ((sF f).rho 0 ⟨[(0,.ptr i 0)],σ.hp⟩) 0 σ.hp++[.fam 0 E f [ofS f x]]⟩|none=>none
def yuP(E:TypeId)(f:List FSh)(i:Nat)(σ:St)(k:SV->St->Option β):Option β:=yqQ E f i (frzL σ ((sF f).need 0 ⟨[(0,.ptr i 0)],σ.hp⟩)) k
def yrI(E:TypeId)(id ver id2 ver2:Nat)(σ:St)(k:SV->St->Option β):Option β:=match atN σ.hp id,atN σ.hp id2 with
 |some (.fam v T f ks),some (.fam v2 T2 f2 ks2)=>bif !(aG id id2)&&(aG ver v&&aG ver2 v2)&&(aG E T&&aG T2 T)then(match yqR f2 f with
  |some ⟨h⟩=>aA (Go.Proofs.YtmbcolbbekbccaaGreat.app ks (castF h ks2)) fun r=>k (.fs id (ver+1)) ⟨σ.sl,setN (setN σ.hp id2 .dead) id (.fam (ver+1) T f r)⟩
  |none=>none)else none
 |_,_=>none
def opF(τ:TE)(Γ:CT)(σ:St)(o:Op)(T:TypeId)(k:SV->St->Option β):Option β:=match o with
 |.call ⟨.builtin .append,⟨[x,y]⟩,⟨[T1,T2]⟩⟩=>match tyAt τ T1,ev σ x,ev σ y with
  |some ⟨.sl E,_,_,_,_⟩,some (.fs id ver),some (.fs id2 ver2)=>match tyAt τ E with
   |some fe=>bif slOk fe&&aG fe.sz 1&&aG T1 T2 then yrI E id ver id2 ver2 σ k else none
   |none=>none
  |_,_,_=>op2 τ Γ σ (.call ⟨.builtin .append,⟨[x,y]⟩,⟨[T1,T2]⟩⟩) T k
 |.buildSlice T1 n ⟨[(0,x)]⟩=>match tyAt τ T1,ev σ x with
  |some ⟨.sl E,_,_,_,_⟩,some (.ptr i 0)=>match fmAt Γ.fm E,tyAt τ E with
   |some f,some fe=>bif slOk fe&&aG fe.sz 1&&aG n 1 then yuP E f i σ k else none
   |_,_=>none
  |_,_=>op2 τ Γ σ (.buildSlice T1 n ⟨[(0,x)]⟩) T k
 |.call ⟨.value x,ash,as_⟩=>callF τ Γ (.call ⟨.value x,ash,as_⟩) T (fpL σ ash.toList) σ k|o=>op2 τ Γ σ o T k
inductive Mk where
 |sl (d:Nat) (e:Ty) (T:TypeId)
 |cell (d i:Nat) (e:Ty) (T:TypeId)
 /-- an own slice, not empty, whose first ones may go -/
 |qu (d:Nat)
 /-- an own slice that is only read from here on -/
 |fz (d:Nat)
inductive Hint where
 |loop (mk:List Mk) (s:Shp) (kp:List Nat) (outs:List (Option Nat×Shp))
 |join (mk:List Mk) (kp:List Nat) (outs:List (Option Nat×Shp))
 /-- A range over a map, in any order. -/
 |rng (mk:List Mk) (s:Shp) (kp:List Nat) (outs:List (Option Nat×Shp))
 /-- A region whose order is open: the first nh operations are its head; those of them that are not waited for may run beside the next p, which write into the objects W alone. -/
 |reg (nh:Nat) (W:List Nat) (p:Nat)
 /-- Such a region, whose zcR look at no memory. -/
 |regn (nh:Nat)
 /-- Likewise, and its head's last operation lays a new object. -/
 |rega (nh:Nat)
 /-- A hint for where a slot holds a value of some kind. -/
 |whn (d q:Nat) (h:Hint)
 /-- The region's operations in another order. -/
 |prm (ix:List Nat)
 /-- The region's operations by a schedule: with what looks, the objects that it does not look at; with what changes memory, the objects that it changes. -/
 |sch (s:List (SK×Nat×List Nat))
def zpu(a:Nat):Nat->List (SK×Nat×List Nat)
 |0=>[]|n+1=>(.pu,a,[])::zpu (a+1) n
abbrev HT:=List (Nat×Hint)
def htAt:HT->Nat->Option Hint
 |[],_=>none|(d,x)::m,t=>bif aG d t then some x else htAt m t
def svTag:SV->Nat
 |.nilp=>1|.ptr _ _=>2|.nils=>3|.own _ _=>4|.v _ _=>5|.ag _=>6|_=>0
def htR(σ:St):Hint->Option Hint
 |.whn s q h=>bif aG (svTag (lkS σ.sl s)) q then htR σ h else none
 |x=>some x
def htS:HT->St->Nat->Option Hint
 |[],_,_=>none|(d,x)::m,σ,t=>bif aG d t then(match htR σ x with
  |some h=>some h|none=>htS m σ t)else htS m σ t
end
def isEx:Option Nat->Ex->Bool
 |none,.normal=>true|some n,.exit i=>aG n i && !(aG n 1000000)|some n,.ret=>aG n 1000000|_,_=>false
def mapO{α γ:Type}(f:α->γ):Option α->Option γ
 |some x=>some (f x)|none=>none
def zoD:List Oper->List Nat
 |[]=>[]|o::l=>match o.dst with
  |some d=>d::zoD l|none=>zoD l
def ziJ:Code->List Nat
 |.region _ ops _=>zoD ops.toList|.seq a b=>ziJ a++ziJ b|.cond _ a b=>ziJ a++ziJ b|.block _ b=>ziJ b|.loop b=>ziJ b|_=>[]
def zqU(D:List Nat)(σ:St):List Nat->List (Nat×SV)
 |[]=>[]|t::l=>bif !(hasN D t)&&zuT (lkS σ.sl t)then(t,lkS σ.sl t)::zqU D σ l else zqU D σ l
def inj(N0:Nat):(outs:List (Option Nat×Shp))->Ex->St->Option (DS outs)
 |[],_,_=>none|[a],e,σ=>bif isEx a.1 e then a.2.get N0 σ else none
 |a::b::l,e,σ=>bif isEx a.1 e then(match a.2.get N0 σ with
  |some x=>some (.inl x)|none=>mapO Sum.inr (inj N0 (b::l) e σ))else mapO Sum.inr (inj N0 (b::l) e σ)
def ygI:Code->Nat
 |.region id _ _=>id|.seq a _=>ygI a|.block id _=>100000+id|.loop b=>200000+ygI b|.cond _ a _=>300000+ygI a|_=>999999
def yeY(all:List Oper)(j:Nat):Option Nat:=match atN all j with
 |some o=>o.dst|none=>none
def putD{β:Type}(n:Nat)(d:Option Nat)(x:SV)(σ:St)(k:St->Option β):Option β:=match d with
 |none=>k σ|some d=>bif cM d n then k (σ.put d x)else none
def steps{β:Type}(n:Nat)(τ:TE)(Γ:CT)(all:List Oper):List Oper->St->(St->Option β)->Option β
 |[],σ,k=>k σ|o::l,σ,k=>match o.guard with
  |none=>opF τ Γ σ o.op o.type fun x σ=>putD n o.dst x σ fun σ=>steps n τ Γ all l σ k
  |some (j,b)=>match yeY all j with
   |some d=>match lkS σ.sl d with
    |.v .b t=>bif(show Bool from t)then(bif b then opF τ Γ (σ.put d (.v .b true)) o.op o.type fun x σ=>putD n o.dst x σ fun σ=>steps n τ Γ all l σ k
      else putD n o.dst .skp (σ.put d (.v .b true)) fun σ=>steps n τ Γ all l σ k)
     else(bif b then putD n o.dst .skp (σ.put d (.v .b false)) fun σ=>steps n τ Γ all l σ k
      else opF τ Γ (σ.put d (.v .b false)) o.op o.type fun x σ=>putD n o.dst x σ fun σ=>steps n τ Γ all l σ k)
    |.skp=>putD n o.dst .skp σ fun σ=>steps n τ Γ all l σ k
    |_=>none
   |none=>none
def lkD:List (Nat×Nat)->Nat->Option Nat
 |[],_=>none|(d,j)::D,t=>bif aG d t then some j else lkD D t
def delD:List (Nat×Nat)->Nat->List (Nat×Nat)
 |[],_=>[]|(d,j)::D,t=>bif aG d t then delD D t else(d,j)::delD D t
def mask(deps:List Nat):List (Nat×Nat)->List (Nat×SV)->List (Nat×SV)
 |[],l=>l|(d,j)::D,l=>bif hasN deps j then mask deps D l else(d,.undef)::mask deps D l
def sval:SV->Option Value
 |.v (.i k) x=>some (.int k (toI k x))|.v .b x=>some (.bool x)|.v .s x=>some (str x)|.nils=>some (.slice none 0 0)|.nilp=>some (.pointer none)|_=>none
def svals:List SV->Option (LV)
 |[]=>some []|x::l=>match sval x,svals l with
  |some a,some r=>some (a::r)|_,_=>none
def svalA:SV->Option Value
 |.ag l=>match svals l with
  |some us=>some (.agg us.toArray)|none=>none
 |x=>sval x
def xcL:List SV->Option (LV)
 |[]=>some []|x::l=>match svalA x,xcL l with
  |some a,some r=>some (a::r)|_,_=>none
def svalR:SV->Option Value
 |.tup l=>match xcL l with
  |some us=>some (.tuple us.toArray)|none=>none
 |x=>svalA x
def hput{β:Type}(n:Nat)(dst:Option Nat)(x:SV)(i:Nat)(abs:Bool)(σ:St)(D:List (Nat×Nat))(k:St->List (Nat×Nat)->Option β):Option β:=match dst with
 |none=>k σ D|some d=>bif cM d n then k (σ.put d x) (bif abs then delD D d else match svalR x with
  |some _=>delD D d|none=>(d,i)::delD D d)else none
def hcall{β:Type}(Γ:CT)(σ:St)(x:Operand)(ash:List Operand)(k:SV->Option β):Option β:=match zoG σ x ash with
 |some (f,xs)=>match pcAt Γ.pc f with
  |some c=>match ygR c (bif c.rts.any zqV then []else σ.hp) xs with
   |some a=>aA (c.p a) fun y=>k (yiH c y)
   |none=>none
  |none=>none
 |none=>none
def yqB:Op->Bool
 |.load _ _=>true|.fieldAddr _ _ _=>true|.indexAddr _ _ _=>true|.index _ _ _=>true|.nilCheck _=>true|.build _ _=>true|.lookup _ _ _ _=>true|.call ⟨.builtin .len,_,_⟩=>true|_=>false
def okC0(W:List Nat):SV->Bool
 |.ptr id _=>!(hasN W id)|.own id _=>!(hasN W id)|.mpr id=>!(hasN W id)|.ep id _ _ _=>!(hasN W id)|.fs id _=>!(hasN W id)|.fe id _ _=>!(hasN W id)|.fp id _ _=>!(hasN W id)|x=>zuT x
def okA0(W:List Nat):SV->Bool
 |.ag l=>l.all (okC0 W)|x=>okC0 W x
def okC(W:List Nat):SV->Bool
 |.fn _ a c=>a.all (okA0 W)&&c.all (okA0 W)|x=>okC0 W x
def okA(W:List Nat):SV->Bool
 |.ag l=>l.all (okC W)|x=>okC W x
def okF(W:List Nat):SV->Bool
 |.tup l=>l.all (okA W)|x=>okA W x
def fop{β:Type}(τ:TE)(J:Option (List Nat))(σ:St)(D:List (Nat×Nat))(o:Op)(k:SV->Option β):Option β:=match J with
 |none=>op0 τ ⟨mask [] D σ.sl,σ.hp⟩ o k|some W=>bif yqB o then op1 τ ⟨mask [] D σ.sl,zrK W 0 σ.hp⟩ o fun x=>bif okF W x then k x else none
  else op0 τ ⟨mask [] D σ.sl,σ.hp⟩ o k
def hbsl{β:Type}(τ:TE)(σ:St)(T N:Nat)(ps:List (Nat×Operand))(k:SV->Option β):Option β:=match tyAt τ T with
 |some ⟨.sl E,_,_,_,_⟩=>match tyAt τ E with
  |some f=>bif slOk f&&aG f.sz (tsz f.ty)&&aG N ps.length&&bM (N*f.sz) 65536 then(match bslL σ f.ty 0 ps with
   |some r=>k (.v (.sl f.ty) r)|none=>none)else none
  |none=>none
 |_=>none
def hdo{β:Type}(n:Nat)(τ:TE)(Γ:CT)(J:Option (List Nat))(ops:Array Oper)(nh:Nat)(o:Oper)(i:Nat)(σ:St)(D:List (Nat×Nat))(k:St->List (Nat×Nat)->Option β):Option β:=
 bif zcR ops nh i then fop τ J σ D o.op fun x=>hput n o.dst x i true σ D k
 else match o.op with
  |.call ⟨.value y,ash,_⟩=>hcall Γ ⟨mask (zcW o) D σ.sl,σ.hp⟩ y ash.toList fun x=>hput n o.dst x i false σ D k
  |.buildSlice T N ps=>hbsl τ ⟨mask (zcW o) D σ.sl,σ.hp⟩ T N ps.toList fun x=>hput n o.dst x i false σ D k
  |op=>op1 τ ⟨mask (zcW o) D σ.sl,σ.hp⟩ op fun x=>hput n o.dst x i false σ D k
def ycM{β:Type}(n:Nat)(τ:TE)(Γ:CT)(J:Option (List Nat))(ops:Array Oper)(all:List Oper)(nh:Nat):List Oper->Nat->St->List (Nat×Nat)->(St->Option β)->Option β
 |[],_,σ,_,k=>k σ|o::l,i,σ,D,k=>match o.guard with
  |none=>hdo n τ Γ J ops nh o i σ D fun σ D=>ycM n τ Γ J ops all nh l (i+1) σ D k
  |some (j,b)=>match yeY all j with
   |some d=>match lkD D d,lkS σ.sl d with
    |none,.v .b t=>bif(show Bool from t)then(bif b then hdo n τ Γ J ops nh o i (σ.put d (.v .b true)) D fun σ D=>ycM n τ Γ J ops all nh l (i+1) σ D k
      else hput n o.dst .skp i true (σ.put d (.v .b true)) D fun σ D=>ycM n τ Γ J ops all nh l (i+1) σ D k)
     else(bif b then hput n o.dst .skp i true (σ.put d (.v .b false)) D fun σ D=>ycM n τ Γ J ops all nh l (i+1) σ D k
      else hdo n τ Γ J ops nh o i (σ.put d (.v .b false)) D fun σ D=>ycM n τ Γ J ops all nh l (i+1) σ D k)
    |none,.skp=>hput n o.dst .skp i true σ D fun σ D=>ycM n τ Γ J ops all nh l (i+1) σ D k
    |_,_=>none
   |none=>none
def inHead(Γ:CT):Op->Bool
 |.store _ _ _=>false|.alloc _=>false|.box _ _=>false|.makeSlice _ _ _=>false|.buildSlice _ _ _=>false|.mapUpdate _ _ _ _=>false|.insert _ _ _ _=>false|.makeMap _ _=>false|.range _ _=>false|.next _ _=>false|.call ⟨.builtin .len,_,_⟩=>true|.call ⟨.value (.func f),_,_⟩=>match pcAt Γ.pc f with
  |some _=>true|none=>false
 |.call ⟨.builtin _,_,_⟩=>false|_=>true
def headN(Γ:CT):List Oper->Nat
 |[]=>0|o::l=>bif inHead Γ o.op then headN Γ l+1 else 0
def mvOp:Op->Bool
 |.move _=>true|.assign _=>true|.pick _ _ _=>true|.unOp _ _ _=>true|_=>false
def okP(W:List Nat)(σ:St):Op->Bool
 |.store _ a _=>match ev σ a with
  |some (.ptr id _)=>hasN W id|_=>false
 |o=>mvOp o||yqB o
def ylL:List Nat->Bool
 |[]=>true|_=>false
def ysK(W:List Nat):List OSh->List Nat->Bool
 |o::os,id::ids=>(!(live o)||hasN W id)&&ysK W os ids|_,_=>true
def ybJ{β:Type}(W:List Nat)(σ:St)(x:Operand)(ash:List Operand)(xs:List SV)(k:SV->St->Option β):List SC->Option β
 |[]=>none|c::l=>bif aG xs.length c.I.sl.length&&(ylL (c.I.need 0 ⟨argS 0 xs,σ.hp⟩)&&ysK W c.I.hp (c.I.rho 0 ⟨argS 0 xs,σ.hp⟩))&&(c.I.get1 (c.I.rho 0 ⟨argS 0 xs,σ.hp⟩) ⟨argS 0 xs,σ.hp⟩).isSome then zoN σ x ash xs k [c]else ybJ W σ x ash xs k l
def op2P{β:Type}(τ:TE)(Γ:CT)(W:List Nat)(σ:St)(o:Op)(T:TypeId)(k:SV->St->Option β):Option β:=
 bif okP W σ o then op2 τ Γ σ o T k else match o with
 |.call ⟨.value x,ash,_⟩=>match zoG σ x ash.toList with
  |some (f,xs)=>ybJ W σ x ash.toList xs k (scAt Γ.sc f)|none=>none
 |_=>none
def zxX{β:Type}(n:Nat)(τ:TE)(Γ:CT)(W:List Nat)(all:List Oper):Nat->List Oper->St->(St->Option β)->Option β
 |0,l,σ,k=>steps n τ Γ all l σ k|_+1,[],σ,k=>k σ|p+1,o::l,σ,k=>match o.guard with
  |none=>op2P τ Γ W σ o.op o.type fun x σ=>putD n o.dst x σ fun σ=>zxX n τ Γ W all p l σ k
  |some (j,b)=>match yeY all j with
   |some d=>match lkS σ.sl d with
    |.v .b t=>bif(show Bool from t)then(bif b then op2P τ Γ W (σ.put d (.v .b true)) o.op o.type fun x σ=>putD n o.dst x σ fun σ=>zxX n τ Γ W all p l σ k
      else putD n o.dst .skp (σ.put d (.v .b true)) fun σ=>zxX n τ Γ W all p l σ k)
     else(bif b then putD n o.dst .skp (σ.put d (.v .b false)) fun σ=>zxX n τ Γ W all p l σ k
      else op2P τ Γ W (σ.put d (.v .b false)) o.op o.type fun x σ=>putD n o.dst x σ fun σ=>zxX n τ Γ W all p l σ k)
    |.skp=>putD n o.dst .skp σ fun σ=>zxX n τ Γ W all p l σ k
    |_=>none
   |none=>none
def xbM{β:Type}(n:Nat)(τ:TE)(Γ:CT)(nh:Nat)(ops:Array Oper)(σ:St)(k:St->Option β):Option β:=
 bif extB ops nh&&bM ops.toList.length 1000000 then ycM n τ Γ none ops ops.toList nh (ops.toList.take nh) 0 σ [] fun σ=>steps n τ Γ ops.toList (ops.toList.drop nh) σ k else none
def drawnA{β:Type}(n:Nat)(τ:TE)(Γ:CT)(nh:Nat)(ops:Array Oper)(σ:St)(k:St->Option β):Option β:=match atN ops.toList nh with
 |some ⟨some d,.alloc T,_,_,_,none⟩=>match tyAt τ T with
  |some f=>bif(f.agg||aG f.sz 1)&&(cM d n&&(!(zcR ops (nh+1) nh)&&(extB ops (nh+1)&&bM ops.toList.length 1000000)))then ycM n τ Γ none ops ops.toList (nh+1) (ops.toList.take nh) 0 σ [] fun σ=>steps n τ Γ ops.toList (ops.toList.drop (nh+1)) ⟨(d,.ptr σ.hp.length 0)::σ.sl,σ.hp++[.blk T f.z]⟩ k else none
  |none=>none
 |_=>none
def drawn{β:Type}(n:Nat)(τ:TE)(Γ:CT)(η:HT)(id:Nat)(ops:Array Oper)(σ:St)(k:St->Option β):Option β:=match htAt η (3000000+id) with
 |some (.reg nh W p)=>bif extB ops nh&&bM ops.toList.length 1000000&&allDone ops nh (nh+p)then ycM n τ Γ (some W) ops ops.toList nh (ops.toList.take nh) 0 σ [] fun σ=>zxX n τ Γ W ops.toList p (ops.toList.drop nh) σ k else none
 |some (.regn nh)=>xbM n τ Γ nh ops σ k|some (.rega nh)=>drawnA n τ Γ nh ops σ k|_=>xbM n τ Γ (headN Γ ops.toList) ops σ k
def yrH:Nat->(Nat->Bool)->Bool
 |0,_=>true|n+1,f=>f n&&yrH n f
def xdK(τ:TE)(σ:St):Op->Option AO
 |.alloc T=>match tyAt τ T with
  |some f=>bif f.agg||aG f.sz 1 then some (.blk T f.z)else none
  |none=>none
 |.buildSlice T n ps=>match tyAt τ T with
  |some ⟨.sl E,_,_,_,_⟩=>match tyAt τ E with
   |some f=>bif slOk f&&aG f.sz (tsz f.ty)&&aG n ps.toList.length&&bM (n*f.sz) 65536&&ylL (zkA σ (ps.toList.map (·.2)))then(match bslL σ f.ty 0 ps.toList with
    |some r=>some (.osl 0 f.ty E r)|none=>none)else none
   |none=>none
  |_=>none
 |_=>none
def aoV(id:Nat):AO->SV
 |.blk _ _=>.ptr id 0|_=>.own id 0
def lkP:List (Nat×AO)->Nat->Option AO
 |[],_=>none|(d,o)::l,i=>bif aG d i then some o else lkP l i
def ylY{β:Type}(all:List Oper)(σ:St)(g:Option (Nat×Bool))(doIt skip:St->Option β):Option β:=match g with
 |none=>doIt σ|some (j,b)=>match yeY all j with
  |some d=>match lkS σ.sl d with
   |.v .b t=>bif(show Bool from t)then(bif b then doIt (σ.put d (.v .b true))else skip (σ.put d (.v .b true)))else(bif b then skip (σ.put d (.v .b false))else doIt (σ.put d (.v .b false)))|.skp=>skip σ|_=>none
  |none=>none
def allN(W:List Nat):List Nat->Bool
 |[]=>true|x::l=>hasN W x&&allN W l
def ynO(σ:St)(x:Operand):List Nat:=match ev σ x with
 |some (.own id _)=>[id]|_=>[]
def xaD(W:List Nat)(σ:St):Op->Bool
 |.alloc _=>true|.buildSlice _ _ ps=>allN W (zkA σ (ps.toList.map (·.2)))|.call ⟨.builtin .append,⟨[x,_]⟩,⟨[_,_]⟩⟩=>allN W (ynO σ x)|_=>false
def pcK{β:Type}(Γ:CT)(W:List Nat)(σ:St)(x:Operand)(ash:List Operand)(k:SV->St->Option β):Option (Option β):=match zoG σ x ash with
 |some (f,xs)=>match pcAt Γ.pc f with
  |some c=>bif c.rts.any zqV then(bif allN W (xs.flatMap owns)then(match zoG (frzL σ (xs.flatMap owns)) x ash with
    |some (_,xs')=>match ygR c [] xs' with
     |some a=>some (aA (c.p a) fun y=>k (yiH c y) (frzL σ (xs.flatMap owns)))|none=>none
    |none=>none)else none)
   else(match ygR c σ.hp xs with
    |some a=>some (aA (c.p a) fun y=>k (yiH c y) σ)|none=>none)
  |none=>none
 |none=>none
def callK{β:Type}(τ:TE)(Γ:CT)(W:List Nat)(σ:St)(x:Operand)(ash:Array Operand)(as_:Array TypeId)(T:TypeId)(k:SV->St->Option β):Option β:=match pcK Γ W σ x ash.toList k with
 |some r=>r|none=>op2P τ Γ W σ (.call ⟨.value x,ash,as_⟩) T k
def ndOk(W:List Nat)(b:Nat):List Nat->Bool
 |[]=>true|j::l=>(hasN W j||bM b j)&&ndOk W b l
def yeZ{β:Type}(τ:TE)(Γ:CT)(x:Operand)(ash:Array Operand)(as_:Array TypeId)(T:TypeId):List Nat->List Nat->St->(SV->St->Option β)->Option β
 |[],W,σ,k=>callK τ Γ W σ x ash as_ T k|t::ts,W,σ,k=>match lkS σ.sl t with
  |.fp id i _=>bif hasN W id then(foc σ t fun σ1=>yeZ τ Γ x ash as_ T ts (upN σ.hp.length (σ1.hp.length-σ.hp.length)++W) σ1 fun y σ2=>bif ndOk W σ.hp.length (unfN σ2 id σ.hp.length)then unf σ2 t id i σ.hp.length (k y)else none)else none|_=>none
def op2K{β:Type}(τ:TE)(Γ:CT)(W:List Nat)(σ:St)(o:Op)(T:TypeId)(k:SV->St->Option β):Option β:=
 bif yrH σ.hp.length (hasN W)then opF τ Γ σ o T k else bif xaD W σ o then op2 τ Γ σ o T k else match o with
 |.call ⟨.value x,ash,as_⟩=>yeZ τ Γ x ash as_ T (fpL σ ash.toList) W σ k|o=>op2P τ Γ W σ o T k
def mvOp0:Op->Bool
 |.move _=>true|.assign _=>true|.pick _ _ _=>true|.binOp _ _ _ _ _=>true|.unOp _ _ _=>true|.field _ _ _=>true|.extract _ _=>true|_=>false
def fopS{β:Type}(τ:TE)(W:List Nat)(σ:St)(o:Op)(k:SV->Option β):Option β:=
 bif mvOp0 o then op0 τ σ o k else op1 τ ⟨σ.sl,zrK W 0 σ.hp⟩ o fun x=>bif okF W x then k x else none
abbrev SchW:=List (SK×Nat×List Nat)
def yvH:SchW->Sch
 |[]=>[]|(k,i,_)::s=>(k,i)::yvH s
def pnOk(ops:Array Oper)(i:Nat)(W:List Nat):List (Nat×List Nat)->Bool
 |[]=>true|p::l=>(ancB ops i p.1||allN p.2 W)&&pnOk ops i W l
def zvG(ops:Array Oper)(i:Nat)(l:List (Nat×List Nat)):List (Nat×List Nat):=l.filter fun p=>!ancB ops i p.1
def yyL(i:Nat):List (Nat×List Nat)->Bool
 |[]=>true|p::l=>!(aG p.1 i)&&yyL i l
def schS{β:Type}(n:Nat)(τ:TE)(Γ:CT)(ops:Array Oper)(all:List Oper):SchW->List (Nat×AO)->List (Nat×List Nat)->St->(St->Option β)->Option β
 |[],_,_,σ,k=>k σ|(.pu,i,W)::s,pd,pn,σ,k=>match atN all i with
  |some o=>bif yyL i pn then ylY all σ o.guard (fun σ=>fopS τ W σ o.op fun x=>putD n o.dst x σ fun σ=>schS n τ Γ ops all s pd ((i,W)::pn) σ k) (fun σ=>putD n o.dst .skp σ fun σ=>schS n τ Γ ops all s pd ((i,W)::pn) σ k)else none
  |none=>none
 |(.la,i,_)::s,pd,pn,σ,k=>match atN all i with
  |some o=>match o.guard,xdK τ σ o.op with
   |none,some ao=>schS n τ Γ ops all s ((i,ao)::pd) pn σ k|_,_=>none
  |none=>none
 |(.rv,i,_)::s,pd,pn,σ,k=>match atN all i,lkP pd i with
  |some o,some ao=>putD n o.dst (aoV σ.hp.length ao) ⟨σ.sl,σ.hp++[ao]⟩ fun σ=>schS n τ Γ ops all s pd pn σ k
  |_,_=>none
 |(.mn,i,W)::s,pd,pn,σ,k=>match atN all i with
  |some o=>bif pnOk ops i W pn then ylY all σ o.guard (fun σ=>op2K τ Γ W σ o.op o.type fun x σ=>putD n o.dst x σ fun σ=>schS n τ Γ ops all s pd (zvG ops i pn) σ k) (fun σ=>putD n o.dst .skp σ fun σ=>schS n τ Γ ops all s pd (zvG ops i pn) σ k)else none
  |none=>none
def ywV:SchW->List Nat
 |[]=>[]|(.la,i,_)::s=>i::ywV s|_::s=>ywV s
def yjL:SchW->List Nat
 |[]=>[]|(.mn,i,_)::s=>i::yjL s|_::s=>yjL s
def yuK{β:Type}(n:Nat)(τ:TE)(Γ:CT)(s:SchW)(ops:Array Oper)(σ:St)(k:St->Option β):Option β:=
 bif yzZ ops (ywV s) (yjL s)&&schB ops (ywV s) (yjL s) (yvH s) [] [] false then schS n τ (unJ Γ) ops ops.toList s [] [] σ k else none
def ysH{β:Type}(n:Nat)(τ:TE)(Γ:CT)(η:HT)(id:Nat)(ops:Array Oper)(σ:St)(k:St->Option β):Option β:=match htAt η (4000000+id) with
 |some (.sch s)=>yuK n τ Γ s ops σ k|_=>none
def nx{β:Type}(k:Ex->St->Option β)(n:St->Option β):Ex->St->Option β
 |.normal,σ=>n σ|e,σ=>k e σ
def blk{β:Type}(id:Nat)(k:Ex->St->Option β):Ex->St->Option β
 |.exit i,σ=>bif aG i id then k .normal σ else k (.exit i) σ
 |e,σ=>k e σ
def isNl:SV->Bool
 |.nils=>true|.emp=>true|_=>false
def mk1(σ:St):Mk->St
 |.sl d e T=>bif isNl (lkS σ.sl d)then⟨(d,.own σ.hp.length 0)::σ.sl,σ.hp++[.osl 0 e T []]⟩else σ|.cell d i e T=>match lkS σ.sl d with
  |.ptr id _=>match atN σ.hp id with
   |some (.blk T' cs)=>match atN cs i with
    |some c=>bif isNl c then⟨σ.sl,setN (σ.hp++[.osl 0 e T []]) id (.blk T' (setN cs i (.own σ.hp.length 0)))⟩else σ|none=>σ
   |_=>σ
  |_=>σ
 |.qu d=>match lkS σ.sl d with
  |.own id ver=>match atN σ.hp id with
   |some (.osl ver' e T (x::xs))=>bif aG ver ver' then⟨σ.sl,setN σ.hp id (.qu ver e T (x::xs))⟩else σ|_=>σ
  |_=>σ
 |.fz d=>match lkS σ.sl d with
  |.own id _=>frz σ id|_=>σ
def zqR(σ:St):List Mk->St
 |[]=>σ|x::l=>zqR (mk1 σ x) l
def rngO{S R:Type}(p:S->Prop)(r:R):Option (S⊕R)->Prop
 |none=>False|some (.inl s)=>p s|some (.inr r')=>r'=r
def Rng{S R:Type}(f:S->List (Option (S⊕R))):Nat->S->R->Prop
 |0,_,_=>False|n+1,s,r=>∀o∈f s,rngO (fun s'=>Rng f n s' r) r o
open Classical in
noncomputable def rngA{S R:Type}(f:S->List (Option (S⊕R)))(s:S):Option R:=if h:∃r n,Rng f n s r then some h.choose else none
def rngC{α γ:Type}(eq:α->α->Bool)(es:List (α×γ))(left:List α):List (α×γ):=es.filter fun p=>left.any fun k=>eq p.1 k
def rngD{α:Type}(eq:α->α->Bool)(left:List α)(k:α):List α:=left.filter fun q=>!eq q k
def rngL{α γ:Type}(l:List α)(d:γ)(f:α->γ):List γ:=match l with
 |[]=>[d]|x::l=>(x::l).map f
def ywK{γ:Type}(n:Nat)(σ:St)(d t:Nat)(g:St->Option γ):List (Option γ):=match lkS σ.sl t with
 |.ptr i 0=>match atN σ.hp i with
  |some (.it mid gn K _ left)=>match atN σ.hp mid with
   |some (.mp g' K' V es)=>match tyEq K K' with
    |some ⟨h⟩=>bif aG gn g'&&cM d n then rngL (rngC (keq K') es (ziC (by rw[h]:Ty.sl K=Ty.sl K') left)) (g (σ.put d (.tup [.v .b false])))
      (fun p=>g ⟨(d,.tup [.v .b true,svOf K' p.1,svOf V p.2])::σ.sl,setN σ.hp i (.it mid gn K' (some p.1) (rngD (keq K') (ziC (by rw[h]:Ty.sl K=Ty.sl K') left) p.1))⟩)else [none]
    |none=>[none]
   |_=>[none]
  |_=>[none]
 |_=>[none]
noncomputable def run(N0 n:Nat)(τ:TE)(Γ:CT)(η:HT):Code->{β:Type}->St->(Ex->St->Option β)->Option β
 |.skip,_,σ,k=>k .normal σ|.region id ops d,_,σ,k=>bif d then ysH n τ Γ η id ops σ (k .normal)else steps n τ Γ ops.toList ops.toList σ (k .normal)
 |.seq a b,_,σ,k=>match htS η σ (2000000+ygI b) with
  |some (.join mk kp outs)=>aA (run N0 n τ Γ η a (zqR σ mk) (inj N0 outs)) fun d=>out (zqU (ziJ a) (zqR σ mk) kp) outs d (nx k fun σ=>run N0 n τ Γ η b σ k)
  |_=>run N0 n τ Γ η a σ (nx k fun σ=>run N0 n τ Γ η b σ k)
 |.cond c a b,_,σ,k=>match ev σ c with
  |some (.v .b t)=>bif t then run N0 n τ Γ η a σ k else run N0 n τ Γ η b σ k
  |_=>none
 |.block id b,_,σ,k=>match htS η σ (100000+id) with
  |some (.join mk kp outs)=>aA (run N0 n τ Γ η b (zqR σ mk) (blk id (inj N0 outs))) fun d=>out (zqU (ziJ b) (zqR σ mk) kp) outs d k
  |_=>run N0 n τ Γ η b σ (blk id k)
 |.loop b,_,σ,k=>match htS η σ (200000+ygI b) with
  |some (.loop mk s kp outs)=>match s.get N0 (zqR σ mk) with
   |some s0=>aA (iter (fun x=>run N0 n τ Γ η b ((s.put x).app (zqU (ziJ b) (zqR σ mk) kp)) (nx (fun e σ=>mapO Sum.inr (inj N0 outs e σ)) fun σ=>mapO Sum.inl (s.get N0 σ))) s0) fun d=>out (zqU (ziJ b) (zqR σ mk) kp) outs d k
   |none=>none
  |some (.rng mk s kp outs)=>match b with
   |.seq (.region _ ops false) c=>match ops.toList with
    |⟨some d,.next (.tmp t) false,_,_,_,none⟩::l=>match s.get N0 (zqR σ mk) with
     |some s0=>aA (rngA (fun x=>ywK n ((s.put x).app (zqU (ziJ b) (zqR σ mk) kp)) d t fun σ=>steps n τ Γ ops.toList l σ fun σ=>run N0 n τ Γ η c σ (nx (fun e σ=>mapO Sum.inr (inj N0 outs e σ)) fun σ=>mapO Sum.inl (s.get N0 σ))) s0) fun d=>out (zqU (ziJ b) (zqR σ mk) kp) outs d k
     |none=>none
    |_=>none
   |_=>none
  |_=>none
 |.exit id,_,σ,k=>k (.exit id) σ|.ret,_,σ,k=>k .ret σ|_,_,_,_=>none
def resV(τ:TE)(σ:St):ResultVar->Option SV
 |.tmp t=>some (lkS σ.sl t)|.cell t T=>match tyAt τ T with
  |some f=>deref σ.hp (lkS σ.sl t) f.sz fun l=>svAt f l
  |none=>none
def zyP(τ:TE)(σ:St):List ResultVar->Option (List SV)
 |[]=>some []|r::l=>match resV τ σ r,zyP τ σ l with
  |some x,some y=>some (x::y)|_,_=>none
def fin(τ:TE)(f:Func)(rts:List Ty)(e:Ex)(σ:St):Option (zcM rts):=match e with
 |.exit _=>none|_=>match zyP τ σ f.results.toList with
  |some l=>match zyP τ (frzL σ (l.flatMap owns)) f.results.toList with
   |some l=>ybT [] rts l|none=>none
  |none=>none
noncomputable def fnP(τ:TE)(Γ:CT)(η:HT)(f:Func)(ash:List Sh)(rts:List Ty)(a:zcM (ash.flatMap Sh.tys)):Option (zcM rts):=match f.body with
 |none=>none|some c=>bif rts.all noJk then run 0 f.ntmps τ Γ η c ⟨argS 0 (putL ash (zhN _ a)).1,[]⟩ (fin τ f rts)else none
def finS(τ:TE)(f:Func)(N0:Nat)(outs:List (Option Nat×Shp))(e:Ex)(σ:St):Option (DS outs):=match e with
 |.exit _=>none|_=>match zyP τ σ f.results.toList with
  |some l=>inj N0 outs .normal ⟨argS 0 l,σ.hp⟩|none=>none
noncomputable def fnS(τ:TE)(Γ:CT)(η:HT)(f:Func)(I:Shp)(outs:List (Option Nat×Shp))(a:zcM I.tys):Option (DS outs):=match f.body with
 |none=>none|some c=>run I.hp.length f.ntmps τ Γ η c (I.put a) (finS τ f I.hp.length outs)
abbrev rpInt(k:IntKind):Rp (den (.i k)) where
 sz:=1
 rep _ c x:=c=[.int k (toI k x)]
 len:=fun e=>by rw[e];rfl
 mono:=fun e _=>e
 one:=fun e u hu=>by rw[e,aW]at hu;rw[hu];rfl
abbrev rpEr:Rp Bool where
 sz:=1
 rep _ c x:=∃u,c=[u]/\((x=false/\u = .nilIface)∨(x=true/\∃t v,u = .iface t v))
 len:=fun⟨_,e,_⟩=>by rw[e];rfl
 mono:=fun e _=>e
 one:=fun⟨_,e,h⟩ u hu=>by rw[e,aW]at hu;rw[hu];rcases h with⟨_,rfl⟩|⟨_,_,_,rfl⟩<;>rfl
abbrev rpMp(α:Type):Rp α where
 sz:=1
 rep _ c _:=c=[.map none]
 len:=fun e=>by rw[e];rfl
 mono:=fun e _=>e
 one:=fun e u hu=>by rw[e,aW]at hu;rw[hu];rfl
def JkR(S:Mem)(T:TypeId)(u:Value)(n:Nat):Prop:=(∃a,u = .slice a 0 0/\n=0)∨∃b c m,u = .slice (some ⟨b,0,none⟩) n c/\n<=c/\S b=some (jm m T)/\n<=m
theorem JkR.is{S:Mem}{T:TypeId}{u:Value}{n:Nat}(h:JkR S T u n):∃a c,u = .slice a n c:=by
 rcases h with⟨a,rfl,rfl⟩|⟨b,c,m,rfl,_⟩
 ·exact⟨_,_,rfl⟩
 ·exact⟨_,_,rfl⟩
abbrev rpJk(T:TypeId):Rp Nat where
 sz:=1
 rep S c n:=∃u,c=[u]/\JkR S T u n
 len:=fun⟨_,e,_⟩=>by rw[e];rfl
 mono:=fun⟨u,e,h⟩ hS=>⟨u,e,h.imp id fun⟨b,c,m,h1,h2,h3,h4⟩=>⟨b,c,m,h1,h2,hS _ _ h3,h4⟩⟩
 one:=fun⟨_,e,h⟩ u hu=>by rw[e,aW]at hu;obtain⟨a,c,h⟩:=JkR.is h;rw[hu,h];rfl
abbrev rpPt{α:Type}(q:Rp α):Rp α where
 sz:=1
 rep S c x:=∃u b us,c=[u]/\u = .pointer (some ⟨b,0,none⟩)/\CellAt S b 0 us/\q.rep S us x
 len:=fun⟨_,_,_,e,_⟩=>by rw[e];rfl
 mono:=fun⟨u,b,us,e,h1,h2,h3⟩ hS=>⟨u,b,us,e,h1,h2.mono hS,q.mono h3 hS⟩
 one:=fun⟨_,_,_,e,h,_⟩ u hu=>by rw[e,aW]at hu;rw[hu,h];rfl
abbrev rpPm{α γ:Type}(T0:TypeId)(q:Rp α)(r:Rp γ):Rp (α×γ) where
 sz:=1
 rep S l x:=∃u b p a c T,l=[u]/\u = .pointer (some ⟨b,0,none⟩)/\S b=some (vm p a c T)/\a.length=c.length/\q.rep S p x.1/\r.rep S (a++c) x.2/\T=T0
 len:=fun⟨_,_,_,_,_,_,e,_⟩=>by rw[e];rfl
 mono:=fun⟨u,b,p,a,c,T,e,h1,h2,h3,h4,h5,h6⟩ hS=>⟨u,b,p,a,c,T,e,h1,hS _ _ h2,h3,q.mono h4 hS,r.mono h5 hS,h6⟩
 one:=fun⟨_,_,_,_,_,_,e,h,_⟩ u hu=>by rw[e,aW]at hu;rw[hu,h];rfl
def CellP(S:Mem)(b o:Nat)(us:LV):Prop:=CellAt S b o us∨∃p a c T,S b=some (vm p a c T)/\a.length=c.length/\o+us.length<=p.length/\piece p o us.length=us
theorem CellP.mono{S T:Mem}{b o:Nat}{us:LV}(h:CellP S b o us)(hl:Mem.le S T):CellP T b o us:=
 h.imp (·.mono hl) fun⟨p,a,c,E,h1,h2⟩=>⟨p,a,c,E,hl _ _ h1,h2⟩
theorem CellP.w{S:Mem}{w:World}{b o:Nat}{us:LV}(h:CellP S b o us)(hs:Sub S w):∃ds T fz,w.heap[b]? = some (.cells (dG ds) T fz)/\o+us.length<=ds.length/\piece ds o us.length=us:=by
 rcases h with⟨ds,T,fz,h1,h2,h3⟩|⟨p,a,c,T,h1,h2,h3,h4⟩
 ·exact⟨ds,T,fz,hs _ _ h1,h2,h3⟩
 ·have key:∀x:LV,o+us.length<=(p++x).length/\piece (p++x) o us.length=us:=fun x=>by refine⟨by rw[List.length_append];omega,?_⟩;rw[zaL]at h4 ⊢;rw[List.drop_append_of_le_length (by omega),List.take_append_of_le_length (by rw[List.length_drop];omega)];exact h4
  rcases yvB h2 (hs _ _ h1)with e|e
  ·exact⟨_,_,_,e,key a⟩
  ·exact⟨_,_,_,e,key c⟩
instance rpD:(t:Ty)->Rp (den t)
 |.i k=>rpInt k|.b=>ymD|.s=>yuR|.er=>rpEr|.sl e=>@instRpList (den e) (rpD e)|.pr a c=>@ymN (den a) (den c) (rpD a) (rpD c)|.un=>ynF|.mp a c=>rpMp (List (den a×den c))|.jk T=>rpJk T|.pt t=>rpPt (rpD t)|.pm T t g=>rpPm T (rpD t) (rpD g)
abbrev rep(t:Ty)(S:Mem)(c:LV)(x:den t):Prop:=(rpD t).rep S c x
theorem zgX:∀t:Ty,(rpD t).sz=tsz t
 |.i _=>rfl|.b=>rfl|.s=>rfl|.er=>rfl|.mp _ _=>rfl|.sl _=>rfl|.jk _=>rfl|.pt _=>rfl|.pm _ _ _=>rfl|.pr a c=>by show(rpD a).sz+(rpD c).sz=_;rw[zgX a,zgX c];rfl
 |.un=>rfl
theorem yvE:∀(k:IntKind) (x:Int),toI k (ofI k x)=k.wrap x
 |.u8,x=>(yhL x).symm|.u16,x=>(yyR x).symm|.u32,x=>(zfW x).symm|.u64,x=>(zdT x).symm|.i8,_=>rfl|.i16,_=>rfl|.i32,_=>rfl|.i64,_=>rfl
theorem RL.imp{α:Type}[Rp α]{S T:Mem}(h:∀(c:LV) (x:α),Rp.rep S c x->Rp.rep T c x):∀{xs:List α} {cs:LV},RL S cs xs->RL T cs xs
 |[],_,k=>k|_::_,_,⟨c,d,e,h1,h2⟩=>⟨c,d,e,h _ _ h1,RL.imp h h2⟩
theorem SlS.cut{S:Mem}{v:Value}{n sz:Nat}{cs:LV}(h:SlS S v n sz cs):SlS (cut S) v n sz cs:=by
 rcases h with h|⟨b,o,c,ds,E,fz,h1,h2,h3,h4,h5⟩
 ·exact .inl h
 ·exact .inr ⟨b,o,c,ds,E,fz,h1,h2,ydU h3 rfl,h4,h5⟩
theorem zlQ{S:Mem}:∀(t:Ty),noJk t=true->∀(c:LV) (x:den t),rep t S c x->rep t (cut S) c x
 |.i _,_,_,_,h=>h|.b,_,_,_,h=>h|.s,_,_,_,h=>h|.er,_,_,_,h=>h|.un,_,_,_,h=>h|.mp _ _,_,_,_,h=>h|.sl e,hj,_,_,⟨v,e1,cs,h1,h2⟩=>⟨v,e1,cs,SlS.cut h1,@RL.imp _ (rpD e) _ _ (zlQ e hj) _ _ h2⟩|.pr a c,hj,_,_,⟨ca,cc,e,h1,h2⟩=>⟨ca,cc,e,zlQ a (zaT hj) _ _ h1,zlQ c (zaW hj) _ _ h2⟩|.pt t,hj,_,_,⟨u,b,us,e,h1,⟨ds,T,fz,h2,h3⟩,h4⟩=>⟨u,b,us,e,h1,⟨ds,T,fz,ydU h2 rfl,h3⟩,zlQ t hj _ _ h4⟩
inductive A2 {α γ:Type} (R:α->γ->Prop):List α->List γ->Prop
 |nil:A2 R [] []
 |cons {a b l m}:R a b->A2 R l m->A2 R (a::l) (b::m)
section
variable {α γ:Type}{R R':α->γ->Prop}
theorem A2.imp(h:∀a b,R a b->R' a b):∀{l m},A2 R l m->A2 R' l m
 |_,_,.nil=>.nil|_,_,.cons a t=>.cons (h _ _ a) (A2.imp h t)
theorem A2.len:∀{l m},A2 R l m->l.length=m.length
 |_,_,.nil=>rfl|_,_,.cons _ t=>by simp[A2.len t]
theorem A2.app:∀{l m l' m'},A2 R l m->A2 R l' m'->A2 R (l++l') (m++m')
 |_,_,_,_,.nil,h=>h|_,_,_,_,.cons a t,h=>.cons a (A2.app t h)
theorem A2.take:∀{l m} (n:Nat),A2 R l m->A2 R (l.take n) (m.take n)
 |_,_,0,_=>by simp;exact .nil
 |_,_,n+1,.nil=>by simp;exact .nil
 |_,_,n+1,.cons a t=>by simp only[List.take_succ_cons];exact .cons a (A2.take n t)
theorem A2.drop:∀{l m} (n:Nat),A2 R l m->A2 R (l.drop n) (m.drop n)
 |_,_,0,h=>h|_,_,n+1,.nil=>by simp;exact .nil
 |_,_,n+1,.cons _ t=>by simp only[List.drop_succ_cons];exact A2.drop n t
theorem A2.at:∀{l m} {n:Nat} {a:α},A2 R l m->atN l n=some a->∃b,m[n]? = some b/\R a b
 |_,_,n,_,.nil,h=>by cases n<;>cases h
 |_,_,0,_,.cons a _,h=>by cases h;exact⟨_,rfl,a⟩
 |_,_,n+1,_,.cons _ t,h=>by obtain⟨b,h1,h2⟩:=A2.at (n:=n) t h;exact⟨b,by simpa using h1,h2⟩
theorem A2.app_inv:∀{l l' m},A2 R (l++l') m->∃m1 m2,m=m1++m2/\A2 R l m1/\A2 R l' m2
 |[],_,m,h=>⟨[],m,rfl,.nil,h⟩|_::l,_,_,.cons a t=>by obtain⟨m1,m2,rfl,h1,h2⟩:=A2.app_inv (l:=l) t;exact⟨_::m1,m2,rfl,.cons a h1,h2⟩
theorem A2.one{a:α}{m:List γ}(h:A2 R [a] m):∃b,m=[b]/\R a b:=by cases h with|cons h t=>cases t;exact⟨_,rfl,h⟩
end
theorem zcT{α:Type}:∀(l:List α) (n:Nat),atN l n=l[n]?
 |[],n=>by cases n<;>rfl
 |_::_,0=>rfl|_::l,n+1=>by rw[atN,zcT l n];simp
inductive EI where
 |blk (b:Nat)
 |osl (ver:Nat) (v:Value) (sz:Nat)
 |mp (g b ck:Nat) (es:List MapEntry)
 |fam (ver:Nat) (v:Value) (bs:List Nat)
 |dead
def Fewer(es es':List MapEntry):Prop:=∀en'∈es',∃en∈es,en.key=en'.key/\en.born=en'.born
theorem Fewer.refl(es:List MapEntry):Fewer es es:=fun en h=>⟨en,h,rfl,rfl⟩
theorem Fewer.trans{a b c:List MapEntry}(h:Fewer a b)(k:Fewer b c):Fewer a c:=fun en he=>by obtain⟨e1,h1,h2,h3⟩:=k en he;obtain⟨e2,k1,k2,k3⟩:=h e1 h1;exact⟨e2,k1,k2.trans h2,k3.trans h3⟩
def EI.le:EI->EI->Prop
 |.blk b,e=>e = .blk b∨e = .dead|.osl r v s,e=>e = .osl r v s∨e = .dead∨∃r' v',e = .osl r' v' s/\r<r'|.mp g b ck es,e=>e = .dead∨∃g' ck' es',e = .mp g' b ck' es'/\(g<g'∨(g=g'/\ck=ck'/\Fewer es es'))|.fam r v bs,e=>e = .fam r v bs∨e = .dead∨∃r' v' bs',e = .fam r' v' (bs++bs')/\r<r'|.dead,e=>e = .dead
theorem EI.le_refl:∀e:EI,e.le e
 |.blk _=>.inl rfl|.osl _ _ _=>.inl rfl|.mp _ _ _ es=>.inr ⟨_,_,_,rfl,.inr ⟨rfl,rfl,Fewer.refl es⟩⟩|.fam _ _ _=>.inl rfl|.dead=>rfl
theorem EI.le_trans{a b c:EI}(h:a.le b)(k:b.le c):a.le c:=by
 cases a with
 |blk x=>
  rcases h with rfl|rfl
  ·exact k
  ·exact .inr k
 |osl r v s=>
  rcases h with rfl|rfl|⟨r',v',rfl,h⟩
  ·exact k
  ·exact .inr (.inl k)
  ·rcases k with rfl|rfl|⟨r2,v2,rfl,k⟩
   ·exact .inr (.inr ⟨_,_,rfl,h⟩)
   ·exact .inr (.inl rfl)
   ·exact .inr (.inr ⟨_,_,rfl,bQ h k⟩)
 |mp g x ck es=>
  rcases h with rfl|⟨g1,c1,e1,rfl,h⟩
  ·exact .inl k
  ·rcases k with rfl|⟨g2,c2,e2,rfl,k⟩
   ·exact .inl rfl
   ·refine .inr ⟨_,_,_,rfl,?_⟩;rcases h with h|⟨rfl,rfl,h⟩
    ·rcases k with k|⟨rfl,_,_⟩
     ·exact .inl (bQ h k)
     ·exact .inl h
    ·rcases k with k|⟨rfl,rfl,k⟩
     ·exact .inl k
     ·exact .inr ⟨rfl,rfl,h.trans k⟩
 |fam r v bs=>
  rcases h with rfl|rfl|⟨r',v',bs',rfl,h⟩
  ·exact k
  ·exact .inr (.inl k)
  ·rcases k with rfl|rfl|⟨r2,v2,bs2,rfl,k⟩
   ·exact .inr (.inr ⟨_,_,_,rfl,h⟩)
   ·exact .inr (.inl rfl)
   ·exact .inr (.inr ⟨_,_,bs'++bs2,by rw[List.append_assoc],bQ h k⟩)
 |dead=>have h:b = .dead:=h;subst h;exact k
theorem EI.fam_le{e e':EI}{r:Nat}{v:Value}{bs:List Nat}(h:e.le e')(h':e' = .fam r v bs):∃bs0 r0 v0,e = .fam r0 v0 bs0/\((r0=r/\v0=v/\bs0=bs)∨(r0<r/\∃bs',bs=bs0++bs')):=by
 subst h';cases e with
 |blk b'=>rcases h with h|h<;>cases h
 |osl r v s=>rcases h with h|h|⟨_,_,h,_⟩<;>cases h
 |mp=>rcases h with h|⟨_,_,_,h,_⟩<;>cases h
 |dead=>cases h
 |fam r0 v0 bs0=>
  rcases h with h|h|⟨_,_,bs',h,hlt⟩
  ·cases h;exact⟨_,_,_,rfl,.inl ⟨rfl,rfl,rfl⟩⟩
  ·cases h
  ·cases h;exact⟨_,_,_,rfl,.inr ⟨hlt,bs',rfl⟩⟩
def ELe(E E':List EI):Prop:=∀(i:Nat) (a:EI),E[i]? = some a->∃a',E'[i]? = some a'/\a.le a'
theorem ELe.refl(E:List EI):ELe E E:=fun _ a h=>⟨a,h,a.le_refl⟩
theorem ELe.trans{A B C:List EI}(h:ELe A B)(k:ELe B C):ELe A C:=fun i a e=>by obtain⟨b,h1,h2⟩:=h i a e;obtain⟨c,h3,h4⟩:=k i b h1;exact⟨c,h3,EI.le_trans h2 h4⟩
theorem ELe.push(E:List EI)(e:List EI):ELe E (E++e):=fun i a h=>⟨a,by
 have:=(aC.1 h).1;rw[aF this];exact h,a.le_refl⟩
def VB(S:Mem)(E:List EI):SV->Value->Prop
 |.v t x,u=>rep t S [u] x|.nils,u=>u = .slice none 0 0|.nilp,u=>u = .pointer none|.nilm,u=>u = .map none|.nilf,u=>u = .nilFunc|.emp,u=>SlS S u 0 0 []/\∃a,u = .slice a 0 0|.cl e xs,u=>@RdS (den e) (rpD e) S u xs/\∃a,u = .slice a xs.length xs.length|.nn e xs,u=>@RdS (den e) (rpD e) S u xs/\∀n c,u≠.slice none n c|.rm e n xs,u=>∃v,@RdS (den e) (rpD e) S v xs/\n<=xs.length/\u=subN v (tsz e) 0 n|.mpr id,u=>u.oneCell'=true/\∃e,E[id]? = some e/\∀g b ck es,e = .mp g b ck es->u = .map (some b)|.ptr id off,u=>∃b,u = .pointer (some ⟨b,off,none⟩)/\∃e,E[id]? = some e/\∀b',e = .blk b'->b'=b|.rp t x off,u=>∃b o us,u = .pointer (some ⟨b,o+off,none⟩)/\CellP S b o us/\rep t S us x|.own id ver,u=>u.oneCell'=true/\∃e,E[id]? = some e/\∀r v s,e = .osl r v s->ver<=r/\(ver=r->u=v)|.ep id ver i off,u=>u.oneCell'=true/\∃e,E[id]? = some e/\∀r v s,e = .osl r v s->ver<=r/\(ver=r->∃b o n c,v=sl b o n c/\u = .pointer (some ⟨b,o+i.toNat*s+off,none⟩))|.fs id ver,u=>u.oneCell'=true/\∃e,E[id]? = some e/\∀r v bs,e = .fam r v bs->ver<=r/\(ver=r->u=v)|.fe id ver i,u=>u.oneCell'=true/\∃e,E[id]? = some e/\∀r v bs,e = .fam r v bs->ver<=r/\(ver=r->∃b n c,v=sl b 0 n c/\u = .pointer (some ⟨b,i.toNat,none⟩))|.fp id i off,u=>u.oneCell'=true/\∃e,E[id]? = some e/\∀r v bs,e = .fam r v bs->0<=i/\∃b,bs[i.toNat]? = some b/\u = .pointer (some ⟨b,off,none⟩)|.jp,u=>∃b o m T,u = .pointer (some ⟨b,o,none⟩)/\S b=some (jm m T)/\o<m|_,_=>False
def VA(R:SV->Value->Prop):SV->Value->Prop
 |.ag l,u=>∃us,u = .agg us.toArray/\A2 R l us|x,u=>R x u
def VC(S:Mem)(E:List EI):SV->Value->Prop
 |.fn f a c,u=>∃us ws,u = .func (.func f) us.toArray ws.toArray/\A2 (VA (VB S E)) a us/\A2 (VA (VB S E)) c ws|x,u=>VB S E x u
def VR(S:Mem)(E:List EI):SV->Value->Prop
 |.undef,_=>True|.skp,u=>u=undef|.tup l,u=>∃us,u = .tuple us.toArray/\A2 (VA (VC S E)) l us|x,u=>VA (VC S E) x u
theorem ymW{S:Mem}{e:Ty}{n:Nat}{xs:List (den e)}{v:Value}(h:@RdS (den e) (rpD e) S v xs)(hn:n<=xs.length):@RdS (den e) (rpD e) S (subN v (tsz e) 0 n) (gD n xs):=by have:=@RdS.sub (den e) (rpD e) S v xs h 0 n (Nat.zero_le _) hn;rw[List.drop_zero]at this;rw[<-zgX e];exact this
theorem VB.one{S:Mem}{E:List EI}{x:SV}{u:Value}(h:VB S E x u):u.oneCell'=true:=by
 cases x with
 |v t x=>exact(rpD t).one h u (by simp)|nils=>rw[show u=_ from h];rfl|nilp=>rw[show u=_ from h];rfl|nilm=>rw[show u=_ from h];rfl|nilf=>rw[show u=_ from h];rfl|emp=>obtain⟨_,_,rfl⟩:=h;rfl
 |cl=>obtain⟨_,_,rfl⟩:=h;rfl
 |nn e xs=>exact(rpD (.sl e)).one (show rep (.sl e) S [u] xs from⟨u,rfl,h.1⟩) u (by simp)|rm e n xs=>obtain⟨v,h1,h2,rfl⟩:=h;exact(rpD (.sl e)).one (show rep (.sl e) S [_] (gD n xs)from⟨_,rfl,ymW h1 h2⟩) _ (by simp)
 |mpr=>exact h.1|ptr=>obtain⟨_,rfl,_⟩:=h;rfl
 |rp=>obtain⟨_,_,_,rfl,_⟩:=h;rfl
 |own=>exact h.1|ep=>exact h.1|fs=>exact h.1|fe=>exact h.1|fp=>exact h.1|jp=>obtain⟨_,_,_,_,rfl,_⟩:=h;rfl
 |_=>exact h.elim
theorem VC.b{S:Mem}{E:List EI}{x:SV}{u:Value}(h:VC S E x u)(hx:nofn x=true:=by rfl):VB S E x u:=by cases x<;>first|exact h|cases hx
theorem VB.c{S:Mem}{E:List EI}{x:SV}{u:Value}(h:VB S E x u):VC S E x u:=by cases x<;>first|exact h|exact h.elim
theorem VA.b{R:SV->Value->Prop}{x:SV}{u:Value}(h:VA R x u)(hx:noag x=true:=by rfl):R x u:=by cases x<;>first|exact h|cases hx
theorem VA.of{R:SV->Value->Prop}{x:SV}{u:Value}(h:R x u)(hx:noag x=true:=by rfl):VA R x u:=by cases x<;>first|exact h|cases hx
theorem VR.b{S:Mem}{E:List EI}{x:SV}{u:Value}(h:VR S E x u)(hx:notu x=true:=by rfl):VA (VC S E) x u:=by cases x<;>first|exact h|cases hx
theorem VR.of{S:Mem}{E:List EI}{x:SV}{u:Value}(h:VA (VC S E) x u):VR S E x u:=by cases x<;>first|exact h|trivial|exact h.elim
theorem VR.ofC{S:Mem}{E:List EI}{x:SV}{u:Value}(h:VC S E x u):VR S E x u:=by cases x<;>first|exact h|trivial|exact h.elim
theorem VC.one{S:Mem}{E:List EI}{x:SV}{u:Value}(h:VC S E x u):u.oneCell'=true:=by
 cases x with
 |fn=>obtain⟨_,_,rfl,_⟩:=h;rfl
 |_=>exact VB.one h.b
theorem VB.mono{S S':Mem}{E E':List EI}(hS:Mem.le S S')(hE:ELe E E'){x:SV}{u:Value}(h:VB S E x u):VB S' E' x u:=by
 cases x with
 |v t x=>exact(rpD t).mono h hS|nils=>exact h|nilp=>exact h|nilm=>exact h|nilf=>exact h|ptr id off=>
  obtain⟨b0,h0,e,h1,h2⟩:=h;obtain⟨e',h3,h4⟩:=hE _ _ h1;refine⟨b0,h0,e',h3,fun b hb=>?_⟩;subst hb;cases e with
  |blk b'=>rcases h4 with h4|h4<;>cases h4;exact h2 _ rfl
  |osl r v s=>rcases h4 with h4|h4|⟨_,_,h4,_⟩<;>cases h4
  |mp=>rcases h4 with h4|⟨_,_,_,h4,_⟩<;>cases h4
  |fam r v bs=>rcases h4 with h4|h4|⟨_,_,_,h4,_⟩<;>cases h4
  |dead=>cases h4
 |emp=>exact⟨h.1.mono hS,h.2⟩|cl e xs=>exact⟨h.1.mono hS,h.2⟩|nn e xs=>exact⟨h.1.mono hS,h.2⟩|rm e n xs=>obtain⟨v,h1,h2⟩:=h;exact⟨v,h1.mono hS,h2⟩
 |mpr id=>
  obtain⟨h0,e,h1,h2⟩:=h;obtain⟨e',h3,h4⟩:=hE _ _ h1;refine⟨h0,e',h3,fun g b ck es hb=>?_⟩;subst hb;cases e with
  |blk b'=>rcases h4 with h4|h4<;>cases h4
  |osl r v s=>rcases h4 with h4|h4|⟨_,_,h4,_⟩<;>cases h4
  | mp => rcases h4 with h4 | ⟨_, _, _, h4, _⟩
          ·cases h4
          ·cases h4;exact h2 _ _ _ _ rfl
  |fam r v bs=>rcases h4 with h4|h4|⟨_,_,_,h4,_⟩<;>cases h4
  |dead=>cases h4
 |rp t x off=>obtain⟨b,o,us,e,h1,h2⟩:=h;exact⟨b,o,us,e,h1.mono hS,(rpD t).mono h2 hS⟩
 |own id ver=>
  obtain⟨h0,e,h1,h2⟩:=h;obtain⟨e',h3,h4⟩:=hE _ _ h1;refine⟨h0,e',h3,fun r v s hb=>?_⟩;subst hb;cases e with
  |blk b'=>rcases h4 with h4|h4<;>cases h4
  |osl r' v' s'=>
   obtain⟨h5,h6⟩:=h2 _ _ _ rfl;rcases h4 with h4|h4|⟨_,_,h4,h7⟩<;>cases h4
   ·exact⟨h5,h6⟩
   ·exact⟨cW (cG h5 h7),fun e=>absurd e (gW (cG h5 h7))⟩
  |mp=>rcases h4 with h4|⟨_,_,_,h4,_⟩<;>cases h4
  |fam r v bs=>rcases h4 with h4|h4|⟨_,_,_,h4,_⟩<;>cases h4
  |dead=>cases h4
 |ep id ver i off=>
  obtain⟨h0,e,h1,h2⟩:=h;obtain⟨e',h3,h4⟩:=hE _ _ h1;refine⟨h0,e',h3,fun r v s hb=>?_⟩;subst hb;cases e with
  |blk b'=>rcases h4 with h4|h4<;>cases h4
  |osl r' v' s'=>
   obtain⟨h5,h6⟩:=h2 _ _ _ rfl;rcases h4 with h4|h4|⟨_,_,h4,h7⟩<;>cases h4
   ·exact⟨h5,h6⟩
   ·exact⟨cW (cG h5 h7),fun e=>absurd e (gW (cG h5 h7))⟩
  |mp=>rcases h4 with h4|⟨_,_,_,h4,_⟩<;>cases h4
  |fam r v bs=>rcases h4 with h4|h4|⟨_,_,_,h4,_⟩<;>cases h4
  |dead=>cases h4
 |fs id ver=>
  obtain⟨h0,e,h1,h2⟩:=h;obtain⟨e',h3,h4⟩:=hE _ _ h1;refine⟨h0,e',h3,fun r v s hb=>?_⟩;obtain⟨bs0,r0,v0,rfl,h8⟩:=EI.fam_le h4 hb;clear h4;obtain⟨h5,h6⟩:=h2 _ _ _ rfl;rcases h8 with⟨rfl,rfl,_⟩|h7
  ·exact⟨h5,h6⟩
  ·exact⟨cW (cG h5 h7.1),fun e=>absurd e (gW (cG h5 h7.1))⟩
 |fe id ver i=>
  obtain⟨h0,e,h1,h2⟩:=h;obtain⟨e',h3,h4⟩:=hE _ _ h1;refine⟨h0,e',h3,fun r v s hb=>?_⟩;obtain⟨bs0,r0,v0,rfl,h8⟩:=EI.fam_le h4 hb;clear h4;obtain⟨h5,h6⟩:=h2 _ _ _ rfl;rcases h8 with⟨rfl,rfl,_⟩|h7
  ·exact⟨h5,h6⟩
  ·exact⟨cW (cG h5 h7.1),fun e=>absurd e (gW (cG h5 h7.1))⟩
 |fp id i off=>
  obtain⟨h0,e,h1,h2⟩:=h;obtain⟨e',h3,h4⟩:=hE _ _ h1;refine⟨h0,e',h3,fun r v s hb=>?_⟩;obtain⟨bs0,r0,v0,rfl,h8⟩:=EI.fam_le h4 hb;clear h4;obtain⟨h5,b,h6,h7⟩:=h2 _ _ _ rfl;rcases h8 with⟨rfl,rfl,rfl⟩|⟨_,bs',rfl⟩
  ·exact⟨h5,b,h6,h7⟩
  ·exact⟨h5,b,by rw[aF (aC.1 h6).1];exact h6,h7⟩
 |jp=>obtain⟨b,o,m,T,h1,h2,h3⟩:=h;exact⟨b,o,m,T,h1,hS _ _ h2,h3⟩
 |_=>exact h.elim
theorem VA.imp{R R':SV->Value->Prop}(h:∀a b,R a b->R' a b){x:SV}{u:Value}(k:VA R x u):VA R' x u:=by
 cases x with
 |ag l=>obtain⟨us,e,k⟩:=k;exact⟨us,e,k.imp h⟩
 |_=>exact VA.of (h _ _ k.b)
theorem VC.mono{S S':Mem}{E E':List EI}(hS:Mem.le S S')(hE:ELe E E'){x:SV}{u:Value}(h:VC S E x u):VC S' E' x u:=by
 cases x with
 |fn f a c=>obtain⟨us,ws,e,h1,h2⟩:=h;exact⟨us,ws,e,h1.imp fun _ _=>VA.imp fun _ _=>VB.mono hS hE,h2.imp fun _ _=>VA.imp fun _ _=>VB.mono hS hE⟩
 |_=>exact(VB.mono hS hE h.b).c
theorem VR.mono{S S':Mem}{E E':List EI}(hS:Mem.le S S')(hE:ELe E E'){x:SV}{u:Value}(h:VR S E x u):VR S' E' x u:=by
 cases x with
 |undef=>trivial|skp=>exact h|tup l=>obtain⟨us,e,h1⟩:=h;exact⟨us,e,h1.imp fun _ _=>VA.imp fun _ _=>VC.mono hS hE⟩
 |_=>exact VR.of (h.b.imp fun _ _=>VC.mono hS hE)
def rep1(t:Ty)(S:Mem)(u:Value)(x:den t):Prop:=if one t=true then rep t S [u] x else ∃cs:LV,u = .agg cs.toArray/\rep t S cs x
theorem rep1.mono{S S':Mem}{t:Ty}{u:Value}{x:den t}(h:rep1 t S u x)(hS:Mem.le S S'):rep1 t S' u x:=by
 unfold rep1 at h ⊢;split at h
 ·rename_i ho;rw[zH ho];exact(rpD t).mono h hS
 ·rename_i ho;rw[zG ho];obtain⟨cs,e,h⟩:=h;exact⟨cs,e,(rpD t).mono h hS⟩
structure MR (S:Mem) (K V:Ty) (es:List (den K×den V)) (ents:List MapEntry):Prop where
 perm:∃l:List (den K×den V),l.Perm es/\A2 (fun p en=>rep1 K S en.key p.1/\rep1 V S en.val p.2) l ents
 ne:es.Pairwise fun p q=>keq K p.1 q.1=false
 nd:(ents.map (·.born)).Nodup
theorem MR.mono{S S':Mem}{K V:Ty}{es:List (den K×den V)}{ents:List MapEntry}(h:MR S K V es ents)(hS:Mem.le S S'):MR S' K V es ents:=by obtain⟨l,h1,h2⟩:=h.perm;exact⟨⟨l,h1,h2.imp fun _ _ h=>⟨h.1.mono hS,h.2.mono hS⟩⟩,h.ne,h.nd⟩
def Same(S:Mem)(v v':Value)(n:Nat):Prop:=v'=v∨(v = .slice none 0 0/\n=0/\SlS S v' 0 0 []/\∃a,v' = .slice a 0 0)
def kv:(t:Ty)->den t->Value
 |.i k,x=>.int k (toI k x)|.s,x=>str x|.pr .s .s,x=>.agg [str x.1,str x.2].toArray|_,_=>undef
def ItR(E:List EI)(mid g:Nat)(K:Ty)(cur:Option (den K))(left:List (den K))(mb ck:Nat)(seen:Array Nat):Prop:=
 kOk K=true/\∃e,E[mid]? = some e/\∀g' b ck' es,e = .mp g' b ck' es->g<=g'/\(g=g'->b=mb/\ck'=ck/\∀en∈es,(en.born∈seen↔∀k∈left,en.key≠kv K k)/\∀c,cur=some c->(en.key=kv K c↔seen.back? = some en.born))
theorem ItR.mono{E E':List EI}(hE:ELe E E'){mid g:Nat}{K:Ty}{cur:Option (den K)}{left:List (den K)}{mb ck:Nat}{seen:Array Nat}(h:ItR E mid g K cur left mb ck seen):ItR E' mid g K cur left mb ck seen:=by
 obtain⟨hK,e,h1,h2⟩:=h;obtain⟨e',h3,h4⟩:=hE _ _ h1;refine⟨hK,e',h3,fun g' b ck' es he=>?_⟩;subst he;cases e with
 |blk=>rcases h4 with h4|h4<;>cases h4
 |osl=>rcases h4 with h4|h4|⟨_,_,h4,_⟩<;>cases h4
 |fam=>rcases h4 with h4|h4|⟨_,_,_,h4,_⟩<;>cases h4
 |dead=>cases h4
 |mp g1 b1 c1 e1=>
  obtain⟨h5,h6⟩:=h2 _ _ _ _ rfl;rcases h4 with h4|⟨_,_,_,h4,h7⟩
  ·cases h4
  ·cases h4;rcases h7 with h7|⟨rfl,rfl,h7⟩
   ·exact⟨by omega,fun h=>by omega⟩
   ·refine⟨h5,fun hg=>?_⟩;obtain⟨h8,h9,h10⟩:=h6 hg;refine⟨h8,h9,fun en hen=>?_⟩;obtain⟨en0,k1,k2,k3⟩:=h7 en hen;rw[<-k2,<-k3];exact h10 en0 k1
def OR0(S:Mem)(E:List EI):AO->Res->EI->Prop
 |.blk T cs,r,e=>∃b us,r = .blk b us T/\e = .blk b/\A2 (VC S E) cs us|.osl ver t T xs,r,e=>∃v v' cs rs,r = .osl v xs.length (tsz t) cs rs T/\e = .osl ver v' (tsz t)/\RL S cs xs/\Same S v v' xs.length|.mp g K V es,r,e=>∃b ents ck,r = .obj b (.map (dG ents) ck)/\e = .mp g b ck ents/\MR S K V es ents/\∀en∈ents,en.born<ck|.it mid g K cur left,r,e=>∃b mb ck seen,r = .obj b (.mapIter (some mb) ck seen ck)/\e = .blk b/\ItR E mid g K cur left mb ck seen|.is l p,r,e=>∃b,r = .obj b (itT l p)/\e = .blk b|.qu ver t T xs,r,e=>∃b c p ps cs rs q c',r = .osl (sl b 0 (p+xs.length) c) (p+xs.length) (tsz t) (ps++cs) rs T/\e = .osl ver (sl b q xs.length c') (tsz t)/\eT ps=p*tsz t/\RL S cs xs/\xs.length<=c'/\((q=p*tsz t/\c=p+c')∨c'=0)|.dead,r,e=>r = .osl (.slice none 0 0) 0 0 [] [] 0/\e = .dead|.fam _ _ _ _,_,_=>False|.famO _ _ _ _ _,_,_=>False
theorem OR0.mono{S S':Mem}{E E':List EI}(hS:Mem.le S S')(hE:ELe E E'){o:AO}{r:Res}{e:EI}(h:OR0 S E o r e):OR0 S' E' o r e:=by
 cases o with
 |blk T cs=>obtain⟨b,us,h1,h2,h3⟩:=h;exact⟨b,us,h1,h2,h3.imp fun _ _=>VC.mono hS hE⟩
 |osl ver t T xs=>obtain⟨v,v',cs,rs,h1,h2,h3,h4⟩:=h;exact⟨v,v',cs,rs,h1,h2,h3.mono hS,h4.imp id fun⟨a,b,c,d⟩=>⟨a,b,c.mono hS,d⟩⟩
 |mp g K V es=>obtain⟨b,ents,ck,h1,h2,h3,h4⟩:=h;exact⟨b,ents,ck,h1,h2,h3.mono hS,h4⟩
 |it mid g K cur left=>obtain⟨b,mb,ck,seen,h1,h2,h3⟩:=h;exact⟨b,mb,ck,seen,h1,h2,h3.mono hE⟩
 |is=>exact h|qu ver t T xs=>obtain⟨b,c,p,ps,cs,rs,q,c',h1,h2,h3,h4,h5⟩:=h;exact⟨b,c,p,ps,cs,rs,q,c',h1,h2,h3,h4.mono hS,h5⟩
 |dead=>exact h|fam=>exact h|famO=>exact h
def Mem1(S:Mem)(f:List FSh)(x:den (fT f))(rs:List R0)(b:Nat):Prop:=
 ∃Ei:List EI,(∀b',Ei[0]? = some (.blk b')->b'=b)/\rs.length=f.length/\Ei.length=f.length /\
  ∀(i:Nat) o,(zdM (f.map FSh.up) (zhN _ (toS f x)))[i]? = some o->∃r e,rs[i]? = some r/\Ei[i]? = some e/\OR0 S Ei o r.up e
theorem Mem1.mono{S S':Mem}{f:List FSh}{x:den (fT f)}{rs:List R0}{b:Nat}(hS:Mem.le S S')(h:Mem1 S f x rs b):Mem1 S' f x rs b:=by obtain⟨Ei,h1,h2,h3,h4⟩:=h;exact⟨Ei,h1,h2,h3,fun i o hi=>by obtain⟨r,e,k1,k2,k3⟩:=h4 i o hi;exact⟨r,e,k1,k2,k3.mono hS (ELe.refl Ei)⟩⟩
structure FamR (S:Mem) (f:List FSh) (out:Option Nat) (ks:List (den (fT f))) (ms:List (List R0)) (bs:List Nat):Prop where
 l1:ms.length=ks.length
 l2:bs.length=ks.length
 mem:∀(i:Nat) x,ks[i]? = some x->out≠some i->∃rs b,ms[i]? = some rs/\bs[i]? = some b/\Mem1 S f x rs b
 no:∀i,out=some i->ms[i]? = some []
theorem FamR.mono{S S':Mem}{f:List FSh}{out:Option Nat}{ks:List (den (fT f))}{ms:List (List R0)}{bs:List Nat}(hS:Mem.le S S')(h:FamR S f out ks ms bs):FamR S' f out ks ms bs:=
 ⟨h.l1,h.l2,fun i x hi ho=>by obtain⟨rs,b,k1,k2,k3⟩:=h.mem i x hi ho;exact⟨rs,b,k1,k2,k3.mono hS⟩,h.no⟩
def ptrV(b:Nat):Value:=.pointer (some ⟨b,0,none⟩)
def FamO(S:Mem)(ver:Nat)(T:TypeId)(f:List FSh)(ks:List (den (fT f)))(out:Option Nat)(r:Res)(e:EI):Prop:=
 ∃v rs ms bs,r = .many (.osl v ks.length 1 (bs.map ptrV) rs T::ms.flatten)/\e = .fam ver v bs/\FamR S f out ks ms bs
def OR(S:Mem)(E:List EI):AO->Res->EI->Prop
 |.fam ver T f ks,r,e=>FamO S ver T f ks none r e|.famO ver T f ks i,r,e=>0<=i/\i.toNat<ks.length/\FamO S ver T f ks (some i.toNat) r e|.blk T cs,r,e=>OR0 S E (.blk T cs) r e|.osl ver t T xs,r,e=>OR0 S E (.osl ver t T xs) r e|.mp g K V es,r,e=>OR0 S E (.mp g K V es) r e|.it mid g K cur left,r,e=>OR0 S E (.it mid g K cur left) r e|.is l p,r,e=>OR0 S E (.is l p) r e|.qu ver t T xs,r,e=>OR0 S E (.qu ver t T xs) r e|.dead,r,e=>OR0 S E .dead r e
theorem OR.mono{S S':Mem}{E E':List EI}(hS:Mem.le S S')(hE:ELe E E'){o:AO}{r:Res}{e:EI}(h:OR S E o r e):OR S' E' o r e:=by
 cases o with
 |fam=>obtain⟨v,rs,ms,bs,h1,h2,h3⟩:=h;exact⟨v,rs,ms,bs,h1,h2,h3.mono hS⟩
 |famO=>obtain⟨h0,h0',v,rs,ms,bs,h1,h2,h3⟩:=h;exact⟨h0,h0',v,rs,ms,bs,h1,h2,h3.mono hS⟩
 |blk T cs=>exact OR0.mono (o:=.blk T cs) hS hE h|osl ver t T xs=>exact OR0.mono (o:=.osl ver t T xs) hS hE h|mp g K V es=>exact OR0.mono (o:=.mp g K V es) hS hE h|it mid g K cur left=>exact OR0.mono (o:=.it mid g K cur left) hS hE h|is l p=>exact OR0.mono (o:=.is l p) hS hE h|qu ver t T xs=>exact OR0.mono (o:=.qu ver t T xs) hS hE h|dead=>exact OR0.mono (o:=.dead) hS hE h
structure RelV (B:Bas) (S:Mem) (E:List EI) (L:List Res) (σ:St) (V:Nat->Value) (w:World):Prop where
 hs:HS B S w L
 lL:L.length=σ.hp.length
 lE:E.length=σ.hp.length
 obj:∀(i:Nat) o,σ.hp[i]? = some o->∃r e,L[i]? = some r/\E[i]? = some e/\OR S E o r e
 sl:∀t,VR S E (lkS σ.sl t) (V t)
abbrev Rel(n:Nat)(B:Bas)(S:Mem)(E:List EI)(L:List Res)(σ:St)(m:FM)(w:World):Prop:=RelV B S E L σ (fun t=>evO n m (.tmp t)) w
section
variable {n:Nat}{B:Bas}{S:Mem}{E:List EI}{L:List Res}{σ:St}{m:FM}{w w':World}
theorem Rel.to(R:Rel n B S E L σ m w)(H:HS B S w' L):Rel n B S E L σ m w':=⟨H,R.lL,R.lE,R.obj,R.sl⟩
theorem Rel.put(R:Rel n B S E L σ m w){d:Nat}{x:SV}{u:Value}(h:VR S E x u)(hd:cM d n=true):Rel n B S E L (σ.put d x) ((d,u)::m) w:=
 ⟨R.hs,R.lL,R.lE,R.obj,fun t=>by
  show VR S E (bif aG d t then x else lkS σ.sl t) (bif cM t n then(bif aG d t then u else look m t)else undef);cases ht:aG d t with
  |true=>rw[aB ht]at hd;rw[hd];exact h|false=>exact R.sl t⟩
theorem Rel.re(R:Rel n B S E L σ m w){d:Nat}{x:SV}(h:VR S E x (evO n m (.tmp d))):Rel n B S E L (σ.put d x) m w:=
 ⟨R.hs,R.lL,R.lE,R.obj,fun t=>by
  show VR S E (bif aG d t then x else lkS σ.sl t) _;cases ht:aG d t with
  |true=>rw[<-aB ht];exact h|false=>exact R.sl t⟩
theorem ynM{c:Value}{x:SV}(h:ygY c=some x):VR S E x c:=by
 unfold ygY at h;split at h
 ·cases h;exact(rfl:rep .b S _ _)
 ·rename_i k n;cases hd:decide (toI k (ofI k n)=n) with
  |false=>rw[hd]at h;cases h
  |true=>rw[hd]at h;cases h;show [Value.int k n]=[.int k (toI k (ofI k n))];rw[zC hd]
 ·cases h;exact(rfl:rep .s S _ _)
 ·cases h;rfl
 ·cases h;rfl
 ·cases h;rfl
 ·cases h;rfl
 ·cases h;exact⟨_,rfl,.inl ⟨rfl,rfl⟩⟩
 ·cases h
theorem zbM(R:Rel n B S E L σ m w){x:Operand}{a:SV}(h:ev σ x=some a):VR S E a (evO n m x):=by
 cases x with
 |tmp t=>cases h;exact R.sl t
 |const c=>exact ynM h|func f=>cases h;exact⟨[],[],rfl,.nil,.nil⟩
 |global g=>cases h
end
end Go.Proofs.YtmbcolbbekbccaaGreat.Am
