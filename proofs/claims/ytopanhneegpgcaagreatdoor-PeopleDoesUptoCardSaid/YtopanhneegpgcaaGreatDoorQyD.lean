/- Parts of one proof. Conditions: as each theorem says. -/
import Derived.Test.YtopanhneegpgcaaGreatDoorQyC
open List renaming getElem?_append_left->aF,getElem?_eq_some_iff->aC,length->cZ,mem_singleton->aZ
open Nat renaming beq->aJ,ble->cK,blt->cY,eq_of_beq_eq_true->aB,le_of_lt->gY,lt_of_le_of_lt->eF,lt_trans->jJ,ne_of_lt->gZ
open Option renaming bind->aR
open Go.Op renaming bytesLess->j9
namespace Go.Proofs.YtopanhneegpgcaaGreatDoor.Am
open Go Go.RowKit
section
variable {β:Type}
def JC(hp:List AO):(l:List Ty)->List SV->Option (b8 l)
 |[],[]=>some ()|[t],[x]=>Ea hp t x|t::d::l,x::c=>match Ea hp t x,JC hp (d::l) c with
  |some a,some r=>some (a,r)|_,_=>none
 |_,_=>none
def rc:(l:List Ty)->b8 l->List SV
 |[],_=>[]|[t],x=>[W6 t x]|t::a::l,x=>W6 t x.1::rc (a::l) x.2
def Kh(l:List Ty)(x:b8 l):SV:=match rc l x with
 |[x]=>x|l=>.Bb l
def OP:SV->List Nat
 |.own id _=>[id]|_=>[]
def owns(x:SV):List Nat:=(ea x).flatMap OP
def Yc(id a:Nat)(e:Ty)(xs:List (den e)):SV->SV
 |.own i w=>bif aJ i id&&aJ w a then .v (.sl e) xs else .own i w
 |x=>x
def KC(id a:Nat)(e:Ty)(xs:List (den e)):SV->SV
 |.ag l=>.ag (l.map (Yc id a e xs))|.Bb l=>.Bb (l.map fun x=>match x with
  |.ag l=>.ag (l.map (Yc id a e xs))|x=>Yc id a e xs x)
 |x=>Yc id a e xs x
def Lh(σ:St)(id:Nat):St:=match V5 σ.hp id with
 |some (.H' a e _ b)=>⟨σ.sl.map fun p=>(p.1,KC id a e b p.2),(O6 σ.hp id .dead).map fun o=>match o with
  |.N' T c=>.N' T (c.map (Yc id a e b))|o=>o⟩
 |_=>σ
def x5(σ:St):List Nat->St
 |[]=>σ|i::l=>x5 (Lh σ i) l
def bw:Ty->Bool
 |.sl _=>true|.pr a c=>bw a||bw c|.mp _ _=>true|_=>false
def xG:SV->Bool
 |.v _ _=>true|.Y'=>true|.v7=>true|.ye=>true|.cl _ _=>true|.rp _ _ _=>true|_=>false
def EZ:(a b:FC)->Option (PLift (a=b))
 |.h t,.h c=>match P7 t c with
  |some ⟨h⟩=>some ⟨by rw[h]⟩|none=>none
 |.mpr i,.mpr j=>match decEq i j with
  |.isTrue h=>some ⟨by rw[h]⟩|.isFalse _=>none
 |_,_=>none
def yG:(a b:List FC)->Option (PLift (a=b))
 |[],[]=>some ⟨rfl⟩|x::a,y::b=>match EZ x y,yG a b with
  |some ⟨h⟩,some ⟨k⟩=>some ⟨by rw[h,k]⟩|_,_=>none
 |_,_=>none
def PP:(a b:x6)->Option (PLift (a=b))
 |.N' T l,.N' c d=>match decEq T c,yG l d with
  |.isTrue h,some ⟨k⟩=>some ⟨by rw[h,k]⟩|_,_=>none
 |.mp K V,.mp e f=>match P7 K e,P7 V f with
  |some ⟨h⟩,some ⟨k⟩=>some ⟨by rw[h,k]⟩|_,_=>none
 |_,_=>none
def jl:(a b:List x6)->Option (PLift (a=b))
 |[],[]=>some ⟨rfl⟩|x::a,y::b=>match PP x y,jl a b with
  |some ⟨h⟩,some ⟨k⟩=>some ⟨by rw[h,k]⟩|_,_=>none
 |_,_=>none
def AG{a c:List x6}(h:a=c)(x:List (den (fT a))):List (den (fT c)):=h▸x
def Sh.BG:Sh->SV->List Nat
 |.h _,.own id _=>[id]|_,_=>[]
def kl:List Sh->List SV->List Nat
 |a::l,x::b=>a.BG x++kl l b|_,_=>[]
def Sh.CG:Sh->SV->List Nat
 |.fn _ a c,.fn _ b d=>kl a b++kl c d|a,x=>a.BG x
def ll:List Sh->List SV->List Nat
 |a::l,x::b=>a.CG x++ll l b|_,_=>[]
def Sh.need:Sh->SV->List Nat
 |.h _,x=>owns x|.ag l,.ag b=>ll l b|a,x=>a.CG x
def Vf(hp:List AO):List X3->List Nat->List Nat
 |.N' _ l::os,id::a=>(match V5 hp id with
  |some (.N' _ b)=>ll l b|_=>[])++Vf hp os a
 |_::os,_::a=>Vf hp os a|_,_=>[]
def Sh.DG:Sh->SV->List (Nat×Nat)
 |.own k,.own id _=>[(k,id)]|.ptr k _,.ptr id _=>[(k,id)]|.mpr k,.mpr id=>[(k,id)]|.fs k,.fs id _=>[(k,id)]|_,_=>[]
def ml:List Sh->List SV->List (Nat×Nat)
 |a::l,x::b=>a.DG x++ml l b|_,_=>[]
def Sh.EG:Sh->SV->List (Nat×Nat)
 |.fn _ a c,.fn _ b d=>ml a b++ml c d|a,x=>a.DG x
def nl:List Sh->List SV->List (Nat×Nat)
 |a::l,x::b=>a.EG x++nl l b|_,_=>[]
def Sh.V3:Sh->SV->List (Nat×Nat)
 |.ag l,.ag b=>nl l b|a,x=>a.EG x
def Nu:List (Nat×Nat)->Nat->Option Nat
 |[],_=>none|(k,i)::l,t=>bif aJ k t then some i else Nu l t
def cw(hp:List AO):Nat->List X3->List (Nat×Nat)->List (Nat×Nat)
 |_,[],b=>b|k,.N' _ l::os,b=>cw hp (k+1) os (match Nu b k with
  |some id=>match V5 hp id with
   |some (.N' _ c)=>b++nl l c|_=>b
  |none=>b)
 |k,.it j _ _::os,b=>cw hp (k+1) os (match Nu b k with
  |some id=>match V5 hp id with
   |some (.it a _ _ _ _)=>b++[(j,a)]|_=>b
  |none=>b)
 |k,_::os,b=>cw hp (k+1) os b
def As(n:Nat)(b:List (Nat×Nat)):Nat->List X3->List Nat
 |_,[]=>[]|k,_::os=>(match Nu b k with
  |some id=>id|none=>n)::As n b (k+1) os
def live:X3->Bool
 |.dead=>false|_=>true
def QP(id:Nat):List X3->List Nat->Bool
 |o::os,i::a=>(live o&&aJ i id)||QP id os a|_,_=>false
def Wf:List X3->List Nat->Bool
 |o::os,i::a=>(!(live o) || !(QP i os a))&&Wf os a|_,_=>true
def Sh.xa(ρ:List Nat)(hp f:List AO):Sh->SV->Option (List SV)
 |.h t,x=>bif one t then(match Tf f t x with
  |some y=>some [.v t y]|none=>none)else none
 |.own k,.own id c=>match V5 ρ k,V5 hp id with
  |some a,some (.H' b _ _ _)=>bif aJ a id&&aJ c b then some []else none
  |some a,some (.qu b _ _ _)=>bif aJ a id&&aJ c b then some []else none
  |_,_=>none
 |.ptr k g,.ptr id d=>match V5 ρ k with
  |some a=>bif aJ a id&&aJ g d then some []else none
  |none=>none
 |.mpr k,.mpr id=>match V5 ρ k with
  |some a=>bif aJ a id then some []else none
  |none=>none
 |.fs k,.fs id c=>match V5 ρ k,V5 hp id with
  |some a,some (.U4 b _ _ _)=>bif aJ a id&&aJ c b then some []else none
  |_,_=>none
 |.v7,.v7=>some []|.Y',.Y'=>some []|.kn k n,.v (.i j) x=>match Zr j k with
  |some _=>bif decide (c6 j x=n)&&decide (c6 k (Sf k n)=n)then some []else none
  |none=>none
 |.hc e,.cl l o=>match P7 l e with
  |some ⟨q⟩=>some [.v (.sl e) (Ob (by rw[q]:Ty.sl l=Ty.sl e) o)]|none=>none
 |.hr t,.rp p x 0=>match P7 p t with
  |some ⟨q⟩=>some [W6 t (Ob q x)]|none=>none
 |.hr t,.ptr id 0=>match V5 f id with
  |some (.N' _ r)=>match Uf f t r with
   |some y=>some [W6 t y]|none=>none
  |_=>none
 |_,_=>none
def Mh(ρ:List Nat)(hp b:List AO):List Sh->List SV->Option (List SV)
 |[],[]=>some []|a::l,x::c=>match a.xa ρ hp b x,Mh ρ hp b l c with
  |some p,some q=>some (p++q)|_,_=>none
 |_,_=>none
def Sh.Cs(ρ:List Nat)(hp b:List AO):Sh->SV->Option (List SV)
 |.fn f a c,.fn d e g=>bif aJ f d then(match Mh ρ hp b a e,Mh ρ hp b c g with
  |some p,some q=>some (p++q)|_,_=>none)else none
 |a,x=>a.xa ρ hp b x
def Nh(ρ:List Nat)(hp b:List AO):List Sh->List SV->Option (List SV)
 |[],[]=>some []|a::l,x::c=>match a.Cs ρ hp b x,Nh ρ hp b l c with
  |some p,some q=>some (p++q)|_,_=>none
 |_,_=>none
def Sh.get(ρ:List Nat)(hp b:List AO):Sh->SV->Option (List SV)
 |.h t,x=>match Ea b t x with
  |some y=>some [W6 t y]|none=>none
 |.ag l,.ag c=>Nh ρ hp b l c|.ag _,_=>none|a,x=>a.Cs ρ hp b x
def LC(ρ:List Nat)(hp b:List AO):List Sh->List SV->Option (List SV)
 |[],[]=>some []|a::l,x::c=>match a.get ρ hp b x,LC ρ hp b l c with
  |some p,some q=>some (p++q)|_,_=>none
 |_,_=>none
def Fo(ρ:List Nat)(σ:St):List (Nat×Sh)->Option (List SV)
 |[]=>some []|(d,a)::l=>match a.get ρ σ.hp [] (z7 σ.sl d),Fo ρ σ l with
  |some p,some q=>some (p++q)|_,_=>none
def Hb(ρ:List Nat)(hp:List AO):List X3->List Nat->Option (List SV)
 |[],_=>some []|.N' T l::os,id::a=>match V5 hp id with
  |some (.N' b u)=>bif aJ T b then(match Nh ρ hp [] l u,Hb ρ hp os a with
   |some p,some q=>some (p++q)|_,_=>none)else none
  |_=>none
 |.H' e T::os,id::a=>match V5 hp id with
  |some (.H' _ c b r)=>bif aJ T b then(match P7 c e,Hb ρ hp os a with
   |some ⟨h⟩,some q=>some (.v (.sl e) (Ob (by rw[h]:Ty.sl c=Ty.sl e) r)::q)|_,_=>none)else none
  |_=>none
 |.mp _ K V::os,id::a=>match V5 hp id with
  |some (.mp _ o x y)=>match P7 (.mp o x) (.mp K V),Hb ρ hp os a with
   |some ⟨h⟩,some q=>some (.v (.mp K V) (Ob h y)::q)|_,_=>none
  |_=>none
 |.it j _ K::os,id::a=>match V5 hp id,V5 ρ j with
  |some (.it d g o _ t),some k=>match V5 hp d with
   |some (.mp z _ _ _)=>bif aJ d k&&aJ g z then(match P7 o K,Hb ρ hp os a with
    |some ⟨h⟩,some q=>some (.v (.sl K) (Ob (by rw[h]:Ty.sl o=Ty.sl K) t)::q)|_,_=>none)else none
   |_=>none
  |_,_=>none
 |.is::os,id::a=>match V5 hp id,Hb ρ hp os a with
  |some (.is l p),some q=>some (.v .s l :: .v (.i .i64) (p:Int)::q)|_,_=>none
 |.qu e T::os,id::a=>match V5 hp id with
  |some (.qu _ c b r)=>bif aJ T b then(match P7 c e,Hb ρ hp os a with
   |some ⟨h⟩,some q=>some (.v (.sl e) (Ob (by rw[h]:Ty.sl c=Ty.sl e) r)::q)|_,_=>none)else none
  |_=>none
 |.U4 T f::os,id::a=>match V5 hp id with
  |some (.U4 _ b A t)=>bif aJ T b then(match jl A f,Hb ρ hp os a with
   |some ⟨h⟩,some q=>some (.v (.sl (fT f)) (AG h t)::q)|_,_=>none)else none
  |_=>none
 |.dead::os,_::a=>Hb ρ hp os a|_,_=>none
def Sh.S9:Sh->List SV->SV×List SV
 |.h _,x::l=>(x,l)|.own id,l=>(.own id 0,l)|.ptr id a,l=>(.ptr id a,l)|.mpr id,l=>(.mpr id,l)|.fs id,l=>(.fs id 0,l)|.v7,l=>(.v7,l)|.Y',l=>(.Y',l)|.kn k n,l=>(.v (.i k) (Sf k n),l)|.hc e,.v (.sl d) c::l=>(match P7 d e with
  |some ⟨q⟩=>.cl e (Ob (by rw[q]:Ty.sl d=Ty.sl e) c)|none=>.undef,l)
 |.hr t,x::l=>(match Ea [] t x with
  |some y=>.rp t y 0|none=>.undef,l)
 |_,l=>(.undef,l)
def JA:List Sh->List SV->List SV×List SV
 |[],l=>([],l)|a::s,l=>((a.S9 l).1::(JA s (a.S9 l).2).1,(JA s (a.S9 l).2).2)
def Sh.yc:Sh->List SV->SV×List SV
 |.fn f a c,l=>(.fn f (JA a l).1 (JA c (JA a l).2).1,(JA c (JA a l).2).2)|a,l=>a.S9 l
def dw:List Sh->List SV->List SV×List SV
 |[],l=>([],l)|a::s,l=>((a.yc l).1::(dw s (a.yc l).2).1,(dw s (a.yc l).2).2)
def Sh.put:Sh->List SV->SV×List SV
 |.ag s,l=>(.ag (dw s l).1,(dw s l).2)|a,l=>a.yc l
def Wb:List Sh->List SV->List SV×List SV
 |[],l=>([],l)|a::s,l=>((a.put l).1::(Wb s (a.put l).2).1,(Wb s (a.put l).2).2)
def tJ:List (Nat×Sh)->List SV->List (Nat×SV)×List SV
 |[],l=>([],l)|(d,a)::s,l=>((d,(a.put l).1)::(tJ s (a.put l).2).1,(tJ s (a.put l).2).2)
def w8:List X3->List SV->List AO
 |[],_=>[]|.N' T s::os,l=>.N' T (dw s l).1::w8 os (dw s l).2|.H' e T::os,.v (.sl a) y::l=>(match P7 a e with
  |some ⟨h⟩=>.H' 0 e T (Ob (by rw[h]:Ty.sl a=Ty.sl e) y)|none=>.dead)::w8 os l
 |.H' _ _::os,l=>.dead::w8 os l|.mp kp K V::os,.v (.mp d c) y::l=>(match P7 (.mp d c) (.mp K V) with
  |some ⟨h⟩=>.mp (bif kp then 0 else 1) K V (Ob h y)|none=>.dead)::w8 os l
 |.mp _ _ _::os,l=>.dead::w8 os l|.it j kp K::os,.v (.sl d) y::l=>(match P7 d K with
  |some ⟨h⟩=>.it j (bif kp then 0 else 1) K none (Ob (by rw[h]:Ty.sl d=Ty.sl K) y)|none=>.dead)::w8 os l
 |.it _ _ _::os,l=>.dead::w8 os l|.is::os,.v .s t :: .v (.i .i64) p::l=>.is t (Int.toNat p)::w8 os l|.is::os,l=>.dead::w8 os l|.qu e T::os,.v (.sl a) y::l=>(match P7 a e with
  |some ⟨h⟩=>.qu 0 e T (Ob (by rw[h]:Ty.sl a=Ty.sl e) y)|none=>.dead)::w8 os l
 |.qu _ _::os,l=>.dead::w8 os l|.U4 T f::os,.v (.sl a) y::l=>(match P7 a (fT f) with
  |some ⟨h⟩=>.U4 0 T f (Ob (by rw[h]:Ty.sl a=Ty.sl (fT f)) y)|none=>.dead)::w8 os l
 |.U4 _ _::os,l=>.dead::w8 os l|.dead::os,l=>.dead::w8 os l
def FG:Nat->Nat->List (Nat×Nat)
 |_,0=>[]|k,n+1=>(k,k)::FG (k+1) n
def c7.Td(a:Nat)(s:c7)(σ:St):List Nat:=As σ.hp.length (cw σ.hp 0 s.hp (FG 0 a++s.sl.flatMap fun p=>p.2.V3 (z7 σ.sl p.1))) 0 s.hp
def c7.need(a:Nat)(s:c7)(σ:St):List Nat:=s.sl.flatMap (fun p=>p.2.need (z7 σ.sl p.1))++Vf σ.hp s.hp (s.Td a σ)
def ew(all:List X3):List X3->Bool
 |[]=>true|.it j kp _::os=>(match V5 all j with
  |some (.mp a _ _)=>(bif kp then a else !a)&&ew all os|_=>false)
 |_::os=>ew all os
def c7.Zc(s:c7)(ρ:List Nat)(σ:St):Option (b8 s.o8):=bif Wf s.hp ρ&&ew s.hp s.hp then(match Fo ρ σ s.sl,Hb ρ σ.hp s.hp ρ with
 |some p,some q=>JC [] s.o8 (p++q)|_,_=>none)else none
def zk:Nat->List AO->List X3->Bool
 |0,_,_=>true|n+1,.H' a _ _ _::l,.H' _ _::os=>aJ a 0&&zk n l os|n+1,.mp g _ _ _::l,.mp kp _ _::os=>((!kp)||aJ g 0)&&zk n l os|_+1,_::_,.U4 _ _::_=>false|_+1,_::_,.qu _ _::_=>false|_+1,.qu _ _ _ _::_,_::_=>false|n+1,_::l,_::os=>zk n l os|_,_,_=>true
def c7.get(a:Nat)(s:c7)(σ:St):Option (b8 s.o8):=bif cK a s.hp.length&&zk a σ.hp s.hp then s.Zc (s.Td a σ) (x5 σ (s.need a σ))else none
def c7.put(s:c7)(x:b8 s.o8):St:=⟨(tJ s.sl (rc s.o8 x)).1,w8 s.hp (tJ s.sl (rc s.o8 x)).2⟩
structure PC where
 ash:List Sh
 rts:List Ty
 p:b8 (ash.flatMap Sh.o8)->Option (b8 rts)
 /-- its result is a slice that has no room behind its end -/
 cl:Bool
def clS(b:Bool)(x:SV):SV:=bif b then(match x with
 |.v (.sl e) a=>.cl e a|x=>x)else x
def Se(c:PC)(y:b8 c.rts):SV:=clS c.cl (Kh c.rts y)
def DS:List (Option Nat×c7)->Type
 |[]=>Empty|[a]=>b8 a.2.o8|a::b::l=>b8 a.2.o8⊕DS (b::l)
structure SC where
 I:c7
 nr:Nat
 outs:List (Option Nat×c7)
 p:b8 I.o8->Option (DS outs)
structure CT where
 pc:List (Nat×PC)
 sc:List (Nat×SC)
 keep:Bool
 /-- the members of families, by their type -/
 fm:List (Nat×List x6)
def RP:List (Nat×List x6)->Nat->Option (List x6)
 |[],_=>none|(d,x)::m,t=>bif aJ d t then some x else RP m t
def Ds:List (Nat×PC)->Nat->Option PC
 |[],_=>none|(d,x)::m,t=>bif aJ d t then some x else Ds m t
def ze:List (Nat×SC)->Nat->List SC
 |[],_=>[]|(d,x)::m,t=>bif aJ d t then x::ze m t else ze m t
def o5:(t:Ty)->den t->den t->Bool
 |.i k,x,y=>decide (c6 k x=c6 k y)|.b,x,y=>@BEq.beq Bool _ x y|.s,x,y=>@BEq.beq Bs _ x y|.pr a c,x,y=>o5 a x.1 y.1&&o5 c x.2 y.2|.un,_,_=>true|_,_,_=>false
def Ho:(t:Ty)->den t->den t->Bool
 |.i k,x,y=>decide (c6 k x<c6 k y)|.b,x,y=>!(show Bool from x)&&y|.s,x,y=>j9 x y|.pr a c,x,y=>Ho a x.1 y.1||(o5 a x.1 y.1&&Ho c x.2 y.2)|_,_,_=>false
section
variable {α γ:Type}
def W0(eq:α->α->Bool):List (α×γ)->α->Option γ
 |[],_=>none|(a,v)::m,k=>bif eq a k then some v else W0 eq m k
def J'(eq:α->α->Bool):List (α×γ)->α->Bool
 |[],_=>false|(a,_)::m,k=>eq a k||J' eq m k
def r6(eq:α->α->Bool)(m:List (α×γ))(k:α)(z:γ):γ:=match W0 eq m k with
 |some v=>v|none=>z
def Z9(eq:α->α->Bool):List (α×γ)->α->γ->List (α×γ)
 |[],_,_=>[]|(a,v')::m,k,v=>bif eq a k then(k,v)::m else(a,v')::Z9 eq m k v
def ab(lt:α->α->Bool):List (α×γ)->α->γ->List (α×γ)
 |[],k,v=>[(k,v)]|(a,v')::m,k,v=>bif lt a k then(a,v')::ab lt m k v else(k,v)::(a,v')::m
def Y0(eq lt:α->α->Bool)(m:List (α×γ))(k:α)(v:γ):List (α×γ):=bif J' eq m k then Z9 eq m k v else ab lt m k v
def l5(eq:α->α->Bool):List (α×γ)->α->List (α×γ)
 |[],_=>[]|(a,v')::m,k=>bif eq a k then m else(a,v')::l5 eq m k
end
def Ud:Ty->Bool
 |.i _=>true|.s=>true|.pr .s .s=>true|_=>false
def Xf:SV->Bool
 |.fn _ _ _=>false|_=>true
def oa:SV->Bool
 |.ag _=>false|_=>true
def Ib:SV->Bool
 |.undef=>false|.eh=>false|.Bb _=>false|_=>true
def V3(o:Option SV)(k:SV->Option β):Option β:=match o with
 |some x=>k x|none=>none
def arith(b:BinOp)(a c:Int):Option Int:=match b with
 |.add=>some (a+c)|.sub=>some (a-c)|.mul=>some (a*c)|_=>none
def MC:IntKind->Bool
 |.u16=>true|_=>false
def uJ(b:BinOp)(a c:Int):Option Bool:=match b with
 |.eql=>some (a==c)|.neq=>some (a != c)|.lss=>some (decide (a<c))|.leq=>some (decide (a<=c))|.gtr=>some (decide (c<a))|.geq=>some (decide (c<=a))|_=>none
def SP(τ:TE)(T:TypeId)(a:BinOp)(t:Bool)(k:SV->Option β):Option β:=match j3 τ T with
 |some ⟨.pt _,_,_,_,_⟩=>match a with
  |.eql=>k (.v .b t)|.neq=>k (.v .b (!t))|_=>none
 |_=>none
def qU(τ:TE)(T:TypeId)(a:BinOp)(t:Bool)(k:SV->Option β):Option β:=match j3 τ T with
 |some ⟨.sl _,_,_,_,_⟩=>match a with
  |.eql=>k (.v .b t)|.neq=>k (.v .b (!t))|_=>none
 |_=>none
def FZ(τ:TE)(T:TypeId)(a:BinOp)(t:Bool)(k:SV->Option β):Option β:=match j3 τ T with
 |some ⟨.map _ _,_,_,_,_⟩=>match a with
  |.eql=>k (.v .b t)|.neq=>k (.v .b (!t))|_=>none
 |_=>none
def jU:List SV->List SV->Option Bool
 |[.v (.i q) a],[.v (.i b) c]=>match Zr b q with
  |some ⟨_⟩=>some (decide (c6 q a=c6 b c))|none=>none
 |_,_=>none
def vJ:List SV->List SV->Option Bool
 |[.v .b a],[.v .b c]=>some (@BEq.beq Bool _ a c)|_,_=>none
def wJ:List SV->List SV->Option Bool
 |[.v .s a],[.v .s c]=>some (@BEq.beq Bs _ a c)|_,_=>none
def TP(τ:TE)(q:TypeId->List SV->List SV->Option Bool):List (TypeId×Nat)->List SV->List SV->Option Bool
 |[],_,_=>some true|[(F,o)],l,c=>match j3 τ F with
  |some f=>q F (pc l o f.sz) (pc c o f.sz)|none=>none
 |(F,o)::fs,l,c=>match j3 τ F with
  |some f=>match q F (pc l o f.sz) (pc c o f.sz),TP τ q fs l c with
   |some a,some b=>some (a&&b)|_,_=>none
  |none=>none
def UP(τ:TE):Nat->TypeId->List SV->List SV->Option Bool
 |0,_,_,_=>none|n+1,T,l,a=>match j3 τ T with
  |some f=>bif aJ l.length f.sz&&aJ a.length f.sz then(match f.td with
   |.st fs=>TP τ (UP τ n) fs l a|.int _=>jU l a|.b=>vJ l a|.s=>wJ l a|_=>none)else none
  |none=>none
def fw(τ:TE)(T:TypeId)(a:BinOp)(l c:List SV)(k:SV->Option β):Option β:=match j3 τ T with
 |some f=>bif f.agg then(match UP τ 8 T l c with
  |some t=>match a with
   |.eql=>k (.v .b t)|.neq=>k (.v .b (!t))|_=>none
  |none=>none)else none
 |none=>none
def bin(τ:TE)(T:TypeId)(op:BinOp)(x y:SV)(k:SV->Option β):Option β:=match x,y with
 |.v (.i q) a,.v (.i d) c=>match op with
  |.shl=>bif MC q then none else aR (o6 (decide (0<=c6 d c))) fun _=>k (.v (.i q) (oN q (Mf q (c6 q a) (c6 d c))))
  |.shr=>bif MC q then none else aR (o6 (decide (0<=c6 d c))) fun _=>k (.v (.i q) (oN q (xc q (c6 q a) (c6 d c))))
  |op=>match Zr d q with
   |none=>none|some ⟨_h⟩=>match op with
    |.quo=>aR (o6 (c6 d c != 0)) fun _=>k (.v (.i q) (Sf q (Int.tdiv (c6 q a) (c6 d c))))
    |.rem=>bif MC q then none else aR (o6 (decide (0<c6 d c))) fun _=>k (.v (.i q) (oN q (Int.tmod (c6 q a) (c6 d c))))
    |op=>match arith op (c6 q a) (c6 d c) with
     |some r=>k (.v (.i q) (Sf q r))|none=>match uJ op (c6 q a) (c6 d c) with
      |some t=>k (.v .b t)|none=>none
 |.v .s a,.v .s c=>match op with
  |.add=>aR (X0 a c) fun r=>k (.v .s r)
  |.eql=>k (.v .b (@BEq.beq Bs _ a c))|.neq=>k (.v .b (@bne Bs _ a c))|.lss=>k (.v .b (j9 a c))|.leq=>k (.v .b (j9 a c || @BEq.beq Bs _ a c))|.gtr=>k (.v .b (!(j9 a c || @BEq.beq Bs _ a c)))|.geq=>k (.v .b (!(j9 a c)))|_=>none
 |.v .b a,.v .b c=>match j3 τ T with
  |some ⟨.b,_,_,_,_⟩=>match op with
   |.eql=>k (.v .b (@BEq.beq Bool _ a c))|.neq=>k (.v .b (@bne Bool _ a c))|_=>none
  |_=>none
 |.Y',.Y'=>qU τ T op true k|.nn _ _,.Y'=>qU τ T op false k|.z6,.z6=>FZ τ T op true k|.v7,.v7=>SP τ T op true k|.ptr _ _,.v7=>SP τ T op false k|.rp _ _ _,.v7=>SP τ T op false k|.ag l,.ag e=>fw τ T op l e k|_,_=>none
def un(c:UnOp)(x:SV)(k:SV->Option β):Option β:=match c,x with
 |.not,.v .b t=>k (.v .b (!t))|.neg,.v (.i q) a=>k (.v (.i q) (Sf q (0-c6 q a)))|_,_=>none
def elemAt(τ:TE)(T:TypeId):Option TI:=match j3 τ T with
 |some ⟨.sl E,_,_,_,_⟩=>j3 τ E|_=>none
def iw(τ:TE)(T:TypeId)(hp:List AO)(x:SV)(k:Int->Option β):Option β:=match j3 τ T with
 |some ⟨.s,_,_,_,_⟩=>match x with
  |.v .s l=>k (cZ l:Int)|_=>none
 |some ⟨.sl _,_,_,_,_⟩=>match x with
  |.v (.sl _) l=>k (cZ l:Int)|.cl _ l=>k (cZ l:Int)|.Y'=>k 0|.own id b=>match V5 hp id with
   |some (.H' a _ _ c)=>bif aJ b a then k (c.length:Int)else none
   |some (.qu a _ _ c)=>bif aJ b a then k (c.length:Int)else none
   |_=>none
  |.fs id b=>match V5 hp id with
   |some (.U4 a _ _ d)=>bif aJ b a then k (d.length:Int)else none
   |_=>none
  |_=>none
 |some ⟨.map _ _,_,_,_,_⟩=>match x with
  |.mpr id=>match V5 hp id with
   |some (.mp _ _ _ e)=>k (e.length:Int)|_=>none
  |_=>none
 |_=>none
def Te(f:List x6)(x:den (fT f)):List SV:=match w8 (f.map x6.up) (rc _ (IC f x)) with
 |.N' _ a::_=>a|_=>[]
def deref(hp:List AO)(p:SV)(sz:Nat)(k:List SV->Option β):Option β:=match p with
 |.ptr id a=>match V5 hp id with
  |some (.N' _ h)=>k (pc h a sz)|_=>none
 |.rp t x a=>bif cK (a+sz) (l0 t)then k (pc (cellsOf t x) a sz)else none
 |.ep id c i a=>match V5 hp id with
  |some (.H' b e _ d)=>bif aJ c b&&cK (a+sz) (l0 e)then aR (idx d i) fun x=>k (pc (cellsOf e x) a sz)else none
  |some (.qu b e _ d)=>bif aJ c b&&cK (a+sz) (l0 e)then aR (idx d i) fun x=>k (pc (cellsOf e x) a sz)else none
  |_=>none
 |.fe id c i=>match V5 hp id with
  |some (.U4 b _ _ g)=>bif aJ c b&&aJ sz 1 then aR (o6 (decide (0<=i)&&decide (i<(g.length:Int)))) fun _=>k [.fp id i 0]else none
  |_=>none
 |.fp id i a=>match V5 hp id with
  |some (.U4 _ _ f g)=>aR (idx g i) fun x=>bif cY 0 sz&&cK (a+sz) (Te f x).length&&(pc (Te f x) a sz).all xG then k (pc (Te f x) a sz)else none
  |_=>none
 |_=>none
def GG(hp:List AO)(p:SV)(n:Nat):Option SV:=match p with
 |.ptr id a=>match V5 hp id with
  |some (.N' _ _)=>some (.ptr id (a+n))|_=>none
 |.rp t x a=>some (.rp t x (a+n))|.ep id c i a=>match V5 hp id with
  |some (.H' b _ _ _)=>bif aJ c b then some (.ep id c i (a+n))else none
  |some (.qu b _ _ _)=>bif aJ c b then some (.ep id c i (a+n))else none
  |_=>none
 |.fp id i a=>match V5 hp id with
  |some (.U4 _ _ _ _)=>some (.fp id i (a+n))|_=>none
 |_=>none
def fieldAt(τ:TE)(T i:Nat):Option (Nat×TI):=match j3 τ T with
 |some ⟨.st fs,_,_,_,_⟩=>match V5 fs i with
  |some (F,o)=>match j3 τ F with
   |some f=>some (o,f)|none=>none
  |none=>none
 |_=>none
def Oh(τ:TE):List (TypeId×Nat)->Option (List (Nat×Nat))
 |[]=>some []|(F,o)::l=>match j3 τ F,Oh τ l with
  |some f,some r=>some ((o,f.sz)::r)|_,_=>none
def xJ(pl:List (Nat×Nat))(σ:St):List (Nat×Operand)->List SV->Option (List SV)
 |[],l=>some l|(i,x)::b,l=>match ev σ x,V5 pl i with
  |some a,some (o,z)=>bif aJ (ea a).length z&&cK (o+z) l.length&&Ib a then xJ pl σ b (Sd l o (ea a))else none
  |_,_=>none
def ql(t:Bool)(x y:SV)(k:SV->Option β):Option β:=match x,y with
 |.v a x,.v c y=>match P7 c a with
  |some ⟨h⟩=>k (.v a (bif t then x else Ob h y))|none=>none
 |x,y=>bif t then k x else k y
def NC(hp:List AO)(f:TI)(x:SV)(i:Int)(k:SV->Option β):Option β:=match x with
 |.v (.sl e) c=>bif aJ f.sz (l0 e)then aR (idx c i) fun x=>k (.rp e x 0)else none
 |.cl e c=>bif aJ f.sz (l0 e)then aR (idx c i) fun x=>k (.rp e x 0)else none
 |.own id b=>match V5 hp id with
  |some (.H' a e _ c)=>bif aJ b a&&aJ f.sz (l0 e)then aR (o6 (decide (0<=i)&&decide (i<(c.length:Int)))) fun _=>k (.ep id b i 0)else none
  |some (.qu a e _ c)=>bif aJ b a&&aJ f.sz (l0 e)then aR (o6 (decide (0<=i)&&decide (i<(c.length:Int)))) fun _=>k (.ep id b i 0)else none
  |_=>none
 |.fs id b=>match V5 hp id with
  |some (.U4 a _ _ d)=>bif aJ b a&&aJ f.sz 1 then aR (o6 (decide (0<=i)&&decide (i<(d.length:Int)))) fun _=>k (.fe id b i)else none
  |_=>none
 |_=>none
def VP:TD->Ty->Bool
 |.int _,.i _=>true|.s,.s=>true|_,_=>false
def OC(τ:TE)(F:TypeId):Bool:=match j3 τ F with
 |some ⟨.s,_,_,_,_⟩=>true|_=>false
def Es(τ:TE)(d:TD)(K:Ty):Bool:=match d,K with
 |.st [(F,0),(H,1)],.pr .s .s=>OC τ F&&OC τ H|d,K=>VP d K
def GZ(f:TI)(V:Ty):Bool:=bif f.agg then !(one V)else one V
def Yf(σ:St):Option Operand->Option (Option Int)
 |none=>some none|some x=>match ev σ x with
  |some (.v (.i q) a)=>some (some (c6 q a))|_=>none
def Fs{α:Type}(xs:List α):Option Int->Option Int->Option (List α)
 |some a,some b=>Qr xs a b|some a,none=>T4 xs a|none,some b=>Z6 xs b|none,none=>some xs
def rU:SV->Bool
 |.fn _ _ _=>false|.undef=>false|.eh=>false|.Bb _=>false|.ag l=>l.all Xf|_=>true
def pN(σ:St):List Operand->Option (List SV)
 |[]=>some []|x::l=>match ev σ x,pN σ l with
  |some a,some r=>some (a::r)|_,_=>none
def Xb:Operand->Bool
 |.const (.int _ 0)=>true|_=>false
def Gs:Nat->Nat->Int->(Nat->Option β)->Option β
 |0,_,_,_=>none|n+1,j,i,k=>bif decide (i=(j:Int))then k j else Gs n (j+1) i k
def rl(z:Nat):Nat->Nat->List (Nat×Nat)
 |0,_=>[]|n+1,j=>(j*z,z)::rl z n (j+1)
def Hs(τ:TE)(σ:St)(o:Op)(k:SV->Option β):Option β:=match o with
 |.slice T x F d none=>match Yf σ F,Yf σ d with
  |some a,some b=>match j3 τ T with
   |some ⟨.s,_,_,_,_⟩=>match ev σ x with
    |some (.v .s l)=>aR (Fs l a b) fun r=>k (.v .s r)
    |_=>none
   |some ⟨.sl E,_,_,_,_⟩=>match j3 τ E,ev σ x with
    |some f,some (.v (.sl e) j)=>bif aJ f.sz (l0 e)then aR (Fs j a b) fun r=>k (.v (.sl e) r)else none
    |some f,some (.cl e j)=>bif aJ f.sz (l0 e)then aR (Fs j a b) fun r=>k (.v (.sl e) r)else none
    |some f,some .Y'=>bif aJ f.sz (l0 f.ty)then aR (Fs ([]:List (den f.ty)) a b) fun r=>k (.v (.sl f.ty) r)else none
    |_,_=>none
   |_=>none
  |_,_=>none
 |.slice T x none (some d) (some mx)=>match elemAt τ T,ev σ d,ev σ mx,ev σ x with
  |some f,some (.v (.i q) b),some (.v (.i G) c),some (.v (.sl e) j)=>bif aJ f.sz (l0 e)then(bif Xb d&&Xb mx then k .ye else aR (o6 (decide (c6 q b=c6 G c))) fun _=>aR (Z6 j (c6 q b)) fun r=>k (.cl e r))else none|some f,some (.v (.i _) _),some (.v (.i _) _),some (.nn e _)=>bif aJ f.sz (l0 e)&&(Xb d&&Xb mx)then k .ye else none
  |some f,some (.v (.i _) _),some (.v (.i _) _),some (.own id u)=>match V5 σ.hp id with
   |some (.H' p e _ _)=>bif aJ u p&&aJ f.sz (l0 e)&&(Xb d&&Xb mx)then k .ye else none
   |_=>none
  |_,_,_,_=>none
 |.convert T D x=>match j3 τ T,j3 τ D with
  |some ⟨.sl E,_,_,_,_⟩,some ⟨.s,_,_,_,_⟩=>match j3 τ E with
   |some ⟨.int .u8,_,_,_,_⟩=>V3 (ev σ x) fun x=>match Tf σ.hp (.sl (.i .u8)) x with
    |some l=>k (.v .s l)|none=>none
   |_=>none
  |_,_=>none
 |.lookup T m x ok=>match j3 τ T with
  |some ⟨.map H I,_,_,_,_⟩=>match j3 τ H,j3 τ I,ev σ m,ev σ x with
   |some J,some f,some (.mpr id),some x=>match V5 σ.hp id with
    |some (.mp _ K V t)=>match Ea [] K x,Uf [] V f.z with
     |some key,some z=>bif Es τ J.td K&&GZ f V then(bif ok then k (.Bb [W6 V (r6 (o5 K) t key z),.v .b (J' (o5 K) t key)])else k (W6 V (r6 (o5 K) t key z)))else none|_,_=>none
    |_=>none
   |_,_,_,_=>none
  |_=>none
 |.makeFunc (.func f) a c=>match pN σ a.toList,pN σ c.toList with
  |some a,some c=>bif a.all rU&&c.all rU then k (.fn f a c)else none
  |_,_=>none
 |.call ⟨.builtin .max,⟨[x,y]⟩,_⟩=>match ev σ x,ev σ y with
  |some (.v (.i .i64) a),some (.v (.i .i64) b)=>k (.v (.i .i64) (bif decide (c6 .i64 a<=c6 .i64 b)then b else a))|_,_=>none
 |.call ⟨.builtin .min,⟨[x,y]⟩,_⟩=>match ev σ x,ev σ y with
  |some (.v (.i .i64) a),some (.v (.i .i64) b)=>k (.v (.i .i64) (bif decide (c6 .i64 a<=c6 .i64 b)then a else b))|_,_=>none
 |.entry x=>match ev σ x with
  |some (.ptr i 0)=>match V5 σ.hp i with
   |some (.it A g K (some c) _)=>match V5 σ.hp A with
    |some (.mp M C V t)=>match P7 K C with
     |some ⟨h⟩=>bif aJ g M then aR (W0 (o5 C) t (Ob h c)) fun v=>k (.Bb [W6 C (Ob h c),W6 V v])else none
     |none=>none
    |_=>none
   |_=>none
  |_=>none
 |_=>none
def jw(τ:TE)(σ:St)(T:TypeId)(x i:Operand)(k:SV->Option β):Option β:=match j3 τ T with
 |some ⟨.ar N E,_,_,_,_⟩=>match j3 τ E with
  |some f=>V3 (ev σ x) fun x=>V3 (ev σ i) fun i=>match i with
   |.v (.i q) i=>Gs N 0 (c6 q i) fun j=>V3 (GG σ.hp x (j*f.sz)) k
   |_=>none
  |none=>none
 |_=>none
def Ph(τ:TE)(σ:St)(o:Op)(k:SV->Option β):Option β:=match o with
 |.move x=>V3 (ev σ x) k|.assign x=>V3 (ev σ x) k|.pick c a b=>match ev σ c with
  |some (.v .b t)=>V3 (ev σ a) fun x=>V3 (ev σ b) fun y=>ql t x y k
  |_=>none
 |.binOp d T x (.const .nilIface) _=>match j3 τ T,ev σ x with
  |some ⟨.sJ,_,_,_,_⟩,some (.v .er a)=>match d with
   |.eql=>k (.v .b (!(show Bool from a)))|.neq=>k (.v .b a)|_=>none
  |_,_=>none
 |.binOp d T x y _=>V3 (ev σ x) fun x=>V3 (ev σ y) fun y=>bin τ T d x y k
 |.unOp d _ x=>V3 (ev σ x) fun x=>un d x k
 |.convert T D x=>match ev σ x,j3 τ T,j3 τ D with
  |some (.v (.i q) a),some _,some ⟨.int e,_,_,_,_⟩=>k (.v (.i e) (Sf e (c6 q a)))|_,_,_=>Hs τ σ (.convert T D x) k
 |.call ⟨.builtin .len,⟨[x]⟩,⟨[T]⟩⟩=>V3 (ev σ x) fun x=>iw τ T σ.hp x fun n=>k (.v (.i .i64) n)
 |.load T a=>match j3 τ T with
  |some f=>V3 (ev σ a) fun p=>deref σ.hp p f.sz fun l=>V3 (Vb f l) k
  |none=>none
 |.field T x i=>match fieldAt τ T i with
  |some (o,f)=>V3 (ev σ x) fun x=>match x with
   |.ag l=>V3 (Vb f (pc l o f.sz)) k|_=>none
  |none=>none
 |.fieldAddr T x i=>match fieldAt τ T i with
  |some (o,f)=>bif cY 0 f.sz then V3 (ev σ x) fun x=>V3 (GG σ.hp x o) k else none
  |none=>none
 |.indexAddr T x i=>match elemAt τ T with
  |some f=>V3 (ev σ x) fun x=>V3 (ev σ i) fun i=>match i with
   |.v (.i q) i=>NC σ.hp f x (c6 q i) k|_=>none
  |none=>jw τ σ T x i k
 |.index T x i=>match j3 τ T with
  |some ⟨.s,_,_,_,_⟩=>V3 (ev σ x) fun x=>V3 (ev σ i) fun i=>match x,i with
   |.v .s l,.v (.i q) i=>aR (idx l (c6 q i)) fun c=>k (.v (.i .u8) c)
   |_,_=>none
  |some ⟨.ar N E,_,_,_,_⟩=>match j3 τ E with
   |some f=>V3 (ev σ x) fun x=>V3 (ev σ i) fun i=>match x,i with
    |.ag l,.v (.i q) i=>Gs N 0 (c6 q i) fun j=>V3 (Vb f (pc l (j*f.sz) f.sz)) k
    |_,_=>none
   |none=>none
  |_=>none
 |.extract x i=>V3 (ev σ x) fun x=>match x with
  |.Bb l=>V3 (V5 l i) k|_=>none
 |.build T g=>match j3 τ T with
  |some ⟨.st fs,_,z,_,_⟩=>match Oh τ fs with
   |some pl=>match xJ pl σ g.toList z with
    |some l=>k (.ag l)|none=>none
   |none=>none
  |some ⟨.ar N E,_,z,_,_⟩=>match j3 τ E with
   |some f=>match xJ (rl f.sz N 0) σ g.toList z with
    |some l=>k (.ag l)|none=>none
   |none=>none
  |_=>none
 |.nilCheck x=>V3 (ev σ x) fun x=>V3 (GG σ.hp x 0) k
 |o=>Hs τ σ o k
def HZ(τ:TE)(σ:St)(o:Op)(k:SV->Option β):Option β:=match o with
 |.move x=>Ph τ σ (.move x) k|.assign x=>Ph τ σ (.assign x) k|.pick c a b=>Ph τ σ (.pick c a b) k|.binOp d T x y f=>Ph τ σ (.binOp d T x y f) k|.unOp d T x=>Ph τ σ (.unOp d T x) k|.convert T D x=>match ev σ x,j3 τ T,j3 τ D with
  |some (.v (.i q) a),some _,some ⟨.int e,_,_,_,_⟩=>k (.v (.i e) (Sf e (c6 q a)))|_,_,_=>none
 |.field T x i=>Ph τ σ (.field T x i) k|.extract x i=>Ph τ σ (.extract x i) k|_=>none
def Yb(e:TI):Bool:=cY 0 e.sz&&cK e.nb 2048&&(e.agg||aJ e.sz 1)
def kw(σ:St)(x:Operand)(ash:List Operand):Option (Nat×List SV):=match ev σ x,pN σ ash with
 |some (.fn f a c),some b=>some (f,a++b++c)|_,_=>none
def Q5:Nat->List SV->List (Nat×SV)
 |_,[]=>[]|i,x::l=>(i,x)::Q5 (i+1) l
def Ue(c:PC)(a:List AO)(xs:List SV):Option (b8 (c.ash.flatMap Sh.o8)):=match LC [] [] a c.ash xs with
 |some p=>JC [] _ p|none=>none
def Zf(os:List X3)(ρ:List Nat)(a k:Nat):Nat:=match V5 os k,V5 ρ k with
 |some o,some id=>bif live o then id else a
 |_,_=>a+1+(k-os.length)
def aa(i:Nat):List X3->List Nat->Nat->Option Nat
 |o::os,id::a,k=>bif live o&&aJ id i then some k else aa i os a (k+1)
 |_,_,_=>none
def Qa{α γ:Type}(g:Nat->α->γ):Nat->List α->List γ
 |_,[]=>[]|i,x::l=>g i x::Qa g (i+1) l
def mw(hp:List AO)(id:Nat):Nat:=match V5 hp id with
 |some (.H' v _ _ _)=>v|_=>0
def tl(f v:Nat->Nat):SV->SV
 |.ptr id a=>.ptr (f id) a|.own id _=>.own (f id) (v id)|.ep id _ i a=>.ep (f id) (v id) i a|.mpr id=>.mpr (f id)|.fs id r=>.fs (f id) r|.fe id r i=>.fe (f id) r i|.fp id i a=>.fp (f id) i a|x=>x
def Is(f v:Nat->Nat):SV->SV
 |.ag l=>.ag (l.map (tl f v))|x=>tl f v x
def bd(f v:Nat->Nat):SV->SV
 |.fn g a c=>.fn g (a.map (Is f v)) (c.map (Is f v))|x=>tl f v x
def nw(f v:Nat->Nat):SV->SV
 |.ag l=>.ag (l.map (bd f v))|x=>bd f v x
def ul(f v:Nat->Nat):AO->AO
 |.N' T a=>.N' T (a.map (bd f v))|o=>o
def vl(f v:Nat->Nat):AO->Option AO->AO
 |_,some (.N' T a)=>.N' T (a.map (bd f v))|.H' r _ _ _,some (.H' _ e T b)=>.H' r e T b|.mp c _ _ _,some (.mp g K V d)=>.mp (g+c) K V d|_,_=>.dead
def ow(f v:Nat->Nat)(os:List X3)(ρ:List Nat)(a hp:List AO):List AO:=Qa (fun i o=>match aa i os ρ 0 with
 |some k=>vl f v o (V5 a k)|none=>o) 0 hp
def Qh(sl:List (Nat×SV)):Nat->Nat->List SV
 |_,0=>[]|i,n+1=>z7 sl i::Qh sl (i+1) n
def yJ:List SV->SV
 |[x]=>x|l=>.Bb l
def pw:AO->Bool
 |.it _ _ _ _ _=>false|.is _ _=>false|.qu _ _ _ _=>false|.U4 _ _ _ _=>false|.wa _ _ _ _ _=>false|_=>true
def sU:X3->Bool
 |.qu _ _=>false|_=>true
def qw(os:List X3)(ρ:List Nat)(nr:Nat)(σ a:St)(k:SV->St->Option β):Option β:=
 bif(Qh a.sl 0 nr).all Ib&&(a.hp.all pw&&os.all sU)then k (yJ ((Qh a.sl 0 nr).map (nw (Zf os ρ σ.hp.length) fun id=>mw σ.hp (Zf os ρ σ.hp.length id))))
  ⟨σ.sl,ow (Zf os ρ σ.hp.length) (fun id=>mw σ.hp (Zf os ρ σ.hp.length id)) os ρ a.hp σ.hp++(.dead::(a.hp.drop os.length).map (ul (Zf os ρ σ.hp.length) fun id=>mw σ.hp (Zf os ρ σ.hp.length id)))⟩else none
inductive Ex where
 |normal|exit (id:Nat)|ret
def cd:Option Nat->Ex
 |none=>.normal|some n=>bif aJ n 1000000 then .ret else .exit n
def St.X0(σ:St)(l:List (Nat×SV)):St:=⟨σ.sl++l,σ.hp⟩
def out(kp:List (Nat×SV)):(outs:List (Option Nat×c7))->DS outs->(Ex->St->Option β)->Option β
 |[],_,_=>none|[a],x,k=>k (cd a.1) ((a.2.put x).X0 kp)|a::b::l,x,k=>match x with
  |.inl x=>k (cd a.1) ((a.2.put x).X0 kp)|.inr x=>out kp (b::l) x k
def Ou(σ:St)(x:Operand)(ash:List Operand)(xs:List SV)(k:SV->St->Option β):List SC->Option β
 |[]=>none|c::l=>bif aJ xs.length c.I.sl.length then(match kw (x5 σ (c.I.need 0 ⟨Q5 0 xs,σ.hp⟩)) x ash with
  |some (_,b)=>match c.I.Zc (c.I.Td 0 ⟨Q5 0 b,(x5 σ (c.I.need 0 ⟨Q5 0 xs,σ.hp⟩)).hp⟩) ⟨Q5 0 b,(x5 σ (c.I.need 0 ⟨Q5 0 xs,σ.hp⟩)).hp⟩ with
   |some a=>aR (c.p a) fun d=>out [] c.outs d fun _ e=>qw c.I.hp (c.I.Td 0 ⟨Q5 0 b,(x5 σ (c.I.need 0 ⟨Q5 0 xs,σ.hp⟩)).hp⟩) c.nr (x5 σ (c.I.need 0 ⟨Q5 0 xs,σ.hp⟩)) e k
   |none=>Ou σ x ash xs k l
  |none=>none)else Ou σ x ash xs k l
def wl(Γ:CT)(σ:St)(x:Operand)(ash:List Operand)(k:SV->St->Option β):Option β:=match kw σ x ash with
 |some (f,b)=>match Ds Γ.pc f with
  |some c=>bif c.rts.any bw then(match kw (x5 σ (b.flatMap owns)) x ash with
    |some (_,d)=>match Ue c [] d with
     |some a=>aR (c.p a) fun y=>k (Se c y) (x5 σ (b.flatMap owns))
     |none=>Ou σ x ash b k (ze Γ.sc f)
    |none=>none)
   else(match Ue c σ.hp b with
    |some a=>aR (c.p a) fun y=>k (Se c y) σ
    |none=>Ou σ x ash b k (ze Γ.sc f))
  |none=>Ou σ x ash b k (ze Γ.sc f)
 |none=>none
def Js(σ:St)(e:Ty):Nat->List (Nat×Operand)->Option (List (den e))
 |_,[]=>some []|i,(j,x)::l=>bif aJ i j then(match ev σ x with
  |some x=>match Ea [] e x,Js σ e (i+1) l with
   |some y,some r=>some (y::r)|_,_=>none
  |none=>none)else none
def Ad(σ:St):List Operand->List Nat
 |[]=>[]|x::l=>match ev σ x with
  |some x=>owns x++Ad σ l|none=>Ad σ l
def sw(τ:TE)(hp:List AO)(T T':TypeId)(e:Ty)(y:SV):Option (List (den e)):=bif aJ T T' then Tf hp (.sl e) y else match j3 τ T' with
 |some ⟨.s,_,_,_,_⟩=>match y with
  |.v .s l=>match P7 (.i .u8) e with
   |some ⟨h⟩=>some (Ob (by rw[h]:Ty.sl (.i .u8)=Ty.sl e) (show Bs from l))|none=>none
  |_=>none
 |_=>none
def xl(τ:TE)(Γ:CT)(σ:St)(o:Op)(k:SV->St->Option β):Option β:=match o with
 |.call ⟨.builtin .append,⟨[x,y]⟩,⟨[T,C]⟩⟩=>match j3 τ T,ev σ x,ev σ y with
  |some ⟨.sl E,_,_,_,_⟩,some x,some y=>match j3 τ E with
   |some f=>bif Yb f then(match x with
    |.own id d=>match V5 σ.hp id with
     |some (.H' h e F A)=>bif aJ d h&&aJ E F&&aJ f.sz (l0 e)then(match sw τ σ.hp T C e y with
      |some q=>aR (X0 A q) fun r=>k (.own id (d+1)) ⟨σ.sl,O6 σ.hp id (.H' (d+1) e E r)⟩
      |none=>none)else none
     |some (.qu h e F A)=>bif aJ d h&&aJ E F&&aJ f.sz (l0 e)&&aJ T C then(match Tf σ.hp (.sl e) y with
      |some q=>aR (X0 A q) fun r=>k (.own id (d+1)) ⟨σ.sl,O6 σ.hp id (.qu (d+1) e E r)⟩
      |none=>none)else none
     |_=>none
    |.Y'=>bif aJ f.sz (l0 f.ty)then(match sw τ σ.hp T C f.ty y with
      |some q=>aR (X0 [] q) fun r=>k (.own σ.hp.length 0) ⟨σ.sl,σ.hp++[.H' 0 f.ty E r]⟩
      |none=>none)else none
    |.ye=>bif aJ f.sz (l0 f.ty)&&aJ T C then(match Tf σ.hp (.sl f.ty) y with
      |some q=>aR (X0 [] q) fun r=>k (.own σ.hp.length 0) ⟨σ.sl,σ.hp++[.H' 0 f.ty E r]⟩
      |none=>none)else none
    |_=>none)else none
   |none=>none
  |_,_,_=>none
 |.buildSlice T n z=>match j3 τ T with
  |some ⟨.sl E,_,_,_,_⟩=>match j3 τ E with
   |some f=>bif Yb f&&aJ f.sz (l0 f.ty)&&aJ n z.toList.length&&cK (n*f.sz) 65536 then(match Js (x5 σ (Ad σ (z.toList.map (·.2)))) f.ty 0 z.toList with
    |some r=>k (.own (x5 σ (Ad σ (z.toList.map (·.2)))).hp.length 0) ⟨(x5 σ (Ad σ (z.toList.map (·.2)))).sl,(x5 σ (Ad σ (z.toList.map (·.2)))).hp++[.H' 0 f.ty E r]⟩|none=>none)else none
   |none=>none
  |_=>none
 |.slice T x G H none=>match ev σ x with
  |some (.own id d)=>match V5 σ.hp id with
   |some (.qu h e E A)=>match Yf σ G,H,elemAt τ T with
    |some (some a),none,some f=>bif aJ d h&&aJ f.sz (l0 e)then aR (T4 A a) fun r=>k (.own id (d+1)) ⟨σ.sl,O6 σ.hp id (.qu (d+1) e E r)⟩else none
    |_,_,_=>none
   |_=>Hs τ (Lh σ id) (.slice T x G H none) fun x=>k x (Lh σ id)
  |_=>Hs τ σ (.slice T x G H none) fun x=>k x σ
 |.makeMap T none=>match j3 τ T with
  |some ⟨.map K V,_,_,_,_⟩=>match j3 τ K,j3 τ V with
   |some a,some c=>k (.mpr σ.hp.length) ⟨σ.sl,σ.hp++[.mp 0 a.ty c.ty []]⟩|_,_=>none
  |_=>none
 |.next x true=>match ev σ x with
  |some (.ptr i 0)=>match V5 σ.hp i with
   |some (.is l p)=>bif decide (p<l.length)then k (.Bb [.v .b true,.v (.i .i64) (p:Int),.v (.i .i32) (Lu l p)]) ⟨σ.sl,O6 σ.hp i (.is l (Vr l p))⟩else k (.Bb [.v .b false]) ⟨σ.sl,O6 σ.hp i (.is l (Vr l p))⟩
   |_=>none
  |_=>none
 |.range T x=>match j3 τ T,ev σ x with
  |some ⟨.s,_,_,_,_⟩,some (.v .s l)=>k (.ptr σ.hp.length 0) ⟨σ.sl,σ.hp++[.is l 0]⟩|some ⟨.map t _,_,_,_,_⟩,some (.mpr id)=>match j3 τ t,V5 σ.hp id with
   |some u,some (.mp g K _ j)=>bif Es τ u.td K then k (.ptr σ.hp.length 0) ⟨σ.sl,σ.hp++[.it id g K none (j.map Prod.fst)]⟩else none
   |_,_=>none
  |_,_=>none
 |.mapUpdate T m x y=>match j3 τ T with
  |some ⟨.map t _,_,_,_,_⟩=>match j3 τ t,ev σ m,ev σ x,ev (x5 σ (Ad σ [y])) y with
   |some u,some (.mpr id),some x,some I=>match V5 (x5 σ (Ad σ [y])).hp id with
    |some (.mp g K V j)=>match Ea [] K x,Ea [] V I with
     |some key,some v=>bif Es τ u.td K then(bif Γ.keep then aR (o6 (J' (o5 K) j key)) fun _=>k .undef ⟨(x5 σ (Ad σ [y])).sl,O6 (x5 σ (Ad σ [y])).hp id (.mp g K V (Z9 (o5 K) j key v))⟩
      else k .undef ⟨(x5 σ (Ad σ [y])).sl,O6 (x5 σ (Ad σ [y])).hp id (.mp (g+1) K V (Y0 (o5 K) (Ho K) j key v))⟩)else none
     |_,_=>none
    |_=>none
   |_,_,_,_=>none
  |_=>none
 |.insert T m x y=>match j3 τ T with
  |some ⟨.map t _,_,_,_,_⟩=>match j3 τ t,ev σ m,ev σ x,ev (x5 σ (Ad σ [y])) y with
   |some u,some (.mpr id),some x,some I=>match V5 (x5 σ (Ad σ [y])).hp id with
    |some (.mp g K V j)=>match Ea [] K x,Ea [] V I with
     |some key,some v=>bif Es τ u.td K then(bif Γ.keep then aR (o6 (J' (o5 K) j key)) fun _=>k .undef ⟨(x5 σ (Ad σ [y])).sl,O6 (x5 σ (Ad σ [y])).hp id (.mp g K V (Z9 (o5 K) j key v))⟩
      else k .undef ⟨(x5 σ (Ad σ [y])).sl,O6 (x5 σ (Ad σ [y])).hp id (.mp (g+1) K V (Y0 (o5 K) (Ho K) j key v))⟩)else none
     |_,_=>none
    |_=>none
   |_,_,_,_=>none
  |_=>none
 |.call ⟨.builtin .delete,⟨[m,x]⟩,⟨[T,_]⟩⟩=>match j3 τ T with
  |some ⟨.map t _,_,_,_,_⟩=>match j3 τ t,ev σ m,ev σ x with
   |some u,some (.mpr id),some x=>match V5 σ.hp id with
    |some (.mp g K V j)=>match Ea [] K x with
     |some key=>bif Es τ u.td K then k (.Bb []) ⟨σ.sl,O6 σ.hp id (.mp g K V (l5 (o5 K) j key))⟩else none
     |none=>none
    |_=>none
   |_,_,_=>none
  |_=>none
 |.convert T D x=>match j3 τ T,j3 τ D with
  |some ⟨.s,_,_,_,_⟩,some ⟨.sl E,_,_,_,_⟩=>match j3 τ E,ev σ x with
   |some ⟨.int .u8,_,_,_,_⟩,some (.v .s l)=>bif aJ E so then k (.own σ.hp.length 0) ⟨σ.sl,σ.hp++[.H' 0 (.i .u8) E l]⟩else none
   |_,_=>none
  |_,_=>Ph τ σ (.convert T D x) fun x=>k x σ
 |o=>Ph τ σ o fun x=>k x σ
def yl(τ:TE)(Γ:CT)(σ:St)(o:Op)(_T:TypeId)(k:SV->St->Option β):Option β:=match o with
 |.call ⟨.value x,d,_⟩=>wl Γ σ x d.toList k|.makeSlice T n c=>match j3 τ T,ev σ n,ev σ c with
  |some ⟨.sl E,_,_,_,_⟩,some (.v (.i q) n),some (.v (.i g) c)=>match j3 τ E with
   |some e=>match Uf [] e.ty e.z with
    |some z=>bif Yb e then aR (o6 (decide (c6 q n<=c6 g c)&&decide (c6 g c<=(Sk:Int)))) fun _=>aR (ZB (c6 q n) z) fun j=>k (.own σ.hp.length 0) ⟨σ.sl,σ.hp++[.H' 0 e.ty E j]⟩else none
    |none=>none
   |none=>none
  |_,_,_=>none
 |.store T a x=>match j3 τ T,ev σ a,ev σ x with
  |some f,some (.ptr id b),some x=>match V5 σ.hp id with
   |some (.N' B h)=>bif aJ (ea x).length f.sz&&cK (b+f.sz) h.length&&Ib x then k .undef ⟨σ.sl,O6 σ.hp id (.N' B (Sd h b (ea x)))⟩else none
   |_=>none
  |_,_,_=>none
 |.alloc T=>match j3 τ T with
  |some f=>bif f.agg||aJ f.sz 1 then k (.ptr σ.hp.length 0) ⟨σ.sl,σ.hp++[.N' T f.z]⟩else none
  |none=>none
 |.box T x=>match j3 τ T,ev σ x with
  |some f,some x=>bif aJ (ea x).length f.sz&&Ib x then k (.ptr σ.hp.length 0) ⟨σ.sl,σ.hp++[.N' T (ea x)]⟩else none
  |_,_=>none
 |o=>xl τ Γ σ o k
def j0:List Nat->Nat->Bool
 |[],_=>false|x::l,t=>aJ x t||j0 l t
def Io(W:List Nat):Nat->List AO->List AO
 |_,[]=>[]|i,o::l=>(bif j0 W i then .dead else o)::Io W (i+1) l
def qN(f:List x6)(x:b8 (sF f).o8):den (fT f):=pU (f.flatMap x6.o8) (cast (by rw[aw]) x)
def je:Nat->Nat->List Nat
 |_,0=>[]|b,n+1=>b::je (b+1) n
def tw:List x6->Bool
 |.N' _ _::_=>true|_=>false
def tU(σ:St)(t:Nat)(k:St->Option β):Option β:=match z7 σ.sl t with
 |.fp id i 0=>match V5 σ.hp id with
  |some (.U4 v T f a)=>bif tw f then aR (idx a i) fun x=>k ⟨(t,.ptr σ.hp.length 0)::σ.sl,O6 σ.hp id (.wa v T f a i)++(w8 (f.map x6.up) (rc _ (IC f x))).map (ul (fun j=>σ.hp.length+j) fun _=>0)⟩else none
  |_=>none
 |_=>none
def XP(σ:St)(t id:Nat)(i0:Int)(a:Nat)(k:St->Option β):Option β:=match V5 σ.hp id with
 |some (.wa v T f b i)=>bif tw f then(match (sF f).Zc (je a f.length) ⟨[(0,.ptr a 0)],σ.hp⟩ with
  |some x=>aR (Da b i (qN f x)) fun r=>k ⟨(t,.fp id i0 0)::σ.sl,Io (je a f.length) 0 (O6 σ.hp id (.U4 v T f r))⟩
  |none=>none)else none
 |_=>none
def uw(σ:St)(id a:Nat):List Nat:=match V5 σ.hp id with
 |some (.wa _ _ f _ _)=>Vf σ.hp (f.map x6.up) (je a f.length)|_=>[]
def uU(σ:St)(t id:Nat)(i0:Int)(a:Nat)(k:St->Option β):Option β:=XP (x5 σ (uw σ id a)) t id i0 a k
def Pd(τ:TE)(Γ:CT)(o:Op)(T:TypeId):List Nat->St->(SV->St->Option β)->Option β
 |[],σ,k=>yl τ Γ σ o T k|t::c,σ,k=>match z7 σ.sl t with
  |.fp id i _=>tU σ t fun a=>Pd τ Γ o T c a fun x b=>uU b t id i σ.hp.length (k x)
  |_=>none
def vU(σ:St):List Operand->List Nat
 |.tmp t::l=>(match z7 σ.sl t with
  |.fp _ _ _=>[t]|_=>[])++vU σ l
 |_::l=>vU σ l|[]=>[]
def Jo(E:TypeId)(f:List x6)(i:Nat)(σ:St)(k:SV->St->Option β):Option β:=match (sF f).Zc ((sF f).Td 0 ⟨[(0,.ptr i 0)],σ.hp⟩) ⟨[(0,.ptr i 0)],σ.hp⟩ with
 |some x=>k (.fs σ.hp.length 0) ⟨σ.sl,Io ((sF f).Td 0 ⟨[(0,.ptr i 0)],σ.hp⟩) 0 σ.hp++[.U4 0 E f [qN f x]]⟩|none=>none
def Al(E:TypeId)(f:List x6)(i:Nat)(σ:St)(k:SV->St->Option β):Option β:=Jo E f i (x5 σ ((sF f).need 0 ⟨[(0,.ptr i 0)],σ.hp⟩)) k
def Bl(E:TypeId)(id a b c:Nat)(σ:St)(k:SV->St->Option β):Option β:=match V5 σ.hp id,V5 σ.hp b with
 |some (.U4 v T f e),some (.U4 g T2 f2 d)=>bif !(aJ id b)&&(aJ a v&&aJ c g)&&(aJ E T&&aJ T2 T)then(match jl f2 f with
  |some ⟨h⟩=>aR (Go.Proofs.YtopanhneegpgcaaGreatDoor.X0 e (AG h d)) fun r=>k (.fs id (a+1)) ⟨σ.sl,O6 (O6 σ.hp b .dead) id (.U4 (a+1) T f r)⟩
  |none=>none)else none
 |_,_=>none
def AJ(τ:TE)(Γ:CT)(σ:St)(o:Op)(T:TypeId)(k:SV->St->Option β):Option β:=match o with
 |.call ⟨.builtin .append,⟨[x,y]⟩,⟨[a,T2]⟩⟩=>match j3 τ a,ev σ x,ev σ y with
  |some ⟨.sl E,_,_,_,_⟩,some (.fs id d),some (.fs e b)=>match j3 τ E with
   |some fe=>bif Yb fe&&aJ fe.sz 1&&aJ a T2 then Bl E id d e b σ k else none
   |none=>none
  |_,_,_=>yl τ Γ σ (.call ⟨.builtin .append,⟨[x,y]⟩,⟨[a,T2]⟩⟩) T k
 |.buildSlice a n ⟨[(0,x)]⟩=>match j3 τ a,ev σ x with
  |some ⟨.sl E,_,_,_,_⟩,some (.ptr i 0)=>match RP Γ.fm E,j3 τ E with
   |some f,some fe=>bif Yb fe&&aJ fe.sz 1&&aJ n 1 then Al E f i σ k else none
   |_,_=>none
  |_,_=>yl τ Γ σ (.buildSlice a n ⟨[(0,x)]⟩) T k
 |.call ⟨.value x,c,g⟩=>Pd τ Γ (.call ⟨.value x,c,g⟩) T (vU σ c.toList) σ k|o=>yl τ Γ σ o T k
inductive Mk where
 |sl (d:Nat) (e:Ty) (T:TypeId)
 |cell (d i:Nat) (e:Ty) (T:TypeId)
 /-- an own slice, not empty, whose first ns may go -/
 |qu (d:Nat)
 /-- an own slice that is only read from here on -/
 |fz (d:Nat)
inductive Hint where
 |loop (mk:List Mk) (s:c7) (kp:List Nat) (outs:List (Option Nat×c7))
 |join (mk:List Mk) (kp:List Nat) (outs:List (Option Nat×c7))
 /-- A range over a map, in any order. -/
 |HG (mk:List Mk) (s:c7) (kp:List Nat) (outs:List (Option Nat×c7))
 /-- A region whose order is open: the first nh operations are its head; those of them that are not waited for may run beside the next p, which write into the objects W alone. -/
 |reg (nh:Nat) (W:List Nat) (p:Nat)
 /-- Such a region, whose Wc look at no memory. -/
 |regn (nh:Nat)
 /-- Likewise, and its head's last operation lays a new object. -/
 |rega (nh:Nat)
 /-- A hint for where a slot holds a value of some kind. -/
 |whn (d q:Nat) (h:Hint)
 /-- The region's operations in another order. -/
 |prm (ix:List Nat)
 /-- The region's operations by a schedule: with what looks, the objects that it does not look at; with what changes memory, the objects that it changes. -/
 |x7 (s:List (SK×Nat×List Nat))
def j7(a:Nat):Nat->List (SK×Nat×List Nat)
 |0=>[]|n+1=>(.pu,a,[])::j7 (a+1) n
abbrev HT:=List (Nat×Hint)
def YP:HT->Nat->Option Hint
 |[],_=>none|(d,x)::m,t=>bif aJ d t then some x else YP m t
def ZP:SV->Nat
 |.v7=>1|.ptr _ _=>2|.Y'=>3|.own _ _=>4|.v _ _=>5|.ag _=>6|_=>0
def htR(σ:St):Hint->Option Hint
 |.whn s q h=>bif aJ (ZP (z7 σ.sl s)) q then htR σ h else none
 |x=>some x
def jQ:HT->St->Nat->Option Hint
 |[],_,_=>none|(d,x)::m,σ,t=>bif aJ d t then(match htR σ x with
  |some h=>some h|none=>jQ m σ t)else jQ m σ t
end
def QC:Option Nat->Ex->Bool
 |none,.normal=>true|some n,.exit i=>aJ n i && !(aJ n 1000000)|some n,.ret=>aJ n 1000000|_,_=>false
def ya{α γ:Type}(f:α->γ):Option α->Option γ
 |some x=>some (f x)|none=>none
def ke:List Oper->List Nat
 |[]=>[]|o::l=>match o.dst with
  |some d=>d::ke l|none=>ke l
def z8:Code->List Nat
 |.region _ c _=>ke c.toList|.seq a b=>z8 a++z8 b|.cond _ a b=>z8 a++z8 b|.block _ b=>z8 b|.loop b=>z8 b|_=>[]
def Ae(D:List Nat)(σ:St):List Nat->List (Nat×SV)
 |[]=>[]|t::l=>bif !(j0 D t)&&xG (z7 σ.sl t)then(t,z7 σ.sl t)::Ae D σ l else Ae D σ l
def inj(c:Nat):(outs:List (Option Nat×c7))->Ex->St->Option (DS outs)
 |[],_,_=>none|[a],e,σ=>bif QC a.1 e then a.2.get c σ else none
 |a::b::l,e,σ=>bif QC a.1 e then(match a.2.get c σ with
  |some x=>some (.inl x)|none=>ya Sum.inr (inj c (b::l) e σ))else ya Sum.inr (inj c (b::l) e σ)
def kQ:Code->Nat
 |.region id _ _=>id|.seq a _=>kQ a|.block id _=>100000+id|.loop b=>200000+kQ b|.cond _ a _=>300000+kQ a|_=>999999
def Ve(all:List Oper)(j:Nat):Option Nat:=match V5 all j with
 |some o=>o.dst|none=>none
def Jb{β:Type}(n:Nat)(d:Option Nat)(x:SV)(σ:St)(k:St->Option β):Option β:=match d with
 |none=>k σ|some d=>bif cY d n then k (σ.put d x)else none
def steps{β:Type}(n:Nat)(τ:TE)(Γ:CT)(all:List Oper):List Oper->St->(St->Option β)->Option β
 |[],σ,k=>k σ|o::l,σ,k=>match o.guard with
  |none=>AJ τ Γ σ o.op o.type fun x σ=>Jb n o.dst x σ fun σ=>steps n τ Γ all l σ k
  |some (j,b)=>match Ve all j with
   |some d=>match z7 σ.sl d with
    |.v .b t=>bif(show Bool from t)then(bif b then AJ τ Γ (σ.put d (.v .b true)) o.op o.type fun x σ=>Jb n o.dst x σ fun σ=>steps n τ Γ all l σ k
      else Jb n o.dst .eh (σ.put d (.v .b true)) fun σ=>steps n τ Γ all l σ k)
     else(bif b then Jb n o.dst .eh (σ.put d (.v .b false)) fun σ=>steps n τ Γ all l σ k
      else AJ τ Γ (σ.put d (.v .b false)) o.op o.type fun x σ=>Jb n o.dst x σ fun σ=>steps n τ Γ all l σ k)
    |.eh=>Jb n o.dst .eh σ fun σ=>steps n τ Γ all l σ k
    |_=>none
   |none=>none
def Ko:List (Nat×Nat)->Nat->Option Nat
 |[],_=>none|(d,j)::D,t=>bif aJ d t then some j else Ko D t
def bg:List (Nat×Nat)->Nat->List (Nat×Nat)
 |[],_=>[]|(d,j)::D,t=>bif aJ d t then bg D t else(d,j)::bg D t
def Dl(Z8:List Nat):List (Nat×Nat)->List (Nat×SV)->List (Nat×SV)
 |[],l=>l|(d,j)::D,l=>bif j0 Z8 j then Dl Z8 D l else(d,.undef)::Dl Z8 D l
def lQ:SV->Option Value
 |.v (.i k) x=>some (.int k (c6 k x))|.v .b x=>some (.bool x)|.v .s x=>some (str x)|.Y'=>some (.slice none 0 0)|.v7=>some (.pointer none)|_=>none
def IG:List SV->Option (LV)
 |[]=>some []|x::l=>match lQ x,IG l with
  |some a,some r=>some (a::r)|_,_=>none
def JG:SV->Option Value
 |.ag l=>match IG l with
  |some a=>some (.agg a.toArray)|none=>none
 |x=>lQ x
def vw:List SV->Option (LV)
 |[]=>some []|x::l=>match JG x,vw l with
  |some a,some r=>some (a::r)|_,_=>none
def mQ:SV->Option Value
 |.Bb l=>match vw l with
  |some a=>some (.tuple a.toArray)|none=>none
 |x=>JG x
def Zb{β:Type}(n:Nat)(dst:Option Nat)(x:SV)(i:Nat)(abs:Bool)(σ:St)(D:List (Nat×Nat))(k:St->List (Nat×Nat)->Option β):Option β:=match dst with
 |none=>k σ D|some d=>bif cY d n then k (σ.put d x) (bif abs then bg D d else match mQ x with
  |some _=>bg D d|none=>(d,i)::bg D d)else none
def Lo:Op->Bool
 |.load _ _=>true|.fieldAddr _ _ _=>true|.indexAddr _ _ _=>true|.index _ _ _=>true|.nilCheck _=>true|.build _ _=>true|.lookup _ _ _ _=>true|.call ⟨.builtin .len,_,_⟩=>true|_=>false
def Rh(W:List Nat):SV->Bool
 |.ptr id _=>!(j0 W id)|.own id _=>!(j0 W id)|.mpr id=>!(j0 W id)|.ep id _ _ _=>!(j0 W id)|.fs id _=>!(j0 W id)|.fe id _ _=>!(j0 W id)|.fp id _ _=>!(j0 W id)|x=>xG x
def ww(W:List Nat):SV->Bool
 |.ag l=>l.all (Rh W)|x=>Rh W x
def nQ(W:List Nat):SV->Bool
 |.fn _ a c=>a.all (ww W)&&c.all (ww W)|x=>Rh W x
def oQ(W:List Nat):SV->Bool
 |.ag l=>l.all (nQ W)|x=>nQ W x
def okF(W:List Nat):SV->Bool
 |.Bb l=>l.all (oQ W)|x=>oQ W x
def RC:Op->Bool
 |.move _=>true|.assign _=>true|.pick _ _ _=>true|.unOp _ _ _=>true|_=>false
def wU(W:List Nat)(σ:St):Op->Bool
 |.store _ a _=>match ev σ a with
  |some (.ptr id _)=>j0 W id|_=>false
 |o=>RC o||Lo o
def cg:List Nat->Bool
 |[]=>true|_=>false
def Th(W:List Nat):List X3->List Nat->Bool
 |o::os,id::a=>(!(live o)||j0 W id)&&Th W os a|_,_=>true
def xU{β:Type}(W:List Nat)(σ:St)(x:Operand)(ash:List Operand)(xs:List SV)(k:SV->St->Option β):List SC->Option β
 |[]=>none|c::l=>bif aJ xs.length c.I.sl.length&&(cg (c.I.need 0 ⟨Q5 0 xs,σ.hp⟩)&&Th W c.I.hp (c.I.Td 0 ⟨Q5 0 xs,σ.hp⟩))&&(c.I.Zc (c.I.Td 0 ⟨Q5 0 xs,σ.hp⟩) ⟨Q5 0 xs,σ.hp⟩).isSome then Ou σ x ash xs k [c]else xU W σ x ash xs k l
def TC{β:Type}(τ:TE)(Γ:CT)(W:List Nat)(σ:St)(o:Op)(T:TypeId)(k:SV->St->Option β):Option β:=
 bif wU W σ o then yl τ Γ σ o T k else match o with
 |.call ⟨.value x,a,_⟩=>match kw σ x a.toList with
  |some (f,b)=>xU W σ x a.toList b k (ze Γ.sc f)|none=>none
 |_=>none
def Uh:Nat->(Nat->Bool)->Bool
 |0,_=>true|n+1,f=>f n&&Uh n f
def xw(τ:TE)(σ:St):Op->Option AO
 |.alloc T=>match j3 τ T with
  |some f=>bif f.agg||aJ f.sz 1 then some (.N' T f.z)else none
  |none=>none
 |.buildSlice T n a=>match j3 τ T with
  |some ⟨.sl E,_,_,_,_⟩=>match j3 τ E with
   |some f=>bif Yb f&&aJ f.sz (l0 f.ty)&&aJ n a.toList.length&&cK (n*f.sz) 65536&&cg (Ad σ (a.toList.map (·.2)))then(match Js σ f.ty 0 a.toList with
    |some r=>some (.H' 0 f.ty E r)|none=>none)else none
   |none=>none
  |_=>none
 |_=>none
def aoV(id:Nat):AO->SV
 |.N' _ _=>.ptr id 0|_=>.own id 0
def yU:List (Nat×AO)->Nat->Option AO
 |[],_=>none|(d,o)::l,i=>bif aJ d i then some o else yU l i
def fg{β:Type}(all:List Oper)(σ:St)(g:Option (Nat×Bool))(a skip:St->Option β):Option β:=match g with
 |none=>a σ|some (j,b)=>match Ve all j with
  |some d=>match z7 σ.sl d with
   |.v .b t=>bif(show Bool from t)then(bif b then a (σ.put d (.v .b true))else skip (σ.put d (.v .b true)))else(bif b then skip (σ.put d (.v .b false))else a (σ.put d (.v .b false)))|.eh=>skip σ|_=>none
  |none=>none
def Vd(W:List Nat):List Nat->Bool
 |[]=>true|x::l=>j0 W x&&Vd W l
def We(σ:St)(x:Operand):List Nat:=match ev σ x with
 |some (.own id _)=>[id]|_=>[]
def Mo(W:List Nat)(σ:St):Op->Bool
 |.alloc _=>true|.buildSlice _ _ a=>Vd W (Ad σ (a.toList.map (·.2)))|.call ⟨.builtin .append,⟨[x,_]⟩,⟨[_,_]⟩⟩=>Vd W (We σ x)|_=>false
def IZ{β:Type}(Γ:CT)(W:List Nat)(σ:St)(x:Operand)(ash:List Operand)(k:SV->St->Option β):Option (Option β):=match kw σ x ash with
 |some (f,b)=>match Ds Γ.pc f with
  |some c=>bif c.rts.any bw then(bif Vd W (b.flatMap owns)then(match kw (x5 σ (b.flatMap owns)) x ash with
    |some (_,d)=>match Ue c [] d with
     |some a=>some (aR (c.p a) fun y=>k (Se c y) (x5 σ (b.flatMap owns)))|none=>none
    |none=>none)else none)
   else(match Ue c σ.hp b with
    |some a=>some (aR (c.p a) fun y=>k (Se c y) σ)|none=>none)
  |none=>none
 |none=>none
def KG{β:Type}(τ:TE)(Γ:CT)(W:List Nat)(σ:St)(x:Operand)(ash:Array Operand)(a:Array TypeId)(T:TypeId)(k:SV->St->Option β):Option β:=match IZ Γ W σ x ash.toList k with
 |some r=>r|none=>TC τ Γ W σ (.call ⟨.value x,ash,a⟩) T k
def UC(W:List Nat)(b:Nat):List Nat->Bool
 |[]=>true|j::l=>(j0 W j||cK b j)&&UC W b l
def pQ{β:Type}(τ:TE)(Γ:CT)(x:Operand)(ash:Array Operand)(a:Array TypeId)(T:TypeId):List Nat->List Nat->St->(SV->St->Option β)->Option β
 |[],W,σ,k=>KG τ Γ W σ x ash a T k|t::d,W,σ,k=>match z7 σ.sl t with
  |.fp id i _=>bif j0 W id then(tU σ t fun b=>pQ τ Γ x ash a T d (je σ.hp.length (b.hp.length-σ.hp.length)++W) b fun y c=>bif UC W σ.hp.length (uw c id σ.hp.length)then uU c t id i σ.hp.length (k y)else none)else none|_=>none
def BJ{β:Type}(τ:TE)(Γ:CT)(W:List Nat)(σ:St)(o:Op)(T:TypeId)(k:SV->St->Option β):Option β:=
 bif Uh σ.hp.length (j0 W)then AJ τ Γ σ o T k else bif Mo W σ o then yl τ Γ σ o T k else match o with
 |.call ⟨.value x,a,b⟩=>pQ τ Γ x a b T (vU σ a.toList) W σ k|o=>TC τ Γ W σ o T k
def LG:Op->Bool
 |.move _=>true|.assign _=>true|.pick _ _ _=>true|.binOp _ _ _ _ _=>true|.unOp _ _ _=>true|.field _ _ _=>true|.extract _ _=>true|_=>false
def CJ{β:Type}(τ:TE)(W:List Nat)(σ:St)(o:Op)(k:SV->Option β):Option β:=
 bif LG o then HZ τ σ o k else Ph τ ⟨σ.sl,Io W 0 σ.hp⟩ o fun x=>bif okF W x then k x else none
abbrev El:=List (SK×Nat×List Nat)
def Vh:El->Mu
 |[]=>[]|(k,i,_)::s=>(k,i)::Vh s
def WC(ops:Array Oper)(i:Nat)(W:List Nat):List (Nat×List Nat)->Bool
 |[]=>true|p::l=>(ub ops i p.1||Vd p.2 W)&&WC ops i W l
def MG(ops:Array Oper)(i:Nat)(l:List (Nat×List Nat)):List (Nat×List Nat):=l.filter fun p=>!ub ops i p.1
def No(i:Nat):List (Nat×List Nat)->Bool
 |[]=>true|p::l=>!(aJ p.1 i)&&No i l
def ed{β:Type}(n:Nat)(τ:TE)(Γ:CT)(ops:Array Oper)(all:List Oper):El->List (Nat×AO)->List (Nat×List Nat)->St->(St->Option β)->Option β
 |[],_,_,σ,k=>k σ|(.pu,i,W)::s,b,a,σ,k=>match V5 all i with
  |some o=>bif No i a then fg all σ o.guard (fun σ=>CJ τ W σ o.op fun x=>Jb n o.dst x σ fun σ=>ed n τ Γ ops all s b ((i,W)::a) σ k) (fun σ=>Jb n o.dst .eh σ fun σ=>ed n τ Γ ops all s b ((i,W)::a) σ k)else none
  |none=>none
 |(.la,i,_)::s,b,a,σ,k=>match V5 all i with
  |some o=>match o.guard,xw τ σ o.op with
   |none,some c=>ed n τ Γ ops all s ((i,c)::b) a σ k|_,_=>none
  |none=>none
 |(.rv,i,_)::s,b,a,σ,k=>match V5 all i,yU b i with
  |some o,some c=>Jb n o.dst (aoV σ.hp.length c) ⟨σ.sl,σ.hp++[c]⟩ fun σ=>ed n τ Γ ops all s b a σ k
  |_,_=>none
 |(.mn,i,W)::s,b,a,σ,k=>match V5 all i with
  |some o=>bif WC ops i W a then fg all σ o.guard (fun σ=>BJ τ Γ W σ o.op o.type fun x σ=>Jb n o.dst x σ fun σ=>ed n τ Γ ops all s b (MG ops i a) σ k) (fun σ=>Jb n o.dst .eh σ fun σ=>ed n τ Γ ops all s b (MG ops i a) σ k)else none
  |none=>none
def Oo:El->List Nat
 |[]=>[]|(.la,i,_)::s=>i::Oo s|_::s=>Oo s
def gg:El->List Nat
 |[]=>[]|(.mn,i,_)::s=>i::gg s|_::s=>gg s
def Fl{β:Type}(n:Nat)(τ:TE)(Γ:CT)(s:El)(ops:Array Oper)(σ:St)(k:St->Option β):Option β:=
 bif zo ops (Oo s) (gg s)&&y8 ops (Oo s) (gg s) (Vh s) [] [] false then ed n τ Γ ops ops.toList s [] [] σ k else none
def Gl{β:Type}(n:Nat)(τ:TE)(Γ:CT)(η:HT)(id:Nat)(ops:Array Oper)(σ:St)(k:St->Option β):Option β:=match YP η (4000000+id) with
 |some (.x7 s)=>Fl n τ Γ s ops σ k|_=>none
def nx{β:Type}(k:Ex->St->Option β)(n:St->Option β):Ex->St->Option β
 |.normal,σ=>n σ|e,σ=>k e σ
def N'{β:Type}(id:Nat)(k:Ex->St->Option β):Ex->St->Option β
 |.exit i,σ=>bif aJ i id then k .normal σ else k (.exit i) σ
 |e,σ=>k e σ
def Ks:SV->Bool
 |.Y'=>true|.ye=>true|_=>false
def rN(σ:St):Mk->St
 |.sl d e T=>bif Ks (z7 σ.sl d)then⟨(d,.own σ.hp.length 0)::σ.sl,σ.hp++[.H' 0 e T []]⟩else σ|.cell d i e T=>match z7 σ.sl d with
  |.ptr id _=>match V5 σ.hp id with
   |some (.N' g f)=>match V5 f i with
    |some c=>bif Ks c then⟨σ.sl,O6 (σ.hp++[.H' 0 e T []]) id (.N' g (O6 f i (.own σ.hp.length 0)))⟩else σ|none=>σ
   |_=>σ
  |_=>σ
 |.qu d=>match z7 σ.sl d with
  |.own id a=>match V5 σ.hp id with
   |some (.H' b e T (x::h))=>bif aJ a b then⟨σ.sl,O6 σ.hp id (.qu a e T (x::h))⟩else σ|_=>σ
  |_=>σ
 |.fz d=>match z7 σ.sl d with
  |.own id _=>Lh σ id|_=>σ
def Xe(σ:St):List Mk->St
 |[]=>σ|x::l=>Xe (rN σ x) l
def yw{S R:Type}(p:S->Prop)(r:R):Option (S⊕R)->Prop
 |none=>False|some (.inl s)=>p s|some (.inr a)=>a=r
def Ak{S R:Type}(f:S->List (Option (S⊕R))):Nat->S->R->Prop
 |0,_,_=>False|n+1,s,r=>∀o∈f s,yw (fun a=>Ak f n a r) r o
open Classical in
noncomputable def U8{S R:Type}(f:S->List (Option (S⊕R)))(s:S):Option R:=if h:∃r n,Ak f n s r then some h.choose else none
def Ra{α γ:Type}(eq:α->α->Bool)(es:List (α×γ))(left:List α):List (α×γ):=es.filter fun p=>left.any fun k=>eq p.1 k
def U7{α:Type}(eq:α->α->Bool)(left:List α)(k:α):List α:=left.filter fun q=>!eq q k
def cb{α γ:Type}(l:List α)(d:γ)(f:α->γ):List γ:=match l with
 |[]=>[d]|x::l=>(x::l).map f
def Wh{γ:Type}(n:Nat)(σ:St)(d t:Nat)(g:St->Option γ):List (Option γ):=match z7 σ.sl t with
 |.ptr i 0=>match V5 σ.hp i with
  |some (.it c gn K _ left)=>match V5 σ.hp c with
   |some (.mp e a V f)=>match P7 K a with
    |some ⟨h⟩=>bif aJ gn e&&cY d n then cb (Ra (o5 a) f (Ob (by rw[h]:Ty.sl K=Ty.sl a) left)) (g (σ.put d (.Bb [.v .b false])))
      (fun p=>g ⟨(d,.Bb [.v .b true,W6 a p.1,W6 V p.2])::σ.sl,O6 σ.hp i (.it c gn a (some p.1) (U7 (o5 a) (Ob (by rw[h]:Ty.sl K=Ty.sl a) left) p.1))⟩)else [none]
    |none=>[none]
   |_=>[none]
  |_=>[none]
 |_=>[none]
noncomputable def run(f n:Nat)(τ:TE)(Γ:CT)(η:HT):Code->{β:Type}->St->(Ex->St->Option β)->Option β
 |.skip,_,σ,k=>k .normal σ|.region id g d,_,σ,k=>bif d then Gl n τ Γ η id g σ (k .normal)else steps n τ Γ g.toList g.toList σ (k .normal)
 |.seq a b,_,σ,k=>match jQ η σ (2000000+kQ b) with
  |some (.join mk kp outs)=>aR (run f n τ Γ η a (Xe σ mk) (inj f outs)) fun d=>out (Ae (z8 a) (Xe σ mk) kp) outs d (nx k fun σ=>run f n τ Γ η b σ k)
  |_=>run f n τ Γ η a σ (nx k fun σ=>run f n τ Γ η b σ k)
 |.cond c a b,_,σ,k=>match ev σ c with
  |some (.v .b t)=>bif t then run f n τ Γ η a σ k else run f n τ Γ η b σ k
  |_=>none
 |.block id b,_,σ,k=>match jQ η σ (100000+id) with
  |some (.join mk kp outs)=>aR (run f n τ Γ η b (Xe σ mk) (N' id (inj f outs))) fun d=>out (Ae (z8 b) (Xe σ mk) kp) outs d k
  |_=>run f n τ Γ η b σ (N' id k)
 |.loop b,_,σ,k=>match jQ η σ (200000+kQ b) with
  |some (.loop mk s kp outs)=>match s.get f (Xe σ mk) with
   |some s0=>aR (iter (fun x=>run f n τ Γ η b ((s.put x).X0 (Ae (z8 b) (Xe σ mk) kp)) (nx (fun e σ=>ya Sum.inr (inj f outs e σ)) fun σ=>ya Sum.inl (s.get f σ))) s0) fun d=>out (Ae (z8 b) (Xe σ mk) kp) outs d k
   |none=>none
  |some (.HG mk s kp outs)=>match b with
   |.seq (.region _ g false) c=>match g.toList with
    |⟨some d,.next (.tmp t) false,_,_,_,none⟩::l=>match s.get f (Xe σ mk) with
     |some s0=>aR (U8 (fun x=>Wh n ((s.put x).X0 (Ae (z8 b) (Xe σ mk) kp)) d t fun σ=>steps n τ Γ g.toList l σ fun σ=>run f n τ Γ η c σ (nx (fun e σ=>ya Sum.inr (inj f outs e σ)) fun σ=>ya Sum.inl (s.get f σ))) s0) fun d=>out (Ae (z8 b) (Xe σ mk) kp) outs d k
     |none=>none
    |_=>none
   |_=>none
  |_=>none
 |.exit id,_,σ,k=>k (.exit id) σ|.ret,_,σ,k=>k .ret σ|_,_,_,_=>none
def DJ(τ:TE)(σ:St):ResultVar->Option SV
 |.tmp t=>some (z7 σ.sl t)|.cell t T=>match j3 τ T with
  |some f=>deref σ.hp (z7 σ.sl t) f.sz fun l=>Vb f l
  |none=>none
def Ls(τ:TE)(σ:St):List ResultVar->Option (List SV)
 |[]=>some []|r::l=>match DJ τ σ r,Ls τ σ l with
  |some x,some y=>some (x::y)|_,_=>none
def fin(τ:TE)(f:Func)(rts:List Ty)(e:Ex)(σ:St):Option (b8 rts):=match e with
 |.exit _=>none|_=>match Ls τ σ f.results.toList with
  |some l=>match Ls τ (x5 σ (l.flatMap owns)) f.results.toList with
   |some l=>JC [] rts l|none=>none
  |none=>none
noncomputable def zw(τ:TE)(Γ:CT)(η:HT)(f:Func)(ash:List Sh)(rts:List Ty)(a:b8 (ash.flatMap Sh.o8)):Option (b8 rts):=match f.body with
 |none=>none|some c=>run 0 f.ntmps τ Γ η c ⟨Q5 0 (Wb ash (rc _ a)).1,[]⟩ (fin τ f rts)
def Xh(τ:TE)(f:Func)(a:Nat)(outs:List (Option Nat×c7))(e:Ex)(σ:St):Option (DS outs):=match e with
 |.exit _=>none|_=>match Ls τ σ f.results.toList with
  |some l=>inj a outs .normal ⟨Q5 0 l,σ.hp⟩|none=>none
noncomputable def Ms(τ:TE)(Γ:CT)(η:HT)(f:Func)(I:c7)(outs:List (Option Nat×c7))(a:b8 I.o8):Option (DS outs):=match f.body with
 |none=>none|some c=>run I.hp.length f.ntmps τ Γ η c (I.put a) (Xh τ f I.hp.length outs)
abbrev qQ(k:IntKind):Rp (den (.i k)) where
 sz:=1
 u7 _ c x:=c=[.int k (c6 k x)]
 len:=fun e=>by rw[e];rfl
 mono:=fun e _=>e
 one:=fun e u a=>by rw[e,aZ]at a;rw[a];rfl
abbrev JZ:Rp Bool where
 sz:=1
 u7 _ c x:=∃u,c=[u]/\((x=false/\u = .nilIface)∨(x=true/\∃t v,u = .iface t v))
 len:=fun⟨_,e,_⟩=>by rw[e];rfl
 mono:=fun e _=>e
 one:=fun⟨_,e,h⟩ u a=>by rw[e,aZ]at a;rw[a];rcases h with⟨_,rfl⟩|⟨_,_,_,rfl⟩<;>rfl
abbrev KZ(α:Type):Rp α where
 sz:=1
 u7 _ c _:=c=[.map none]
 len:=fun e=>by rw[e];rfl
 mono:=fun e _=>e
 one:=fun e u a=>by rw[e,aZ]at a;rw[a];rfl
instance Q9:(t:Ty)->Rp (den t)
 |.i k=>qQ k|.b=>instRpBool|.s=>instRpStr|.er=>JZ|.sl e=>@instRpList (den e) (Q9 e)|.pr a c=>@instRpProd (den a) (den c) (Q9 a) (Q9 c)|.un=>instRpUnit|.mp a c=>KZ (List (den a×den c))
abbrev u7(t:Ty)(S:Mem)(c:LV)(x:den t):Prop:=(Q9 t).u7 S c x
theorem gd:∀t:Ty,(Q9 t).sz=l0 t
 |.i _=>rfl|.b=>rfl|.s=>rfl|.er=>rfl|.mp _ _=>rfl|.sl _=>rfl|.pr a c=>by show(Q9 a).sz+(Q9 c).sz=_;rw[gd a,gd c];rfl
 |.un=>rfl
theorem Po:∀(k:IntKind) (x:Int),c6 k (Sf k x)=k.wrap x
 |.u8,x=>(wo x).symm|.u16,x=>(Lv x).symm|.u32,x=>(Eh x).symm|.u64,x=>(Fh x).symm|.i8,_=>rfl|.i16,_=>rfl|.i32,_=>rfl|.i64,_=>rfl
inductive A2 {α γ:Type} (R:α->γ->Prop):List α->List γ->Prop
 |nil:A2 R [] []
 |cons {a b l m}:R a b->A2 R l m->A2 R (a::l) (b::m)
section
variable {α γ:Type}{R R':α->γ->Prop}
theorem A2.imp(h:∀a b,R a b->R' a b):∀{l m},A2 R l m->A2 R' l m
 |_,_,.nil=>.nil|_,_,.cons a t=>.cons (h _ _ a) (A2.imp h t)
theorem A2.len:∀{l m},A2 R l m->l.length=m.length
 |_,_,.nil=>rfl|_,_,.cons _ t=>by simp[A2.len t]
theorem A2.X0:∀{l m b c},A2 R l m->A2 R b c->A2 R (l++b) (m++c)
 |_,_,_,_,.nil,h=>h|_,_,_,_,.cons a t,h=>.cons a (A2.X0 t h)
theorem A2.take:∀{l m} (n:Nat),A2 R l m->A2 R (l.take n) (m.take n)
 |_,_,0,_=>by simp;exact .nil
 |_,_,n+1,.nil=>by simp;exact .nil
 |_,_,n+1,.cons a t=>by simp only[List.take_succ_cons];exact .cons a (A2.take n t)
theorem A2.drop:∀{l m} (n:Nat),A2 R l m->A2 R (l.drop n) (m.drop n)
 |_,_,0,h=>h|_,_,n+1,.nil=>by simp;exact .nil
 |_,_,n+1,.cons _ t=>by simp only[List.drop_succ_cons];exact A2.drop n t
theorem A2.at:∀{l m} {n:Nat} {a:α},A2 R l m->V5 l n=some a->∃b,m[n]? = some b/\R a b
 |_,_,n,_,.nil,h=>by cases n<;>cases h
 |_,_,0,_,.cons a _,h=>by cases h;exact⟨_,rfl,a⟩
 |_,_,n+1,_,.cons _ t,h=>by obtain⟨b,c,d⟩:=A2.at (n:=n) t h;exact⟨b,by simpa using c,d⟩
theorem A2.one{a:α}{m:List γ}(h:A2 R [a] m):∃b,m=[b]/\R a b:=by cases h with|cons h t=>cases t;exact⟨_,rfl,h⟩
end
theorem Fa{α:Type}:∀(l:List α) (n:Nat),V5 l n=l[n]?
 |[],n=>by cases n<;>rfl
 |_::_,0=>rfl|_::l,n+1=>by rw[V5,Fa l n];simp
inductive EI where
 |N' (b:Nat)
 |H' (ver:Nat) (v:Value) (sz:Nat)
 |mp (g b ck:Nat) (es:List MapEntry)
 |U4 (ver:Nat) (v:Value) (bs:List Nat)
 |dead
def T9(es b:List MapEntry):Prop:=∀a∈b,∃c∈es,c.key=a.key/\c.born=a.born
theorem T9.refl(es:List MapEntry):T9 es es:=fun a h=>⟨a,h,rfl,rfl⟩
theorem T9.trans{a b c:List MapEntry}(h:T9 a b)(k:T9 b c):T9 a c:=fun d e=>by obtain⟨f,g,i,j⟩:=k d e;obtain⟨l,o,p,q⟩:=h f g;exact⟨l,o,p.trans i,q.trans j⟩
def EI.le:EI->EI->Prop
 |.N' b,e=>e = .N' b∨e = .dead|.H' r v s,e=>e = .H' r v s∨e = .dead∨∃a v',e = .H' a v' s/\r<a|.mp g b ck j,e=>e = .dead∨∃f c d,e = .mp f b c d/\(g<f∨(g=f/\ck=c/\T9 j d))|.U4 r v i,e=>e = .U4 r v i∨e = .dead∨∃a v' h,e = .U4 a v' (i++h)/\r<a|.dead,e=>e = .dead
theorem EI.le_refl:∀e:EI,e.le e
 |.N' _=>.inl rfl|.H' _ _ _=>.inl rfl|.mp _ _ _ a=>.inr ⟨_,_,_,rfl,.inr ⟨rfl,rfl,T9.refl a⟩⟩|.U4 _ _ _=>.inl rfl|.dead=>rfl
theorem EI.le_trans{a b c:EI}(h:a.le b)(k:b.le c):a.le c:=by
 cases a with
 |N' x=>
  rcases h with rfl|rfl
  ·exact k
  ·exact .inr k
 |H' r v s=>
  rcases h with rfl|rfl|⟨f,v',rfl,h⟩
  ·exact k
  ·exact .inr (.inl k)
  ·rcases k with rfl|rfl|⟨i,j,rfl,k⟩
   ·exact .inr (.inr ⟨_,_,rfl,h⟩)
   ·exact .inr (.inl rfl)
   ·exact .inr (.inr ⟨_,_,rfl,jJ h k⟩)
 |mp g x ck l=>
  rcases h with rfl|⟨o,p,q,rfl,h⟩
  ·exact .inl k
  ·rcases k with rfl|⟨t,u,y,rfl,k⟩
   ·exact .inl rfl
   ·refine .inr ⟨_,_,_,rfl,?_⟩;rcases h with h|⟨rfl,rfl,h⟩
    ·rcases k with k|⟨rfl,_,_⟩
     ·exact .inl (jJ h k)
     ·exact .inl h
    ·rcases k with k|⟨rfl,rfl,k⟩
     ·exact .inl k
     ·exact .inr ⟨rfl,rfl,h.trans k⟩
 |U4 r v z=>
  rcases h with rfl|rfl|⟨f,v',d,rfl,h⟩
  ·exact k
  ·exact .inr (.inl k)
  ·rcases k with rfl|rfl|⟨i,j,e,rfl,k⟩
   ·exact .inr (.inr ⟨_,_,_,rfl,h⟩)
   ·exact .inr (.inl rfl)
   ·exact .inr (.inr ⟨_,_,d++e,by rw[List.append_assoc],jJ h k⟩)
 |dead=>have h:b = .dead:=h;subst h;exact k
theorem EI.Hl{e e':EI}{r:Nat}{v:Value}{d:List Nat}(h:e.le e')(g:e' = .U4 r v d):∃a c v0,e = .U4 c v0 a/\((c=r/\v0=v/\a=d)∨(c<r/\∃b,d=a++b)):=by
 subst g;cases e with
 |N' i=>rcases h with h|h<;>cases h
 |H' r v s=>rcases h with h|h|⟨_,_,h,_⟩<;>cases h
 |mp=>rcases h with h|⟨_,_,_,h,_⟩<;>cases h
 |dead=>cases h
 |U4 c v0 a=>
  rcases h with h|h|⟨_,_,b,h,f⟩
  ·cases h;exact⟨_,_,_,rfl,.inl ⟨rfl,rfl,rfl⟩⟩
  ·cases h
  ·cases h;exact⟨_,_,_,rfl,.inr ⟨f,b,rfl⟩⟩
def V4(E E':List EI):Prop:=∀(i:Nat) (a:EI),E[i]? = some a->∃b,E'[i]? = some b/\a.le b
theorem V4.refl(E:List EI):V4 E E:=fun _ a h=>⟨a,h,a.le_refl⟩
theorem V4.trans{A B C:List EI}(h:V4 A B)(k:V4 B C):V4 A C:=fun i a e=>by obtain⟨b,d,f⟩:=h i a e;obtain⟨c,g,j⟩:=k i b d;exact⟨c,g,EI.le_trans f j⟩
theorem V4.push(E:List EI)(e:List EI):V4 E (E++e):=fun i a h=>⟨a,by
 have:=(aC.1 h).1;rw[aF this];exact h,a.le_refl⟩
def VB(S:Mem)(E:List EI):SV->Value->Prop
 |.v t x,u=>u7 t S [u] x|.Y',u=>u = .slice none 0 0|.v7,u=>u = .pointer none|.z6,u=>u = .map none|.xb,u=>u = .nilFunc|.ye,u=>we S u 0 0 []/\∃a,u = .slice a 0 0|.cl e j,u=>@x8 (den e) (Q9 e) S u j/\∃a,u = .slice a j.length j.length|.nn e j,u=>@x8 (den e) (Q9 e) S u j/\∀n c,u≠.slice none n c|.mpr id,u=>u.oneCell'=true/\∃e,E[id]? = some e/\∀g b ck p,e = .mp g b ck p->u = .map (some b)|.ptr id f,u=>∃b,u = .pointer (some ⟨b,f,none⟩)/\∃e,E[id]? = some e/\∀k,e = .N' k->k=b|.rp t x f,u=>∃b o l,u = .pointer (some ⟨b,o+f,none⟩)/\e9 S b o l/\u7 t S l x|.own id d,u=>u.oneCell'=true/\∃e,E[id]? = some e/\∀r v s,e = .H' r v s->d<=r/\(d=r->u=v)|.ep id d i f,u=>u.oneCell'=true/\∃e,E[id]? = some e/\∀r v s,e = .H' r v s->d<=r/\(d=r->∃b o n c,v=sl b o n c/\u = .pointer (some ⟨b,o+i.toNat*s+f,none⟩))|.fs id d,u=>u.oneCell'=true/\∃e,E[id]? = some e/\∀r v h,e = .U4 r v h->d<=r/\(d=r->u=v)|.fe id d i,u=>u.oneCell'=true/\∃e,E[id]? = some e/\∀r v h,e = .U4 r v h->d<=r/\(d=r->∃b n c,v=sl b 0 n c/\u = .pointer (some ⟨b,i.toNat,none⟩))|.fp id i f,u=>u.oneCell'=true/\∃e,E[id]? = some e/\∀r v h,e = .U4 r v h->0<=i/\∃b,h[i.toNat]? = some b/\u = .pointer (some ⟨b,f,none⟩)|_,_=>False
def VA(R:SV->Value->Prop):SV->Value->Prop
 |.ag l,u=>∃a,u = .agg a.toArray/\A2 R l a|x,u=>R x u
def VC(S:Mem)(E:List EI):SV->Value->Prop
 |.fn f a c,u=>∃b ws,u = .func (.func f) b.toArray ws.toArray/\A2 (VA (VB S E)) a b/\A2 (VA (VB S E)) c ws|x,u=>VB S E x u
def VR(S:Mem)(E:List EI):SV->Value->Prop
 |.undef,_=>True|.eh,u=>u=undef|.Bb l,u=>∃a,u = .tuple a.toArray/\A2 (VA (VC S E)) l a|x,u=>VA (VC S E) x u
theorem VB.one{S:Mem}{E:List EI}{x:SV}{u:Value}(h:VB S E x u):u.oneCell'=true:=by
 cases x with
 |v t x=>exact(Q9 t).one h u (by simp)|Y'=>rw[show u=_ from h];rfl|v7=>rw[show u=_ from h];rfl|z6=>rw[show u=_ from h];rfl|xb=>rw[show u=_ from h];rfl|ye=>obtain⟨_,_,rfl⟩:=h;rfl
 |cl=>obtain⟨_,_,rfl⟩:=h;rfl
 |nn e a=>exact(Q9 (.sl e)).one (show u7 (.sl e) S [u] a from⟨u,rfl,h.1⟩) u (by simp)|mpr=>exact h.1|ptr=>obtain⟨_,rfl,_⟩:=h;rfl
 |rp=>obtain⟨_,_,_,rfl,_⟩:=h;rfl
 |own=>exact h.1|ep=>exact h.1|fs=>exact h.1|fe=>exact h.1|fp=>exact h.1|_=>exact h.elim
theorem VC.b{S:Mem}{E:List EI}{x:SV}{u:Value}(h:VC S E x u)(a:Xf x=true:=by rfl):VB S E x u:=by cases x<;>first|exact h|cases a
theorem VB.c{S:Mem}{E:List EI}{x:SV}{u:Value}(h:VB S E x u):VC S E x u:=by cases x<;>first|exact h|exact h.elim
theorem VA.b{R:SV->Value->Prop}{x:SV}{u:Value}(h:VA R x u)(a:oa x=true:=by rfl):R x u:=by cases x<;>first|exact h|cases a
theorem VA.of{R:SV->Value->Prop}{x:SV}{u:Value}(h:R x u)(a:oa x=true:=by rfl):VA R x u:=by cases x<;>first|exact h|cases a
theorem VR.b{S:Mem}{E:List EI}{x:SV}{u:Value}(h:VR S E x u)(a:Ib x=true:=by rfl):VA (VC S E) x u:=by cases x<;>first|exact h|cases a
theorem VR.of{S:Mem}{E:List EI}{x:SV}{u:Value}(h:VA (VC S E) x u):VR S E x u:=by cases x<;>first|exact h|trivial|exact h.elim
theorem VR.ig{S:Mem}{E:List EI}{x:SV}{u:Value}(h:VC S E x u):VR S E x u:=by cases x<;>first|exact h|trivial|exact h.elim
theorem VC.one{S:Mem}{E:List EI}{x:SV}{u:Value}(h:VC S E x u):u.oneCell'=true:=by
 cases x with
 |fn=>obtain⟨_,_,rfl,_⟩:=h;rfl
 |_=>exact VB.one h.b
theorem VB.mono{S I:Mem}{E E':List EI}(hS:Mem.le S I)(z:V4 E E'){x:SV}{u:Value}(h:VB S E x u):VB I E' x u:=by
 cases x with
 |v t x=>exact(Q9 t).mono h hS|Y'=>exact h|v7=>exact h|z6=>exact h|xb=>exact h|ptr id A=>
  obtain⟨M,k,e,d,f⟩:=h;obtain⟨l,p,h4⟩:=z _ _ d;refine⟨M,k,l,p,fun b q=>?_⟩;subst q;cases e with
  |N' G=>rcases h4 with h4|h4<;>cases h4;exact f _ rfl
  |H' r v s=>rcases h4 with h4|h4|⟨_,_,h4,_⟩<;>cases h4
  |mp=>rcases h4 with h4|⟨_,_,_,h4,_⟩<;>cases h4
  |U4 r v H=>rcases h4 with h4|h4|⟨_,_,_,h4,_⟩<;>cases h4
  |dead=>cases h4
 |ye=>exact⟨h.1.mono hS,h.2⟩|cl e N=>exact⟨h.1.mono hS,h.2⟩|nn e N=>exact⟨h.1.mono hS,h.2⟩|mpr id=>
  obtain⟨k,e,d,f⟩:=h;obtain⟨l,p,h4⟩:=z _ _ d;refine⟨k,l,p,fun g b ck U q=>?_⟩;subst q;cases e with
  |N' G=>rcases h4 with h4|h4<;>cases h4
  |H' r v s=>rcases h4 with h4|h4|⟨_,_,h4,_⟩<;>cases h4
  | mp => rcases h4 with h4 | ⟨_, _, _, h4, _⟩
          ·cases h4
          ·cases h4;exact f _ _ _ _ rfl
  |U4 r v H=>rcases h4 with h4|h4|⟨_,_,_,h4,_⟩<;>cases h4
  |dead=>cases h4
 |rp t x A=>obtain⟨b,o,O,e,d,f⟩:=h;exact⟨b,o,O,e,d.mono hS,(Q9 t).mono f hS⟩
 |own id C=>
  obtain⟨k,e,d,f⟩:=h;obtain⟨l,p,h4⟩:=z _ _ d;refine⟨k,l,p,fun r v s q=>?_⟩;subst q;cases e with
  |N' G=>rcases h4 with h4|h4<;>cases h4
  |H' P v' Q=>
   obtain⟨c,y⟩:=f _ _ _ rfl;rcases h4 with h4|h4|⟨_,_,h4,j⟩<;>cases h4
   ·exact⟨c,y⟩
   ·exact⟨gY (eF c j),fun e=>absurd e (gZ (eF c j))⟩
  |mp=>rcases h4 with h4|⟨_,_,_,h4,_⟩<;>cases h4
  |U4 r v H=>rcases h4 with h4|h4|⟨_,_,_,h4,_⟩<;>cases h4
  |dead=>cases h4
 |ep id C i A=>
  obtain⟨k,e,d,f⟩:=h;obtain⟨l,p,h4⟩:=z _ _ d;refine⟨k,l,p,fun r v s q=>?_⟩;subst q;cases e with
  |N' G=>rcases h4 with h4|h4<;>cases h4
  |H' P v' Q=>
   obtain⟨c,y⟩:=f _ _ _ rfl;rcases h4 with h4|h4|⟨_,_,h4,j⟩<;>cases h4
   ·exact⟨c,y⟩
   ·exact⟨gY (eF c j),fun e=>absurd e (gZ (eF c j))⟩
  |mp=>rcases h4 with h4|⟨_,_,_,h4,_⟩<;>cases h4
  |U4 r v H=>rcases h4 with h4|h4|⟨_,_,_,h4,_⟩<;>cases h4
  |dead=>cases h4
 |fs id C=>
  obtain⟨k,e,d,f⟩:=h;obtain⟨l,p,h4⟩:=z _ _ d;refine⟨k,l,p,fun r v s q=>?_⟩;obtain⟨D,J,K,rfl,F⟩:=EI.Hl h4 q;clear h4;obtain⟨c,y⟩:=f _ _ _ rfl;rcases F with⟨rfl,rfl,_⟩|j
  ·exact⟨c,y⟩
  ·exact⟨gY (eF c j.1),fun e=>absurd e (gZ (eF c j.1))⟩
 |fe id C i=>
  obtain⟨k,e,d,f⟩:=h;obtain⟨l,p,h4⟩:=z _ _ d;refine⟨k,l,p,fun r v s q=>?_⟩;obtain⟨D,J,K,rfl,F⟩:=EI.Hl h4 q;clear h4;obtain⟨c,y⟩:=f _ _ _ rfl;rcases F with⟨rfl,rfl,_⟩|j
  ·exact⟨c,y⟩
  ·exact⟨gY (eF c j.1),fun e=>absurd e (gZ (eF c j.1))⟩
 |fp id i A=>
  obtain⟨k,e,d,f⟩:=h;obtain⟨l,p,h4⟩:=z _ _ d;refine⟨k,l,p,fun r v s q=>?_⟩;obtain⟨D,J,K,rfl,F⟩:=EI.Hl h4 q;clear h4;obtain⟨c,b,y,j⟩:=f _ _ _ rfl;rcases F with⟨rfl,rfl,rfl⟩|⟨_,T,rfl⟩
  ·exact⟨c,b,y,j⟩
  ·exact⟨c,b,by rw[aF (aC.1 y).1];exact y,j⟩
 |_=>exact h.elim
theorem VA.imp{R R':SV->Value->Prop}(h:∀a b,R a b->R' a b){x:SV}{u:Value}(k:VA R x u):VA R' x u:=by
 cases x with
 |ag l=>obtain⟨c,e,k⟩:=k;exact⟨c,e,k.imp h⟩
 |_=>exact VA.of (h _ _ k.b)
theorem VC.mono{S g:Mem}{E E':List EI}(hS:Mem.le S g)(d:V4 E E'){x:SV}{u:Value}(h:VC S E x u):VC g E' x u:=by
 cases x with
 |fn f a c=>obtain⟨i,ws,e,j,k⟩:=h;exact⟨i,ws,e,j.imp fun _ _=>VA.imp fun _ _=>VB.mono hS d,k.imp fun _ _=>VA.imp fun _ _=>VB.mono hS d⟩
 |_=>exact(VB.mono hS d h.b).c
theorem VR.mono{S a:Mem}{E E':List EI}(hS:Mem.le S a)(c:V4 E E'){x:SV}{u:Value}(h:VR S E x u):VR a E' x u:=by
 cases x with
 |undef=>trivial|eh=>exact h|Bb l=>obtain⟨d,e,f⟩:=h;exact⟨d,e,f.imp fun _ _=>VA.imp fun _ _=>VC.mono hS c⟩
 |_=>exact VR.of (h.b.imp fun _ _=>VC.mono hS c)
def a7(t:Ty)(S:Mem)(u:Value)(x:den t):Prop:=if one t=true then u7 t S [u] x else ∃a:LV,u = .agg a.toArray/\u7 t S a x
theorem a7.mono{S b:Mem}{t:Ty}{u:Value}{x:den t}(h:a7 t S u x)(hS:Mem.le S b):a7 t b u x:=by
 unfold a7 at h ⊢;split at h
 ·rename_i a;rw[zJ a];exact(Q9 t).mono h hS
 ·rename_i a;rw[zI a];obtain⟨c,e,h⟩:=h;exact⟨c,e,(Q9 t).mono h hS⟩
structure MR (S:Mem) (K V:Ty) (es:List (den K×den V)) (Q':List MapEntry):Prop where
 perm:∃l:List (den K×den V),l.Perm es/\A2 (fun p en=>a7 K S en.key p.1/\a7 V S en.val p.2) l Q'
 ne:es.Pairwise fun p q=>o5 K p.1 q.1=false
 nd:(Q'.map (·.born)).Nodup
theorem MR.mono{S a:Mem}{K V:Ty}{es:List (den K×den V)}{Q':List MapEntry}(h:MR S K V es Q')(hS:Mem.le S a):MR a K V es Q':=by obtain⟨l,b,c⟩:=h.perm;exact⟨⟨l,b,c.imp fun _ _ h=>⟨h.1.mono hS,h.2.mono hS⟩⟩,h.ne,h.nd⟩
def dc(S:Mem)(v v':Value)(n:Nat):Prop:=v'=v∨(v = .slice none 0 0/\n=0/\we S v' 0 0 []/\∃a,v' = .slice a 0 0)
def kv:(t:Ty)->den t->Value
 |.i k,x=>.int k (c6 k x)|.s,x=>str x|.pr .s .s,x=>.agg [str x.1,str x.2].toArray|_,_=>undef
def AU(E:List EI)(f g:Nat)(K:Ty)(h:Option (den K))(left:List (den K))(l ck:Nat)(seen:Array Nat):Prop:=
 Ud K=true/\∃e,E[f]? = some e/\∀i b a j,e = .mp i b a j->g<=i/\(g=i->b=l/\a=ck/\∀d∈j,(d.born∈seen↔∀k∈left,d.key≠kv K k)/\∀c,h=some c->(d.key=kv K c↔seen.back? = some d.born))
theorem AU.mono{E E':List EI}(o:V4 E E'){c g:Nat}{K:Ty}{d:Option (den K)}{left:List (den K)}{l ck:Nat}{seen:Array Nat}(h:AU E c g K d left l ck seen):AU E' c g K d left l ck seen:=by
 obtain⟨p,e,q,r⟩:=h;obtain⟨s,t,a⟩:=o _ _ q;refine⟨p,s,t,fun I b u J v=>?_⟩;subst v;cases e with
 |N'=>rcases a with a|a<;>cases a
 |H'=>rcases a with a|a|⟨_,_,a,_⟩<;>cases a
 |U4=>rcases a with a|a|⟨_,_,_,a,_⟩<;>cases a
 |dead=>cases a
 |mp M N O P=>
  obtain⟨x,y⟩:=r _ _ _ _ rfl;rcases a with a|⟨_,_,_,a,f⟩
  ·cases a
  ·cases a;rcases f with f|⟨rfl,rfl,f⟩
   ·exact⟨by omega,fun h=>by omega⟩
   ·refine⟨x,fun z=>?_⟩;obtain⟨A,C,i⟩:=y z;refine⟨A,C,fun D j=>?_⟩;obtain⟨k,F,G,H⟩:=f D j;rw[<-G,<-H];exact i k F
def Ac(S:Mem)(E:List EI):AO->Q0->EI->Prop
 |.N' T d,r,e=>∃b o,r = .N' b o T/\e = .N' b/\A2 (VC S E) d o|.H' f t T a,r,e=>∃v v' d i,r = .H' v a.length (l0 t) d i T/\e = .H' f v' (l0 t)/\RL S d a/\dc S v v' a.length|.mp g K V x,r,e=>∃b Q' ck,r = .obj b (.map (List.toArray Q') ck)/\e = .mp g b ck Q'/\MR S K V x Q'/\∀y∈Q',y.born<ck|.it j g K k left,r,e=>∃b s ck seen,r = .obj b (.mapIter (some s) ck seen ck)/\e = .N' b/\AU E j g K k left s ck seen|.is l p,r,e=>∃b,r = .obj b (wC l p)/\e = .N' b|.qu f t T a,r,e=>∃b c p u d i q h,r = .H' (sl b 0 (p+a.length) c) (p+a.length) (l0 t) (u++d) i T/\e = .H' f (sl b q a.length h) (l0 t)/\cZ u=p*l0 t/\RL S d a/\a.length<=h/\((q=p*l0 t/\c=p+h)∨h=0)|.dead,r,e=>r = .H' (.slice none 0 0) 0 0 [] [] 0/\e = .dead|.U4 _ _ _ _,_,_=>False|.wa _ _ _ _ _,_,_=>False
theorem Ac.mono{S x:Mem}{E E':List EI}(hS:Mem.le S x)(y:V4 E E'){o:AO}{r:Q0}{e:EI}(h:Ac S E o r e):Ac x E' o r e:=by
 cases o with
 |N' T l=>obtain⟨b,z,f,i,j⟩:=h;exact⟨b,z,f,i,j.imp fun _ _=>VC.mono hS y⟩
 |H' s t T A=>obtain⟨v,v',l,u,f,i,j,k⟩:=h;exact⟨v,v',l,u,f,i,j.mono hS,k.imp id fun⟨a,b,c,d⟩=>⟨a,b,c.mono hS,d⟩⟩
 |mp g K V J=>obtain⟨b,Q',ck,f,i,j,k⟩:=h;exact⟨b,Q',ck,f,i,j.mono hS,k⟩
 |it C g K D left=>obtain⟨b,F,ck,seen,f,i,j⟩:=h;exact⟨b,F,ck,seen,f,i,j.mono y⟩
 |is=>exact h|qu s t T A=>obtain⟨b,c,p,G,l,u,q,H,f,i,j,k,I⟩:=h;exact⟨b,c,p,G,l,u,q,H,f,i,j,k.mono hS,I⟩
 |dead=>exact h|U4=>exact h|wa=>exact h
def jg(S:Mem)(f:List x6)(x:den (fT f))(rs:List R0)(b:Nat):Prop:=
 ∃a:List EI,(∀c,a[0]? = some (.N' c)->c=b)/\rs.length=f.length/\a.length=f.length /\
  ∀(i:Nat) o,(w8 (f.map x6.up) (rc _ (IC f x)))[i]? = some o->∃r e,rs[i]? = some r/\a[i]? = some e/\Ac S a o r.up e
theorem jg.mono{S a:Mem}{f:List x6}{x:den (fT f)}{rs:List R0}{b:Nat}(hS:Mem.le S a)(h:jg S f x rs b):jg a f x rs b:=by obtain⟨c,d,g,j,k⟩:=h;exact⟨c,d,g,j,fun i o l=>by obtain⟨r,e,p,q,s⟩:=k i o l;exact⟨r,e,p,q,s.mono hS (V4.refl c)⟩⟩
structure XC (S:Mem) (f:List x6) (out:Option Nat) (ks:List (den (fT f))) (ms:List (List R0)) (bs:List Nat):Prop where
 l1:ms.length=ks.length
 l2:bs.length=ks.length
 mem:∀(i:Nat) x,ks[i]? = some x->out≠some i->∃rs b,ms[i]? = some rs/\bs[i]? = some b/\jg S f x rs b
 no:∀i,out=some i->ms[i]? = some []
theorem XC.mono{S a:Mem}{f:List x6}{out:Option Nat}{c:List (den (fT f))}{ms:List (List R0)}{d:List Nat}(hS:Mem.le S a)(h:XC S f out c ms d):XC a f out c ms d:=
 ⟨h.l1,h.l2,fun i x e g=>by obtain⟨j,b,k,l,o⟩:=h.mem i x e g;exact⟨j,b,k,l,o.mono hS⟩,h.no⟩
def Q7(b:Nat):Value:=.pointer (some ⟨b,0,none⟩)
def rQ(S:Mem)(a:Nat)(T:TypeId)(f:List x6)(c:List (den (fT f)))(out:Option Nat)(r:Q0)(e:EI):Prop:=
 ∃v g d b,r = .many (.H' v c.length 1 (b.map Q7) g T::d.flatten)/\e = .U4 a v b/\XC S f out c d b
def OR(S:Mem)(E:List EI):AO->Q0->EI->Prop
 |.U4 a T f b,r,e=>rQ S a T f b none r e|.wa a T f b i,r,e=>0<=i/\i.toNat<b.length/\rQ S a T f b (some i.toNat) r e|.N' T j,r,e=>Ac S E (.N' T j) r e|.H' a t T c,r,e=>Ac S E (.H' a t T c) r e|.mp g K V k,r,e=>Ac S E (.mp g K V k) r e|.it d g K h left,r,e=>Ac S E (.it d g K h left) r e|.is l p,r,e=>Ac S E (.is l p) r e|.qu a t T c,r,e=>Ac S E (.qu a t T c) r e|.dead,r,e=>Ac S E .dead r e
theorem OR.mono{S y:Mem}{E E':List EI}(hS:Mem.le S y)(a:V4 E E'){o:AO}{r:Q0}{e:EI}(h:OR S E o r e):OR y E' o r e:=by
 cases o with
 |U4=>obtain⟨v,c,d,f,i,j,k⟩:=h;exact⟨v,c,d,f,i,j,k.mono hS⟩
 |wa=>obtain⟨z,q,v,c,d,f,i,j,k⟩:=h;exact⟨z,q,v,c,d,f,i,j,k.mono hS⟩
 |N' T A=>exact Ac.mono (o:=.N' T A) hS a h|H' b t T s=>exact Ac.mono (o:=.H' b t T s) hS a h|mp g K V C=>exact Ac.mono (o:=.mp g K V C) hS a h|it u g K x left=>exact Ac.mono (o:=.it u g K x left) hS a h|is l p=>exact Ac.mono (o:=.is l p) hS a h|qu b t T s=>exact Ac.mono (o:=.qu b t T s) hS a h|dead=>exact Ac.mono (o:=.dead) hS a h
structure l3 (B:r9) (S:Mem) (E:List EI) (L:List Q0) (σ:St) (V:Nat->Value) (w:World):Prop where
 hs:HS B S w L
 lL:L.length=σ.hp.length
 lE:E.length=σ.hp.length
 obj:∀(i:Nat) o,σ.hp[i]? = some o->∃r e,L[i]? = some r/\E[i]? = some e/\OR S E o r e
 sl:∀t,VR S E (z7 σ.sl t) (V t)
abbrev Rel(n:Nat)(B:r9)(S:Mem)(E:List EI)(L:List Q0)(σ:St)(m:FM)(w:World):Prop:=l3 B S E L σ (fun t=>o0 n m (.tmp t)) w
section
variable {n:Nat}{B:r9}{S:Mem}{E:List EI}{L:List Q0}{σ:St}{m:FM}{w w':World}
theorem Rel.to(R:Rel n B S E L σ m w)(H:HS B S w' L):Rel n B S E L σ m w':=⟨H,R.lL,R.lE,R.obj,R.sl⟩
theorem Rel.put(R:Rel n B S E L σ m w){d:Nat}{x:SV}{u:Value}(h:VR S E x u)(a:cY d n=true):Rel n B S E L (σ.put d x) ((d,u)::m) w:=
 ⟨R.hs,R.lL,R.lE,R.obj,fun t=>by
  show VR S E (bif aJ d t then x else z7 σ.sl t) (bif cY t n then(bif aJ d t then u else look m t)else undef);cases b:aJ d t with
  |true=>rw[aB b]at a;rw[a];exact h|false=>exact R.sl t⟩
theorem Rel.re(R:Rel n B S E L σ m w){d:Nat}{x:SV}(h:VR S E x (o0 n m (.tmp d))):Rel n B S E L (σ.put d x) m w:=
 ⟨R.hs,R.lL,R.lE,R.obj,fun t=>by
  show VR S E (bif aJ d t then x else z7 σ.sl t) _;cases a:aJ d t with
  |true=>rw[<-aB a];exact h|false=>exact R.sl t⟩
theorem Il{c:Value}{x:SV}(h:DZ c=some x):VR S E x c:=by
 unfold DZ at h;split at h
 ·cases h;exact(rfl:u7 .b S _ _)
 ·rename_i k n;cases a:decide (c6 k (Sf k n)=n) with
  |false=>rw[a]at h;cases h
  |true=>rw[a]at h;cases h;show [Value.int k n]=[.int k (c6 k (Sf k n))];rw[zD a]
 ·cases h;exact(rfl:u7 .s S _ _)
 ·cases h;rfl
 ·cases h;rfl
 ·cases h;rfl
 ·cases h;rfl
 ·cases h;exact⟨_,rfl,.inl ⟨rfl,rfl⟩⟩
 ·cases h
theorem p7(R:Rel n B S E L σ m w){x:Operand}{a:SV}(h:ev σ x=some a):VR S E a (o0 n m x):=by
 cases x with
 |tmp t=>cases h;exact R.sl t
 |const c=>exact Il h|func f=>cases h;exact⟨[],[],rfl,.nil,.nil⟩
 |global g=>cases h
end
end Go.Proofs.YtopanhneegpgcaaGreatDoor.Am
