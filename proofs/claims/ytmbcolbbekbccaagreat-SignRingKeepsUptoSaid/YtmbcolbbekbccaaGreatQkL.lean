/- Parts of one proof. Conditions: as each theorem says. -/
import Derived.Maps.RangeRun
import Derived.Test.YtmbcolbbekbccaaGreatQkK
open Bool renaming and_eq_true->aK,not_eq_true->eL,or_eq_false_iff->cY,or_eq_true->cJ
open List renaming all_cons->cO,append_assoc->bG,cons_append->bN,eq_nil_of_length_eq_zero->aU,getElem?_append_left->aF,getElem?_append_right->aH,getElem?_eq_getElem->aI,getElem?_eq_some_iff->aC,getElem?_map->bI,getElem?_set_ne->aM,getElem?_set_self->aL,length_nil->aV,map_cons->bS,mem_cons->aT,mem_cons_of_mem->aS,mem_cons_self->bC,pairwise_cons->dR,toArray->dG
open Nat renaming beq->aG,beq_refl->dX,eq_of_beq_eq_true->aB,le_refl->aJ,mul_le_mul_right->cE,zero_le->bX
open Option renaming bind->aA
namespace Go.Proofs.YtmbcolbbekbccaaGreat.Am
open Go Go.RowKit
theorem A2.mem_l{α γ:Type}{R:α->γ->Prop}:∀{l:List α} {m:List γ},A2 R l m->∀a∈l,∃b∈m,R a b
 |_,_,.nil,b,h=>by cases h
 |_,_,.cons a t,b,h=>by
  rcases aT.1 h with rfl|h
  ·exact⟨_,bC,a⟩
  ·obtain⟨x,h1,h2⟩:=A2.mem_l t b h;exact⟨x,aS _ h1,h2⟩
theorem yiD:∀{k:IntKind} {x y:den (.i k)},toI k x=toI k y->x=y
 |.u8,x,y,h=>UInt8.toNat_inj.1 (Int.ofNat.inj h)|.u16,x,y,h=>UInt16.toNat_inj.1 (Int.ofNat.inj h)|.u32,x,y,h=>UInt32.toNat_inj.1 (Int.ofNat.inj h)|.u64,x,y,h=>UInt64.toNat_inj.1 (Int.ofNat.inj h)|.i8,_,_,h=>h|.i16,_,_,h=>h|.i32,_,_,h=>h|.i64,_,_,h=>h
theorem yxV{d:TD}{K:Ty}(h:kTs d K=true):kOk K=true:=by cases d<;>cases K<;>first|rfl|cases h
theorem kOk_of{τ:TE}{d:TD}{K:Ty}(h:kTd τ d K=true):kOk K=true:=by
 unfold kTd at h;split at h
 ·rfl
 ·exact yxV h
theorem ycG{a b:Bs}(h:str a=str b):a=b:=by have h:Value.string ⟨a.toArray⟩ = .string ⟨b.toArray⟩:=h;injection h with h;injection h with h;injection h
theorem zzK:∀{K:Ty},kOk K=true->∀{a b:den K},kv K a=kv K b->a=b
 |.i k,_,a,b,h=>by have h:Value.int k (toI k a) = .int k (toI k b):=h;injection h with _ h;exact yiD h
 |.s,_,a,b,h=>by have h:str a=str b:=h;exact ycG h
 |.pr .s .s,_,a,b,h=>by have h:Value.agg [str a.1,str a.2].toArray = .agg [str b.1,str b.2].toArray:=h;injection h with h;have h:=List.toArray_inj h;injection h with h1 h2;injection h2 with h2;exact Prod.ext (ycG h1) (ycG h2)
theorem A2.at_r{α γ:Type}{R:α->γ->Prop}:∀{l:List α} {m:List γ} {i:Nat} {b:γ},A2 R l m->m[i]? = some b->∃a,l[i]? = some a/\R a b
 |_,_,_,_,.nil,h=>by simp at h
 |_,_,0,_,.cons a _,h=>by simp at h;subst h;exact⟨_,rfl,a⟩
 |_,_,i+1,_,.cons _ t,h=>by obtain⟨a,h1,h2⟩:=A2.at_r (i:=i) t (by simpa using h);exact⟨a,by simpa using h1,h2⟩
theorem zhO:∀{K:Ty},kOk K=true->∀{a b:den K},keq K a b=true↔a=b
 |.i k,_,a,b=>by show decide (toI k a=toI k b)=true↔_;rw[decide_eq_true_iff];exact⟨yiD,fun h=>by rw[h]⟩
 |.s,_,a,b=>by show @BEq.beq Bs _ a b=true↔_;exact beq_iff_eq
 |.pr .s .s,_,a,b=>by
  have key:∀a b:Bs×Bs,(a.1==b.1&&a.2==b.2)=true↔a=b:=fun a b=>by rw[aK,beq_iff_eq,beq_iff_eq];exact⟨fun h=>Prod.ext h.1 h.2,fun h=>by rw[h];exact⟨rfl,rfl⟩⟩
  exact key a b
theorem zkY{K:Ty}(hK:kOk K=true){a b:den K}:keq K a b=false↔a≠b:=by rw[<-eL,zhO hK]
theorem zsY{S:Mem}:∀{K:Ty},kOk K=true->∀{u:Value} {x:den K},rep1 K S u x->u=kv K x
 |.i k,_,u,x,h=>by have h:[u]=[Value.int k (toI k x)]:=h;injection h
 |.s,_,u,x,h=>by have h:[u]=[str x]:=h;injection h
 |.pr .s .s,_,u,x,h=>by have h:∃cs:LV,u = .agg cs.toArray/\∃c1 c2,cs=c1++c2/\c1=[str x.1]/\c2=[str x.2]:=h;obtain⟨_,rfl,_,_,rfl,rfl,rfl⟩:=h;rfl
theorem of_kv{S:Mem}:∀{K:Ty},kOk K=true->∀{x:den K},rep1 K S (kv K x) x
 |.i k,_,x=>(rfl:[_]=[_])|.s,_,x=>(rfl:[_]=[_])|.pr .s .s,_,x=>⟨[str x.1,str x.2],rfl,[str x.1],[str x.2],rfl,rfl,rfl⟩
section
variable {γ:Type}{K:Ty}
theorem yqX(hK:kOk K=true):∀{es:List (den K×γ)} {k:den K} {v:γ},mget (keq K) es k=some v->(k,v)∈es
 |q::es,k,v,h=>by
  unfold mget at h;cases hb:keq K q.1 k with
  |true=>rw[hb]at h;cases h;rw[<-(zhO hK).1 hb];exact bC
  |false=>rw[hb]at h;exact aS _ (yqX hK h)
theorem ylR(hK:kOk K=true):∀{es:List (den K×γ)} {p:den K×γ},es.Pairwise (fun p q=>keq K p.1 q.1=false)->p∈es->mget (keq K) es p.1=some p.2
 |q::es,p,hp,hm=>by
  unfold mget;rcases aT.1 hm with rfl|hm
  ·rw[(zhO hK).2 rfl];rfl
  ·have h1:=(dR.1 hp).1 p hm;rw[h1];exact ylR hK (dR.1 hp).2 hm
theorem zvZ(hK:kOk K=true):∀{es:List (den K×γ)} {k:den K},mhas (keq K) es k=true↔∃p∈es,p.1=k
 |[],k=>by simp[mhas]
 |q::es,k=>by unfold mhas;rw[cJ,zhO hK,zvZ hK];simp
theorem ygJ(hK:kOk K=true):∀{es:List (den K×γ)} {k:den K},mhas (keq K) es k=false->mget (keq K) es k=none
 |[],_,_=>rfl|q::es,k,h=>by unfold mhas at h;rw[cY]at h;unfold mget;rw[h.1];exact ygJ hK h.2
end
section
variable {P:Program}{S:Mem}{K V:Ty}{w:World}
theorem ba_eq(a b:Bs):((⟨a.toArray⟩:ByteArray)==⟨b.toArray⟩)=(a==b):=by show(a.toArray==b.toArray)=_;simp
theorem ynK{kd:TypeDesc}(hK:kTs (tdo kd) K=true)(x y:den K):Instr.sameNow kd (kv K x) (kv K y)=some (keq K y x):=by
 have hk:=yxV hK
 have hb:∀b:Bool,(b=true↔y=x)->b=keq K y x:=fun b h=>by
  cases hh:keq K y x with
  |true=>rw[h.2 ((zhO hk).1 hh)]|false=>cases hb:b with
   |false=>rfl|true=>exact absurd (h.1 hb) ((zkY hk).1 hh)
 cases K with
 |i k=>
  cases kd<;>first|(cases hK;done)|skip
  simp only[Instr.sameNow,kv,if_true];rw[hb (toI k x==toI k y) (by rw[beq_iff_eq];exact⟨fun h=>(yiD h).symm,fun h=>by rw[h]⟩)]
 |s=>
  cases kd<;>first|(cases hK;done)|skip
  have hb':∀x y:Bs,(x==y)=true↔y=x:=fun x y=>by rw[beq_iff_eq];exact eq_comm
  show some ((⟨dG (show Bs from x)⟩:ByteArray)==⟨dG (show Bs from y)⟩)=_;rw[ba_eq,hb _ (hb' _ _)]
  --, hb _ (by rw [beq_iff_eq]; exact eq_comm)]
 |pr a c=>cases kd<;>cases a<;>cases c<;>cases hK
 |_=>cases hk
inductive Fnd (K V:Ty) (k:den K) (l:List (den K×den V)) (ents:List MapEntry) (i:Nat):Option (Nat×Value)->Prop
 |no:(∀p∈l,p.1≠k)->Fnd K V k l ents i none
 |yes {j p en}:l[j]? = some p->ents[j]? = some en->p.1=k->Fnd K V k l ents i (some (i+j,en.val))
inductive FndK (K:Ty) (k:den K) (ents:List MapEntry) (i:Nat):Option (Nat×Value)->Prop
 |no:(∀en∈ents,en.key≠kv K k)->FndK K k ents i none
 |yes {j en}:ents[j]? = some en->en.key=kv K k->FndK K k ents i (some (i+j,en.val))
theorem FndK.cons{k:den K}{en:MapEntry}{ents:List MapEntry}{i:Nat}{o:Option (Nat×Value)}(h:FndK K k ents (i+1) o)(hn:en.key≠kv K k):FndK K k (en::ents) i o:=by
 cases h with
 |no h=>exact .no fun q hq'=>(aT.1 hq').elim (fun e=>e▸hn) (h q)
 |yes h3 h4=>rename_i j en';rw[show i+1+j=i+(j+1) by omega];exact .yes (by simpa using h3) h4
theorem zzV{kd:TypeDesc}(hK:kTs (tdo kd) K=true)(k:den K):∀(ents:List MapEntry) (i:Nat),(∀en∈ents,∃x:den K,en.key=kv K x)->∃o,Instr.findNow kd (kv K k) ents i=some o/\FndK K k ents i o
 |[],i,_=>⟨none,rfl,.no (by simp)⟩|en::ents,i,h=>by
  have hk:=yxV hK;obtain⟨x,hx⟩:=h en bC;unfold Instr.findNow;rw[hx,ynK hK];cases hq:keq K x k with
  |true=>exact⟨some (i,en.val),rfl,.yes (j:=0) rfl (by rw[hx,(zhO hk).1 hq])⟩|false=>obtain⟨o,h1,h2⟩:=zzV hK k ents (i+1) fun e he=>h e (aS _ he);exact⟨o,h1,h2.cons (by rw[hx];exact fun e=>(zkY hk).1 hq (zzK hk e))⟩
theorem zzQ{Kt:TypeId}(hk:kOk K=true)(hE:∀(x y:den K) w,(Op.equal Kt (kv K x) (kv K y)).run P w = .ok (keq K x y) w)(k:den K):∀(ents:List MapEntry) (i:Nat),(∀en∈ents,∃x:den K,en.key=kv K x)->∃o,(∀w,(Instr.findAsking Kt (kv K k) ents i).run P w = .ok o w)/\FndK K k ents i o
 |[],i,_=>⟨none,fun w=>rfl,.no (by simp)⟩|en::ents,i,h=>by
  obtain⟨x,hx⟩:=h en bC;cases hq:keq K k x with
  |true=>have e:=(zhO hk).1 hq;refine⟨some (i,en.val),fun w=>?_,.yes (j:=0) rfl (by rw[hx,e])⟩;simp[Instr.findAsking,hx,hE,hq]|false=>obtain⟨o,h1,h2⟩:=zzQ hk hE k ents (i+1) fun e he=>h e (aS _ he);exact⟨o,fun w=>by simp[Instr.findAsking,hx,hE,hq,h1],h2.cons (by rw[hx];exact fun e=>(zkY hk).1 hq (zzK hk e).symm)⟩
structure KeyP (P:Program) (Kt:TypeId) (K:Ty):Prop where
 ok:kOk K=true
 ck:∀(e:Bool) (k:den K) w,(Instr.checkKey e 10000 Kt (kv K k)).run P w = .ok () w
 fk:∀(k:den K) (ents:List MapEntry),(∀en∈ents,∃x:den K,en.key=kv K x)->∃o,(∀w,(Instr.findKey Kt (kv K k) ents).run P w = .ok o w)/\FndK K k ents 0 o
theorem keyP_s{Kt:TypeId}{kd:TypeDesc}(hk:P.underlying Kt=some kd)(hK:kTs (tdo kd) K=true):KeyP P Kt K:=by
 refine⟨yxV hK,fun e k w=>?_,fun k ents h=>?_⟩
 ·have hc0:∀d e,(Instr.checkKey e (d+1) Kt (kv K k)).run P w = .ok () w:=fun d e=>by
   cases K with
   |pr a c=>cases kd<;>cases a<;>cases c<;>cases hK
   |_=>cases kd<;>first|(cases hK;done)|(simp[Instr.checkKey,Go.underlying,hk,kv,str])
  exact hc0 9999 _
 ·obtain⟨o,h1,h2⟩:=zzV hK k ents 0 h;exact⟨o,fun w=>by simp[Instr.findKey,Go.underlying,hk,h1],h2⟩
theorem yrX{τ:TE}(hτ:TEok P τ){F:TypeId}(h:isSt τ F=true):P.underlying F=some .string/\TOne P F:=by
 unfold isSt at h;split at h
 ·rename_i hf;have hF:=hτ _ _ hf;exact⟨hF.str rfl,hF.tone rfl (hF.one1 rfl)⟩
 ·cases h
theorem ygK{τ:TE}(hτ:TEok P τ){Kt:TypeId}{kt:TI}(hk:tyAt τ Kt=some kt)(h:kTd τ kt.td K=true):KeyP P Kt K:=by
 have hF:=hτ _ _ hk;unfold kTd at h;split at h
 ·rename_i F H htd;obtain⟨f1,f2⟩:=yrX hτ (zaT h);obtain⟨g1,g2⟩:=yrX hτ (zaW h);obtain⟨a,k1,k2⟩:=hF.st htd;obtain⟨k3,k4,_⟩:=hF.eqs htd rfl k1
  have hE:∀(x y:den (.pr .s .s)) w,(Op.equal Kt (kv (.pr .s .s) x) (kv (.pr .s .s) y)).run P w = .ok (keq (.pr .s .s) x y) w:=fun x y w=>by
   have h1:EqR P 2 Kt (.agg [str x.1,str x.2].toArray) (.agg [str y.1,str y.2].toArray) (keq (.pr .s .s) x y):=
    EqR.str k1 k3 k4 k2 (.cons (zmQ f2 rfl) (zmQ f2 rfl) (eqS f1) (EqL.last (zmQ g2 rfl) (zmQ g2 rfl) (eqS g1)))
   exact h1 9998 w
  refine⟨rfl,fun e k w=>?_,fun k ents h=>?_⟩
  ·have hn : ∀ f ∈ a.toList, f.name ≠ "_" := fun f hf => by simpa using List.all_eq_true.1 k4 f hf
   obtain⟨p,q,ha⟩:∃p q,a = #[p,q]:=by
    have hl:=congrArg List.length k2;obtain⟨l⟩:=a
    match l,hl with
    |[p,q],_=>exact⟨p,q,rfl⟩
   subst ha;simp only[bS,List.map_nil,List.cons.injEq,Prod.mk.injEq,and_true]at k2;obtain⟨⟨p1,p2⟩,q1,q2⟩:=k2;have e1:=hn p (by simp);have e2:=hn q (by simp);have c1:∀d (s:Bs),(Instr.checkKey e (d+1) F (str s)).run P w = .ok () w:=fun d s=>by simp[Instr.checkKey,Go.underlying,f1,str]
   have c2:∀d (s:Bs),(Instr.checkKey e (d+1) H (str s)).run P w = .ok () w:=fun d s=>by simp[Instr.checkKey,Go.underlying,g1,str]
   have key:∀d (x y:Bs),(Instr.checkKey e (d+1+1) Kt (.agg [str x,str y].toArray)).run P w = .ok () w:=fun d x y=>by have d1:=zmQ (P:=P) (l:=[str x,str y]) f2 (o:=0) rfl w;have d2:=zmQ (P:=P) (l:=[str x,str y]) g2 (o:=1) rfl w;unfold Instr.checkKey;simp[Go.underlying,k1,e1,e2,p1,p2,q1,q2,d1,d2,c1,c2]
   exact key 9998 (show Bs×Bs from k).1 (show Bs×Bs from k).2
  ·cases ents with
   |nil=>exact⟨none,fun w=>by simp[Instr.findKey,Go.underlying,k1,Instr.findNow],.no (by simp)⟩|cons en ents=>
    obtain⟨o,h1,h2⟩:=zzQ (K:=.pr .s .s) rfl hE k (en::ents) 0 h;obtain⟨x,hx⟩:=h en bC;refine⟨o,fun w=>?_,h2⟩;have hno:Instr.findNow (.struct a) (kv (.pr .s .s) k) (en::ents) 0=none:=by unfold Instr.findNow;rw[hx];rfl
    simp[Instr.findKey,Go.underlying,k1,hno,h1]
 ·obtain⟨kd,h1,h2⟩:=hF.d;exact keyP_s h1 (by rw[h2];exact h)
theorem find_ok{Kt:TypeId}(hK:KeyP P Kt K)(k:den K){l:List (den K×den V)}{ents:List MapEntry}(hA:A2 (fun p en=>rep1 K S en.key p.1/\rep1 V S en.val p.2) l ents):∃o,(∀w,(Instr.findKey Kt (kv K k) ents).run P w = .ok o w)/\Fnd K V k l ents 0 o:=by
 have hkey:∀en∈ents,∃x:den K,en.key=kv K x:=fun en he=>by obtain⟨i,hi,rfl⟩:=List.mem_iff_getElem.1 he;obtain⟨p,_,hp⟩:=A2.at_r hA (aI hi);exact⟨p.1,zsY hK.ok hp.1⟩
 obtain⟨o,h1,h2⟩:=hK.fk k ents hkey;refine⟨o,h1,?_⟩;cases h2 with
 |no h=>refine .no fun p hp e=>?_;obtain⟨en,he,h3⟩:=A2.mem_l hA p hp;exact h en he (by rw[zsY hK.ok h3.1,e])
 |yes h3 h4=>obtain⟨p,hp,h5⟩:=A2.at_r hA h3;exact .yes hp h3 (zzK hK.ok (by rw[<-zsY hK.ok h5.1,h4]))
theorem MR.fnd(hK:kOk K=true){es:List (den K×den V)}{ents:List MapEntry}{l:List (den K×den V)}{k:den K}{o:Option (Nat×Value)}(hl:l.Perm es)(hne:es.Pairwise fun p q=>keq K p.1 q.1=false)(hA:A2 (fun p en=>rep1 K S en.key p.1/\rep1 V S en.val p.2) l ents)(h:Fnd K V k l ents 0 o)(z:Value)(zd:den V)(hz:rep1 V S z zd):
  mhas (keq K) es k=o.isSome/\rep1 V S ((o.map (·.2)).getD z) (yhT (keq K) es k zd):=by
 cases h with
 |no h=>
  have h1:mhas (keq K) es k=false:=by rw[<-eL,zvZ hK];rintro⟨p,hp,e⟩;exact h p (hl.mem_iff.2 hp) e
  refine⟨h1,?_⟩;unfold yhT;rw[ygJ hK h1];exact hz
 |yes h1 h2 h3=>rename_i j p en;have hp:p∈es:=hl.mem_iff.1 (List.mem_of_getElem? h1);refine⟨(zvZ hK).2 ⟨p,hp,h3⟩,?_⟩;unfold yhT;rw[<-h3,ylR hK hne hp];obtain⟨en',h4,h5⟩:=hA.at (n:=j) (a:=p) (by rw[zcT];exact h1);rw[h2]at h4;cases h4;exact h5.2
theorem ynI{T Kt Vt:TypeId}{b ck:Nat}{ents:List MapEntry}{z:Value}{k:den K}{o:Option (Nat×Value)}{ok:Bool}(hu:P.underlying T=some (.map Kt Vt))(hK:KeyP P Kt K)(hz:zoQ P Vt z)(hh:w.heap[b]? = some (.map ents.toArray ck))(hf:∀w,(Instr.findKey Kt (kv K k) ents).run P w = .ok o w):(Instr.lookup T (.map (some b)) (kv K k) ok).run P w = .ok (if ok then .tuple #[(o.map (·.2)).getD z,.bool o.isSome]else(o.map (·.2)).getD z) w:=by
 have hg:(getObj b).run P w = .ok (.map ents.toArray ck) w:=zqD hh;have hc:=hK.ck ents.isEmpty k w;have hff:=hf w;cases o with
 |none=>cases ok<;>simp[Instr.lookup,Go.underlying,hu,hg,hc,hff,hz w]
 |some p=>cases ok<;>simp[Instr.lookup,Go.underlying,hu,hg,hc,hff]
end
section
variable {β:Type}{τ:TE}{n:Nat}{P:Program}{B:Bas}{S:Mem}{E:List EI}{L:List Res}{σ:St}{m:FM}{w:World}{dst:Option Tmp}{g:Option (Nat×Bool)}{ty:TypeId}{pos:String}{aft:Array Edge}{a b x y:Operand}{T T':TypeId}{k:SV->Option β}{r:β}
theorem subH0{α:Type}(xs:List α):subH xs 0=some []:=by simp[subH]
theorem zmI(R:Rel n B S E L σ m w){lo:Option Operand}{a:Option Int}(h:optI σ lo=some a):(lo=none/\a=none)∨∃x q c,lo=some x/\a=some c/\evO n m x = .int q c:=by
 cases lo with
 |none=>cases h;exact .inl ⟨rfl,rfl⟩
 |some x=>
  simp only[optI]at h;split at h
  ·rename_i q a' hx;cases h;exact .inr ⟨x,q,_,rfl,rfl,vI (zbM R hx)⟩
  ·cases h
theorem xeB{lo hi:Option Operand}{p q:Option Int}{l:Bs}{k:SV->Option β}(R:Rel n B S E L σ m w)(hu:P.underlying T=some .string)(hx:evO n m a=str l)(hlo:optI σ lo=some p)(hhi:optI σ hi=some q)(h:(aA (subO l p q) fun r=>k (.v .s r))=some r):
  Ok1 P S E (evO n m) ⟨dst,.slice T a lo hi none,ty,pos,aft,g⟩ k r (fun w'=>HS B S w' L):=by
 obtain⟨r',h1,h2⟩:=bnd h;refine⟨_,_,h2,sV _,fun w' _=>?_⟩;rcases zmI R hlo with⟨rfl,rfl⟩|⟨x1,q1,c1,rfl,rfl,e1⟩
 ·rcases zmI R hhi with⟨rfl,rfl⟩|⟨x2,q2,c2,rfl,rfl,e2⟩
  ·cases h1;have he:(⟨l.toArray⟩:ByteArray).extract 0 l.length=⟨l.toArray⟩:=by rw[zjG];simp
   simp[execOp,Instr.sliceAt,Instr.slice,Go.underlying,hu,hx,str,Instr.sliceBounds]
  ·obtain⟨h3,h4,h5⟩:=zdP h1;exact ztG hu hx e2 h3 h4 h5
 ·rcases zmI R hhi with⟨rfl,rfl⟩|⟨x2,q2,c2,rfl,rfl,e2⟩
  ·obtain⟨h3,h4,h5⟩:=zfR h1;exact zwS hu hx e1 h3 h4 h5
  ·obtain⟨h3,h4,h5,h6,h7⟩:=zkU h1;exact ztB hu hx e1 e2 h3 h4 h5 h6 h7
theorem zyI{lo hi:Option Operand}{p q:Option Int}{e:Ty}{f:TI}{E':TypeId}{xs:List (den e)}{k:SV->Option β}(R:Rel n B S E L σ m w)(hu:P.underlying T=some (.slice E'))(hE:TIok P E' f)(hs:f.sz=tsz e)(hx:@RdS (den e) (rpD e) S (evO n m a) xs)(hlo:optI σ lo=some p)(hhi:optI σ hi=some q)(h:(aA (subO xs p q) fun r=>k (.v (.sl e) r))=some r):
  Ok1 P S E (evO n m) ⟨dst,.slice T a lo hi none,ty,pos,aft,g⟩ k r (fun w'=>HS B S w' L):=by
 obtain⟨r',h1,h2⟩:=bnd h;have hts:TSz P E' (tsz e):=by rw[<-hs];exact hE.tsz
 have hrs:Rp.sz (den e)=tsz e:=zgX e;rcases zmI R hlo with⟨rfl,rfl⟩|⟨x1,q1,c1,rfl,rfl,e1⟩
 ·rcases zmI R hhi with⟨rfl,rfl⟩|⟨x2,q2,c2,rfl,rfl,e2⟩
  ·cases h1;refine⟨_,subN (evO n m a) (tsz e) 0 xs.length,h2,?_,fun w' H=>?_⟩
   ·have:=hx.sub (bX _) (aJ xs.length);rw[List.take_length,List.drop_zero,hrs]at this;exact⟨_,rfl,this⟩
   ·obtain⟨cs,k1,_⟩:=hx;rcases k1 with⟨⟨a0,k1⟩,k2,_⟩|⟨b',o,c,ds,T',fz,k1,k3,_⟩
    ·simp[execOp,Instr.sliceAt,Go.underlying,hu,Instr.slice,Instr.sliceBounds,k1,hts w',subN,k2]
    ·simp[execOp,Instr.sliceAt,Go.underlying,hu,Instr.slice,Instr.sliceBounds,k1,sl,hts w',subN]
  ·obtain⟨h3,h4,h5⟩:=zdP h1;refine⟨_,_,h2,⟨_,rfl,hx.subH h1 hrs⟩,fun w' H=>yjV hu hts rfl e2 h3 hx h4⟩
 ·rcases zmI R hhi with⟨rfl,rfl⟩|⟨x2,q2,c2,rfl,rfl,e2⟩
  ·obtain⟨h3,h4,h5⟩:=zfR h1;refine⟨_,_,h2,⟨_,rfl,hx.subL h1 hrs⟩,fun w' H=>yrD hu hts rfl e1 h3 hx h4⟩
  ·obtain⟨h3,h4,h5,h6,h7⟩:=zkU h1;refine⟨_,_,h2,⟨_,rfl,hx.subLH h1 hrs⟩,fun w' H=>yqL hu hts rfl e1 e2 h3 h4 hx h5 h6⟩
theorem r_subR{α:Type}[Rp α]{e:Operand->Value}{v:Value}{x hi:Operand}{E:TypeId}{xs:List α}{sz h n:Nat}{a:Int}{q:IntKind}(hu:P.underlying T=some (.slice E))(hs:TSz P E sz)(hx:e x=subN v sz 0 n)(hy:e hi = .int q a)(ha:a=(h:Int))(hr:RdS S v xs)(hh:h<=xs.length):(execOp e ⟨dst,.slice T x none (some hi) none,ty,pos,aft,g⟩).run P w = .ok (.value (subN v sz 0 h)) w:=by
 obtain⟨cs,h1,_⟩:=hr;rcases h1 with⟨⟨a0,rfl⟩,h2,_⟩|⟨b',o,c,ds,T',fz,rfl,h3,_⟩
 ·obtain rfl:h=0:=by omega
  simp[execOp,Instr.sliceAt,Go.underlying,hu,Instr.slice,Instr.sliceBounds,hx,hy,zbB ha (aJ _),hs w,subN]
 ·by_cases hc:c=0
  ·obtain rfl:h=0:=by omega
   simp[execOp,Instr.sliceAt,Go.underlying,hu,Instr.slice,Instr.sliceBounds,hx,hy,zbB ha (bX _),hs w,subN,hc]
  ·simp[execOp,Instr.sliceAt,Go.underlying,hu,Instr.slice,Instr.sliceBounds,hx,hy,zbB ha (Nat.le_trans hh h3),hs w,subN,hc,Addr.add]
theorem op1r_ok{hi:Operand}(hτ:TEok P τ)(R:Rel n B S E L σ m w)(h:op1r τ σ T a hi k=some r):
  Ok1 P S E (evO n m) ⟨dst,.slice T a none (some hi) none,ty,pos,aft,g⟩ k r (fun w'=>HS B S w' L):=by
 unfold op1r at h;split at h
 ·rename_i b' E' z1 z2 z3 z4 hhi hT;split at h
  ·rename_i f e xs hE hx;obtain⟨hs,h⟩:=zaJ h;have hs:=aB hs;obtain⟨v,hv,hrd⟩:=zbM R hx;injection hv with hv;obtain⟨r',h1,h2⟩:=bnd h;obtain⟨h3,h4,h5⟩:=zdP h1;have hts:TSz P E' (tsz e):=by rw[<-hs];exact(hτ _ _ hE).tsz
   rcases zmI R hhi with⟨hn,_⟩|⟨x2,q2,c2,hx2,hc2,e2⟩
   ·cases hn
   ·cases hx2;cases hc2;exact⟨_,_,h2,⟨v,hrd,h4,rfl⟩,fun w' H=>yjV (S:=S) (xs:=xs) ((hτ _ _ hT).sl rfl) hts hv e2 h3 hrd h4⟩
  ·cases h
 ·cases h
theorem xfN{lo hi:Option Operand}{p q:Option Int}{e:Ty}{f:TI}{E':TypeId}{N:Nat}{xs:List (den e)}{k:SV->Option β}(R:Rel n B S E L σ m w)(hu:P.underlying T=some (.slice E'))(hE:TIok P E' f)(hs:f.sz=tsz e)(hx:VB S E (.rm e N xs) (evO n m a))(hlo:optI σ lo=some p)(hhi:optI σ hi=some q) (h:(aA (subM xs N p q) fun r=>k (.v (.sl e) r))=some r):
  Ok1 P S E (evO n m) ⟨dst,.slice T a lo hi none,ty,pos,aft,g⟩ k r (fun w'=>HS B S w' L):=by
 obtain⟨v,h1,h2,h3⟩:=hx;have hrd:=ymW h1 h2;rw[<-h3]at hrd;rcases zmI R hlo with⟨rfl,rfl⟩|⟨x1,q1,c1,rfl,rfl,e1⟩
 ·rcases zmI R hhi with⟨rfl,rfl⟩|⟨x2,q2,c2,rfl,rfl,e2⟩
  ·exact zyI R hu hE hs hrd hlo hhi h
  ·obtain⟨r',k1,k2⟩:=bnd h;obtain⟨h4,h5,h6⟩:=zdP (show subH xs c2=some r' from k1);have hts:TSz P E' (tsz e):=by rw[<-hs];exact hE.tsz
   exact⟨_,_,k2,⟨_,rfl,h1.subH (show subH xs c2=some r' from k1) (zgX e)⟩,fun w' H=>r_subR (S:=S) (xs:=xs) hu hts h3 e2 h4 h1 h5⟩
 ·exact zyI R hu hE hs hrd hlo hhi h
theorem yhI{hi mx:Operand}{q q':IntKind}{p p':Int}{e:Ty}{f:TI}{xs r':List (den e)}{z:SV}{k:SV->Option β}(hτ:TEok P τ)(_R:Rel n B S E L σ m w)(hE:elemAt τ T=some f)(hs:f.sz=tsz e)(hx:@RdS (den e) (rpD e) S (evO n m a) xs)(hhi:evO n m hi = .int q p)(hmx:evO n m mx = .int q' p')(hp:p=p')(h1:subH xs p=some r') (hz:z = .cl e r'∨(z = .emp/\p=0)) (h:k z=some r):Ok1 P S E (evO n m) ⟨dst,.slice T a none (some hi) (some mx),ty,pos,aft,g⟩ k r (fun w'=>HS B S w' L):=by
 subst hp;obtain⟨E',hu,hE⟩:=zpR hτ hE;have hts:TSz P E' (tsz e):=by rw[<-hs];exact hE.tsz
 obtain⟨h3,h4,h5⟩:=zdP h1;have hrs:Rp.sz (den e)=tsz e:=zgX e;have hl:r'.length=p.toNat:=by rw[<-h5,List.length_take];omega
 -- the value
 have main:∃u,(∃ad,u=Value.slice ad p.toNat p.toNat)/\@RdS (den e) (rpD e) S u r'/\∀w',(execOp (evO n m) ⟨dst,.slice T a none (some hi) (some mx),ty,pos,aft,g⟩).run P w' = .ok (.value u) w':=by
  obtain⟨cs,k1,k2⟩:=hx;rcases k1 with⟨⟨a0,k1⟩,k3,k4⟩|⟨b',o,c,ds,T',fz,k1,k3,k4,k5,k6⟩
  ·have h0:p.toNat=0:=by omega
   have hr':r'=[]:=aU (by omega);subst hr';refine⟨.slice a0 0 0,⟨a0,by rw[h0]⟩,⟨[],.inl ⟨⟨a0,rfl⟩,rfl,rfl⟩,rfl⟩,fun w'=>?_⟩;have hp0:p=((0:Nat):Int):=by omega
   simp[execOp,Instr.sliceAt,Go.underlying,hu,Instr.slice,Instr.sliceBounds,k1,hhi,hmx,zbB (P:=P) (w:=w') hp0 (aJ _),hts w']
  ·have hc:p.toNat<=c:=by omega
   refine⟨.slice (some (if p.toNat=0 then⟨b',o,none⟩else(⟨b',o,none⟩:Addr).add 0)) p.toNat p.toNat,⟨_,rfl⟩,?_,fun w'=>?_⟩
   ·refine⟨cs.take (p.toNat*tsz e),.inr ⟨b',o,p.toNat,ds,T',fz,?_,by omega,k4,?_,?_⟩,?_⟩
    ·rw[hl];simp only[sl];split<;>simp[Addr.add]
    ·rw[hl,hrs];rw[hrs]at k5;have:=cE (tsz e) h4;omega
    ·rw[hl,hrs,<-k6,zaL,zaL,List.take_take,hrs];congr 1;exact(Nat.min_eq_left (cE (tsz e) h4)).symm
    ·have:=k2.take p.toNat;rw[hrs,h5]at this;exact this
   ·by_cases h0:p.toNat=0
    ·have hp0:p=((0:Nat):Int):=by omega
     simp[execOp,zbB (P:=P) (w:=w') hp0 (aJ 0),zbB (P:=P) (w:=w') hp0 (bX c),Instr.sliceAt,Go.underlying,hu,Instr.slice,Instr.sliceBounds,k1,sl,hhi,hmx,hts w',h0]
    ·simp[execOp,Instr.sliceAt,Go.underlying,hu,Instr.slice,Instr.sliceBounds,k1,sl,hhi,hmx,zbB (P:=P) (w:=w') h3 hc,zbB (P:=P) (w:=w') h3 (aJ _),hts w',h0]
 obtain⟨u,⟨ad,hu1⟩,hrd,hrun⟩:=main;refine⟨z,u,h,?_,fun w' _=>hrun w'⟩;rcases hz with rfl|⟨rfl,rfl⟩
 ·exact⟨hrd,ad,by rw[hu1,hl]⟩
 ·have hr':r'=[]:=aU (by rw[hl];rfl);subst hr';refine⟨?_,ad,hu1⟩;obtain⟨cs,k1,_⟩:=hrd;rcases k1 with⟨k1,_⟩|⟨b',o,c,ds,T',fz,k1,k3,k4,k5,k6⟩
  ·exact .inl ⟨k1,rfl,rfl⟩
  ·exact .inr ⟨b',o,c,ds,T',fz,k1,k3,k4,by simp only[aV]at k5;omega,by simp[piece]⟩
theorem ypL(R:Rel n B S E L σ m w){id ver:Nat}{e:Ty}{T':TypeId}{xs:List (den e)}{u:Value}(hc:atN σ.hp id=some (.osl ver e T' xs))(hx:VB S E (.own id ver) u):∃cs,RL S cs xs/\∀w',HS B S w' L->SlW w' u xs.length (tsz e) cs:=by obtain⟨r0,e0,g1,g2,v,v',cs,rs,rfl,rfl,g3,hsm⟩:=R.objN hc;obtain⟨h7,e0,h8,h9⟩:=hx;rw[g2]at h8;cases h8;have hu:=(h9 _ _ _ rfl).2 rfl;subst hu;exact⟨cs,g3,fun w' H=>hsm.slW H.sub (H.slW g1)⟩
theorem ywL{hi mx:Operand}{q q':IntKind}{p p':Int}{f:TI}{T0:TypeId}{N0:Nat}{k:SV->Option β}(hτ:TEok P τ)(hE:elemAt τ T=some f)(hx:VR S E (.v (.jk T0) N0) (evO n m a))(hhi:evO n m hi = .int q p)(hmx:evO n m mx = .int q' p')(hp:p=(N0:Int))(hp':p'=(N0:Int)) (h:k (.v (.jk T0) N0)=some r):Ok1 P S E (evO n m) ⟨dst,.slice T a none (some hi) (some mx),ty,pos,aft,g⟩ k r (fun w'=>HS B S w' L):=by
 obtain⟨E',hu,hE⟩:=zpR hτ hE;have hts:TSz P E' (f.sz):=hE.tsz;obtain⟨v,hv,hd⟩:=hx;injection hv with hv;rcases hd with⟨a0,k1,k2⟩|⟨b',c,m0,k1,k2,k3,k4⟩
 ·have k2:N0=0:=k2;subst k2;refine⟨_,.slice a0 0 0,h,⟨_,rfl,.inl ⟨a0,rfl,rfl⟩⟩,fun w' _=>?_⟩;simp[execOp,Instr.sliceAt,Go.underlying,hu,Instr.slice,Instr.sliceBounds,hv.trans k1,hhi,hmx,zbB (P:=P) (w:=w') hp (aJ _),zbB (P:=P) (w:=w') hp' (aJ _),hts w']
 ·have k1:v=sl b' 0 N0 c:=k1;refine⟨_,.slice (some (if N0=0 then⟨b',0,none⟩else(⟨b',0,none⟩:Addr).add 0)) N0 N0,h,⟨_,rfl,.inr ⟨b',N0,m0,?_,aJ _,k3,k4⟩⟩,fun w' _=>?_⟩
  ·split<;>simp[Addr.add]
  ·by_cases h0:N0=0
   ·subst h0;simp[execOp,zbB (P:=P) (w:=w') hp (aJ 0),zbB (P:=P) (w:=w') hp' (bX c),Instr.sliceAt,Go.underlying,hu,Instr.slice,Instr.sliceBounds,hv.trans k1,sl,hhi,hmx,hts w']
   ·simp[execOp,zbB (P:=P) (w:=w') hp (aJ _),zbB (P:=P) (w:=w') hp' k2,Instr.sliceAt,Go.underlying,hu,Instr.slice,Instr.sliceBounds,hv.trans k1,sl,hhi,hmx,hts w',h0]
theorem own0_is{hi mx:Operand}{q q':IntKind}{e:Ty}{f:TI}{id ver:Nat}{T':TypeId}{xs:List (den e)}{k:SV->Option β}(hτ:TEok P τ)(R:Rel n B S E L σ m w)(hE:elemAt τ T=some f)(hs:f.sz=tsz e)(hc:atN σ.hp id=some (.osl ver e T' xs))(hx:VB S E (.own id ver) (evO n m a))(hhi:evO n m hi = .int q 0)(hmx:evO n m mx = .int q' 0) (h:k .emp=some r):Ok1 P S E (evO n m) ⟨dst,.slice T a none (some hi) (some mx),ty,pos,aft,g⟩ k r (fun w'=>HS B S w' L):=by
 obtain⟨E',hu,hE⟩:=zpR hτ hE;have hts:TSz P E' (tsz e):=by rw[<-hs];exact hE.tsz
 obtain⟨cs,_,hw⟩:=ypL R hc hx;rcases hw w R.hs with⟨⟨a0,k1⟩,_⟩|⟨b',o,c,ds,T2,fz,k1,k3,_⟩
 ·refine⟨.emp,.slice a0 0 0,h,⟨.inl ⟨⟨a0,rfl⟩,rfl,rfl⟩,a0,rfl⟩,fun w' _=>?_⟩;simp[execOp,Instr.sliceAt,Go.underlying,hu,Instr.slice,Instr.sliceBounds,k1,hhi,hmx,zbB (P:=P) (w:=w') (show(0:Int)=((0:Nat):Int)from rfl) (aJ _),hts w']
 ·have hp0:(0:Int)=((0:Nat):Int):=rfl;refine⟨.emp,.slice (some (⟨b',o,none⟩:Addr)) 0 0,h,⟨.inl ⟨⟨_,rfl⟩,rfl,rfl⟩,_,rfl⟩,fun w' _=>?_⟩;simp[execOp,zbB (P:=P) (w:=w') hp0 (aJ 0),zbB (P:=P) (w:=w') hp0 (bX c),Instr.sliceAt,Go.underlying,hu,Instr.slice,Instr.sliceBounds,k1,sl,hhi,hmx,hts w']
theorem zsS(R:Rel n B S E L σ m w){e:Ty}{x:SV}{u:Value}{xs:List (den e)}(hx:VR S E x u)(h:zhC σ.hp (.sl e) x=some xs):∃cs,RL S cs xs/\∀w',HS B S w' L->SlW w' u xs.length (tsz e) cs:=by
 have hrs:Rp.sz (den e)=tsz e:=zgX e;cases x with
 |v t y=>
  simp only[zhC]at h;split at h
  ·rename_i hh _;cases h;subst hh;obtain⟨v,hv,cs,h1,h2⟩:=hx;injection hv with hv;subst hv;exact⟨cs,h2,fun w' H=>by have:=h1.w H.sub;rwa[hrs]at this⟩
  ·cases h
 |nils=>cases h;have hx:u = .slice none 0 0:=hx;exact⟨[],rfl,fun w' H=>.inl ⟨⟨_,hx⟩,rfl,rfl⟩⟩
 |emp=>
  cases h;obtain⟨h1,_⟩:=hx;refine⟨[],rfl,fun w' H=>?_⟩;rcases h1 with⟨h,_,_⟩|⟨b,o,c,ds,T,fz,h1,h2,h3,h4,_⟩
  ·exact .inl ⟨h,rfl,rfl⟩
  ·exact .inr ⟨b,o,c,ds,T,fz,h1,h2,H.sub _ _ h3,by simp only[aV];omega,by simp[piece]⟩
 |cl e' ys=>
  simp only[zhC]at h;split at h
  ·rename_i hh _;cases h;subst hh;obtain⟨⟨cs,h1,h2⟩,_⟩:=hx;exact⟨cs,h2,fun w' H=>by have:=h1.w H.sub;rwa[zgX]at this⟩
  ·cases h
 |nn e' ys=>
  simp only[zhC]at h;split at h
  ·rename_i hh _;cases h;subst hh;obtain⟨⟨cs,h1,h2⟩,_⟩:=hx;exact⟨cs,h2,fun w' H=>by have:=h1.w H.sub;rwa[zgX]at this⟩
  ·cases h
 |rm e' n' ys=>
  simp only[zhC]at h;split at h
  ·rename_i hh _;cases h;subst hh;obtain⟨v,h1,h2,rfl⟩:=hx;obtain⟨cs,h3,h4⟩:=ymW h1 h2;exact⟨cs,h4,fun w' H=>by have:=h3.w H.sub;rwa[zgX]at this⟩
  ·cases h
 |own id ver=>
  simp only[zhC]at h;split at h
  ·rename_i ver' e' T' ys hc;cases hb:aG ver ver' with
   |false=>rw[hb]at h;cases h
   |true=>
    rw[hb]at h;have hv:=aB hb;subst hv;simp only[zE]at h;split at h
    ·rename_i hh _;cases h;subst hh;exact ypL R hc hx
    ·cases h
  ·cases h
 |_=>cases h
theorem yzO{E' D:TypeId}{x:SV}{l:Bs}{k:SV->Option β}(R:Rel n B S E L σ m w)(hu:P.underlying T=some (.slice E'))(he:P.underlying E'=some (.int .u8))(hd:P.underlying D=some .string)(hx:VR S E x (evO n m a))(hl:zhC σ.hp (.sl (.i .u8)) x=some l)(h:k (.v .s l)=some r):
  Ok1 P S E (evO n m) ⟨dst,.convert T D a,ty,pos,aft,g⟩ k r (fun w'=>HS B S w' L):=by
 obtain⟨cs,h1,h2⟩:=zsS R hx hl;refine⟨_,_,h,sV _,fun w' H=>?_⟩;have h3:=h2 w' H;have h1:RL S cs (show Bs from l):=by
  have:∀{l:Bs} {cs:LV},@RL (den (.i .u8)) (rpD (.i .u8)) S cs l->RL S cs l:=fun {l}=>by
   induction l with
   |nil=>intro cs h;exact h|cons x l ih=>intro cs h;obtain⟨c,d,e1,e2,e3⟩:=h;exact⟨c,d,e1,e2,ih e3⟩
  exact this h1
 rw[RL.is_u8s h1]at h3;exact ytH hu he hd rfl h3
theorem yoN{Kt Vt:TypeId}{kt f:TI}{id gn:Nat}{K V:Ty}{es:List (den K×den V)}{xk:SV}{key:den K}{z:den V}{ok:Bool}{k:SV->Option β}(hτ:TEok P τ)(R:Rel n B S E L σ m w)(hT:P.underlying T=some (.map Kt Vt))(hk:tyAt τ Kt=some kt)(hv:tyAt τ Vt=some f)(hx:VR S E (.mpr id) (evO n m a))(hy:VR S E xk (evO n m b))(hc:atN σ.hp id=some (.mp gn K V es)) (hkey:ofSV [] K xk=some key) (hz:zdR [] V f.z=some z) (hb:(kTd τ kt.td K&&vTd f V)=true) (h:(bif ok then k (.tup [svOf V (yhT (keq K) es key z),.v .b (mhas (keq K) es key)])else k (svOf V (yhT (keq K) es key z)))=some r):
  Ok1 P S E (evO n m) ⟨dst,.lookup T a b ok,ty,pos,aft,g⟩ k r (fun w'=>HS B S w' L):=by
 have hK:=ygK hτ hk (zaT hb);have hK0:=hK.ok;obtain⟨r0,e0,g1,g2,bb,ents,ck,rfl,rfl,g3,g4⟩:=R.objN hc;obtain⟨_,e0,h8,h9⟩:=hx;rw[g2]at h8;cases h8;have hm:=h9 _ _ _ _ rfl;have hkv:evO n m b=kv K key:=zsY hK0 (znL (Mem.le_refl S) zeH hkey hy);have hF:=hτ _ _ hv;have hzr:rep1 V S (zV f) z:=by
  have h5:=zjA (Mem.le_refl S) (zeH (E:=E)) V hz (zvF hF.z);have h6:=zaW hb;unfold vTd at h6;unfold rep1 zV;cases ha:f.agg with
  |true=>
   rw[ha]at h6;have h7:one V=false:=by simpa using h6
   rw[h7,zG (by simp)];exact⟨_,rfl,h5⟩
  |false=>
   rw[ha]at h6;have h7:one V=true:=h6;rw[zH h7];have hl:=hF.zl;rw[hF.one1 ha]at hl
   match hfz:f.z,hl with
   |[x],_=>rw[hfz]at h5;exact h5
 obtain⟨l,hl,hA⟩:=g3.perm;obtain⟨o,hf,hfd⟩:=find_ok hK key hA;obtain⟨h5,h6⟩:=MR.fnd hK0 hl g3.ne hA hfd (zV f) z hzr;have hrun:∀w',HS B S w' L->(execOp (evO n m) ⟨dst,.lookup T a b ok,ty,pos,aft,g⟩).run P w' = .ok (.value (if ok then .tuple #[(o.map (·.2)).getD (zV f),.bool o.isSome]else(o.map (·.2)).getD (zV f))) w':=fun w' H=>by have:=ynI (ok:=ok) hT hK hF.zero (H.own id _ g1) hf;simp[execOp,hm,hkv,this]
 cases ok with
 |true=>refine⟨_,_,h,?_,fun w' H=>hrun w' H⟩;exact⟨[_,_],rfl,.cons (zmP h6) (.cons (by rw[h5];exact(rfl:[_]=[_])) .nil)⟩|false=>exact⟨_,_,h,VR.of (zmP h6),fun w' H=>hrun w' H⟩
theorem bOk_ok:∀{x:SV} {u:Value},bOk x=true->VR S E x u->VA (VB S E) x u:=fun {x u} hb h=>by
 cases x with
 |fn=>cases hb
 |undef=>cases hb
 |skp=>cases hb
 |tup=>cases hb
 |ag l=>
  obtain⟨us,hu,hl⟩:=h;refine⟨us,hu,?_⟩
  have:∀{l:List SV} {us:LV},l.all nofn=true->A2 (VC S E) l us->A2 (VB S E) l us:=fun {l us} h1 h2=>by
   induction h2 with
   |nil=>exact .nil|cons a t ih=>simp only[cO,aK]at h1;exact .cons (a.b h1.1) (ih h1.2)
  exact this hb hl
 |_=>exact h
theorem yiF:∀{l:List SV} {us:LV},l.all bOk=true->A2 (VR S E) l us->A2 (VA (VB S E)) l us
 |_,_,_,.nil=>.nil|_,_,h,.cons a t=>by simp only[cO,aK]at h;exact .cons (bOk_ok h.1 a) (yiF h.2 t)
theorem r_max{e:Operand->Value}{a b r:Int}{ats:Array TypeId}(hx:e x = .int .i64 a)(hy:e y = .int .i64 b)(h:(bif decide (a<=b)then b else a)=r):(execOp e ⟨dst,.call ⟨.builtin .max,#[x,y],ats⟩,ty,pos,aft,g⟩).run P w = .ok (.value (.int .i64 r)) w:=by
 subst h;by_cases hc:a<=b
 ·have h2:¬b<a:=by omega
  simp[execOp,resolve,invoke,builtin,hx,hy,Builtin.max_,Builtin.max2,hc]
  try omega
 ·have h2:b<a:=by omega
  simp[execOp,resolve,invoke,builtin,hx,hy,Builtin.max_,Builtin.max2,hc]
  try omega
theorem r_minA{e:Operand->Value}{a b r:Int}{ats:Array TypeId}(hx:e x = .int .i64 a)(hy:e y = .int .i64 b)(h:(bif decide (a<=b)then a else b)=r):(execOp e ⟨dst,.call ⟨.builtin .min,#[x,y],ats⟩,ty,pos,aft,g⟩).run P w = .ok (.value (.int .i64 r)) w:=by
 subst h;by_cases hc:a<=b
 ·have h2:¬b<a:=by omega
  simp[execOp,resolve,invoke,builtin,hx,hy,Builtin.min_,Builtin.min2,hc,h2]
 ·have h2:b<a:=by omega
  simp[execOp,resolve,invoke,builtin,hx,hy,Builtin.min_,Builtin.min2,hc,h2]
theorem yyQ{x:Operand}{i mid gn:Nat}{K V:Ty}{c:den K}{v:den V}{left:List (den K)}{es:List (den K×den V)}(R:Rel n B S E L σ m w)(hx:VR S E (.ptr i 0) (evO n m x))(hi:atN σ.hp i=some (.it mid gn K (some c) left))(hm:atN σ.hp mid=some (.mp gn K V es))(hv:mget (keq K) es c=some v) (h:k (.tup [svOf K c,svOf V v])=some r):Ok1 P S E (evO n m) ⟨dst,.entry x,ty,pos,aft,g⟩ k r (fun w'=>HS B S w' L):=by
 obtain⟨r0,e0,k1,k2,b,mb,ck,seen,rfl,rfl,hK,e1,k3,k4⟩:=R.objN hi;obtain⟨r1,e2,k5,k6,b2,ents,ck2,rfl,rfl,hM,hlt⟩:=R.objN hm;rw[k6]at k3;cases k3;obtain⟨_,k7⟩:=k4 _ _ _ _ rfl;obtain⟨rfl,rfl,k8⟩:=k7 rfl;obtain⟨l,hl,hA⟩:=hM.perm;obtain⟨b3,hv3,e3,q1,q2⟩:=hx;rw[k2]at q1;cases q1;have:=q2 _ rfl;subst this;obtain⟨en,hen,hk1,hk2⟩:=A2.mem_l hA _ (hl.mem_iff.2 (yqX hK hv));have hkey:=zsY hK hk1;have hb:=((k8 en hen).2 c rfl).1 hkey;have hs:seen=seen.pop.push en.born:=by
  obtain⟨sl⟩:=seen;rcases List.eq_nil_or_concat sl with rfl|⟨l',a,rfl⟩
  ·simp at hb
  ·simp at hb;subst hb;simp
 refine⟨_,_,h,⟨[en.key,en.val],rfl,.cons (zmP hk1) (.cons (zmP hk2) .nil)⟩,fun w' H=>?_⟩;have hh:w'.heap[b]? = some (.mapIter (some b2) ck2 (seen.pop.push en.born) ck2):=by rw[<-hs];exact H.own i _ k1
 have hh2:w'.heap[b2]? = some (.map ents.toArray ck2):=H.own mid _ k5;have hrun:=run_entry_at (P:=P) w' b b2 ck2 seen.pop ents.toArray ck2 en hh hh2 (by simpa using hen) (by simpa using hM.nd);simp only[execOp,hv3,Sem.run_bind,hrun,Result.andThen_ok,Sem.run_pure]
theorem ybB{o:Op}(hτ:TEok P τ)(R:Rel n B S E L σ m w)(h:op1b τ σ o k=some r):Ok1 P S E (evO n m) ⟨dst,o,ty,pos,aft,g⟩ k r (fun w'=>HS B S w' L):=by
 unfold op1b at h;split at h
 ·split at h
  ·rename_i p q hlo hhi;split at h
   ·rename_i z1 z2 z3 z4 hT;split at h
    ·rename_i l hx;exact xeB R ((hτ _ _ hT).str rfl) (vS (zbM R hx)) hlo hhi h
    ·cases h
   ·rename_i E' z1 z2 z3 z4 hT;split at h
    ·rename_i f e xs hE hx;obtain⟨hs,h⟩:=zaJ h;have hv:=zbM R hx;obtain⟨v,hv,hrd⟩:=hv;injection hv with hv;exact zyI R ((hτ _ _ hT).sl rfl) (hτ _ _ hE) (aB hs) (by rw[hv];exact hrd) hlo hhi h
    ·rename_i f e xs hE hx;obtain⟨hs,h⟩:=zaJ h;exact zyI R ((hτ _ _ hT).sl rfl) (hτ _ _ hE) (aB hs) (zbM R hx).1 hlo hhi h
    ·rename_i f e N xs hE hx;obtain⟨hs,h⟩:=zaJ h;exact xfN R ((hτ _ _ hT).sl rfl) (hτ _ _ hE) (aB hs) (zbM R hx) hlo hhi h
    ·rename_i f hE hx;obtain⟨hs,h⟩:=zaJ h;have hv:evO n m _ = .slice none 0 0:=zbM R hx;exact zyI R ((hτ _ _ hT).sl rfl) (hτ _ _ hE) (aB hs) (by rw[hv];exact RdS.nil) hlo hhi h
    ·cases h
   ·cases h
  ·cases h
 ·split at h
  ·rename_i f q b' q' c e xs hE h1 h2 h3;obtain⟨hs,h⟩:=zaJ h;have hs:=aB hs;obtain⟨v,hv,hrd⟩:=zbM R h3;injection hv with hv;have e1:=vI (zbM R h1);have e2:=vI (zbM R h2);cases h0:isC0 _&&isC0 _ with
   |true=>
    rw[h0]at h;have k1:=zaT h0;have k2:=zaW h0
    have z0:∀{y:Operand} {qq:IntKind} {c:Int},isC0 y=true->evO n m y = .int qq c->c=0:=fun {y qq c} hy he=>by
     unfold isC0 at hy;split at hy
     ·cases he;rfl
     ·cases hy
    have p0:=z0 k1 e1;have p1:=z0 k2 e2;exact yhI hτ R hE hs (by rw[hv];exact hrd) e1 e2 (by rw[p0,p1]) (r':=[]) (by rw[p0];exact subH0 _) (.inr ⟨rfl,p0⟩) h
   |false=>rw[h0]at h;obtain⟨_,hk,h⟩:=bnd h;obtain⟨r',h5,h⟩:=bnd h;exact yhI hτ R hE hs (by rw[hv];exact hrd) e1 e2 (zC (zcP hk)) h5 (.inl rfl) h
  ·rename_i f q b' q' c T0 l hE h1 h2 h3;obtain⟨_,h⟩:=zaJ h;obtain⟨_,hk,h⟩:=bnd h;have hk:=zcP hk;exact ywL hτ hE (zbM R h3) (vI (zbM R h1)) (vI (zbM R h2)) (zC (zaT hk)) (zC (zaW hk)) h
  ·rename_i f q b' q' c e xs hE h1 h2 h3;obtain⟨hb,h⟩:=zaJ h;have hs:=aB (zaT hb);have h0:=zaW hb;have hrd:=(show VB S E (.nn e xs) _ from zbM R h3).1;have e1:=vI (zbM R h1);have e2:=vI (zbM R h2)
   have z0:∀{y:Operand} {qq:IntKind} {c:Int},isC0 y=true->evO n m y = .int qq c->c=0:=fun {y qq c} hy he=>by
    unfold isC0 at hy;split at hy
    ·cases he;rfl
    ·cases hy
   have p0:=z0 (zaT h0) e1;have p1:=z0 (zaW h0) e2;exact yhI hτ R hE hs hrd e1 e2 (by rw[p0,p1]) (r':=[]) (by rw[p0];exact subH0 _) (.inr ⟨rfl,p0⟩) h
  ·rename_i f q b' q' c id ver hE h1 h2 h3;split at h
   ·rename_i ver' e T' xs hc;obtain⟨hb,hq⟩:=zaJ h;clear h;have h:=hq;clear hq;have hv:=aB (zaT (zaT hb));have hs:=aB (zaW (zaT hb));subst hv;have h0:=zaW hb
    have z0:∀{y:Operand} {qq:IntKind} {c:Int},isC0 y=true->evO n m y = .int qq c->evO n m y = .int qq 0:=fun {y qq c} hy he=>by
     unfold isC0 at hy;split at hy
     ·cases he;rfl
     ·cases hy
    exact own0_is hτ R hE hs hc (zbM R h3) (z0 (zaT h0) (vI (zbM R h1))) (z0 (zaW h0) (vI (zbM R h2))) h
   ·cases h
  ·cases h
 ·split at h
  ·rename_i E' z1 z2 z3 z4 y1 y2 y3 y4 hT hD;split at h
   ·rename_i x1 x2 x3 x4 hE;obtain⟨x,h1,h⟩:=zbJ h;split at h
    ·rename_i l hl;exact yzO R ((hτ _ _ hT).sl rfl) ((hτ _ _ hE).int rfl) ((hτ _ _ hD).str rfl) (zbM R h1) hl h
    ·cases h
   ·cases h
  ·cases h
 ·split at h
  ·rename_i Kt Vt z1 z2 z3 z4 hT;split at h
   ·rename_i kt f id xk hk hv h1 h2;split at h
    ·rename_i gn K V es hc;split at h
     ·rename_i key z hkey hz;obtain⟨hb,h⟩:=zaJ h;exact yoN hτ R ((hτ _ _ hT).map rfl) hk hv (zbM R h1) (zbM R h2) hc hkey hz hb h
     ·cases h
    ·cases h
   ·cases h
  ·cases h
 ·rename_i fid fa fc;split at h
  ·rename_i la lc h1 h2;obtain⟨hb,h⟩:=zaJ h;obtain⟨fa⟩:=fa;obtain⟨fc⟩:=fc;refine⟨_,.func (.func fid) (fa.map (evO n m)).toArray (fc.map (evO n m)).toArray,h,?_,fun w' _=>?_⟩
   ·exact⟨_,_,rfl,yiF (zaT hb) (yjD R h1),yiF (zaW hb) (yjD R h2)⟩
   ·simp[execOp,Instr.makeFunc]
  ·cases h
 ·rename_i x y ats;split at h
  ·rename_i a b h1 h2;exact⟨_,_,h,xV (q:=.i64) rfl,fun w' _=>r_max (vI (zbM R h1)) (vI (zbM R h2)) rfl⟩
  ·cases h
 ·rename_i x y ats;split at h
  ·rename_i a b h1 h2;exact⟨_,_,h,xV (q:=.i64) rfl,fun w' _=>r_minA (vI (zbM R h1)) (vI (zbM R h2)) rfl⟩
  ·cases h
 ·split at h
  ·rename_i x i hx;split at h
   ·rename_i mid gn K c left hi;split at h
    ·rename_i g' K' V es hm;split at h
     ·rename_i hh _;subst hh;obtain⟨hb,hq⟩:=zaJ h;clear h;have:=aB hb;subst this;obtain⟨v,h1,h2⟩:=bnd hq;exact yyQ R (zbM R hx) hi hm h1 h2
     ·cases h
    ·cases h
   ·cases h
  ·cases h
 ·cases h
theorem er_is {op : BinOp} {f : TI} {a : Bool} {x : Operand} {k : SV -> Option β} {C : World -> Prop} (hT : TIok P T f) (hf : f.td = .ifc) (hx : VR S E (.v .er a) (evO n m x)) (h : (match op with
      |.eql=>k (.v .b (!(show Bool from a)))|.neq=>k (.v .b a)|_=>none)=some r):Ok1 P S E (evO n m) ⟨dst,.binOp op T x (.const .nilIface) T',ty,pos,aft,g⟩ k r C:=by
 obtain⟨ms,hu⟩:=hT.ifc hf;have hy:evO n m (.const .nilIface) = .nilIface:=rfl;obtain⟨u,hu1,hx⟩:=hx;injection hu1 with hu1;have key:∀d w,(Op.equalIn (d+1) T u .nilIface).run P w = .ok (!(show Bool from a)) w:=fun d w=>by rcases hx with⟨rfl,rfl⟩|⟨rfl,t,v,rfl⟩<;>simp[Op.equalIn,Go.underlying,hu]
 have key2:∀w,(Op.equal T u .nilIface).run P w = .ok (!(show Bool from a)) w:=fun w=>key 9999 w;have hg:∀(op:BinOp) (w:World),(eqGuard op T x (.const .nilIface) u .nilIface).run P w = .ok () w:=fun op w=>by rcases hx with⟨rfl,rfl⟩|⟨rfl,t,v,rfl⟩<;>cases op<;>simp[eqGuard]
 split at h
 ·refine⟨_,_,h,bV _,fun w _=>?_⟩;rcases hx with⟨rfl,rfl⟩|⟨rfl,t,v,rfl⟩<;>simp[execOp,hu1,hy,hg,binOp,key2]
 ·refine⟨_,_,h,bV _,fun w _=>?_⟩;rcases hx with⟨rfl,rfl⟩|⟨rfl,t,v,rfl⟩<;>simp[execOp,hu1,hy,hg,binOp,key2]
 ·cases h
theorem xeV{op:BinOp}{x y:Operand}{C:World->Prop}(hτ:TEok P τ)(R:∀x a,ev σ x=some a->VR S E a (evO n m x))(h:op1 τ σ (.binOp op T x y T') k=some r):Ok1 P S E (evO n m) ⟨dst,.binOp op T x y T',ty,pos,aft,g⟩ k r C:=by
 unfold op1 at h;split at h
 all_goals first
  |(rename_i hh;cases hh;done)
  |skip
 ·rename_i hh;cases hh;split at h
  ·rename_i z1 z2 z3 z4 a hT hx;exact er_is (hτ _ _ hT) rfl (R _ _ hx) h
  ·cases h
 ·rename_i hh;cases hh;obtain⟨x,h1,h⟩:=zbJ h;obtain⟨y,h2,h⟩:=zbJ h;exact xdC hτ (R _ _ h1) (R _ _ h2) h
 ·cases h
theorem ykR{o:Op}(hτ:TEok P τ)(R:Rel n B S E L σ m w)(h:op1 τ σ o k=some r):Ok1 P S E (evO n m) ⟨dst,o,ty,pos,aft,g⟩ k r (fun w'=>HS B S w' L):=by
 unfold op1 at h;split at h
 ·obtain⟨z,h1,h2⟩:=zbJ h;exact⟨z,_,h2,zbM R h1,fun w' _=>zaD rfl⟩
 ·obtain⟨z,h1,h2⟩:=zbJ h;exact⟨z,_,h2,zbM R h1,fun w' _=>zhK rfl⟩
 ·split at h
  ·rename_i t hc;obtain⟨x,h1,h⟩:=zbJ h;obtain⟨y,h2,h⟩:=zbJ h;exact yvM (vB (zbM R hc)) (zbM R h1) (zbM R h2) h
  ·cases h
 ·split at h
  ·rename_i z1 z2 z3 z4 a hT hx;exact er_is (hτ _ _ hT) rfl (zbM R hx) h
  ·cases h
 ·obtain⟨x,h1,h⟩:=zbJ h;obtain⟨y,h2,h⟩:=zbJ h;exact xdC hτ (zbM R h1) (zbM R h2) h
 ·obtain⟨x,h1,h⟩:=zbJ h;exact un_ok (zbM R h1) h
 ·split at h
  ·rename_i q a f q' z1 z2 z3 z4 h1 h2 h3;exact ysN (hτ _ _ h2) ((hτ _ _ h3).int rfl) (vI (zbM R h1)) h
  ·exact ybB hτ R h
 ·obtain⟨x,h1,h⟩:=zbJ h;exact len_is hτ R (zbM R h1) h
 ·split at h
  ·rename_i f hT;obtain⟨p,h1,h⟩:=zbJ h;exact ypU R (hτ _ _ hT) (zbM R h1) h
  ·cases h
 ·split at h
  ·rename_i o f hf;obtain⟨x,h1,h⟩:=zbJ h;split at h
   ·exact ykP hτ hf (zbM R h1) h
   ·cases h
  ·cases h
 ·split at h
  ·rename_i o f hf;obtain⟨h0,h⟩:=zaJ h;obtain⟨x,h1,h⟩:=zbJ h;exact yfH hτ hf h0 R (zbM R h1) h
  ·cases h
 ·split at h
  ·rename_i f hf;obtain⟨x,h1,h⟩:=zbJ h;obtain⟨i,h2,h⟩:=zbJ h;split at h
   ·exact yfW hτ hf R (zbM R h1) (vI (zbM R h2)) h
   ·cases h
  ·exact yzB hτ R h
 ·split at h
  ·rename_i z1 z2 z3 z4 hT;obtain⟨x,h1,h⟩:=zbJ h;obtain⟨i,h2,h⟩:=zbJ h;split at h
   ·exact yxZ ((hτ _ _ hT).str rfl) (vS (zbM R h1)) (vI (zbM R h2)) h
   ·cases h
  ·rename_i N E' z1 z2 z3 z4 hT;split at h
   ·rename_i f hE;obtain⟨x,h1,h⟩:=zbJ h;obtain⟨i,h2,h⟩:=zbJ h;split at h
    ·exact ytV (hτ _ _ hT) rfl (hτ _ _ hE) (zbM R h1) (vI (zbM R h2)) h
    ·cases h
   ·cases h
  ·cases h
 ·obtain⟨x,h1,h⟩:=zbJ h;split at h
  ·exact yaC (zbM R h1) h
  ·cases h
 ·split at h
  ·rename_i fs z1 z2 z3 z4 hT;split at h
   ·rename_i pl hp;split at h
    ·rename_i l hq;exact yxP hτ R (hτ _ _ hT) rfl hp hq h
    ·cases h
   ·cases h
  ·rename_i N E' z1 z2 z3 z4 hT;split at h
   ·rename_i f hE;split at h
    ·rename_i l hq;exact ypI R (hτ _ _ hT) rfl (hτ _ _ hE) hq h
    ·cases h
   ·cases h
  ·cases h
 ·obtain⟨x,h1,h⟩:=zbJ h;obtain⟨z,h2,h⟩:=zbJ h;obtain⟨b,o',h3,h4⟩:=zxL R (zbM R h1) h2;exact⟨z,_,h,h4,fun w' _=>zbZ h3⟩
 ·exact ybB hτ R h
theorem op0_ok{o:Op}{C:World->Prop}(hτ:TEok P τ)(R:∀x a,ev σ x=some a->VR S E a (evO n m x))(h:op0 τ σ o k=some r):Ok1 P S E (evO n m) ⟨dst,o,ty,pos,aft,g⟩ k r C:=by
 unfold op0 at h;split at h
 ·obtain⟨z,h1,h2⟩:=zbJ h;exact⟨z,_,h2,R _ _ h1,fun w' _=>zaD rfl⟩
 ·obtain⟨z,h1,h2⟩:=zbJ h;exact⟨z,_,h2,R _ _ h1,fun w' _=>zhK rfl⟩
 ·simp only[op1]at h;split at h
  ·rename_i t hc;obtain⟨x,h1,h⟩:=zbJ h;obtain⟨y,h2,h⟩:=zbJ h;exact yvM (vB (R _ _ hc)) (R _ _ h1) (R _ _ h2) h
  ·cases h
 ·exact xeV hτ R h
 ·obtain⟨x,h1,h⟩:=zbJ h;exact un_ok (R _ _ h1) h
 ·split at h
  ·rename_i q a f q' z1 z2 z3 z4 h1 h2 h3;exact ysN (hτ _ _ h2) ((hτ _ _ h3).int rfl) (vI (R _ _ h1)) h
  ·cases h
 ·simp only[op1]at h;split at h
  ·rename_i o f hf;obtain⟨x,h1,h⟩:=zbJ h;split at h
   ·exact ykP hτ hf (R _ _ h1) h
   ·cases h
  ·cases h
 ·obtain⟨x,h1,h⟩:=zbJ h;split at h
  ·exact yaC (R _ _ h1) h
  ·cases h
 ·cases h
end
theorem HS.snoc{B:Bas}{S:Mem}{w:World}{L:List Res}{r:Res}(H:HS B S w (r::L)):HS B S w (L++[r]):=by
 have key:∀k q,lkR (L++[r]) k=some q->∃j,lkR (r::L) j=some q/\(k<L.length/\j=k+1∨k=L.length/\j=0):=fun k q h=>by
  rw[zaX]at h;by_cases hk:k<L.length
  ·rw[aF hk]at h;exact⟨k+1,by rw[zaX];simpa using h,.inl ⟨hk,rfl⟩⟩
  ·rw[aH (by omega)]at h;have hk2:k-L.length=0:=by have:=(aC.1 h).1;simp at this;omega
   rw[hk2]at h;exact⟨0,by rw[zaX];simpa using h,.inr ⟨by omega,rfl⟩⟩
 refine⟨H.fr,H.sub,H.keep,fun k q h=>?_,fun k q b h hb=>?_,fun i j q s b hi hj hq hs=>?_⟩
 ·obtain⟨j,h1,_⟩:=key k q h;exact H.own j q h1
 ·obtain⟨j,h1,_⟩:=key k q h;exact H.old j q b h1 hb
 ·obtain⟨i',h1,h2⟩:=key i q hi;obtain⟨j',h3,h4⟩:=key j s hj;have:=H.inj i' j' q s b h1 h3 hq hs;omega
theorem zeE{α:Type}:∀(l:List α) (n:Nat) (a:α),setN l n a=l.set n a
 |[],n,a=>by cases n<;>rfl
 |_::_,0,_=>rfl|x::l,n+1,a=>by rw[setN,zeE l n a];rfl
theorem zmC:∀(l:List Res) (n:Nat) (a:Res),stR l n a=l.set n a
 |[],n,a=>by cases n<;>rfl
 |_::_,0,_=>rfl|x::l,n+1,a=>by rw[stR,zmC l n a];rfl
section
variable {n:Nat}{B:Bas}{S S':Mem}{E:List EI}{L:List Res}{σ:St}{m:FM}{w w':World}
theorem Rel.snoc(R:Rel n B S E L σ m w){r:Res}{e:EI}{o:AO}(H:HS B S w' (r::L))(h:OR S (E++[e]) o r e):Rel n B S (E++[e]) (L++[r]) ⟨σ.sl,σ.hp++[o]⟩ m w':=by
 refine⟨HS.snoc H,by simp[R.lL],by simp[R.lE],fun i o' ho=>?_,fun t=>(R.sl t).mono (Mem.le_refl _) (ELe.push E [e])⟩;by_cases hi:i<σ.hp.length
 ·have ho':σ.hp[i]? = some o':=by rw[<-aF (l₂:=[o]) hi];exact ho
  obtain⟨r',e',h1,h2,h3⟩:=R.obj i o' ho';exact⟨r',e',by rw[aF (by rw[R.lL];exact hi)];exact h1,by rw[aF (by rw[R.lE];exact hi)];exact h2,h3.mono (Mem.le_refl _) (ELe.push E [e])⟩
 ·have ho2:(σ.hp++[o])[i]? = some o':=ho;have hi2:i=σ.hp.length:=by have:=(aC.1 ho2).1;simp at this;omega
  subst hi2;rw[aH (aJ _)]at ho2;simp at ho2;subst ho2;exact⟨r,e,by rw[<-R.lL];simp,by rw[<-R.lE];simp,h⟩
theorem ELe.set{E:List EI}{i:Nat}{e e':EI}(h:E[i]? = some e)(hl:e.le e'):ELe E (E.set i e'):=fun j a ha=>by
 by_cases hj:i=j
 ·subst hj;rw[h]at ha;cases ha;exact⟨e',by rw[aL (aC.1 h).1],hl⟩
 ·exact⟨a,by rw[aM hj];exact ha,a.le_refl⟩
theorem Rel.upd(R:Rel n B S E L σ m w){i:Nat}{r':Res}{e e':EI}{o':AO}(he:E[i]? = some e)(hl:e.le e')(hS:Mem.le S S')(H:HS B S' w' (stR L i r'))(h:OR S' (E.set i e') o' r' e'):
  Rel n B S' (E.set i e') (stR L i r') ⟨σ.sl,setN σ.hp i o'⟩ m w':=by
 have hE:=ELe.set he hl;have hi:i<σ.hp.length:=by rw[<-R.lE];exact(aC.1 he).1
 refine⟨H,by simp[zmC,zeE,R.lL],by simp[zeE,R.lE],fun j o ho=>?_,fun t=>(R.sl t).mono hS hE⟩;have ho:(σ.hp.set i o')[j]? = some o:=by rw[<-zeE];exact ho
 by_cases hj:i=j
 ·subst hj;rw[aL hi]at ho;cases ho;exact⟨r',e',by rw[zmC,aL (by rw[R.lL];exact hi)],by rw[aL (by rw[R.lE];exact hi)],h⟩
 ·rw[aM hj]at ho;obtain⟨r2,e2,h1,h2,h3⟩:=R.obj j o ho;exact⟨r2,e2,by rw[zmC,aM hj];exact h1,by rw[aM hj];exact h2,h3.mono hS hE⟩
theorem ylS{E:List EI}{i:Nat}{e:EI}(h:E[i]? = some e):E.set i e=E:=by
 apply List.ext_getElem?;intro j;by_cases hj:i=j
 ·subst hj;rw[aL (aC.1 h).1,h]
 ·rw[aM hj]
theorem Rel.upd1(R:Rel n B S E L σ m w){i:Nat}{r':Res}{e:EI}{o':AO}(he:E[i]? = some e)(H:HS B S w' (stR L i r'))(h:OR S E o' r' e):
  Rel n B S E (stR L i r') ⟨σ.sl,setN σ.hp i o'⟩ m w':=by
 have:=R.upd he e.le_refl (Mem.le_refl S) H (by rw[ylS he];exact h)
 rwa[ylS he]at this
end
theorem HS.kill{B:Bas}{S:Mem}{w:World}{L:List Res}{k:Nat}(H:HS B S w (rmR L k)):HS B S w (stR L k (.osl (.slice none 0 0) 0 0 [] [] 0)):=by
 have key:∀i q,lkR (stR L k (.osl (.slice none 0 0) 0 0 [] [] 0)) i=some q->i=k/\q = .osl (.slice none 0 0) 0 0 [] [] 0∨i≠k/\lkR (rmR L k) (if i<k then i else i-1)=some q:=fun i q h=>by
  by_cases hi:i=k
  ·subst hi;rw[zaX,zmC]at h;have hlt:i<L.length:=by simpa using (aC.1 h).1
   rw[aL hlt]at h;exact .inl ⟨rfl,(osi h).symm⟩
  ·rw[zcK hi]at h;refine .inr ⟨hi,?_⟩;rw[zwX];by_cases h2:i<k
   ·rw[zH h2,zH h2];exact h
   ·rw[zG h2,zG (by omega),show i-1+1=i by omega];exact h
 refine⟨H.fr,H.sub,H.keep,fun i q h=>?_,fun i q b h hb=>?_,fun i j q s b hi hj hq hs=>?_⟩
 ·rcases key i q h with⟨rfl,rfl⟩|⟨_,h1⟩
  ·exact .inl ⟨rfl,rfl,rfl,rfl⟩
  ·exact H.own _ q h1
 ·rcases key i q h with⟨rfl,rfl⟩|⟨_,h1⟩
  ·cases hb
  ·exact H.old _ q b h1 hb
 ·rcases key i q hi with⟨rfl,rfl⟩|⟨h0,h1⟩
  ·cases hq
  ·rcases key j s hj with⟨rfl,rfl⟩|⟨h2,h3⟩
   ·cases hs
   ·have:=H.inj _ _ q s b h1 h3 hq hs;split at this<;>split at this<;>omega
section
variable {n:Nat}{B:Bas}{S S':Mem}{E E':List EI}{L:List Res}{σ:St}{m:FM}{w w':World}
theorem zxR{id ver:Nat}{e:Ty}{xs:List (den e)}{v:Value}(hS:Mem.le S S')(hE:ELe E E')(h0:E[id]? = some (.osl ver v (tsz e)))(hv:rep (.sl e) S' [v] xs){x:SV}{u:Value}(h:VC S E x u):VC S' E' (frzC id ver e xs x) u:=by
 have h':=h.mono hS hE;unfold frzC;split
 ·rename_i i wv;cases hb:aG i id&&aG wv ver with
  |false=>exact h'|true=>have h1:=aB (zaT hb);have h2:=aB (zaW hb);subst h1;subst h2;obtain⟨_,e1,h4,h5⟩:=h;rw[h0]at h4;cases h4;rw[(h5 _ _ _ rfl).2 rfl];exact hv
 ·exact h'
theorem A2.map{α γ δ:Type}{R:α->γ->Prop}{R':δ->γ->Prop}{f:α->δ}(hf:∀a b,R a b->R' (f a) b):∀{l m},A2 R l m->A2 R' (l.map f) m
 |_,_,.nil=>.nil|_,_,.cons a t=>.cons (hf _ _ a) (A2.map hf t)
theorem yoP{id ver:Nat}{e:Ty}{xs:List (den e)}{x:SV}(h:noag x=true):noag (frzC id ver e xs x)=true:=by
 unfold frzC;split
 ·cases aG _ _&&aG _ _<;>rfl
 ·exact h
theorem frzS_ok{id ver:Nat}{e:Ty}{xs:List (den e)}{v:Value}(hS:Mem.le S S')(hE:ELe E E')(h0:E[id]? = some (.osl ver v (tsz e)))(hv:rep (.sl e) S' [v] xs){x:SV}{u:Value}(h:VR S E x u):VR S' E' (frzS id ver e xs x) u:=by
 unfold frzS;split
 ·obtain⟨us,hu,h⟩:=h;exact⟨us,hu,h.map (f:=frzC id ver e xs) fun _ _=>zxR hS hE h0 hv⟩
 ·obtain⟨us,hu,h⟩:=h;refine⟨us,hu,h.map fun a b hab=>?_⟩;cases a with
  |ag l=>obtain⟨ws,hw,hab⟩:=hab;exact⟨ws,hw,hab.map (f:=frzC id ver e xs) fun _ _=>zxR hS hE h0 hv⟩
  |_=>exact VA.of (zxR hS hE h0 hv hab.b) (yoP rfl)
 ·rename_i h1 h2;by_cases hx:x = .undef
  ·subst hx;trivial
  by_cases hx2:x = .skp
  ·subst hx2;exact h
  ·have hn:noag x=true:=by cases x<;>first|rfl|exact absurd rfl (h1 _)
   have hu:notu x=true:=by cases x<;>first|rfl|exact absurd rfl hx|exact absurd rfl hx2|exact absurd rfl (h2 _)
   exact VR.ofC (zxR hS hE h0 hv ((h.b hu).b hn))
theorem ynY{f:SV->SV}(hf:f .undef = .undef):∀(l:List (Nat×SV)) (t:Nat),lkS (l.map fun p=>(p.1,f p.2)) t=f (lkS l t)
 |[],_=>hf.symm|(d,x)::l,t=>by
  simp only[bS,lkS];cases aG d t with
  |true=>rfl|false=>exact ynY hf l t
theorem Same.rd{e:Ty}{xs:List (den e)}{v v':Value}(h:Same S v v' xs.length)(hS:Mem.le S S')(hr:@RdS (den e) (rpD e) S' v xs):@RdS (den e) (rpD e) S' v' xs:=by
 rcases h with rfl|⟨_,h0,h,_⟩
 ·exact hr
 ·have:xs=[]:=aU h0;subst this;refine⟨[],?_,rfl⟩;rcases h with⟨h,_,_⟩|⟨b,o,c,ds,T,fz,h1,h2,h3,h4,_⟩
  ·exact .inl ⟨h,rfl,rfl⟩
  ·exact .inr ⟨b,o,c,ds,T,fz,h1,h2,hS _ _ h3,by simp only[aV];omega,by simp[piece]⟩
theorem RelV.objN{V:Nat->Value}(R:RelV B S E L σ V w){i:Nat}{o:AO}(h:atN σ.hp i=some o):∃r e,lkR L i=some r/\E[i]? = some e/\OR S E o r e:=by rw[zcT]at h;obtain⟨r,e,h1,h2,h3⟩:=R.obj i o h;exact⟨r,e,by rw[zaX];exact h1,h2,h3⟩
theorem ypA{V:Nat->Value}(R:RelV B S E L σ V w)(id:Nat):∃S' E' L',Mem.le S S'/\ELe E E'/\RelV B S' E' L' (frz σ id) V w/\∀i,id≠i->lkR L' i=lkR L i:=by
 unfold frz;split
 ·rename_i ver e T xs hc;obtain⟨r0,e0,h1,h2,v,v',cs,rs,rfl,rfl,h3,hsm⟩:=R.objN hc;obtain⟨S',hle,hrd,H⟩:=HS.fixX R.hs h1 h3 (zgX e);have hE:ELe E (E.set id .dead):=ELe.set h2 (.inr (.inl rfl));have hv:rep (.sl e) S' [v'] xs:=⟨v',rfl,hsm.rd hle hrd⟩;refine⟨S',E.set id .dead,stR L id (.osl (.slice none 0 0) 0 0 [] [] 0),hle,hE,⟨HS.kill H,?_,?_,fun i o ho=>?_,fun t=>?_⟩,fun i hi=>zcK (Ne.symm hi)⟩
  ·simp[zmC,zeE,R.lL]
  ·simp[zeE,R.lE]
  ·have hi:id<σ.hp.length:=by rw[<-R.lE];exact(aC.1 h2).1
   simp only[bI,zeE]at ho;by_cases hj:id=i
   ·subst hj;rw[aL hi]at ho;cases ho;exact⟨_,_,by rw[zmC,aL (by rw[R.lL];exact hi)],by rw[aL (by rw[R.lE];exact hi)],rfl,rfl⟩
   ·rw[aM hj]at ho;cases hq:σ.hp[i]? with
    |none=>rw[hq]at ho;cases ho
    |some q=>
     rw[hq]at ho;cases ho;obtain⟨r2,e2,k1,k2,k3⟩:=R.obj i q hq;refine⟨r2,e2,by rw[zmC,aM hj];exact k1,by rw[aM hj];exact k2,?_⟩;cases q with
     |blk T' cs'=>obtain⟨b,us,e1,e2',k4⟩:=k3;exact⟨b,us,e1,e2',k4.map (f:=frzC id ver e xs) fun _ _=>zxR hle hE h2 hv⟩
     |osl=>exact k3.mono hle hE|mp=>exact k3.mono hle hE|it=>exact k3.mono hle hE|is=>exact k3|qu=>exact OR.mono hle hE k3|fam=>exact OR.mono hle hE k3|famO=>exact OR.mono hle hE k3|dead=>exact k3
  ·show VR S' _ (lkS (σ.sl.map fun p=>(p.1,frzS id ver e xs p.2)) t) _;rw[ynY rfl];exact frzS_ok hle hE h2 hv (R.sl t)
 ·exact⟨S,E,L,Mem.le_refl _,ELe.refl _,R,fun _ _=>rfl⟩
theorem yuX{V:Nat->Value}(R:RelV B S E L σ V w)(id:Nat):∃S' E' L',Mem.le S S'/\ELe E E'/\RelV B S' E' L' (frz σ id) V w:=by obtain⟨S',E',L',h1,h2,h3,_⟩:=ypA R id;exact⟨S',E',L',h1,h2,h3⟩
theorem zvR{V:Nat->Value}:∀(l:List Nat) {σ:St} {S:Mem} {E:List EI} {L:List Res} (_:RelV B S E L σ V w),∃S' E' L',Mem.le S S'/\ELe E E'/\RelV B S' E' L' (frzL σ l) V w/\∀i,hasN l i=false->lkR L' i=lkR L i
 |[],_,S,E,L,R=>⟨S,E,L,Mem.le_refl _,ELe.refl _,R,fun _ _=>rfl⟩|i::l,_,_,_,_,R=>by obtain⟨S1,E1,L1,h1,h2,R1,h5⟩:=ypA R i;obtain⟨S2,E2,L2,h3,h4,R2,h6⟩:=zvR l R1;refine⟨S2,E2,L2,Mem.le_trans h1 h3,h2.trans h4,R2,fun j hj=>?_⟩;simp only[hasN,cY]at hj;rw[h6 j hj.2,h5 j fun e=>by subst e;rw[dX]at hj;cases hj.1]
theorem ziN{V:Nat->Value}:∀(l:List Nat) {σ:St} {S:Mem} {E:List EI} {L:List Res} (_:RelV B S E L σ V w),∃S' E' L',Mem.le S S'/\ELe E E'/\RelV B S' E' L' (frzL σ l) V w
 |[],_,S,E,L,R=>⟨S,E,L,Mem.le_refl _,ELe.refl _,R⟩|i::l,_,_,_,_,R=>by obtain⟨S1,E1,L1,h1,h2,R1⟩:=yuX R i;obtain⟨S2,E2,L2,h3,h4,R2⟩:=ziN l R1;exact⟨S2,E2,L2,Mem.le_trans h1 h3,h2.trans h4,R2⟩
end
theorem zdI:∀t:Ty,∃h,tyEq t t=some ⟨h⟩
 |.i k=>by cases k<;>exact⟨rfl,rfl⟩
 |.b=>⟨rfl,rfl⟩|.s=>⟨rfl,rfl⟩|.un=>⟨rfl,rfl⟩|.er=>⟨rfl,rfl⟩|.jk T=>⟨rfl,by
  unfold tyEq;cases decEq T T with
  |isTrue h=>rfl|isFalse h=>exact absurd rfl h⟩
 |.mp a c=>by obtain⟨h,he⟩:=zdI a;obtain⟨h2,he2⟩:=zdI c;exact⟨rfl,by simp only[tyEq,he,he2]⟩
 |.sl e=>by obtain⟨h,he⟩:=zdI e;exact⟨rfl,by simp only[tyEq,he]⟩
 |.pt e=>by obtain⟨h,he⟩:=zdI e;exact⟨rfl,by simp only[tyEq,he]⟩
 |.pm T a c=>by
  obtain⟨h,he⟩:=zdI a;obtain⟨h2,he2⟩:=zdI c;refine⟨rfl,?_⟩;rw[tyEq,he,he2];cases decEq T T with
  |isTrue h=>rfl|isFalse h=>exact absurd rfl h
 |.pr a c=>by obtain⟨h,he⟩:=zdI a;obtain⟨h2,he2⟩:=zdI c;exact⟨rfl,by simp only[tyEq,he,he2]⟩
theorem ztI:∀(t:Ty) (x:den t),(cellsOf t x).length=tsz t
 |.i _,_=>rfl|.b,_=>rfl|.s,_=>rfl|.er,_=>rfl|.mp _ _,_=>rfl|.sl _,_=>rfl|.jk _,_=>rfl|.pt _,_=>rfl|.pm _ _ _,_=>rfl|.un,_=>rfl|.pr a c,x=>by rw[cellsOf,List.length_append,ztI a,ztI c];rfl
theorem zjJ(hp:List AO)(t:Ty)(x:den t):zhC hp t (.v t x)=some x:=by obtain⟨h,he⟩:=zdI t;simp only[zhC,he];rfl
theorem zuK(hp:List AO):∀(t:Ty) (x:den t),zdR hp t (cellsOf t x)=some x
 |.i _,x=>zjJ hp _ x|.b,x=>zjJ hp _ x|.s,x=>zjJ hp _ x|.er,x=>zjJ hp _ x|.mp _ _,x=>zjJ hp _ x|.sl _,x=>zjJ hp _ x|.jk _,x=>zjJ hp _ x|.pt _,x=>zjJ hp _ x|.pm _ _ _,x=>zjJ hp _ x|.un,_=>rfl|.pr a c,x=>by
  have h1:(cellsOf a x.1++cellsOf c x.2).take (tsz a)=cellsOf a x.1:=by rw[<-ztI a x.1,List.take_left]
  have h2:(cellsOf a x.1++cellsOf c x.2).drop (tsz a)=cellsOf c x.2:=by rw[<-ztI a x.1,List.drop_left]
  simp only[cellsOf,zdR,h1,h2,zuK hp a,zuK hp c];rfl
theorem yiP(hp:List AO)(t:Ty)(x:den t):ofSV hp t (svOf t x)=some x:=by
 unfold svOf;cases ho:one t with
 |true=>show(bif one t then zhC hp t (.v t x)else none)=_;rw[ho];exact zjJ hp t x
 |false=>show(bif one t then none else zdR hp t (cellsOf t x))=_;rw[ho];exact zuK hp t x
inductive Can:List Ty->List SV->Prop
 |nil:Can [] []
 |cons {t l xs} (y:den t):Can l xs->Can (t::l) (svOf t y::xs)
theorem Can.app:∀{l m xs ys},Can l xs->Can m ys->Can (l++m) (xs++ys)
 |_,_,_,_,.nil,h=>h|_,_,_,_,.cons y t,h=>.cons y (Can.app t h)
theorem yhW(hp:List AO):∀{l:List Ty} {xs:List SV} {x:zcM l},Can l xs->ybT hp l xs=some x->zhN l x=xs
 |[],_,_,.nil,_=>rfl|[t],_,_,.cons y .nil,h=>by have h:ofSV hp t (svOf t y)=some _:=h;rw[yiP]at h;cases h;rfl
 |t::t'::l,_,_,.cons y (.cons y' r),h=>by
  simp only[ybT,yiP]at h;split at h
  ·rename_i x1 x2 h1 h2;cases h1;cases h;have:=yhW hp (.cons y' r) h2;show svOf t y::zhN (t'::l) x2=_;rw[this]
  ·cases h
def REi(e e':EI):Prop:=e'=e∨(∃r v s,e = .osl r v s/\e' = .osl 0 v s)∨(∃g b ck es g',e = .mp g b ck es/\e' = .mp g' b ck es)∨∃r v bs,e = .fam r v bs/\e' = .fam 0 v bs
structure HpE (hp:List AO) (E:List EI):Prop where
 osl:∀(i r:Nat) e T (xs:List (den e)),hp[i]? = some (.osl r e T xs)->∃v s,E[i]? = some (.osl r v s)
 fam:∀(i r:Nat) T f (ks:List (den (fT f))),hp[i]? = some (.fam r T f ks)->∃v bs,E[i]? = some (.fam r v bs)
 qu:∀(i r:Nat) e T (xs:List (den e)),hp[i]? = some (.qu r e T xs)->∃v s,E[i]? = some (.osl r v s)
theorem HpE.of{S:Mem}{hp:List AO}{E:List EI}{L:List Res}(h:∀(i:Nat) o,hp[i]? = some o->∃r e,L[i]? = some r/\E[i]? = some e/\OR S E o r e):HpE hp E:=
 ⟨fun i r e T xs ho=>by
  obtain⟨r0,e0,k1,k2,v,v',cs,rs,_,k3,_⟩:=h i _ ho;rw[k3]at k2;exact⟨_,_,k2⟩,
 fun i r T f ks ho=>by obtain⟨r0,e0,k1,k2,v,rs,ms,bs,_,k3,_⟩:=h i _ ho;rw[k3]at k2;exact⟨_,_,k2⟩,
 fun i r e T xs ho=>by
  obtain⟨r0,e0,k1,k2,b,c,p,ps,cs,rs,q,c',_,k3,_⟩:=h i _ ho
  rw[k3]at k2;exact⟨_,_,k2⟩⟩
def RE(ρ:List Nat)(E E':List EI):Prop:=∀(k:Nat) (e':EI),E'[k]? = some e'->e' = .dead∨∃id e,ρ[k]? = some id/\E[id]? = some e/\REi e e'
section
variable {S S2:Mem}{E E':List EI}{ρ:List Nat}{hp hq:List AO}
theorem ybK{a:Sh}{x:SV}{p:List SV}(h:a.getB ρ hp hq x=some p):nofn x=true/\noag x=true/\notu x=true:=by
 cases x with
 |fn=>cases a<;>first|(cases h;done)|(rename_i t;simp only[Sh.getB]at h;cases t<;>cases h)
 |ag=>cases a<;>first|(cases h;done)|(rename_i t;simp only[Sh.getB]at h;cases t<;>cases h)
 |undef=>cases a<;>first|(cases h;done)|(rename_i t;simp only[Sh.getB]at h;cases t<;>cases h)
 |skp=>cases a<;>first|(cases h;done)|(rename_i t;simp only[Sh.getB]at h;cases t<;>cases h)
 |tup=>cases a<;>first|(cases h;done)|(rename_i t;simp only[Sh.getB]at h;cases t<;>cases h)
 |_=>exact⟨rfl,rfl,rfl⟩
theorem yrN(hS:Mem.le S S2)(hQ:ztP S S2 E hq)(hR:RE ρ E E')(hN:E'.length=ρ.length)(hO:HpE hp E){a:Sh}{x:SV}{u:Value}{p:List SV}(h:a.getB ρ hp hq x=some p)(hx:VB S E x u):
  Can a.tysB p/\∀rest,VB S2 E' (a.putB (p++rest)).1 u/\(a.putB (p++rest)).2=rest/\noag (a.putB (p++rest)).1=true/\nofn (a.putB (p++rest)).1=true:=by
 have ex:∀{k id:Nat},atN ρ k=some id->∃e',E'[k]? = some e'/\(e' = .dead∨∃e,E[id]? = some e/\REi e e'):=fun {k id} hk=>by
  rw[zcT]at hk;have hlt:k<E'.length:=by rw[hN];exact(aC.1 hk).1
  refine⟨E'[k],aI hlt,?_⟩;rcases hR k _ (aI hlt)with h|⟨id',e,h1,h2,h3⟩
  ·exact .inl h
  ·rw[hk]at h1;cases h1;exact .inr ⟨e,h2,h3⟩
 have hr:∀{t:Ty} {y:den t} {cs:LV} {b o:Nat},CellP S2 b o cs->rep t S2 cs y->u = .pointer (some ⟨b,o,none⟩)->p=[svOf t y]->Can (Sh.hr t).tysB p/\∀rest,VB S2 E' ((Sh.hr t).putB (p++rest)).1 u/\((Sh.hr t).putB (p++rest)).2=rest/\noag ((Sh.hr t).putB (p++rest)).1=true/\nofn ((Sh.hr t).putB (p++rest)).1=true:=fun {t y cs b o} h1 h2 h3 h4=>by
  subst h4;refine⟨.cons y .nil,fun rest=>?_⟩;have e1:(Sh.hr t).putB ([svOf t y]++rest)=(.rp t y 0,rest):=by simp only[bN,List.nil_append,Sh.putB,yiP]
  rw[e1];exact⟨⟨b,o,cs,h3,h1,h2⟩,rfl,rfl,rfl⟩
 cases a with
 |h t=>
  simp only[Sh.getB]at h;cases ho:one t with
  |false=>rw[ho]at h;cases h
  |true=>
   rw[ho]at h;simp only[zE]at h;split at h
   ·rename_i y hy;cases h;have e1:svOf t y = .v t y:=by unfold svOf;rw[ho];rfl
    refine⟨by rw[<-e1];exact .cons y .nil,fun rest=>⟨?_,rfl,rfl,rfl⟩⟩;exact(zgO hS hQ hy hx.c:rep t S2 [u] y)
   ·cases h
 |kn k c=>
  cases x with
  |v t y=>
   cases t with
   |i k'=>
    simp only[Sh.getB]at h;split at h
    ·rename_i hk _;obtain⟨hk⟩:=hk;subst hk;obtain⟨hb,h⟩:=zaJ h;cases h;have h1:=zC (zaT hb);have h2:=zC (zaW hb);refine⟨.nil,fun rest=>⟨?_,rfl,rfl,rfl⟩⟩;have hx:[u]=[Value.int k' (toI k' y)]:=hx;show [u]=[Value.int k' (toI k' (ofI k' c))];rw[hx,h1,h2]
    ·cases h
   |_=>cases h
  |_=>cases h
 |own k=>
  cases x with
  |own id ver=>
   simp only[Sh.getB]at h;split at h
   ·rename_i id' ver' e T xs hk hc;cases hb:aG id' id&&aG ver ver' with
    |false=>rw[hb]at h;cases h
    |true=>
     rw[hb]at h;cases h;have h1:=aB (zaT hb);have h2:=aB (zaW hb);subst h1;subst h2;refine⟨.nil,fun rest=>⟨?_,rfl,rfl,rfl⟩⟩;obtain⟨h4,e1,h5,h6⟩:=hx;rw[zcT]at hc;obtain⟨v,s,h7⟩:=hO.osl _ _ _ _ _ hc;rw[h7]at h5;cases h5;obtain⟨e',h8,h9⟩:=ex hk;refine⟨h4,e',h8,fun r' v' s' hq=>⟨bX _,fun _=>?_⟩⟩;subst hq;rcases h9 with h9|⟨e2,h9,h10⟩
     ·cases h9
     ·rw[h7]at h9;cases h9;rcases h10 with h10|⟨_,_,_,h11,h10⟩|⟨_,_,_,_,_,h11,_⟩|⟨_,_,_,h11,_⟩
      ·cases h10;exact(h6 _ _ _ rfl).2 rfl
      ·cases h11;cases h10;exact(h6 _ _ _ rfl).2 rfl
      ·cases h11
      ·cases h11
   ·rename_i id' ver' e T xs hk hc;cases hb:aG id' id&&aG ver ver' with
    |false=>rw[hb]at h;cases h
    |true=>
     rw[hb]at h;cases h;have h1:=aB (zaT hb);have h2:=aB (zaW hb);subst h1;subst h2;refine⟨.nil,fun rest=>⟨?_,rfl,rfl,rfl⟩⟩;obtain⟨h4,e1,h5,h6⟩:=hx;rw[zcT]at hc;obtain⟨v,s,h7⟩:=hO.qu _ _ _ _ _ hc;rw[h7]at h5;cases h5;obtain⟨e',h8,h9⟩:=ex hk;refine⟨h4,e',h8,fun r' v' s' hq=>⟨bX _,fun _=>?_⟩⟩;subst hq;rcases h9 with h9|⟨e2,h9,h10⟩
     ·cases h9
     ·rw[h7]at h9;cases h9;rcases h10 with h10|⟨_,_,_,h11,h10⟩|⟨_,_,_,_,_,h11,_⟩|⟨_,_,_,h11,_⟩
      ·cases h10;exact(h6 _ _ _ rfl).2 rfl
      ·cases h11;cases h10;exact(h6 _ _ _ rfl).2 rfl
      ·cases h11
      ·cases h11
   ·cases h
  |_=>cases h
 |ptr k off=>
  cases x with
  |ptr id off'=>
   simp only[Sh.getB]at h;split at h
   ·rename_i id' hk;cases hb:aG id' id&&aG off off' with
    |false=>rw[hb]at h;cases h
    |true=>
     rw[hb]at h;cases h;have h1:=aB (zaT hb);have h2:=aB (zaW hb);subst h1;subst h2;refine⟨.nil,fun rest=>⟨?_,rfl,rfl,rfl⟩⟩;obtain⟨b0,h4,e1,h5,h6⟩:=hx;obtain⟨e',h8,h9⟩:=ex hk;refine⟨b0,h4,e',h8,fun b hb=>?_⟩;subst hb;rcases h9 with h9|⟨e2,h9,h10⟩
     ·cases h9
     ·rw[h5]at h9;cases h9;rcases h10 with h10|⟨_,_,_,_,h10⟩|⟨_,_,_,_,_,_,h10⟩|⟨_,_,_,_,h10⟩
      ·exact h6 _ h10.symm
      ·cases h10
      ·cases h10
      ·cases h10
   ·cases h
  |_=>cases h
 |mpr k=>
  cases x with
  |mpr id=>
   simp only[Sh.getB]at h;split at h
   ·rename_i id' hk;cases hb:aG id' id with
    |false=>rw[hb]at h;cases h
    |true=>
     rw[hb]at h;cases h;have h1:=aB hb;subst h1;refine⟨.nil,fun rest=>⟨?_,rfl,rfl,rfl⟩⟩;obtain⟨h4,e1,h5,h6⟩:=hx;obtain⟨e',h8,h9⟩:=ex hk;refine⟨h4,e',h8,fun g b ck es hb=>?_⟩;subst hb;rcases h9 with h9|⟨e2,h9,h10⟩
     ·cases h9
     ·rw[h5]at h9;cases h9;rcases h10 with h10|⟨_,_,_,_,h10⟩|⟨g1,b1,c1,es1,_,h11,h10⟩|⟨_,_,_,_,h10⟩
      ·exact h6 _ _ _ _ h10.symm
      ·cases h10
      ·cases h10;exact h6 _ _ _ _ h11
      ·cases h10
   ·cases h
  |_=>cases h
 |fs k=>
  cases x with
  |fs id ver=>
   simp only[Sh.getB]at h;split at h
   ·rename_i id' ver' T f ks hk hc;cases hb:aG id' id&&aG ver ver' with
    |false=>rw[hb]at h;cases h
    |true=>
     rw[hb]at h;cases h;have h1:=aB (zaT hb);have h2:=aB (zaW hb);subst h1;subst h2;refine⟨.nil,fun rest=>⟨?_,rfl,rfl,rfl⟩⟩;obtain⟨h4,e1,h5,h6⟩:=hx;rw[zcT]at hc;obtain⟨v,s,h7⟩:=hO.fam _ _ _ _ _ hc;rw[h7]at h5;cases h5;obtain⟨e',h8,h9⟩:=ex hk;refine⟨h4,e',h8,fun r' v' s' hq=>⟨bX _,fun _=>?_⟩⟩;subst hq;rcases h9 with h9|⟨e2,h9,h10⟩
     ·cases h9
     ·rw[h7]at h9;cases h9;rcases h10 with h10|⟨_,_,_,h11,_⟩|⟨_,_,_,_,_,h11,_⟩|⟨_,_,_,h11,h10⟩
      ·cases h10;exact(h6 _ _ _ rfl).2 rfl
      ·cases h11
      ·cases h11
      ·cases h11;cases h10;exact(h6 _ _ _ rfl).2 rfl
   ·cases h
  |_=>cases h
 |nilp=>
  cases x with
  |nilp=>cases h;exact⟨.nil,fun rest=>⟨hx,rfl,rfl,rfl⟩⟩
  |_=>cases h
 |nils=>
  cases x with
  |nils=>cases h;exact⟨.nil,fun rest=>⟨hx,rfl,rfl,rfl⟩⟩
  |_=>cases h
 |hc e=>
  cases x with
  |cl e' xs=>
   simp only[Sh.getB]at h;split at h
   ·rename_i hh _;cases h;subst hh;refine⟨.cons (t:=.sl e') (show den (.sl e')from xs) .nil,fun rest=>?_⟩;obtain⟨h7,h8⟩:=zdI e';have e1:(Sh.hc e').putB ([svOf (.sl e') (show den (.sl e')from xs)]++rest)=(.cl e' xs,rest):=by show(Sh.hc e').putB (.v (.sl e') xs::rest)=_;simp only[Sh.putB,h8];rfl
    have e2:([SV.v (.sl e') (ziC (by rfl:Ty.sl e'=Ty.sl e') xs)]++rest)=[svOf (.sl e') (show den (.sl e')from xs)]++rest:=rfl;show VB S2 E' ((Sh.hc e').putB ([svOf (.sl e') (show den (.sl e')from xs)]++rest)).1 u/\_=rest/\noag ((Sh.hc e').putB ([svOf (.sl e') (show den (.sl e')from xs)]++rest)).1=true/\nofn ((Sh.hc e').putB ([svOf (.sl e') (show den (.sl e')from xs)]++rest)).1=true;rw[e1];exact⟨⟨hx.1.mono hS,hx.2⟩,rfl,rfl,rfl⟩
   ·cases h
  |_=>cases h
 |hr t=>
  cases x with
  |rp t' y off=>
   cases off with
   |zero=>
    simp only[Sh.getB]at h;split at h
    ·rename_i hh _;cases h;subst hh;obtain⟨b,o,us,h1,h2,h3⟩:=hx;exact hr (y:=y) (h2.mono hS) ((rpD t').mono h3 hS) h1 rfl
    ·cases h
   |succ=>cases h
  |ptr id off=>
   cases off with
   |zero=>
    simp only[Sh.getB]at h;split at h
    ·rename_i T cs hc;split at h
     ·rename_i y hy;cases h;obtain⟨b,us,h1,h2,h3⟩:=hQ.blk id T cs u hc hx;exact hr (.inl h2) (zjA hS hQ t hy h3) h1 rfl
     ·cases h
    ·cases h
   |succ=>cases h
  |_=>cases h
 |fn=>cases h
 |ag l=>cases h
theorem ycW(hS:Mem.le S S2)(hQ:ztP S S2 E hq)(hR:RE ρ E E')(hN:E'.length=ρ.length)(hO:HpE hp E):∀{l:List Sh} {xs:List SV} {us:LV} {p:List SV},ytR ρ hp hq l xs=some p->A2 (VA (VB S E)) xs us ->
  Can (l.flatMap Sh.tysB) p/\∀rest,A2 (VA (VB S2 E')) (zzD l (p++rest)).1 us/\(zzD l (p++rest)).2=rest
 |[],[],us,p,h,hx=>by cases h;cases hx;exact⟨.nil,fun rest=>⟨.nil,rfl⟩⟩
 |[],_::_,_,_,h,_=>by cases h
 |_::_,[],_,_,h,_=>by cases h
 |a::l,x::xs,us,p,h,hx=>by
  cases hx with
  |cons h1 h2=>
   unfold ytR at h;split at h
   ·rename_i p1 q1 h3 h4;cases h;obtain⟨h5,h6⟩:=yrN hS hQ hR hN hO h3 (h1.b (ybK h3).2.1);obtain⟨h7,h8⟩:=ycW hS hQ hR hN hO h4 h2;refine⟨h5.app h7,fun rest=>?_⟩;obtain⟨h9,h10,h13,_⟩:=h6 (q1++rest);obtain⟨h11,h12⟩:=h8 rest;rw[bG];simp only[zzD,h10];exact⟨.cons (VA.of h9 h13) h11,h12⟩
   ·cases h
theorem yvL(hS:Mem.le S S2)(hQ:ztP S S2 E hq)(hR:RE ρ E E')(hN:E'.length=ρ.length)(hO:HpE hp E){a:Sh}{x:SV}{u:Value}{p:List SV}(h:a.getC ρ hp hq x=some p)(hx:VC S E x u):
  Can a.tysC p/\∀rest,VC S2 E' (a.putC (p++rest)).1 u/\(a.putC (p++rest)).2=rest:=by
 have base:∀{a:Sh},a.getB ρ hp hq x=some p->a.tysC=a.tysB->(∀l,a.putC l=a.putB l)->Can a.tysC p/\∀rest,VC S2 E' (a.putC (p++rest)).1 u/\(a.putC (p++rest)).2=rest:=fun {a} h e1 e2=>by obtain⟨h1,h2⟩:=yrN hS hQ hR hN hO h (hx.b (ybK h).1);rw[e1];exact⟨h1,fun rest=>by rw[e2];exact⟨(h2 rest).1.c,(h2 rest).2.1⟩⟩
 cases a with
 |fn f la lc=>
  cases x with
  |fn f' a' c'=>
   simp only[Sh.getC]at h;cases hb:aG f f' with
   |false=>rw[hb]at h;cases h
   |true=>
    rw[hb]at h;have:=aB hb;subst this;simp only[zE]at h;split at h
    ·rename_i p1 q1 h3 h4;cases h;obtain⟨us,ws,hu,h5,h6⟩:=hx;obtain⟨k1,k2⟩:=ycW hS hQ hR hN hO h3 h5;obtain⟨k3,k4⟩:=ycW hS hQ hR hN hO h4 h6;refine⟨k1.app k3,fun rest=>?_⟩;obtain⟨k5,k6⟩:=k2 (q1++rest);obtain⟨k7,k8⟩:=k4 rest;rw[bG];simp only[Sh.putC,k6];exact⟨⟨us,ws,hu,k5,k7⟩,k8⟩
    ·cases h
  |_=>cases h
 |_=>exact base h rfl fun _=>rfl
theorem ycN(hS:Mem.le S S2)(hQ:ztP S S2 E hq)(hR:RE ρ E E')(hN:E'.length=ρ.length)(hO:HpE hp E):∀{l:List Sh} {xs:List SV} {us:LV} {p:List SV},ypS ρ hp hq l xs=some p->A2 (VC S E) xs us ->
  Can (l.flatMap Sh.tysC) p/\∀rest,A2 (VC S2 E') (ybV l (p++rest)).1 us/\(ybV l (p++rest)).2=rest
 |[],[],us,p,h,hx=>by cases h;cases hx;exact⟨.nil,fun rest=>⟨.nil,rfl⟩⟩
 |[],_::_,_,_,h,_=>by cases h
 |_::_,[],_,_,h,_=>by cases h
 |a::l,x::xs,us,p,h,hx=>by
  cases hx with
  |cons h1 h2=>
   unfold ypS at h;split at h
   ·rename_i p1 q1 h3 h4;cases h;obtain⟨h5,h6⟩:=yvL hS hQ hR hN hO h3 h1;obtain⟨h7,h8⟩:=ycN hS hQ hR hN hO h4 h2;refine⟨h5.app h7,fun rest=>?_⟩;obtain⟨h9,h10⟩:=h6 (q1++rest);obtain⟨h11,h12⟩:=h8 rest;rw[bG];simp only[ybV,h10];exact⟨.cons h9 h11,h12⟩
   ·cases h
theorem yfN{a:Sh}{x:SV}{p:List SV}(h:a.getC ρ hp hq x=some p):notu x=true/\noag x=true:=by
 have base:∀(a:Sh),a.getB ρ hp hq x=some p->notu x=true/\noag x=true:=fun a h=>⟨(ybK h).2.2,(ybK h).2.1⟩;cases a with
 |fn=>cases x<;>first|exact⟨rfl,rfl⟩|cases h
 |h t=>exact base (.h t) h|own i=>exact base (.own i) h|ptr i o=>exact base (.ptr i o) h|nilp=>exact base .nilp h|nils=>exact base .nils h|mpr i=>exact base (.mpr i) h|hc e=>exact base (.hc e) h|hr t=>exact base (.hr t) h|fs i=>exact base (.fs i) h|kn k c=>exact base (.kn k c) h|ag l=>exact base (.ag l) h
theorem xcU(hS:Mem.le S S2)(hQ:ztP S S2 E hq)(hR:RE ρ E E')(hN:E'.length=ρ.length)(hO:HpE hp E){a:Sh}{x:SV}{u:Value}{p:List SV}(h:a.get ρ hp hq x=some p)(hx:VR S E x u):
  Can a.tys p/\∀rest,VR S2 E' (a.put (p++rest)).1 u/\(a.put (p++rest)).2=rest:=by
 have base:∀{a:Sh},a.getC ρ hp hq x=some p->a.tys=a.tysC->(∀l,a.put l=a.putC l)->Can a.tys p/\∀rest,VR S2 E' (a.put (p++rest)).1 u/\(a.put (p++rest)).2=rest:=fun {a} h e1 e2=>by obtain⟨h1,h2⟩:=yvL hS hQ hR hN hO h ((hx.b (yfN h).1).b (yfN h).2);rw[e1];exact⟨h1,fun rest=>by rw[e2];exact⟨VR.ofC (h2 rest).1,(h2 rest).2⟩⟩
 cases a with
 |h t=>
  simp only[Sh.get]at h;split at h
  ·rename_i y hy;cases h;refine⟨.cons y .nil,fun rest=>⟨?_,rfl⟩⟩;exact VR.of (zmP (znL hS hQ hy hx))
  ·cases h
 |ag l=>
  cases x with
  |ag xs=>obtain⟨us,hu,hx⟩:=hx;obtain⟨h1,h2⟩:=ycN hS hQ hR hN hO h hx;exact⟨h1,fun rest=>⟨⟨us,hu,(h2 rest).1⟩,(h2 rest).2⟩⟩
  |_=>cases h
 |_=>exact base h rfl fun _=>rfl
theorem ysD(hS:Mem.le S S2)(hQ:ztP S S2 E hq)(hR:RE ρ E E')(hN:E'.length=ρ.length)(hO:HpE hp E):∀{l:List Sh} {xs:List SV} {us:LV} {p:List SV},getL ρ hp hq l xs=some p->A2 (VR S E) xs us ->
  Can (l.flatMap Sh.tys) p/\∀rest,A2 (VR S2 E') (putL l (p++rest)).1 us/\(putL l (p++rest)).2=rest
 |[],[],us,p,h,hx=>by cases h;cases hx;exact⟨.nil,fun rest=>⟨.nil,rfl⟩⟩
 |[],_::_,_,_,h,_=>by cases h
 |_::_,[],_,_,h,_=>by cases h
 |a::l,x::xs,us,p,h,hx=>by
  cases hx with
  |cons h1 h2=>
   unfold getL at h;split at h
   ·rename_i p1 q1 h3 h4;cases h;obtain⟨h5,h6⟩:=xcU hS hQ hR hN hO h3 h1;obtain⟨h7,h8⟩:=ysD hS hQ hR hN hO h4 h2;refine⟨h5.app h7,fun rest=>?_⟩;obtain⟨h9,h10⟩:=h6 (q1++rest);obtain⟨h11,h12⟩:=h8 rest;rw[bG];simp only[putL,h10];exact⟨.cons h9 h11,h12⟩
   ·cases h
end
def zkC:Res:=.osl (.slice none 0 0) 0 0 [] [] 0
def reL(L:List Res):List OSh->List Nat->List Res
 |o::os,id::ids=>(bif live o then(match lkR L id with
  |some r=>r|none=>zkC)else zkC)::reL L os ids
 |_,_=>[]
def reI:OSh->Option EI->EI
 |.dead,_=>.dead|_,none=>.dead|.osl _ _,some (.osl _ v s)=>.osl 0 v s|.qu _ _,some (.osl _ v s)=>.osl 0 v s|.mp kp _ _,some (.mp _ b ck es)=>.mp (bif kp then 0 else 1) b ck es|.fam _ _,some (.fam _ v bs)=>.fam 0 v bs|_,some e=>e
def reE(E:List EI):List OSh->List Nat->List EI
 |o::os,id::ids=>reI o E[id]? :: reE E os ids|_,_=>[]
theorem xbB(E:List EI):∀(os:List OSh) (ids:List Nat),RE ids E (reE E os ids)
 |[],_,i,e',h=>by cases i<;>cases h
 |_::_,[],i,e',h=>by cases i<;>cases h
 |o::os,id::ids,0,e',h=>by
  cases h;cases hE:E[id]? with
  |none=>left;cases o<;>rfl
  |some e=>
   cases o with
   |dead=>exact .inl rfl|blk=>exact .inr ⟨id,e,rfl,hE,.inl rfl⟩|it=>exact .inr ⟨id,e,rfl,hE,.inl rfl⟩|is=>exact .inr ⟨id,e,rfl,hE,.inl rfl⟩|osl=>
    cases e with
    |osl r v s=>exact .inr ⟨id,_,rfl,hE,.inr (.inl ⟨r,v,s,rfl,rfl⟩)⟩|_=>exact .inr ⟨id,_,rfl,hE,.inl rfl⟩
   |qu=>
    cases e with
    |osl r v s=>exact .inr ⟨id,_,rfl,hE,.inr (.inl ⟨r,v,s,rfl,rfl⟩)⟩|_=>exact .inr ⟨id,_,rfl,hE,.inl rfl⟩
   |mp=>
    cases e with
    |mp g b ck es=>exact .inr ⟨id,_,rfl,hE,.inr (.inr (.inl ⟨g,b,ck,es,_,rfl,rfl⟩))⟩|_=>exact .inr ⟨id,_,rfl,hE,.inl rfl⟩
   |fam=>
    cases e with
    |fam r v bs=>exact .inr ⟨id,_,rfl,hE,.inr (.inr (.inr ⟨r,v,bs,rfl,rfl⟩))⟩|_=>exact .inr ⟨id,_,rfl,hE,.inl rfl⟩
 |o::os,id::ids,k+1,e',h=>by
  have h:(reE E os ids)[k]? = some e':=by simpa[reE]using h
  rcases xbB E os ids k e' h with h1|⟨id',e,h1,h2,h3⟩
  ·exact .inl h1
  ·exact .inr ⟨id',e,by simpa using h1,h2,h3⟩
theorem yqM(E:List EI):∀(os:List OSh) (ids:List Nat) {k:Nat} {kp:Bool} {K V:Ty} {g b ck:Nat} {es:List MapEntry},os[k]? = some (.mp kp K V)->(reE E os ids)[k]? = some (.mp g b ck es)->g=bif kp then 0 else 1
 |[],_,_,_,_,_,_,_,_,_,h,_=>by simp at h
 |_::_,[],_,_,_,_,_,_,_,_,_,h=>by simp[reE]at h
 |o::os,id::ids,0,_,_,_,_,_,_,_,h,h2=>by
  simp at h;subst h;simp only[reE,List.getElem?_cons_zero,Option.some.injEq]at h2;cases hE:E[id]? with
  |none=>rw[hE]at h2;cases h2
  |some e=>rw[hE]at h2;cases e<;>cases h2;rfl
 |o::os,id::ids,k+1,_,_,_,_,_,_,_,h,h2=>yqM E os ids (k:=k) (by simpa using h) (by simpa[reE]using h2)
theorem ygZ(E:List EI):∀(os:List OSh) (ids:List Nat),os.length=ids.length->(reE E os ids).length=ids.length
 |[],[],_=>rfl|_::os,_::ids,h=>by simp[reE,ygZ E os ids (by simpa using h)]
theorem yaG(L:List Res):∀(os:List OSh) (ids:List Nat) (k:Nat) (q:Res),lkR (reL L os ids) k=some q->q=zkC∨∃o id,os[k]? = some o/\live o=true/\ids[k]? = some id/\lkR L id=some q
 |[],_,k,q,h=>by simp[reL,lkR]at h
 |o::os,[],k,q,h=>by simp[reL,lkR]at h
 |o::os,id::ids,0,q,h=>by
  simp only[reL,lkR]at h;cases hl:live o with
  |false=>rw[hl]at h;cases h;exact .inl rfl
  |true=>
   rw[hl]at h;simp only[zE,Option.some.injEq]at h;cases hL:lkR L id with
   |none=>rw[hL]at h;exact .inl h.symm|some r=>rw[hL]at h;subst h;exact .inr ⟨o,id,rfl,hl,rfl,hL⟩
 |o::os,id::ids,k+1,q,h=>by
  simp only[reL,lkR]at h;rcases yaG L os ids k q h with h1|⟨o',id',h1,h2,h3,h4⟩
  ·exact .inl h1
  ·exact .inr ⟨o',id',by simpa using h1,h2,by simpa using h3,h4⟩
theorem ztW{id:Nat}:∀{os:List OSh} {ids:List Nat} {k:Nat} {o:OSh},os[k]? = some o->live o=true->ids[k]? = some id->zyM id os ids=true
 |[],_,k,_,h,_,_=>by simp at h
 |_::_,[],k,_,_,_,h=>by simp at h
 |o::os,i::ids,0,_,h1,h2,h3=>by simp at h1 h3;subst h1;subst h3;simp[zyM,h2]
 |o::os,i::ids,k+1,_,h1,h2,h3=>by simp only[zyM,cJ];exact .inr (ztW (by simpa using h1) h2 (by simpa using h3))
theorem yaQ:∀{os:List OSh} {ids:List Nat} {k k':Nat} {o o':OSh} {id:Nat},dist os ids=true->os[k]? = some o->live o=true->ids[k]? = some id->os[k']? = some o'->live o'=true->ids[k']? = some id->k=k'
 |[],_,k,_,_,_,_,_,h,_,_,_,_,_=>by simp at h
 |_::_,[],k,_,_,_,_,_,_,_,h,_,_,_=>by simp at h
 |o::os,i::ids,k,k',o1,o2,id,hd,h1,h2,h3,h4,h5,h6=>by
  simp only[dist,aK,cJ,Bool.not_eq_true']at hd;cases k with
  |zero=>
   simp at h1 h3;subst h1;subst h3;cases k' with
   |zero=>rfl|succ k'=>
    rcases hd.1 with h|h
    ·rw[h2]at h;cases h
    ·rw[ztW (by simpa using h4) h5 (by simpa using h6)]at h;cases h
  |succ k=>
   cases k' with
   |zero=>
    simp at h4 h6;subst h4;subst h6;rcases hd.1 with h|h
    ·rw[h5]at h;cases h
    ·rw[ztW (by simpa using h1) h2 (by simpa using h3)]at h;cases h
   |succ k'=>exact congrArg (· + 1) (yaQ hd.2 (by simpa using h1) h2 (by simpa using h3) (by simpa using h4) h5 (by simpa using h6))
theorem HS.re{B:Bas}{S:Mem}{w:World}{L:List Res}(H:HS B S w L){os:List OSh}{ids:List Nat}(hd:dist os ids=true):HS B S w (reL L os ids):=by
 refine⟨H.fr,H.sub,H.keep,fun i q h=>?_,fun i q b h hb=>?_,fun i j q s b hi hj hq hs=>?_⟩
 ·rcases yaG L os ids i q h with rfl|⟨_,id,_,_,_,h⟩
  ·exact .inl ⟨rfl,rfl,rfl,rfl⟩
  ·exact H.own id q h
 ·rcases yaG L os ids i q h with rfl|⟨_,id,_,_,_,h⟩
  ·cases hb
  ·exact H.old id q b h hb
 ·rcases yaG L os ids i q hi with rfl|⟨o1,id1,g1,g2,g3,g4⟩
  ·cases hq
  ·rcases yaG L os ids j s hj with rfl|⟨o2,id2,g5,g6,g7,g8⟩
   ·cases hs
   ·have:=H.inj id1 id2 q s b g4 g8 hq hs;subst this;exact yaQ hd g1 g2 g3 g5 g6 g7
inductive OL (S:Mem) (E:List EI):List AO->List Res->List EI->Prop
 |nil:OL S E [] [] []
 |cons {o r e os rs es}:OR S E o r e->OL S E os rs es->OL S E (o::os) (r::rs) (e::es)
section
variable {n:Nat}{B:Bas}{S:Mem}{E E':List EI}{L:List Res}{σ:St}{m:FM}{V:Nat->Value}{w:World}{ρ:List Nat}{hp:List AO}
theorem OL.len:∀{os:List AO} {rs:List Res} {es:List EI},OL S E os rs es->rs.length=os.length/\es.length=os.length
 |_,_,_,.nil=>⟨rfl,rfl⟩|_,_,_,.cons _ t=>by obtain⟨h1,h2⟩:=OL.len t;exact⟨by simp[h1],by simp[h2]⟩
theorem OL.at:∀{os:List AO} {rs:List Res} {es:List EI},OL S E os rs es->∀(i:Nat) o,os[i]? = some o->∃r e,rs[i]? = some r/\es[i]? = some e/\OR S E o r e
 |_,_,_,.nil,i,o,h=>by cases i<;>cases h
 |_,_,_,.cons a t,0,o,h=>by cases h;exact⟨_,_,rfl,rfl,a⟩
 |_,_,_,.cons a t,i+1,o,h=>by obtain⟨r,e,h1,h2,h3⟩:=OL.at t i o (by simpa using h);exact⟨r,e,by simpa using h1,by simpa using h2,h3⟩
theorem zkB{all:List OSh}(hG:∀(k:Nat) kp K V,all[k]? = some (.mp kp K V)->∀g b ck es,E'[k]? = some (.mp g b ck es)->g=bif kp then 0 else 1)(hR:RE ρ E E')(hN:E'.length=ρ.length)(hO:HpE hp E) (ho:∀(i:Nat) o,hp[i]? = some o->∃r e,L[i]? = some r/\E[i]? = some e/\OR S E o r e):∀{os:List OSh} {ids:List Nat} {q:List SV},zhU ρ hp os ids=some q->itOk all os=true->os.length=ids.length ->
  Can (os.flatMap OSh.tys) q/\∀rest,OL S E' (zdM os (q++rest)) (reL L os ids) (reE E os ids)
 |[],ids,_,h,_,hl=>by
  cases h
  have:ids=[]:=by cases ids with
   |nil=>rfl|cons=>simp at hl
  subst this;exact⟨.nil,fun _=>by simp[zdM,reL,reE];exact .nil⟩
 |o::os,[],_,_,_,hl=>by simp at hl
 |o::os,id::ids,q,h,hi,hl=>by
  have hl':os.length=ids.length:=by simpa using hl
  cases o with
  |dead=>simp only[zhU]at h;obtain⟨h2,h3⟩:=zkB hG hR hN hO ho h hi hl';exact⟨h2,fun rest=>.cons ⟨rfl,rfl⟩ (h3 rest)⟩
  |blk T l=>
   simp only[zhU]at h;split at h
   ·rename_i T' cs hc;cases hb:aG T T' with
    |false=>rw[hb]at h;cases h
    |true=>
     rw[hb]at h;have hT:=aB hb;subst hT;simp only[zE]at h;split at h
     ·rename_i p1 q1 h4 h5;cases h;rw[zcT]at hc;obtain⟨r,e,k1,k2,b,us,rfl,rfl,h6⟩:=ho id _ hc;obtain⟨h2,h3⟩:=zkB hG hR hN hO ho h5 hi hl';obtain⟨h7,h8⟩:=ycN (Mem.le_refl S) zeH hR hN hO h4 h6;refine⟨h7.app h2,fun rest=>?_⟩;obtain⟨h9,h10⟩:=h8 (q1++rest);rw[bG];simp only[zdM,h10,reL,reE,zaX,k1,k2,live,zE,reI];exact .cons ⟨b,us,rfl,rfl,h9⟩ (h3 rest)
     ·cases h
   ·cases h
  |osl e T=>
   simp only[zhU]at h;split at h
   ·rename_i r e' T' ys hc;cases hb:aG T T' with
    |false=>rw[hb]at h;cases h
    |true=>
     rw[hb]at h;have hT:=aB hb;subst hT;simp only[zE]at h;split at h
     ·rename_i hh q1 h4 h5;cases h;subst hh;rw[zcT]at hc;obtain⟨r1,e1,k1,k2,v,v',cs,rs,rfl,rfl,h6⟩:=ho id _ hc;obtain⟨h2,h3⟩:=zkB hG hR hN hO ho h5 hi hl';refine⟨Can.cons (t:=.sl e') (show den (.sl e')from ys) h2,fun rest=>?_⟩;obtain⟨h7,h8⟩:=zdI e';simp only[bN,zdM,h8,reL,reE,zaX,k1,k2,live,zE,reI];exact .cons ⟨v,v',cs,rs,rfl,rfl,h6⟩ (h3 rest)
     ·cases h
   ·cases h
  |qu e T=>
   simp only[zhU]at h;split at h
   ·rename_i r e' T' ys hc;cases hb:aG T T' with
    |false=>rw[hb]at h;cases h
    |true=>
     rw[hb]at h;have hT:=aB hb;subst hT;simp only[zE]at h;split at h
     ·rename_i hh q1 h4 h5;cases h;subst hh;rw[zcT]at hc;obtain⟨r1,e1,k1,k2,b,c,p,ps,cs,rs,qq,c',rfl,rfl,h6⟩:=ho id _ hc;obtain⟨h2,h3⟩:=zkB hG hR hN hO ho h5 hi hl';refine⟨Can.cons (t:=.sl e') (show den (.sl e')from ys) h2,fun rest=>?_⟩;obtain⟨h7,h8⟩:=zdI e';simp only[bN,zdM,h8,reL,reE,zaX,k1,k2,live,zE,reI];exact .cons ⟨b,c,p,ps,cs,rs,qq,c',rfl,rfl,h6⟩ (h3 rest)
     ·cases h
   ·cases h
  |mp kp K V=>
   simp only[zhU]at h;split at h
   ·rename_i g K' V' es hc;split at h
    ·rename_i hh q1 h4 h5;cases h;cases hh;rw[zcT]at hc;obtain⟨r1,e1,k1,k2,b,ents,ck,rfl,rfl,h6,h7⟩:=ho id _ hc;obtain⟨h2,h3⟩:=zkB hG hR hN hO ho h5 hi hl';refine⟨Can.cons (t:=.mp _ _) (show den (.mp _ _)from es) h2,fun rest=>?_⟩;obtain⟨h8,h9⟩:=zdI (.mp K V);simp only[bN,zdM,h9,reL,reE,zaX,k1,k2,live,zE,reI];exact .cons ⟨b,ents,ck,rfl,rfl,h6,h7⟩ (h3 rest)
    ·cases h
   ·cases h
  |is=>
   simp only[zhU]at h;split at h
   ·rename_i l p q1 hc h5;cases h;rw[zcT]at hc;obtain⟨r1,e1,k1,k2,b,rfl,rfl⟩:=ho id _ hc;obtain⟨h2,h3⟩:=zkB hG hR hN hO ho h5 hi hl';refine⟨Can.cons (t:=.s) l (Can.cons (t:=.i .i64) (p:Int) h2),fun rest=>?_⟩;simp only[bN,zdM,reL,reE,zaX,k1,k2,live,zE,reI];exact .cons ⟨b,rfl,rfl⟩ (h3 rest)
   ·cases h
  |fam T f=>
   simp only[zhU]at h;split at h
   ·rename_i r T' f' ks hc;cases hb:aG T T' with
    |false=>rw[hb]at h;cases h
    |true=>
     rw[hb]at h;have hT:=aB hb;subst hT;simp only[zE]at h;split at h
     ·rename_i hh q1 h4 h5;cases h;subst hh;rw[zcT]at hc;obtain⟨r1,e1,k1,k2,v,rs,ms,bs,rfl,rfl,h6⟩:=ho id _ hc;obtain⟨h2,h3⟩:=zkB hG hR hN hO ho h5 hi hl';refine⟨Can.cons (t:=.sl (fT f')) (show den (.sl (fT f'))from ks) h2,fun rest=>?_⟩;obtain⟨h7,h8⟩:=zdI (fT f');simp only[bN,zdM,h8,reL,reE,zaX,k1,k2,live,zE,reI];exact .cons ⟨v,rs,ms,bs,rfl,rfl,h6⟩ (h3 rest)
     ·cases h
   ·cases h
  |it j kp K=>
   simp only[itOk]at hi;split at hi
   ·rename_i kp' K0 V0 hj;have hkp:kp'=kp:=by cases kp<;>cases kp'<;>first|rfl|cases zaT hi
    subst hkp;replace hi:=zaW hi;simp only[zhU]at h;split at h
    ·rename_i mid g K' cur ks mid' hc hm;split at h
     ·rename_i g' K1 V1 es1 hm1;obtain⟨hb,hq⟩:=zaJ h;clear h;have h1:=aB (zaT hb);have h2:=aB (zaW hb);subst h1;subst h2;split at hq
      ·rename_i hh q1 h4 h5;cases hq;subst hh;rw[zcT]at hc hm hm1 hj;obtain⟨r1,e1,k1,k2,b,mb,ck,seen,rfl,rfl,hK,e2,k3,k4⟩:=ho id _ hc;obtain⟨r3,e3,_,k5,b3,ents,ck3,rfl,rfl,_,_⟩:=ho mid _ hm1;rw[k5]at k3;cases k3;obtain⟨_,k6⟩:=k4 _ _ _ _ rfl;obtain⟨h2,h3⟩:=zkB hG hR hN hO ho h5 hi hl';refine⟨Can.cons (t:=.sl K') (show den (.sl K')from ks) h2,fun rest=>?_⟩;obtain⟨h8,h9⟩:=zdI K';simp only[bN,zdM,h9,reL,reE,zaX,k1,k2,live,zE,reI];refine .cons ⟨b,mb,ck,seen,rfl,rfl,hK,?_⟩ (h3 rest);have hjl:j<E'.length:=by rw[hN];exact(aC.1 hm).1
       refine⟨E'[j],aI hjl,fun g2 b2 c2 es2 he=>?_⟩;have hEj:=aI hjl;rw[he]at hEj;have hg2:=hG j _ _ _ hj _ _ _ _ hEj;subst hg2;refine⟨aJ _,fun _=>?_⟩;rcases hR j _ hEj with h|⟨id',e',r1,r2,r3⟩
       ·cases h
       ·rw[hm]at r1;cases r1;rw[k5]at r2;cases r2;obtain⟨q1,q2,q3⟩:=k6 rfl;have q4:b2=b3/\c2=ck3/\es2=ents:=by
         rcases r3 with r3|⟨_,_,_,r3,_⟩|⟨_,_,_,_,_,r3,r4⟩|⟨_,_,_,r3,_⟩
         ·cases r3;exact⟨rfl,rfl,rfl⟩
         ·cases r3
         ·cases r3;cases r4;exact⟨rfl,rfl,rfl⟩
         ·cases r3
        obtain⟨rfl,rfl,rfl⟩:=q4;exact⟨q1,q2,fun en hen=>⟨(q3 en hen).1,fun c hcc=>by cases hcc⟩⟩
      ·cases hq
     ·cases h
    ·cases h
   ·cases hi
theorem ylM(hR:RE ρ E E')(hN:E'.length=ρ.length)(hO:HpE σ.hp E)(hs:∀t,VR S E (lkS σ.sl t) (V t)):∀{s:List (Nat×Sh)} {p:List SV},ywM ρ σ s=some p ->
  Can (s.flatMap fun p=>p.2.tys) p/\∀rest,(∀t,VR S E' (lkS (yhK s (p++rest)).1 t) (V t))/\(yhK s (p++rest)).2=rest
 |[],p,h=>by cases h;exact⟨.nil,fun rest=>⟨fun t=>trivial,rfl⟩⟩
 |(d,a)::s,p,h=>by
  unfold ywM at h;split at h
  ·rename_i p1 q1 h1 h2;cases h;obtain⟨h3,h4⟩:=xcU (Mem.le_refl S) zeH hR hN hO h1 (hs d);obtain⟨h5,h6⟩:=ylM hR hN hO hs h2;refine⟨h3.app h5,fun rest=>?_⟩;obtain⟨h7,h8⟩:=h4 (q1++rest);obtain⟨h9,h10⟩:=h6 rest;rw[bG];simp only[yhK,h8];refine⟨fun t=>?_,h10⟩;unfold lkS;cases ht:aG d t with
   |true=>rw[<-aB ht];exact h7|false=>exact h9 t
  ·cases h
theorem zsL(k:Nat)(b:List (Nat×Nat)):∀(os:List OSh) (i:Nat),os.length=(rhoL k b i os).length
 |[],_=>rfl|_::os,i=>by simp[rhoL,zsL k b os (i+1)]
theorem ydC(R:RelV B S E L σ V w){s:Shp}{ρ:List Nat}{x:zcM s.tys}(hl:s.hp.length=ρ.length)(h:s.get1 ρ σ=some x):RelV B S (reE E s.hp ρ) (reL L s.hp ρ) (s.put x) V w:=by
 unfold Shp.get1 at h;obtain⟨hd,h⟩:=zaJ h;have hit:=zaW hd;replace hd:=zaT hd;split at h
 ·rename_i p q h1 h2;have hO:HpE σ.hp E:=.of R.obj;have hR:=xbB E s.hp ρ;have hN:=ygZ E s.hp ρ hl;obtain⟨h3,h4⟩:=ylM hR hN hO R.sl h1;obtain⟨h5,h6⟩:=zkB (all:=s.hp) (fun k kp K V hk g b ck es he=>yqM E s.hp ρ hk he) hR hN hO R.obj h2 hit hl;have h7:zhN s.tys x=p++q:=yhW [] (h3.app h5) h;obtain⟨h8,h9⟩:=h4 q;unfold Shp.put;rw[h7];have h10:=h6 [];rw[List.append_nil]at h10;rw[h9];exact⟨HS.re R.hs hd,h10.len.1,h10.len.2,fun i o ho=>h10.at i o ho,h8⟩
 ·cases h
def PinI(e e':EI):Prop:=e' = .dead∨e'=e∨(∃g b ck es g' ck' es',e = .mp g b ck es/\e' = .mp g' b ck' es'/\(g'=0->g=0/\ck'=ck/\Fewer es es'))∨∃r v bs r' v' bs',e = .fam r v bs/\e' = .fam r' v' bs'
theorem PinI.refl(e:EI):PinI e e:=.inr (.inl rfl)
theorem PinI.trans{a b c:EI}(h:PinI a b)(k:PinI b c):PinI a c:=by
 rcases k with rfl|rfl|⟨g,x,ck,es,g',ck',es',rfl,rfl,k⟩|⟨r,v,bs,r',v',bs',rfl,rfl⟩
 ·exact .inl rfl
 ·exact h
 ·rcases h with h|h|⟨g1,x1,c1,e1,g2,c2,e2,rfl,h,k1⟩|⟨_,_,_,_,_,_,_,h⟩
  ·cases h
  ·subst h;exact .inr (.inr (.inl ⟨_,_,_,_,_,_,_,rfl,rfl,k⟩))
  ·cases h;refine .inr (.inr (.inl ⟨_,_,_,_,_,_,_,rfl,rfl,fun h0=>?_⟩));obtain⟨h1,h2,h3⟩:=k h0;obtain⟨h4,h5,h6⟩:=k1 h1;exact⟨h4,h2.trans h5,h6.trans h3⟩
  ·cases h
 ·rcases h with h|h|⟨_,_,_,_,_,_,_,_,h,_⟩|⟨_,_,_,_,_,_,rfl,h⟩
  ·cases h
  ·subst h;exact .inr (.inr (.inr ⟨_,_,_,_,_,_,rfl,rfl⟩))
  ·cases h
  ·exact .inr (.inr (.inr ⟨_,_,_,_,_,_,rfl,rfl⟩))
def Pin(N0:Nat)(E E':List EI):Prop:=∀(k:Nat) e,k<N0->E[k]? = some e->∃e',E'[k]? = some e'/\((∃r v s,e = .osl r v s/\(e' = .dead∨∃r' v',e' = .osl r' v' s/\(r'=0->r=0/\v'=v)))∨((∀r v s,e≠.osl r v s)/\PinI e e'))
theorem Pin.refl(N0:Nat)(E:List EI):Pin N0 E E:=fun k e _ h=>⟨e,h,by
 by_cases hh:∃r v s,e = .osl r v s
 ·obtain⟨r,v,s,rfl⟩:=hh;exact .inl ⟨r,v,s,rfl,.inr ⟨r,v,rfl,fun h=>⟨h,rfl⟩⟩⟩
 ·exact .inr ⟨fun r v s h=>hh ⟨r,v,s,h⟩,.refl e⟩⟩
theorem PinI.noosl{e e':EI}(h:PinI e e')(hn:∀r v s,e≠.osl r v s):∀r v s,e'≠.osl r v s:=fun r v s h'=>by
 subst h';rcases h with h|h|⟨_,_,_,_,_,_,_,_,h,_⟩|⟨_,_,_,_,_,_,_,h⟩
 ·cases h
 ·exact hn _ _ _ h.symm
 ·cases h
 ·cases h
theorem Pin.trans{N0:Nat}{A B C:List EI}(h:Pin N0 A B)(k:Pin N0 B C):Pin N0 A C:=fun i e hi he=>by
 obtain⟨e1,h1,h2⟩:=h i e hi he;obtain⟨e2,h3,h4⟩:=k i e1 hi h1;refine⟨e2,h3,?_⟩;rcases h2 with⟨r,v,s,rfl,h2⟩|⟨hn,h2⟩
 ·refine .inl ⟨r,v,s,rfl,?_⟩;rcases h2 with rfl|⟨r1,v1,rfl,h2⟩
  ·rcases h4 with⟨_,_,_,h,_⟩|⟨_,h4⟩
   ·cases h
   ·rcases h4 with h4|h4|⟨_,_,_,_,_,_,_,h,_,_⟩|⟨_,_,_,_,_,_,h,_⟩
    ·exact .inl h4
    ·exact .inl h4
    ·cases h
    ·cases h
  ·rcases h4 with⟨r2,v2,s2,h,h4⟩|⟨hn,_⟩
   ·cases h;rcases h4 with h4|⟨r3,v3,rfl,h4⟩
    ·exact .inl h4
    ·refine .inr ⟨r3,v3,rfl,fun h0=>?_⟩;obtain⟨h5,h6⟩:=h4 h0;obtain⟨h7,h8⟩:=h2 h5;exact⟨h7,h6.trans h8⟩
   ·exact absurd rfl (hn _ _ _)
 ·refine .inr ⟨hn,?_⟩;rcases h4 with⟨r,v,s,h,_⟩|⟨_,h4⟩
  ·exact absurd h (h2.noosl hn _ _ _)
  ·exact h2.trans h4
theorem Pin.of{N0:Nat}{E E':List EI}(h:ELe E E'):Pin N0 E E':=fun k e _ he=>by
 obtain⟨e',h1,h2⟩:=h k e he;refine⟨e',h1,?_⟩;cases e with
 |blk b=>
  refine .inr ⟨fun _ _ _ h=>(by cases h),?_⟩;rcases h2 with h2|h2
  ·exact .inr (.inl h2)
  ·exact .inl h2
 |osl r v s=>
  refine .inl ⟨r,v,s,rfl,?_⟩;rcases h2 with rfl|rfl|⟨r',v',rfl,h3⟩
  ·exact .inr ⟨r,v,rfl,fun h=>⟨h,rfl⟩⟩
  ·exact .inl rfl
  ·exact .inr ⟨r',v',rfl,fun h=>by omega⟩
 |mp g b ck es=>
  refine .inr ⟨fun _ _ _ h=>(by cases h),?_⟩;rcases h2 with rfl|⟨g',ck',es',rfl,h3⟩
  ·exact .inl rfl
  ·refine .inr (.inr (.inl ⟨_,_,_,_,_,_,_,rfl,rfl,fun h0=>?_⟩));rcases h3 with h3|⟨h4,h5,h6⟩
   ·omega
   ·exact⟨by omega,h5.symm,h6⟩
 |fam r v bs=>
  refine .inr ⟨fun _ _ _ h=>(by cases h),?_⟩;rcases h2 with h2|h2|⟨r',v',bs',rfl,h3⟩
  ·exact .inr (.inl h2)
  ·exact .inl h2
  ·exact .inr (.inr (.inr ⟨_,_,_,_,_,_,rfl,rfl⟩))
 |dead=>have h2:e' = .dead:=h2;exact .inr ⟨fun _ _ _ h=>(by cases h),.inl h2⟩
theorem xcV:∀(n i k:Nat) (l:List (Nat×Nat)),i<=k->k<i+n->lkN (idB i n++l) k=some k
 |0,_,_,_,h1,h2=>by omega
 |n+1,i,k,l,h1,h2=>by
  simp only[idB,bN,lkN];cases hb:aG i k with
  |true=>rw[aB hb];rfl|false=>
   have:i≠k:=fun e=>by subst e;rw[dX]at hb;cases hb
   exact xcV n (i+1) k l (by omega) (by omega)
theorem yuG{a b:List (Nat×Nat)}{k i:Nat}(h:lkN a k=some i):lkN (a++b) k=some i:=by
 induction a with
 |nil=>cases h
 |cons p a ih=>
  obtain⟨x,y⟩:=p;simp only[bN,lkN]at h ⊢;cases hb:aG x k with
  |true=>rw[hb]at h;exact h|false=>rw[hb]at h;exact ih h
theorem ziG(hp:List AO){k i:Nat}:∀(os:List OSh) (j:Nat) (b:List (Nat×Nat)),lkN b k=some i->lkN (zpP hp j os b) k=some i
 |[],_,_,h=>h|.blk _ l::os,j,b,h=>by
  unfold zpP;refine ziG hp os (j+1) _ ?_;split
  ·split
   ·exact yuG h
   ·exact h
  ·exact h
 |.it _ _ _::os,j,b,h=>by
  unfold zpP;refine ziG hp os (j+1) _ ?_;split
  ·split
   ·exact yuG h
   ·exact h
  ·exact h
 |.is::os,j,b,h=>ziG hp os (j+1) b h|.qu _ _::os,j,b,h=>ziG hp os (j+1) b h|.osl _ _::os,j,b,h=>ziG hp os (j+1) b h|.mp _ _ _::os,j,b,h=>ziG hp os (j+1) b h|.fam _ _::os,j,b,h=>ziG hp os (j+1) b h|.dead::os,j,b,h=>ziG hp os (j+1) b h
theorem yvK(n:Nat)(b:List (Nat×Nat)):∀(os:List OSh) (j k:Nat),k<os.length->(rhoL n b j os)[k]? = some (match lkN b (j+k) with
  |some id=>id|none=>n)
 |[],_,_,h=>by simp at h
 |_::os,j,0,_=>rfl|_::os,j,k+1,h=>by have:=yvK n b os (j+1) k (by simpa using h);rw[show j+1+k=j+(k+1) by omega]at this;simpa[rhoL]using this
theorem rho_pin{N0 k:Nat}{s:Shp}(hk:k<N0)(hs:N0<=s.hp.length):(s.rho N0 σ)[k]? = some k:=by unfold Shp.rho;rw[yvK _ _ _ _ _ (by omega),ziG _ _ _ _ (xcV N0 0 (0+k) _ (by omega) (by omega))];simp
theorem ysA(E:List EI):∀(os:List OSh) (ids:List Nat) (k id:Nat),os.length=ids.length->ids[k]? = some id->∃o,os[k]? = some o/\(reE E os ids)[k]? = some (reI o E[id]?)
 |[],[],k,_,_,h=>by simp at h
 |o::os,id::ids,0,_,_,h=>by simp at h;subst h;exact⟨o,rfl,rfl⟩
 |o::os,id::ids,k+1,i,hl,h=>by obtain⟨o',h1,h2⟩:=ysA E os ids k i (by simpa using hl) (by simpa using h);exact⟨o',by simpa using h1,by simpa[reE]using h2⟩
theorem yjE:∀{N0:Nat} {l:List AO} {os:List OSh} {k:Nat},zqS N0 l os=true->k<N0->∀{ver:Nat} {e:Ty} {T:TypeId} {xs:List (den e)} {e':Ty} {T':TypeId},l[k]? = some (.osl ver e T xs)->os[k]? = some (.osl e' T')->ver=0
 |0,_,_,_,_,h,_,_,_,_,_,_,_,_=>by omega
 |n+1,[],_,k,_,_,_,_,_,_,_,_,h,_=>by simp at h
 |n+1,a::l,[],k,_,_,_,_,_,_,_,_,_,h=>by simp at h
 |n+1,a::l,o::os,0,h,_,ver,e,T,xs,e',T',h1,h2=>by simp at h1 h2;subst h1;subst h2;exact aB (zaT h)
 |n+1,a::l,o::os,k+1,h,hk,ver,e,T,xs,e',T',h1,h2=>by
  have h3:zqS n l os=true:=by cases a<;>cases o<;>first|exact h|exact zaW h|cases h
  exact yjE (k:=k) h3 (by omega) (by simpa using h1) (by simpa using h2)
theorem yeK:∀{N0:Nat} {l:List AO} {os:List OSh} {k:Nat} {T:TypeId} {f:List FSh},zqS N0 l os=true->k<N0->k<l.length->os[k]? = some (.fam T f)->False
 |0,_,_,_,_,_,_,h,_,_=>by omega
 |n+1,[],_,k,_,_,_,_,h,_=>by simp at h
 |n+1,a::l,[],k,_,_,_,_,_,h=>by simp at h
 |n+1,a::l,o::os,0,_,_,h,_,_,h2=>by simp at h2;subst h2;cases a<;>cases h
 |n+1,a::l,o::os,k+1,_,_,h,hk,hk2,h2=>by
  have h3:zqS n l os=true:=by cases a<;>cases o<;>first|exact h|exact zaW h|cases h
  exact yeK (k:=k) h3 (by omega) (by simpa using hk2) (by simpa using h2)
theorem ylA:∀{N0:Nat} {l:List AO} {os:List OSh} {k:Nat} {e:Ty} {T:TypeId},zqS N0 l os=true->k<N0->k<l.length->os[k]? = some (.qu e T)->False
 |0,_,_,_,_,_,_,h,_,_=>by omega
 |n+1,[],_,k,_,_,_,_,h,_=>by simp at h
 |n+1,a::l,[],k,_,_,_,_,_,h=>by simp at h
 |n+1,a::l,o::os,0,_,_,h,_,_,h2=>by simp at h2;subst h2;cases a<;>cases h
 |n+1,a::l,o::os,k+1,_,_,h,hk,hk2,h2=>by
  have h3:zqS n l os=true:=by cases a<;>cases o<;>first|exact h|exact zaW h|cases h
  exact ylA (k:=k) h3 (by omega) (by simpa using hk2) (by simpa using h2)
theorem xfO(σ:St)(id:Nat):(frz σ id).hp.length=σ.hp.length:=by
 unfold frz;split
 ·simp[zeE]
 ·rfl
theorem zwA:∀(l:List Nat) (σ:St),(frzL σ l).hp.length=σ.hp.length
 |[],_=>rfl|i::l,σ=>(zwA l (frz σ i)).trans (xfO σ i)
theorem frzS_hp(σ:St)(id k:Nat){o:AO}(h:(frz σ id).hp[k]? = some o):∃o',σ.hp[k]? = some o'/\(o = .dead∨(∀ver e T (xs:List (den e)),o = .osl ver e T xs->o'=o)):=by
 unfold frz at h;split at h
 ·rename_i ver e T xs hc;simp only[bI,zeE]at h;cases hq:(σ.hp.set id .dead)[k]? with
  |none=>rw[hq]at h;cases h
  |some q=>
   rw[hq]at h;by_cases hj:id=k
   ·subst hj;have hi:id<σ.hp.length:=by have:=(aC.1 hq).1;simpa using this
    rw[aL hi]at hq;cases hq;cases h;exact⟨σ.hp[id],aI hi,.inl rfl⟩
   ·rw[aM hj]at hq;refine⟨q,hq,.inr fun ver' e' T' xs' ho=>?_⟩;cases h;cases q<;>first|rfl|cases ho
 ·exact⟨o,h,.inr fun _ _ _ _ _=>rfl⟩
theorem ysQ:∀(l:List Nat) (σ:St) (k:Nat) {ver:Nat} {e:Ty} {T:TypeId} {xs:List (den e)},(frzL σ l).hp[k]? = some (.osl ver e T xs)->σ.hp[k]? = some (.osl ver e T xs)
 |[],_,_,_,_,_,_,h=>h|i::l,σ,k,_,_,_,_,h=>by
  have h1:=ysQ l (frz σ i) k h;obtain⟨o',h2,h3⟩:=frzS_hp σ i k h1;rcases h3 with h3|h3
  ·cases h3
  ·rw[h2,h3 _ _ _ _ rfl]
theorem yjU:∀{N0:Nat} {l:List AO} {os:List OSh} {k:Nat},zqS N0 l os=true->k<N0->∀{g:Nat} {K V:Ty} {es:List (den K×den V)} {K' V':Ty},l[k]? = some (.mp g K V es)->os[k]? = some (.mp true K' V')->g=0
 |0,_,_,_,_,h,_,_,_,_,_,_,_,_=>by omega
 |n+1,[],_,k,_,_,_,_,_,_,_,_,h,_=>by simp at h
 |n+1,a::l,[],k,_,_,_,_,_,_,_,_,_,h=>by simp at h
 |n+1,a::l,o::os,0,h,_,g,K,V,es,K',V',h1,h2=>by simp at h1 h2;subst h1;subst h2;have h3:=zaT h;simp only[Bool.not_true,Bool.false_or]at h3;exact aB h3
 |n+1,a::l,o::os,k+1,h,hk,g,K,V,es,K',V',h1,h2=>by
  have h3:zqS n l os=true:=by cases a<;>cases o<;>first|exact h|exact zaW h|cases h
  exact yjU (k:=k) h3 (by omega) (by simpa using h1) (by simpa using h2)
theorem ysT:∀(l:List Nat) (σ:St) (k:Nat) {g:Nat} {K V:Ty} {es:List (den K×den V)},(frzL σ l).hp[k]? = some (.mp g K V es)->σ.hp[k]? = some (.mp g K V es)
 |[],_,_,_,_,_,_,h=>h|i::l,σ,k,g,K,V,es,h=>by
  have h1:=ysT l (frz σ i) k h;unfold frz at h1;split at h1
  ·simp only[bI,zeE]at h1;by_cases hj:i=k
   ·subst hj;cases hq:(σ.hp.set i .dead)[i]? with
    |none=>rw[hq]at h1;cases h1
    |some q=>
     have hi:i<σ.hp.length:=by have:=(aC.1 hq).1;simpa using this
     rw[aL hi]at h1;cases h1
   ·rw[aM hj]at h1;cases hq:σ.hp[k]? with
    |none=>rw[hq]at h1;cases h1
    |some q=>rw[hq]at h1;cases q<;>first|exact h1|cases h1
  ·exact h1
theorem ydY:∀{N0:Nat} {l:List AO} {os:List OSh} {k:Nat} {ver:Nat} {e:Ty} {T:TypeId} {xs:List (den e)} {o:OSh},zqS N0 l os=true->k<N0->l[k]? = some (.qu ver e T xs)->os[k]? = some o->False
 |0,_,_,_,_,_,_,_,_,_,h,_,_=>by omega
 |n+1,[],_,k,_,_,_,_,_,_,_,h,_=>by simp at h
 |n+1,a::l,[],k,_,_,_,_,_,_,_,_,h=>by simp at h
 |n+1,a::l,o::os,0,_,_,_,_,_,h,_,h1,_=>by simp at h1;subst h1;cases o<;>cases h
 |n+1,a::l,o::os,k+1,_,_,_,_,_,h,hk,h1,h2=>by
  have h3:zqS n l os=true:=by cases a<;>cases o<;>first|exact h|exact zaW h|cases h
  exact ydY (k:=k) h3 (by omega) (by simpa using h1) (by simpa using h2)
theorem ytE:∀(l:List Nat) (σ:St) (k:Nat) {ver:Nat} {e:Ty} {T:TypeId} {xs:List (den e)},(frzL σ l).hp[k]? = some (.qu ver e T xs)->σ.hp[k]? = some (.qu ver e T xs)
 |[],_,_,_,_,_,_,h=>h|i::l,σ,k,ver,e,T,xs,h=>by
  have h1:=ytE l (frz σ i) k h;unfold frz at h1;split at h1
  ·simp only[bI,zeE]at h1;by_cases hj:i=k
   ·subst hj;cases hq:(σ.hp.set i .dead)[i]? with
    |none=>rw[hq]at h1;cases h1
    |some q=>
     have hi:i<σ.hp.length:=by have:=(aC.1 hq).1;simpa using this
     rw[aL hi]at h1;cases h1
   ·rw[aM hj]at h1;cases hq:σ.hp[k]? with
    |none=>rw[hq]at h1;cases h1
    |some q=>rw[hq]at h1;cases q<;>first|exact h1|cases h1
  ·exact h1
theorem yaI{N0:Nat}(_R:RelV B S E L σ V w)(Rf:∀l:List Nat,∃S' E' L',Mem.le S S'/\ELe E E'/\RelV B S' E' L' (frzL σ l) V w){s:Shp}{x:zcM s.tys}(h:s.get N0 σ=some x):∃S' E' L',Mem.le S S'/\Pin N0 E E'/\RelV B S' E' L' (s.put x) V w:=by
 unfold Shp.get at h;cases hb:Nat.ble N0 s.hp.length&&zqS N0 σ.hp s.hp with
 |false=>rw[hb]at h;cases h
 |true=>
 rw[hb]at h;have hb1:=Nat.le_of_ble_eq_true (zaT hb);obtain⟨S1,E1,L1,hS,hE1,R1⟩:=Rf (s.need N0 σ);have hl:=zsL σ.hp.length (zpP σ.hp 0 s.hp (idB 0 N0++s.sl.flatMap fun p=>p.2.bindS (lkS σ.sl p.1))) s.hp 0;have hg1:s.get1 (s.rho N0 σ) (frzL σ (s.need N0 σ))=some x:=h;refine⟨S1,_,_,hS,(Pin.of hE1).trans fun k e hk he=>?_,ydC R1 hl h⟩;obtain⟨o,h1,h2⟩:=ysA E1 s.hp (s.rho N0 σ) k k hl (rho_pin hk hb1);refine⟨_,h2,?_⟩;rw[he];have key:∀{e2:EI},(∀r v s,e≠.osl r v s)->PinI e e2->((∃r v s,e = .osl r v s/\(e2 = .dead∨∃r' v',e2 = .osl r' v' s/\(r'=0->r=0/\v'=v)))∨((∀r v s,e≠.osl r v s)/\PinI e e2)):=fun h1 h2=>.inr ⟨h1,h2⟩;cases o with
 |dead=>
  cases e with
  |osl r v z=>exact .inl ⟨r,v,z,rfl,.inl rfl⟩|_=>exact key (fun _ _ _ h=>by cases h) (.inl rfl)
 |blk=>
  cases e with
  |osl r v z=>exact .inl ⟨r,v,z,rfl,.inr ⟨r,v,rfl,fun h=>⟨h,rfl⟩⟩⟩|_=>exact key (fun _ _ _ h=>by cases h) (.inr (.inl rfl))
 |it=>
  cases e with
  |osl r v z=>exact .inl ⟨r,v,z,rfl,.inr ⟨r,v,rfl,fun h=>⟨h,rfl⟩⟩⟩|_=>exact key (fun _ _ _ h=>by cases h) (.inr (.inl rfl))
 |is=>
  cases e with
  |osl r v z=>exact .inl ⟨r,v,z,rfl,.inr ⟨r,v,rfl,fun h=>⟨h,rfl⟩⟩⟩|_=>exact key (fun _ _ _ h=>by cases h) (.inr (.inl rfl))
 |osl e' T'=>
  cases e with
  |osl r v z=>
   refine .inl ⟨r,v,z,rfl,.inr ⟨0,v,rfl,fun _=>⟨?_,rfl⟩⟩⟩
   -- the version is 0, by zqS
   have hlt:k<(frzL σ (s.need N0 σ)).hp.length:=by rw[<-R1.lE];exact(aC.1 he).1
   obtain⟨r1,e1,k1,k2,k3⟩:=R1.obj k _ (aI hlt);rw[he]at k2;cases k2;cases hq:(frzL σ (s.need N0 σ)).hp[k] with
   |osl ver ee TT xs=>rw[hq]at k3;obtain⟨_,_,_,_,_,h9,_⟩:=k3;cases h9;have h10:=ysQ (s.need N0 σ) σ k (by rw[aI hlt,hq]);exact yjE (zaW hb) hk h10 h1
   |blk=>rw[hq]at k3;obtain⟨_,_,_,h9,_⟩:=k3;cases h9
   |mp=>rw[hq]at k3;obtain⟨_,_,_,_,h9,_⟩:=k3;cases h9
   |it=>rw[hq]at k3;obtain⟨_,_,_,_,_,h9,_⟩:=k3;cases h9
   |is=>rw[hq]at k3;obtain⟨_,_,h9⟩:=k3;cases h9
   |qu ver ee TT xs=>exact(ydY (zaW hb) hk (ytE (s.need N0 σ) σ k (by rw[aI hlt,hq])) h1).elim|fam=>rw[hq]at k3;obtain⟨_,_,_,_,_,h9,_⟩:=k3;cases h9
   |famO=>rw[hq]at k3;obtain⟨_,_,_,_,_,_,_,h9,_⟩:=k3;cases h9
   |dead=>rw[hq]at k3;cases k3.2
  |_=>exact key (fun _ _ _ h=>by cases h) (.inr (.inl rfl))
 |fam=>exact(yeK (zaW hb) hk (by rw[<-zwA (s.need N0 σ),<-R1.lE];exact(aC.1 he).1) h1).elim|qu=>exact(ylA (zaW hb) hk (by rw[<-zwA (s.need N0 σ),<-R1.lE];exact(aC.1 he).1) h1).elim|mp kp K V=>
  cases e with
  |mp g b ck es=>
   refine key (fun _ _ _ h=>by cases h) (.inr (.inr (.inl ⟨_,_,_,_,_,_,_,rfl,rfl,fun h0=>?_⟩)));refine⟨?_,rfl,Fewer.refl _⟩;cases kp with
   |false=>cases h0
   |true=>
    have hlt:k<(frzL σ (s.need N0 σ)).hp.length:=by rw[<-R1.lE];exact(aC.1 he).1
    obtain⟨r1,e1,k1,k2,k3⟩:=R1.obj k _ (aI hlt);rw[he]at k2;cases k2;cases hq:(frzL σ (s.need N0 σ)).hp[k] with
    |mp g2 K2 V2 es2=>rw[hq]at k3;obtain⟨_,_,_,_,h9,_⟩:=k3;cases h9;exact yjU (zaW hb) hk (ysT (s.need N0 σ) σ k (by rw[aI hlt,hq])) h1
    |blk=>rw[hq]at k3;obtain⟨_,_,_,h9,_⟩:=k3;cases h9
    |osl=>rw[hq]at k3;obtain⟨_,_,_,_,_,h9,_⟩:=k3;cases h9
    |it=>rw[hq]at k3;obtain⟨_,_,_,_,_,h9,_⟩:=k3;cases h9
    |is=>rw[hq]at k3;obtain⟨_,_,h9⟩:=k3;cases h9
    |qu=>rw[hq]at k3;obtain⟨_,_,_,_,_,_,_,_,_,h9,_⟩:=k3;cases h9
    |fam=>rw[hq]at k3;obtain⟨_,_,_,_,_,h9,_⟩:=k3;cases h9
    |famO=>rw[hq]at k3;obtain⟨_,_,_,_,_,_,_,h9,_⟩:=k3;cases h9
    |dead=>rw[hq]at k3;cases k3.2
  |osl r v z=>exact .inl ⟨r,v,z,rfl,.inr ⟨r,v,rfl,fun h=>⟨h,rfl⟩⟩⟩|_=>exact key (fun _ _ _ h=>by cases h) (.inr (.inl rfl))
end
end Go.Proofs.YtmbcolbbekbccaaGreat.Am
