/- Parts of one proof. Conditions: as each theorem says. -/
import Derived.StillTail
import Derived.Below
import Derived.KernelRfl
import Derived.WalkKit
open Array renaming ext'->dS,ext_getElem?->iF,getD_eq_getD_getElem?->iD,getElem?_eq_getElem->cP,getElem?_eq_none->fO,getElem?_eq_some_iff->bF,getElem?_ofFn->jA,ofFn->jK,range->eO,replicate->fP
open Bool renaming and_eq_true->aK,eq_iff_iff->fQ,false_eq_true->dH,false_ne_true->fL,not_eq_false'->jD,or_eq_true->cJ
open List renaming all_eq_true->bH,contains_eq_mem->bW,countP_cons->gO,countP_eq_zero->gY,ext_getElem?->aX,getElem?_cons_succ->cD,getElem?_eq_none->bT,getElem?_set_ne->aM,getElem?_toArray->eJ,length_cons->aN,length_set->bP,mapM_toArray->jH,mem_range->bU,range'->cZ,range'_succ->eK,range->bR
open Nat renaming add_sub_add_right->iU,beq->aG,ble->bM,ble_eq->eV,blt->cM,le_of_ble_eq_true->aR,le_refl->aJ,le_trans->aY,lt_of_lt_of_le->bE,lt_or_ge->fY,strongRecOn->eN,zero_add->aQ,zero_le->bX
open Option renaming bind_some->fD
namespace Go.Proofs.YtmbcolbbekbccaaGreat
theorem _root_.Go.Proofs.zA{p:Prop}[Decidable p](h:p):decide p=true:=decide_eq_true h
theorem _root_.Go.Proofs.zC{p:Prop}[Decidable p](h:decide p=true):p:=of_decide_eq_true h
theorem _root_.Go.Proofs.zD{p:Prop}[Decidable p]:(decide p=true)=p:=decide_eq_true_eq
theorem _root_.Go.Proofs.zE{α:Sort _}(a b:α):cond true a b=a:=rfl
theorem _root_.Go.Proofs.zF{α:Sort _}(a b:α):cond false a b=b:=rfl
theorem _root_.Go.Proofs.zG{c:Prop}{h:Decidable c}(k:¬c){α:Sort _}{t e:α}:ite c t e=e:=if_neg k
theorem _root_.Go.Proofs.zH{c:Prop}{h:Decidable c}(k:c){α:Sort _}{t e:α}:ite c t e=t:=if_pos k
open Go Go.RowKit
abbrev Bs:=List UInt8
abbrev LV:=List Value
abbrev _root_.UInt8.I(x:UInt8):Int:=(x.toNat:Int)
abbrev _root_.UInt16.I(x:UInt16):Int:=(x.toNat:Int)
abbrev _root_.UInt32.I(x:UInt32):Int:=(x.toNat:Int)
abbrev _root_.UInt64.I(x:UInt64):Int:=(x.toNat:Int)
section
structure Gv where
 v:Value
 f:Nat->Bool
instance :CoeOut Gv Value:=⟨Gv.v⟩
abbrev zfD:=Nat->Option (Sum Value (Gv->World->Prop))
def Ext(w w':World):Prop:=Below w.heap.size w w'
theorem Ext.refl(w:World):Ext w w:=Below.refl _ _
theorem Ext.trans{a b c:World}(h:Ext a b)(k:Ext b c):Ext a c:=Below.trans h (Below.mono k h.size)
def zgN(Φ:zfD)(vs:Nat->Gv)(w:World)(j:Nat):Prop:=
 match Φ j with
 |some (.inr φ)=>φ (vs j) w|_=>True
def zeS(Φ:zfD)(vs:Nat->Gv)(w:World):List Nat->Prop
 |[]=>True|j::l=>zgN Φ vs w j/\zeS Φ vs w l
theorem znD{Φ:zfD}{vs:Nat->Gv}{w:World}{l:List Nat}:zeS Φ vs w l↔∀j∈l,zgN Φ vs w j:=by
 induction l with
 |nil=>simp[zeS]|cons j l ih=>simp[zeS,ih]
def zcW(o:Oper):List Nat:=(o.after.toList.filter (Region.binds .any)).map (·.on)
theorem zkL{o:Oper}{j:Nat}:j∈zcW o↔∃e∈o.after,Region.binds .any e=true/\e.on=j:=by
 simp only[zcW,List.mem_map,List.mem_filter,Array.mem_toList_iff];constructor
 ·rintro⟨e,⟨h1,h2⟩,h3⟩;exact⟨e,h1,h2,h3⟩
 ·rintro⟨e,h1,h2,h3⟩;exact⟨e,⟨h1,h2⟩,h3⟩
def anc(ops:Array Oper):Nat->List Nat->List Nat
 |0,l=>l|i+1,l=>anc ops i (bif l.contains i then(match ops[i]? with
  |some o=>zcW o++l|none=>l)else l)
def zcR(ops:Array Oper)(n k:Nat):Bool:=
 match ops[n]? with
 |some o=>!(anc ops n (zcW o)).contains k|none=>false
theorem yaV{ops:Array Oper}{p:Nat->Prop}{N:Nat}(hp:∀i o,i<N->p i->ops[i]? = some o->∀j∈zcW o,p j):∀(i:Nat) (l:List Nat),i<=N->(∀j∈l,p j)->∀j∈anc ops i l,p j
 |0,_,_,h=>h|i+1,l,hi',h=>by
  rw[anc];refine yaV hp i _ (by omega) ?_;cases hc:l.contains i with
  |false=>simpa using h|true=>
   have hi:p i:=h i (by simpa using hc);cases ho:ops[i]? with
   |none=>simpa using h|some o=>
    intro j hj;simp only[zE,List.mem_append]at hj;rcases hj with hj|hj
    ·exact hp i o (by omega) hi ho j hj
    ·exact h j hj
def outcome(P:Program)(R:Value->World->Prop):Result Next->Prop
 |.ok (.value v) w'=>R v w'|.ok .skip w'=>R undef w'|.ok (.enter f args) w'=>Calls P f args w' fun e w''=>match e with
  |.returned v=>R v w''|_=>False
 |.ok (.row row args) w'=>Rows P row args w' R|_=>False
section
variable (P:Program)(R:Value->World->Prop)(w:World)
@[go_sem] theorem ycD (v:Value):outcome P R (.ok (.value v) w)=R v w:=rfl
end
theorem zqP{P:Program}{R:Value->World->Prop}{o:Oper}{a:Act}{w:World}{K:Act->World->Prop}{Q:Exit->Act->World->Prop} (h:outcome P R ((execOp a.eval o).run P w)) (hK:∀v w',R v w'->K (a.put o.dst v) w'):o.wp P a w K Q:=by
 unfold Oper.wp;generalize (execOp a.eval o).run P w=r at *;cases r with
 |ok x w'=>
  cases x<;>simp only[outcome]at h<;>simp only[Oper.upon] <;>
   first
    |exact hK _ _ h
    |exact Calls.mono h (fun e w'' he=>by cases e<;>first|exact hK _ _ he|exact he.elim)|exact Rows.mono h (fun _ _ he=>hK _ _ he)
 |halt x w'=>simp only[outcome]at h
section
variable (P:Program)(ops:Array Oper)(n:Nat)(Φ:zfD)(w0:World)
def xm:Nat:=1000000007
def jx(Φ:zfD)(w:World):Prop:=match Φ xm with
 |some (.inr φ)=>φ ⟨undef,fun _=>false⟩ w|_=>False
def zvB(vs:Nat->Gv)(k:Nat)(o:Oper)(a:Act)(c:Value):Prop:=
 if zcR ops n k then
  (Region.wanted o (yielded ops a.tmps)=true/\∀w,((Φ xm).isSome=true->Ext w0 w∨jx Φ w)->(execOp a.eval o).run P w = .ok (.value c) w) ∨
  (Region.wanted o (yielded ops a.tmps)=false/\c=undef)
 else
 (Region.wanted o (yielded ops a.tmps)=true/\∀w,Ext w0 w->zeS Φ vs w (zcW o)->(execOp a.eval o).run P w = .ok (.value c) w) ∨
 (Region.wanted o (yielded ops a.tmps)=false/\c=undef)
def Old(w:World)(v:Value):Prop:=∃b o,v = .pointer (some ⟨b,o,none⟩)/\b<w.heap.size
def zwI(o:Oper):Bool:=match o.op with
 |.alloc _=>true|_=>false
def relK(Φ:zfD)(k:Nat):Bool:=match Φ k with
 |some (.inr _)=>true|_=>false
def made(vs:Nat->Gv)(o:Oper)(w:World)(g:Gv)(w':World):Prop:=∀b,g.f b->b<w'.heap.size/\(w.heap.size<=b∨∃k∈zcW o,relK Φ k=true/\(vs k).f b)
def zuS(vs:Nat->Gv)(o:Oper)(a:Act)(φ:Gv->World->Prop):Prop:=
 if Region.wanted o (yielded ops a.tmps) then
  ∀w,Ext w0 w->zeS Φ vs w (zcW o)->∀R:Value->World->Prop,(∀g w',Ext w w'->φ g w'->made Φ vs o w g w'->(zwI o=true->¬Old w g.v)->R g.v w')->outcome P R ((execOp a.eval o).run P w)
 else ∀w,φ ⟨undef,fun _=>false⟩ w
def wpT(vs:Nat->Gv)(Fin:Act->Prop):Nat->List Oper->Act->Prop
 |_,[],a=>Fin a|k,o::rest,a=>
  match Φ k with
  |none=>∃c,zvB P ops n Φ w0 vs k o a c/\wpT vs Fin (k+1) rest (a.put o.dst c)|some (.inl c)=>zcR ops n k=false/\zuS P ops Φ w0 vs o a (fun g _=>g.v=c)/\wpT vs Fin (k+1) rest (a.put o.dst c)|some (.inr φ)=>zcR ops n k=false/\(∀v w w',φ v w->Ext w w'->φ v w')/\(zwI o=true->∀g w,φ g w->Old w g.v/\∀b,¬g.f b)/\zuS P ops Φ w0 vs o a φ/\wpT vs Fin (k+1) rest (a.put o.dst (vs k).v)
end
def extB(ops:Array Oper)(n:Nat):Bool:=
 Region.noSelect ops&&decide (n<=ops.size) &&
 ((bR n).all fun i=>match ops[i]? with
  |none=>false|some oi=>
   (zcW oi).all (fun j=>decide (j<i)) &&
   ((bR n).all fun j=>match (ops[j]?).bind (·.dst) with
    |none=>true|some d=>(j==i||((ops[i]?).bind (·.dst)) != some d)&&(!(oi.looksAt ops).contains d||(zcW oi).contains j))) &&
 ((bR (ops.size-n)).all fun t=>match ops[n+t]? with
  |none=>false|some o=>t==0||(zcW o).contains (n+t-1)) &&
 ((bR n).all fun i=>!zcR ops n i||Region.free .any ops ((eO ops.size).map fun j=>decide (j<n)&&(!zcR ops n j||decide (j<i))) i) &&
 Region.seqB .any ops (ops.size-n) n ((eO ops.size).map fun j=>decide (j<n))
section
variable {P:Program}{ops:Array Oper}{n:Nat}{Φ:zfD}{w0:World}
structure ExtS (ops:Array Oper) (n:Nat):Prop where
 sel:Region.noSelect ops=true
 le:n<=ops.size
 deps:∀i oi,i<n->ops[i]? = some oi->∀j∈zcW oi,j<i
 dst:∀i j oi oj d,i<n->j<n->ops[i]? = some oi->ops[j]? = some oj->oj.dst=some d->j≠i->oi.dst≠some d
 look:∀i j oi oj d,i<n->j<n->ops[i]? = some oi->ops[j]? = some oj->oj.dst=some d->d∈oi.looksAt ops->j∈zcW oi
 chain:∀t o,n<t->ops[t]? = some o->t-1∈zcW o
 free:∀i,i<n->zcR ops n i=true->Region.free .any ops ((eO ops.size).map fun j=>decide (j<n)&&(!zcR ops n j||decide (j<i))) i=true
 seq:Region.seqB .any ops (ops.size-n) n ((eO ops.size).map fun j=>decide (j<n))=true
theorem extS_of{ops:Array Oper}{n:Nat}(h:extB ops n=true):ExtS ops n:=by
 unfold extB at h;simp only[aK,zD,bH,bU]at h;obtain⟨⟨⟨⟨⟨h1,h2⟩,h3⟩,h4⟩,h5⟩,h6⟩:=h;refine⟨h1,h2,?_,?_,?_,?_,?_,h6⟩
 ·intro i oi hi hoi j hj;have:=h3 i hi;simp only[hoi,aK,bH,zD]at this;exact this.1 j hj
 ·intro i j oi oj d hi hj hoi hoj hd hne;have:=h3 i hi;simp only[hoi,aK,bH,zD,bU]at this;have:=this.2 j hj;simp only[hoj,fD,hd,aK,cJ,beq_iff_eq,hne,false_or,bne_iff_ne]at this;exact this.1
 ·intro i j oi oj d hi hj hoi hoj hd hm;have:=h3 i hi;simp only[hoi,aK,bH,zD,bU]at this;have:=this.2 j hj;simp only[hoj,fD,hd,aK,cJ,Bool.not_eq_true',bW,decide_eq_false_iff_not,zD,hm,not_true_eq_false,false_or]at this;exact this.2
 ·intro t o ht ho;have hlt:t<ops.size:=(bF.1 ho).1;have:=h4 (t-n) (by omega);rw[show n+(t-n)=t by omega]at this;simp only[ho,cJ,beq_iff_eq,bW,zD]at this;rcases this with h|h
  ·omega
  ·exact h
 ·intro i hi hf;have:=h5 i hi;simpa[hf]using this
theorem zcO(a:Act)(d:Option Tmp)(v:Value)(t:Nat):(a.put d v).tmps[t]? = if d=some t then(a.tmps[t]?).map (fun _=>v)else a.tmps[t]?:=by
 cases d with
 |none=>simp[Act.put]|some d=>
  simp only[Act.put,Option.some.injEq];by_cases h:d=t
  ·subst h;simp only[if_true];by_cases h2:d<a.tmps.size
   ·simp[h2]
   ·simp[fO (Nat.le_of_not_lt h2),fO (xs:=a.tmps.setIfInBounds d v) (by simpa using h2)]
  ·rw[zG h,Array.getElem?_setIfInBounds_ne h]
structure Holds (ops:Array Oper) (n:Nat) (a0 a:Act) (C:Nat->Value) (L:Nat->Prop):Prop where
 defers:a.defers=a0.defers
 other:∀t,(∀j oj,j<n->L j->ops[j]? = some oj->oj.dst≠some t)->a.tmps[t]? = a0.tmps[t]?
 at_:∀j oj t,j<n->L j->ops[j]? = some oj->oj.dst=some t->a.tmps[t]? = (a0.tmps[t]?).map (fun _=>C j)
theorem Holds.put{a0 a:Act}{C:Nat->Value}{L:Nat->Prop}(S:ExtS ops n)(h:Holds ops n a0 a C L){i:Nat}{oi:Oper}(hi:i<n)(hoi:ops[i]? = some oi)(hL:¬L i):
  Holds ops n a0 (a.put oi.dst (C i)) C (fun j=>L j∨j=i):=by
 refine⟨?_,?_,?_⟩
 ·rw[<-h.defers];cases oi.dst<;>rfl
 ·intro t ht;rw[zcO,zG (ht i oi hi (.inr rfl) hoi)];exact h.other t fun j oj hj hl=>ht j oj hj (.inl hl)
 ·intro j oj t hj hl hoj hd;rw[zcO];rcases hl with hl|rfl
  ·have hne:i≠j:=fun e=>hL (e▸hl);rw[zG (S.dst i j oi oj t hi hj hoi hoj hd (Ne.symm hne))];exact h.at_ j oj t hj hl hoj hd
  ·have:oi=oj:=Option.some.inj (hoi.symm.trans hoj);subst this;rw[zH hd];rw[h.other t fun k ok hk hlk hok hdk=>S.dst k j ok oi t hk hj hok hoj hd (fun e=>hL (e▸hlk)) hdk]
theorem Holds.congrC{a0 a:Act}{C C':Nat->Value}{L:Nat->Prop}(h:Holds ops n a0 a C L)(hc:∀j,j<n->L j->C j=C' j):Holds ops n a0 a C' L:=
 ⟨h.defers,h.other,fun j oj t hj hl hoj hd=>by rw[h.at_ j oj t hj hl hoj hd,hc j hj hl]⟩
theorem Holds.congrL{a0 a:Act}{C:Nat->Value}{L L':Nat->Prop}(h:Holds ops n a0 a C L)(hc:∀j,j<n->(L j↔L' j)):Holds ops n a0 a C L':=
 ⟨h.defers,fun t ht=>h.other t fun j oj hj hl=>ht j oj hj ((hc j hj).1 hl),fun j oj t hj hl=>h.at_ j oj t hj ((hc j hj).2 hl)⟩
theorem Holds.eq{a0 a b:Act}{C:Nat->Value}{L:Nat->Prop}(h:Holds ops n a0 a C L)(k:Holds ops n a0 b C L):a=b:=by
 have ht:a.tmps=b.tmps:=by
  apply iF;intro t;by_cases hx:∃j oj,j<n/\L j/\ops[j]? = some oj/\oj.dst=some t
  ·obtain⟨j,oj,hj,hl,hoj,hd⟩:=hx;rw[h.at_ j oj t hj hl hoj hd,k.at_ j oj t hj hl hoj hd]
  ·rw[h.other t fun j oj hj hl hoj hd=>hx ⟨j,oj,hj,hl,hoj,hd⟩,k.other t fun j oj hj hl hoj hd=>hx ⟨j,oj,hj,hl,hoj,hd⟩]
 have hd:a.defers=b.defers:=h.defers.trans k.defers.symm;cases a;cases b;simp_all
theorem Holds.same{a0 a b:Act}{C:Nat->Value}{L M:Nat->Prop}(S:ExtS ops n)(h:Holds ops n a0 a C L)(k:Holds ops n a0 b C M){i:Nat}{oi:Oper}(hi:i<n)(hoi:ops[i]? = some oi) (hL:∀j∈zcW oi,L j) (hM:∀j∈zcW oi,M j):∀t∈oi.looksAt ops,a.tmps[t]? = b.tmps[t]?:=by
 intro t ht;by_cases hx:∃j oj,j<n/\ops[j]? = some oj/\oj.dst=some t
 ·obtain⟨j,oj,hj,hoj,hd⟩:=hx;have:=S.look i j oi oj t hi hj hoi hoj hd ht;rw[h.at_ j oj t hj (hL j this) hoj hd,k.at_ j oj t hj (hM j this) hoj hd]
 ·rw[h.other t fun j oj hj _ hoj hd=>hx ⟨j,oj,hj,hoj,hd⟩,k.other t fun j oj hj _ hoj hd=>hx ⟨j,oj,hj,hoj,hd⟩]
theorem zpY{a b:Act}{o:Oper}(hs:∀cs c,o.op≠.select cs c)(h:∀t∈o.looksAt ops,a.tmps[t]? = b.tmps[t]?):
  execOp a.eval o=execOp b.eval o/\Region.wanted o (yielded ops a.tmps)=Region.wanted o (yielded ops b.tmps):=by
 refine⟨execOp_congr o hs fun x hx=>?_,?_⟩
 ·cases x with
  |tmp t=>have:=h t (List.mem_append_left _ (List.mem_filterMap.2 ⟨.tmp t,by simpa using hx,rfl⟩));simp only[Act.eval,iD,this]|_=>rfl
 ·unfold Region.wanted;cases hg:o.guard with
  |none=>rfl|some gw=>
   obtain⟨g,want⟩:=gw;have hy:yielded ops a.tmps g=yielded ops b.tmps g:=by
    unfold yielded;cases ht:(ops[g]?).bind (·.dst) with
    |none=>rfl|some t=>have:=h t (by simp[Oper.looksAt,hg,ht]);simp only[fD,this]
   simp only[hy]
end
end
section
def OnlyNormal(Q:Exit->Act->World->Prop):Exit->Act->World->Prop
 |.normal,a,w=>Q .normal a w|_,_,_=>False
theorem OnlyNormal.imp{Q:Exit->Act->World->Prop}:∀(e:Exit) (a:Act) (w:World),OnlyNormal Q e a w->Q e a w:=fun e a w h=>by cases e<;>first|exact h|exact(h:False).elim
theorem zxM(p q:Nat->Bool)(i:Nat)(hp:p i=true)(hq:q i=false)(h:∀j,j≠i->p j=q j):∀l:List Nat,l.Nodup->i∈l->l.countP p=l.countP q+1
 |[],_,hi=>by cases hi
 |x::l,hnd,hi=>by
  have hnd':=List.nodup_cons.1 hnd;by_cases hx:x=i
  ·subst hx;have:l.countP p=l.countP q:=List.countP_congr fun j hj=>by have hne:j≠x:=fun e=>hnd'.1 (e▸hj);rw[h j hne]
   rw[gO,gO,hp,hq,this];simp
  ·have hi':i∈l:=(List.mem_cons.1 hi).resolve_left (fun e=>hx e.symm);rw[gO,gO,zxM p q i hp hq h l hnd'.2 hi',h x hx];omega
section
variable {P:Program}{ops:Array Oper}{n:Nat}{Φ:zfD}{w0:World}
def okAt(P:Program)(ops:Array Oper)(n:Nat)(Φ:zfD)(w0:World)(vs:Nat->Gv)(k:Nat)(o:Oper)(a:Act)(c:Value):Prop:=
 match Φ k with
 |none=>zvB P ops n Φ w0 vs k o a c|some (.inl x)=>c=x/\zcR ops n k=false/\zuS P ops Φ w0 vs o a (fun g _=>g.v=x)|some (.inr φ)=>c=(vs k).v/\zcR ops n k=false/\(∀v w w',φ v w->Ext w w'->φ v w')/\(zwI o=true->∀g w,φ g w->Old w g.v/\∀b,¬g.f b)/\zuS P ops Φ w0 vs o a φ
def frK(ops:Array Oper)(Φ:zfD)(k:Nat):Bool:=match ops[k]?,Φ k with
 |some o,some (.inr _)=>zwI o|_,_=>false
def ApP(ops:Array Oper)(Φ:zfD)(vs:Nat->Gv)(i j:Nat):Prop:=
 (frK ops Φ i=true->frK ops Φ j=true->(vs i).v≠(vs j).v)/\(relK Φ i=true->frK ops Φ j=true->∀b o,(vs j).v = .pointer (some ⟨b,o,none⟩)->¬(vs i).f b)
def Apart(ops:Array Oper)(n:Nat)(Φ:zfD)(vs:Nat->Gv):Prop:=∀i j,i<n->j<n->i≠j->ApP ops Φ vs i j
theorem yhU{ops:Array Oper}{Φ:zfD}{i:Nat}(h:relK Φ i=false):frK ops Φ i=false:=by
 unfold frK;unfold relK at h;split
 ·rename_i h2;rw[h2]at h;cases h
 ·rfl
theorem ApP.no_l{ops:Array Oper}{Φ:zfD}{vs:Nat->Gv}{i j:Nat}(h:relK Φ i=false):ApP ops Φ vs i j:=⟨fun h2=>absurd h2 (by rw[yhU h];simp),fun h2=>absurd h2 (by rw[h];simp)⟩
theorem ApP.no_r{ops:Array Oper}{Φ:zfD}{vs:Nat->Gv}{i j:Nat}(h:relK Φ j=false):ApP ops Φ vs i j:=⟨fun _ h2=>absurd h2 (by rw[yhU h];simp),fun _ h2=>absurd h2 (by rw[yhU h];simp)⟩
theorem zpD{Φ:zfD}{i:Nat}(h:∀φ,Φ i≠some (.inr φ)):relK Φ i=false:=by
 unfold relK;split
 ·rename_i h2;exact absurd h2 (h _)
 ·rfl
theorem yqG{vs:Nat->Gv}{Fin:Act->Prop}:∀(l:List Oper) (k:Nat) (a:Act),(∀j o,l[j]? = some o->ops[k+j]? = some o)->wpT P ops n Φ w0 vs Fin k l a ->∃(C:Nat->Value) (T:Nat->Act),T k=a/\(∀i,k<=i->i<k+l.length->∃o,ops[i]? = some o/\T (i+1)=(T i).put o.dst (C i)/\okAt P ops n Φ w0 vs i o (T i) (C i))/\Fin (T (k+l.length))
 |[],k,a,_,h=>⟨fun _=>undef,fun _=>a,rfl,fun i h1 h2=>by simp at h2;omega,h⟩|o::l,k,a,hl,h=>by
  have h0:ops[k]? = some o:=hl 0 o rfl
  have hl':∀j o',l[j]? = some o'->ops[k+1+j]? = some o':=fun j o' hj=>by
   have:=hl (j+1) o' (by simpa using hj)
   rwa[show k+(j+1)=k+1+j by omega]at this
  have key:∃c,okAt P ops n Φ w0 vs k o a c/\wpT P ops n Φ w0 vs Fin (k+1) l (a.put o.dst c):=by
   unfold wpT at h;unfold okAt;cases hk:Φ k with
   |none=>simp only[hk]at h;exact h|some x=>
    cases x with
    |inl x=>simp only[hk]at h;exact⟨x,⟨rfl,h.1,h.2.1⟩,h.2.2⟩|inr φ=>simp only[hk]at h;exact⟨(vs k).v,⟨rfl,h.1,h.2.1,h.2.2.1,h.2.2.2.1⟩,h.2.2.2.2⟩
  obtain⟨c,hc,hw⟩:=key;obtain⟨C,T,hT,hst,hF⟩:=yqG l (k+1) _ hl' hw;refine⟨fun i=>if i=k then c else C i,fun i=>if i=k then a else T i,by simp,?_,?_⟩
  ·intro i h1 h2;by_cases hik:i=k
   ·subst hik;refine⟨o,h0,?_,?_⟩
    ·simp[hT]
    ·simpa using hc
   ·obtain⟨o',ho',ht,hok⟩:=hst i (by omega) (by simp only[aN]at h2;omega);refine⟨o',ho',?_,?_⟩
    ·show(if i+1=k then a else T (i+1))=(if i=k then a else T i).put o'.dst (if i=k then c else C i);rw[zG (by omega),zG hik,zG hik];exact ht
    ·show okAt P ops n Φ w0 vs i o' (if i=k then a else T i) (if i=k then c else C i);rw[zG hik,zG hik];exact hok
  ·show Fin (if k+(o::l).length=k then a else T (k+(o::l).length));rw[zG (by simp only[aN];omega),show k+(o::l).length=k+1+l.length by simp only[aN];omega];exact hF
structure TRun (P:Program) (ops:Array Oper) (n:Nat) (Φ:zfD) (w0:World) (a0:Act) (vs:Nat->Gv) (C:Nat->Value) (T:Nat->Act):Prop where
 start:T 0=a0
 step:∀i,i<n->∃o,ops[i]? = some o/\T (i+1)=(T i).put o.dst (C i)/\okAt P ops n Φ w0 vs i o (T i) (C i)
theorem TRun.holds{a0:Act}{vs:Nat->Gv}{C:Nat->Value}{T:Nat->Act}(S:ExtS ops n)(R:TRun P ops n Φ w0 a0 vs C T):∀i,i<=n->Holds ops n a0 (T i) C (fun j=>j<i)
 |0,_=>by rw[R.start];exact⟨rfl,fun _ _=>rfl,fun j oj t hj hl=>absurd hl (by omega)⟩
 |i+1,hi=>by obtain⟨o,ho,ht,_⟩:=R.step i (by omega);rw[ht];exact((R.holds S i (by omega)).put S (by omega) ho (by omega)).congrL fun j _=>by omega
theorem TRun.agree{a0:Act}{vs vs':Nat->Gv}{C C':Nat->Value}{T T':Nat->Act}{L:Nat->Prop}{w:World}(S:ExtS ops n)(R:TRun P ops n Φ w0 a0 vs C T)(R':TRun P ops n Φ w0 a0 vs' C' T') (hw:Ext w0 w) (hcl:∀i oi,i<n->L i->ops[i]? = some oi->∀j∈zcW oi,L j) (hvs:∀j,j<n->L j->vs j=vs' j) (hf:∀j,j<n->L j->zgN Φ vs w j) (hf':∀j,j<n->L j->zgN Φ vs' w j):∀i,i<n->L i->C i=C' i:=by
 intro i;induction i using eN with
 |_ i ih=>
  intro hi hL;obtain⟨o,ho,_,hok⟩:=R.step i hi;obtain⟨o',ho',_,hok'⟩:=R'.step i hi;have:o=o':=Option.some.inj (ho.symm.trans ho');subst this;have hdep:=hcl i o hi hL ho;have hlt:=S.deps i o hi ho;have hH:=(R.holds S i (by omega));have hH':=(R'.holds S i (by omega));have hH2:Holds ops n a0 (T i) C' (fun j=>j<i/\j∈zcW o)∨True:=.inr trivial;have hlook:∀t∈o.looksAt ops,(T i).tmps[t]? = (T' i).tmps[t]?:=by
   intro t ht;by_cases hx:∃j oj,j<n/\ops[j]? = some oj/\oj.dst=some t
   ·obtain⟨j,oj,hj,hoj,hd⟩:=hx;have hm:=S.look i j o oj t hi hj ho hoj hd ht;have hji:=hlt j hm;rw[hH.at_ j oj t hj hji hoj hd,hH'.at_ j oj t hj hji hoj hd,ih j hji hj (hdep j hm)]
   ·rw[hH.other t fun j oj hj _ hoj hd=>hx ⟨j,oj,hj,hoj,hd⟩,hH'.other t fun j oj hj _ hoj hd=>hx ⟨j,oj,hj,hoj,hd⟩]
  obtain⟨he,hwt⟩:=zpY (fun cs b=>Region.noSelect_spec S.sel i o cs b ho) hlook;have hfl:zeS Φ vs w (zcW o):=znD.2 fun j hj=>hf j (by have:=hlt j hj;omega) (hdep j hj);have hfl':zeS Φ vs' w (zcW o):=znD.2 fun j hj=>hf' j (by have:=hlt j hj;omega) (hdep j hj);unfold okAt at hok hok';cases hk:Φ i with
  |none=>
   simp only[hk]at hok hok';unfold zvB at hok hok';by_cases hfl2:zcR ops n i=true
   ·rw[zH hfl2]at hok hok';rcases hok with⟨h1,h2⟩|⟨h1,h2⟩
    ·rcases hok' with⟨h3,h4⟩|⟨h3,h4⟩
     ·have e1:=h2 w (fun _=>.inl hw);have e2:=h4 w (fun _=>.inl hw);rw[he,e2]at e1;simpa using e1.symm
     ·rw[hwt,h3]at h1;cases h1
    ·rcases hok' with⟨h3,h4⟩|⟨h3,h4⟩
     ·rw[hwt,h3]at h1;cases h1
     ·rw[h2,h4]
   ·rw[zG hfl2]at hok hok';rcases hok with⟨h1,h2⟩|⟨h1,h2⟩
    ·rcases hok' with⟨h3,h4⟩|⟨h3,h4⟩
     ·have e1:=h2 w hw hfl;have e2:=h4 w hw hfl';rw[he,e2]at e1;simpa using e1.symm
     ·rw[hwt,h3]at h1;cases h1
    ·rcases hok' with⟨h3,h4⟩|⟨h3,h4⟩
     ·rw[hwt,h3]at h1;cases h1
     ·rw[h2,h4]
  |some x=>
   cases x with
   |inl x=>simp only[hk]at hok hok';rw[hok.1,hok'.1]|inr φ=>simp only[hk]at hok hok';rw[hok.1,hok'.1,hvs i hi hL]
theorem ziA{listed:Array Bool}{i:Nat}(hi:i<listed.size):listed.getD i true=listed.getD i false:=by simp[hi]
structure Mid (P:Program) (ops:Array Oper) (n:Nat) (Φ:zfD) (w0:World) (a0:Act) (listed:Array Bool) (a:Act) (w:World) (vs:Nat->Gv) (C:Nat->Value) (T:Nat->Act):Prop where
 size:listed.size=ops.size
 closed:∀i oi,i<n->listed.getD i false=true->ops[i]? = some oi->∀j∈zcW oi,listed.getD j false=true
 tail:∀t,n<=t->t<ops.size->listed.getD t false=false
 run:TRun P ops n Φ w0 a0 vs C T
 frame:Holds ops n a0 a C (fun j=>listed.getD j false=true)
 world:Ext w0 w
 facts:∀j,j<n->listed.getD j false=true->zgN Φ vs w j
 foot:∀j,j<n->listed.getD j false=true->relK Φ j=true->∀b,(vs j).f b->b<w.heap.size
 apart:∀j k,j<n->k<n->j≠k->listed.getD j false=true->listed.getD k false=true->ApP ops Φ vs j k
theorem yaA{vs:Nat->Gv}{w w':World}{j:Nat}(hst:∀φ,Φ j=some (.inr φ)->∀v w w',φ v w->Ext w w'->φ v w')(h:zgN Φ vs w j)(hx:Ext w w'):zgN Φ vs w' j:=by
 unfold zgN at *;cases hk:Φ j with
 |none=>trivial|some x=>
  cases x with
  |inl x=>trivial|inr φ=>simp only[hk]at h ⊢;exact hst φ hk _ _ _ h hx
theorem TRun.stable{a0:Act}{vs:Nat->Gv}{C:Nat->Value}{T:Nat->Act}(R:TRun P ops n Φ w0 a0 vs C T){j:Nat}(hj:j<n)(φ:Gv->World->Prop)(hk:Φ j=some (.inr φ)):∀v w w',φ v w->Ext w w'->φ v w':=by obtain⟨o,_,_,hok⟩:=R.step j hj;unfold okAt at hok;simp only[hk]at hok;exact hok.2.2.1
theorem Mid.comes{Q:Exit->Act->World->Prop}{a0:Act}(S:ExtS ops n)(hall:∀vs,∃C T,TRun P ops n Φ w0 a0 vs C T) {listed:Array Bool} {a:Act} {w:World} {vs:Nat->Gv} {C:Nat->Value} {T:Nat->Act} (M:Mid P ops n Φ w0 a0 listed a w vs C T) {i:Nat} (hi:i<n) (hr:i∈Region.ready .any ops listed) {K:Act->World->Prop} (hK:∀a' w' vs' C' T',Mid P ops n Φ w0 a0 (listed.setIfInBounds i true) a' w' vs' C' T'->K a' w'):wpOp P ops Q i K a w:=by
 obtain⟨hun,o,ho,hdone⟩:=mem_ready.1 hr;have hisz:i<listed.size:=by rw[M.size];exact bE hi S.le
 have hun':listed.getD i false=false:=by rw[<-ziA hisz];exact hun
 obtain⟨o',ho',_,hok⟩:=M.run.step i hi;have:o=o':=Option.some.inj (ho.symm.trans ho');subst this;have hdep:∀j∈zcW o,listed.getD j false=true:=fun j hj=>by obtain⟨e,he,hb,hon⟩:=zkL.1 hj;rw[<-hon];exact hdone e he hb
 have hlt:=S.deps i o hi ho;have hH:=M.run.holds S i (by omega);have hlook:=M.frame.same S hH hi ho hdep hlt;obtain⟨he,hwt⟩:=zpY (fun cs b=>Region.noSelect_spec S.sel i o cs b ho) hlook;have hfl:zeS Φ vs w (zcW o):=znD.2 fun j hj=>M.facts j (by have:=hlt j hj;omega) (hdep j hj)
 have hset:∀j,(listed.setIfInBounds i true).getD j false=true↔listed.getD j false=true∨j=i:=fun j=>by
  by_cases hji:j=i
  ·subst hji;simp[hisz]
  ·rw[getD_set_ne false (Ne.symm hji)];simp[hji]
 -- with the same given values
 have stay:(∀φ,Φ i≠some (.inr φ))->∀w',Ext w w'->zgN Φ vs w' i->Mid P ops n Φ w0 a0 (listed.setIfInBounds i true) (a.put o.dst (C i)) w' vs C T:=fun hno w' hx hfi=>
  { size:=by simp[M.size]
    closed:=fun k ok hk hl hok' j hj=>by
     rcases(hset k).1 hl with h|rfl
     ·exact getD_set_true (M.closed k ok hk h hok' j hj)
     ·have:o=ok:=Option.some.inj (ho.symm.trans hok');subst this;exact getD_set_true (hdep j hj)
    tail:=fun t ht hts=>by rw[getD_set_ne false (by omega)];exact M.tail t ht hts
    run:=M.run
    frame:=(M.frame.put S hi ho (by rw[hun'];simp)).congrL fun j _=>(hset j).symm
    world:=M.world.trans hx
    facts:=fun j hj hl=>by
     rcases(hset j).1 hl with h|rfl
     ·exact yaA (M.run.stable hj) (M.facts j hj h) hx
     ·exact hfi
    foot:=fun j hj hl hrr b hb=>by
     rcases(hset j).1 hl with h|rfl
     ·exact bE (M.foot j hj h hrr b hb) hx.size
     ·exact absurd hrr (by rw[zpD hno];simp)
    apart:=fun j k hj hk hjk hlj hlk=>by
     rcases(hset j).1 hlj with h|rfl
     ·rcases(hset k).1 hlk with h'|rfl
      ·exact M.apart j k hj hk hjk h h'
      ·exact .no_r (zpD hno)
     ·exact .no_l (zpD hno) }
 unfold wpOp;simp only[ho];unfold okAt at hok;cases hk:Φ i with
 |none=>
  simp only[hk]at hok;have hfi:∀w',zgN Φ vs w' i:=fun w'=>by unfold zgN;rw[hk];trivial
  have hy:(Region.wanted o (yielded ops a.tmps)=true/\(execOp a.eval o).run P w = .ok (.value (C i)) w)∨(Region.wanted o (yielded ops a.tmps)=false/\C i=undef):=by
   unfold zvB at hok;rw[he,hwt];by_cases hfl2:zcR ops n i=true
   ·rw[zH hfl2]at hok;exact hok.imp (fun⟨h1,h2⟩=>⟨h1,h2 w (fun _=>.inl M.world)⟩) id
   ·rw[zG hfl2]at hok;exact hok.imp (fun⟨h1,h2⟩=>⟨h1,h2 w M.world hfl⟩) id
  rcases hy with⟨h1,h2⟩|⟨h1,h2⟩
  ·simp only[h1,if_true,Oper.wp,h2,Oper.upon];exact .inl (hK _ _ _ _ _ (stay (fun φ h=>by rw[hk]at h;cases h) w (Ext.refl w) (hfi w)))
  ·simp only[h1,dH,if_false];rw[<-h2];exact hK _ _ _ _ _ (stay (fun φ h=>by rw[hk]at h;cases h) w (Ext.refl w) (hfi w))
 |some x=>
  cases x with
  |inl x=>
   simp only[hk]at hok;obtain⟨hC,_,hst⟩:=hok;have hfi:∀w',zgN Φ vs w' i:=fun w'=>by unfold zgN;rw[hk];trivial
   unfold zuS at hst;rw[<-hwt,<-he]at hst;by_cases hwd:Region.wanted o (yielded ops a.tmps)=true
   ·rw[zH hwd]at hst ⊢;refine .inl (zqP (hst w M.world hfl (fun v w'=>v=x/\Ext w w') (fun g w' hx hv _ _=>⟨hv,hx⟩)) fun v w' hv=>?_);obtain⟨rfl,hx⟩:=hv;have:=stay (fun φ h=>by rw[hk]at h;cases h) w' hx (hfi w');rw[hC]at this;exact hK _ _ _ _ _ this
   ·rw[zG hwd]at hst ⊢;have:=stay (fun φ h=>by rw[hk]at h;cases h) w (Ext.refl w) (hfi w);rw[hC,<-hst w]at this;exact hK _ _ _ _ _ this
  |inr φ=>
   simp only[hk]at hok;obtain⟨hC,_,hsb,hold,hst⟩:=hok;unfold zuS at hst;rw[<-hwt,<-he]at hst
   -- a new given value for this operation
   have fresh:∀g w',Ext w w'->φ g w'->made Φ vs o w g w'->(zwI o=true->¬Old w g.v)->K (a.put o.dst g.v) w':=fun g w' hx hv hmd hnew=>by
    obtain⟨C',T',R'⟩:=hall (fun j=>if j=i then g else vs j)
    have hvs:∀j,j<n->listed.getD j false=true->vs j=(fun j=>if j=i then g else vs j) j:=fun j _ hl=>by
     have:j≠i:=fun e=>by rw[e,hun']at hl;cases hl
     simp[this]
    have hfact:∀j,j<n->listed.getD j false=true->zgN Φ (fun j=>if j=i then g else vs j) w j:=fun j hj hl=>by have h1:=M.facts j hj hl;unfold zgN at h1 ⊢;have h2:=hvs j hj hl;simp only at h2 ⊢;rw[<-h2];exact h1
    have hag:=TRun.agree S M.run R' (L:=fun j=>listed.getD j false=true) M.world M.closed hvs M.facts hfact;obtain⟨o2,ho2,_,hok2⟩:=R'.step i hi;have hC':C' i=g.v:=by unfold okAt at hok2;simp only[hk]at hok2;rw[hok2.1];simp
    have hfr:=((M.frame.congrC hag).put S hi ho (by rw[hun'];simp)).congrL fun j _=>(hset j).symm;rw[hC']at hfr
    have old2:∀t,t<n->listed.getD t false=true->frK ops Φ t=true->Old w (vs t).v/\∀b,¬(vs t).f b:=fun t ht hl ft=>by
     obtain⟨ot,hot,_,hokt⟩:=M.run.step t ht;have hf:=M.facts t ht hl;unfold frK at ft;rw[hot]at ft;unfold okAt at hokt;unfold zgN at hf;cases hkt:Φ t with
     |none=>rw[hkt]at ft;cases ft
     |some x=>cases x with
      |inl x=>rw[hkt]at ft;cases ft
      |inr ψ=>rw[hkt]at ft hf;simp only[hkt]at hokt;exact hokt.2.2.2.1 ft _ _ hf
    have old:=fun t ht hl ft=>(old2 t ht hl ft).1;have hni:frK ops Φ i=true->zwI o=true:=fun h=>by unfold frK at h;rw[ho,hk]at h;exact h
    refine hK _ _ _ C' T' ⟨by simp[M.size],fun k ok hk' hl hok' j hj=>?_,fun t ht hts=>by rw[getD_set_ne false (by omega)];exact M.tail t ht hts,R',hfr,M.world.trans hx,fun j hj hl=>?_,fun j hj hl hr b hb=>?_,fun j k hj hk2 hjk hlj hlk=>?_⟩
    ·rcases(hset k).1 hl with h|rfl
     ·exact getD_set_true (M.closed k ok hk' h hok' j hj)
     ·have:o=ok:=Option.some.inj (ho.symm.trans hok');subst this;exact getD_set_true (hdep j hj)
    ·rcases(hset j).1 hl with h|rfl
     ·exact yaA (M.run.stable hj) (hfact j hj h) hx
     ·unfold zgN;rw[hk];simpa using hv
    ·rcases(hset j).1 hl with h|rfl
     ·have hji:j≠i:=fun e=>by rw[e,hun']at h;cases h
      simp only[hji,if_false]at hb;exact bE (M.foot j hj h hr b hb) hx.size
     ·simp only[if_true]at hb;exact(hmd b hb).1
    ·rcases(hset j).1 hlj with h|rfl
     ·have hji:j≠i:=fun e=>by rw[e,hun']at h;cases h
      rcases(hset k).1 hlk with h'|rfl
      ·have hki:k≠i:=fun e=>by rw[e,hun']at h';cases h'
       have:=M.apart j k hj hk2 hjk h h';unfold ApP at this ⊢;simpa only[hji,hki,if_false]using this
      ·unfold ApP;simp only[hji,if_false,if_true];refine⟨fun fj fk e=>hnew (hni fk) (e▸old j hj h fj),fun rj fk b o' e hb=>?_⟩;exact hnew (hni fk) ⟨b,o',e,M.foot j hj h rj b hb⟩
     ·rcases(hset k).1 hlk with h'|rfl
      ·have hki:k≠j:=fun e=>hjk e.symm;unfold ApP;simp only[hki,if_false,if_true];refine⟨fun fj fk e=>hnew (hni fj) (e▸old k hk2 h' fk),fun _ fk b o' e hb=>?_⟩;rcases(hmd b hb).2 with h3|⟨t,ht,hrt,htb⟩
       ·obtain⟨b2,o2',e2,hlt2⟩:=old k hk2 h' fk;rw[e]at e2;injection e2 with e2;injection e2 with e2;injection e2 with e2 _;omega
       ·have htn:t<n:=by have:=hlt t ht;omega
        by_cases htk:t=k
        ·subst htk;exact(old2 t htn (hdep t ht) fk).2 b htb
        ·exact(M.apart t k htn hk2 htk (hdep t ht) h').2 hrt fk b o' e htb
      ·exact absurd rfl hjk
   by_cases hwd:Region.wanted o (yielded ops a.tmps)=true
   ·rw[zH hwd]at hst ⊢;exact .inl (zqP (hst w M.world hfl (fun v w'=>K (a.put o.dst v) w') fresh) fun v w' hv=>hv)
   ·rw[zG hwd]at hst ⊢;refine fresh ⟨undef,fun _=>false⟩ w (Ext.refl w) (hst w) (fun _ h=>absurd h fL) fun hn=>?_;rintro⟨b,o',he',_⟩;cases he'
def zeD(n:Nat)(listed:Array Bool):Nat:=(bR n).countP fun j=>!listed.getD j false
theorem zoT{listed:Array Bool}{i:Nat}(hi:i<n)(hs:i<listed.size)(hu:listed.getD i false=false):
  zeD n listed=zeD n (listed.setIfInBounds i true)+1:=
 zxM _ _ i (by rw[hu];rfl) (by simp[hs]) (fun j hj=>by rw[getD_set_ne false (Ne.symm hj)]) _ List.nodup_range (bU.2 hi)
theorem zmO{p:Nat->Bool}:∀m,(∃i,i<m/\p i=false)->∃i,i<m/\p i=false/\∀j,j<i->p j=true
 |0,⟨i,hi,_⟩=>by omega
 |m+1,⟨i,hi,hp⟩=>by
  by_cases h:∃j,j<m/\p j=false
  ·obtain⟨j,h1,h2,h3⟩:=zmO m h;exact⟨j,by omega,h2,h3⟩
  ·refine⟨i,hi,hp,fun j hj=>?_⟩;cases hpj:p j with
   |true=>rfl|false=>exact absurd ⟨j,by omega,hpj⟩ h
theorem zkI{listed:Array Bool}(h:zeD n listed=0)(i:Nat)(hi:i<n):listed.getD i false=true:=by unfold zeD at h;rw[gY]at h;have:=h i (bU.2 hi);simpa using this
theorem zrM{Q:Exit->Act->World->Prop}{a0:Act}(hX:(Φ xm).isSome=false)(S:ExtS ops n)(hall:∀vs,∃C T,TRun P ops n Φ w0 a0 vs C T) (hend:∀listed a w vs C T,Mid P ops n Φ w0 a0 listed a w vs C T->zeD n listed=0->wpAny P .any ops (OnlyNormal Q) (ops.size-n) listed a w):∀(m:Nat) (listed:Array Bool) (a:Act) (w:World) (vs:Nat->Gv) (C:Nat->Value) (T:Nat->Act),zeD n listed=m->Mid P ops n Φ w0 a0 listed a w vs C T ->
   wpAny P .any ops (OnlyNormal Q) (m+(ops.size-n)) listed a w
 |0,listed,a,w,vs,C,T,hm,M=>by rw[aQ];exact hend _ _ _ _ _ _ M hm
 |m+1,listed,a,w,vs,C,T,hm,M=>by
  have hsz:∀i,i<n->i<listed.size:=fun i hi=>by rw[M.size];exact bE hi S.le
  have hex:∃i,i<n/\listed.getD i false=false:=by
   have:¬zeD n listed=0:=by omega
   unfold zeD at this;rw[gY]at this;have h2:∃i,¬(i∈bR n->¬((!listed.getD i false)=true)):=Classical.not_forall.1 this;obtain⟨i,h⟩:=h2;by_cases hi:i<n
   ·refine⟨i,hi,?_⟩;cases hp:listed.getD i false with
    |false=>rfl|true=>exact absurd (fun _=>by rw[hp];simp) h
   ·exact absurd (fun hmem=>absurd (bU.1 hmem) hi) h
  obtain⟨i,hi,hu,hleast⟩:=zmO n hex;have hirdy:∀oi,ops[i]? = some oi->i∈Region.ready .any ops listed:=fun oi hoi=>
   mem_ready.2 ⟨by rw[ziA (hsz i hi)];exact hu,oi,hoi,fun e he hb=>hleast _ (S.deps i oi hi hoi _ (zkL.2 ⟨e,he,hb,rfl⟩))⟩
  obtain⟨oi,hoi,_,hokI⟩:=M.run.step i hi;have hri:=hirdy oi hoi;rw[show m+1+(ops.size-n)=(m+(ops.size-n))+1 by omega]
  -- is there one that does not float, and is not listed?
  by_cases hnf:∃k,k<n/\listed.getD k false=false/\zcR ops n k=false
  ·refine⟨fun h0=>(by rw[h0]at hri;cases hri),fun j hj=>?_⟩;have hjn:j<n:=by
    rcases fY j n with h|h
    ·exact h
    ·exfalso;obtain⟨_,oj,hoj,hdone⟩:=mem_ready.1 hj;obtain⟨k,hk,hku,hkf⟩:=hnf;rcases Nat.eq_or_lt_of_le h with h|h
     ·subst h;unfold zcR at hkf;simp only[hoj,jD,bW,zD]at hkf;have hall:∀q∈anc ops n (zcW oj),listed.getD q false=true:=
       yaV (p:=fun q=>listed.getD q false=true) (N:=n) (fun q oq hqj hq hoq r hr=>M.closed q oq hqj hq hoq r hr) n _ (aJ _) (fun q hq=>by
        obtain⟨e,he,hb,hon⟩:=zkL.1 hq
        rw[<-hon];exact hdone e he hb)
      have:=hall k hkf;rw[hku]at this;cases this
     ·have hj1:=S.chain j oj h hoj;obtain⟨e,he,hb,hon⟩:=zkL.1 hj1;have:=hdone e he hb;rw[hon,M.tail (j-1) (by omega) (by have:=(bF.1 hoj).1;omega)]at this;cases this
   refine M.comes S hall hjn hj fun a' w' vs' C' T' M'=>?_;have hju:listed.getD j false=false:=by rw[<-ziA (hsz j hjn)];exact(mem_ready.1 hj).1
   have:=zoT hjn (hsz j hjn) hju;exact zrM hX S hall hend m _ _ _ _ _ _ (by omega) M'
  ·-- all that is left of the head zcR: the first is taken first
   have hfl:zcR ops n i=true:=by
    cases h:zcR ops n i with
    |true=>rfl|false=>exact absurd ⟨i,hi,hu,h⟩ hnf
   have hdep:∀j∈zcW oi,listed.getD j false=true:=fun j hj=>hleast j (S.deps i oi hi hoi j hj);have hlook:=M.frame.same S (M.run.holds S i (by omega)) hi hoi hdep (S.deps i oi hi hoi);obtain⟨he,hwt⟩:=zpY (fun cs b=>Region.noSelect_spec S.sel i oi cs b hoi) hlook;have hy:Yields P ops oi (C i) a/\Φ i=none:=by
    unfold okAt at hokI;cases hk:Φ i with
    |none=>simp only[hk]at hokI;unfold zvB at hokI;rw[zH hfl]at hokI;have hY:Yields P ops oi (C i) (T i):=hokI.imp (fun⟨h1,h2⟩=>⟨h1,fun w=>h2 w (fun h=>by rw[hX]at h;cases h)⟩) id;exact⟨hY.of_same he hwt,rfl⟩|some x=>
     cases x with
     |inl x=>simp only[hk]at hokI;rw[hokI.2.1]at hfl;cases hfl
     |inr φ=>simp only[hk]at hokI;rw[hokI.2.1]at hfl;cases hfl
   have hun:zeD n listed=zeD n (listed.setIfInBounds i true)+1:=zoT hi (hsz i hi) hu
   have hset:∀j,(listed.setIfInBounds i true).getD j false=true↔listed.getD j false=true∨j=i:=fun j=>by
    by_cases hji:j=i
    ·subst hji;simp[hsz j hi]
    ·rw[getD_set_ne false (Ne.symm hji)];simp[hji]
   have M':Mid P ops n Φ w0 a0 (listed.setIfInBounds i true) (a.put oi.dst (C i)) w vs C T:=
    { size:=by simp[M.size]
      closed:=fun k ok hk hl hok' j hj=>by
       rcases(hset k).1 hl with h|rfl
       ·exact getD_set_true (M.closed k ok hk h hok' j hj)
       ·have:oi=ok:=Option.some.inj (hoi.symm.trans hok');subst this;exact getD_set_true (hdep j hj)
      tail:=fun t ht hts=>by rw[getD_set_ne false (by omega)];exact M.tail t ht hts
      run:=M.run
      frame:=(M.frame.put S hi hoi (by rw[hu];simp)).congrL fun j _=>(hset j).symm
      world:=M.world
      facts:=fun j hj hl=>by
       rcases(hset j).1 hl with h|rfl
       ·exact M.facts j hj h
       ·unfold zgN;rw[hy.2];trivial
      foot:=fun j hj hl hrr b hb=>by
       rcases(hset j).1 hl with h|rfl
       ·exact M.foot j hj h hrr b hb
       ·exact absurd hrr (by rw[zpD (fun φ e=>by rw[hy.2]at e;cases e)];simp)
      apart:=fun j k hj hk hjk hlj hlk=>by
       have hnr:relK Φ i=false:=zpD (fun φ e=>by rw[hy.2]at e;cases e);rcases(hset j).1 hlj with h|rfl
       ·rcases(hset k).1 hlk with h'|rfl
        ·exact M.apart j k hj hk hjk h h'
        ·exact .no_r hnr
       ·exact .no_l hnr }
   refine wpAny_first hoi (Region.noSelect_spec S.sel) (fun _ _ _ h=>h) _ listed a w ?_ hri hy.1 (zrM hX S hall hend m _ _ _ _ _ _ (by omega) M');intro j oj hoj hne hju hno;refine Region.free_spec hoi (S.free i hi hfl) j oj hoj hne ?_ hno;have hjs:j<ops.size:=(bF.1 hoj).1;have hju':listed.getD j false=false:=by rw[<-ziA (by rw[M.size];exact hjs)];exact hju
   simp only[iD,Array.getElem?_map,Array.getElem?_range,hjs,if_true,Option.map_some,Option.getD_some,Bool.and_eq_false_iff,decide_eq_false_iff_not,Bool.or_eq_false_iff,jD];by_cases hjn:j<n
   ·right;have h1:zcR ops n j=true:=by
     cases h:zcR ops n j with
     |true=>rfl|false=>exact absurd ⟨j,hjn,hju',h⟩ hnf
    refine⟨h1,fun hlt=>?_⟩;rw[hleast j hlt]at hju';cases hju'
   ·exact .inl hjn
end
def RegAny(P:Program)(l:List Oper)(Q:Exit->Act->World->Prop)(a:Act)(w:World):Prop:=wpAny P .any l.toArray (OnlyNormal Q) l.toArray.size (fP l.toArray.size false) a w.drew
theorem RegAny.wp{P:Program}{id:Nat}{l:List Oper}{Q:Exit->Act->World->Prop}{a:Act}{w:World}(hm:P.follows .mixedOrders=true)(h:RegAny P l Q a w):(Code.region id l.toArray true).wp P Q a w:=
 Code.wp_mono OnlyNormal.imp (wp_region_any hm h)
theorem any_ext{P:Program}{l:List Oper}{Q:Exit->Act->World->Prop}{a:Act}{w:World}(n:Nat)(Φ:zfD)(hX:(Φ xm).isSome=false)(hB:extB l.toArray n=true) (h:∀vs,wpT P l.toArray n Φ w.drew vs (fun a'=>∀w',Ext w.drew w'->zeS Φ vs w' (bR n)->Apart l.toArray n Φ vs->wpList P l.toArray (OnlyNormal Q) (l.drop n) a' w') 0 (l.take n) a):
  RegAny P l Q a w:=by
 have S:=extS_of hB;unfold RegAny;have hle:n<=l.length:=by simpa using S.le
 have hlen:(l.take n).length=n:=by simp[hle]
 have hget:∀j o,(l.take n)[j]? = some o->l.toArray[0+j]? = some o:=fun j o hj=>by
  rw[aQ,eJ];rw[List.getElem?_take]at hj;split at hj
  ·exact hj
  ·cases hj
 have hall:∀vs,∃C T,TRun P l.toArray n Φ w.drew a vs C T/\∀w',Ext w.drew w'->zeS Φ vs w' (bR n)->Apart l.toArray n Φ vs->wpList P l.toArray (OnlyNormal Q) (l.drop n) (T n) w':=fun vs=>by obtain⟨C,T,hT,hst,hF⟩:=yqG (l.take n) 0 a hget (h vs);rw[hlen,aQ]at hF;exact⟨C,T,⟨hT,fun i hi=>hst i (bX _) (by rw[hlen];omega)⟩,hF⟩
 have hall':∀vs,∃C T,TRun P l.toArray n Φ w.drew a vs C T:=fun vs=>let⟨C,T,R,_⟩:=hall vs;⟨C,T,R⟩;have hfalse:∀j,(fP l.toArray.size false).getD j false=false:=fun j=>getD_replicate_false _ _;obtain⟨C,T,R⟩:=hall' (fun _=>⟨undef,fun _=>false⟩)
 have M0:Mid P l.toArray n Φ w.drew a (fP l.toArray.size false) a w.drew (fun _=>⟨undef,fun _=>false⟩) C T:=
  ⟨by simp,fun i oi _ hl=>(by rw[hfalse]at hl;cases hl),fun t _ _=>hfalse t,R,
   ⟨rfl,fun _ _=>rfl,fun j oj t _ hl=>(by rw[hfalse]at hl;cases hl)⟩,Ext.refl _,fun j _ hl=>(by rw[hfalse]at hl;cases hl),fun j _ hl=>(by rw[hfalse]at hl;cases hl),fun j _ _ _ _ hl=>(by rw[hfalse]at hl;cases hl)⟩
 have hcount:zeD n (fP l.toArray.size false)=n:=by unfold zeD;rw[List.countP_eq_length.2 (fun j _=>by rw[hfalse];rfl)];simp
 have:=zrM (Q:=Q) hX S hall' (fun listed a' w' vs C T M hz=>?_) n _ a w.drew _ C T hcount M0
 ·have e:n+(l.toArray.size-n)=l.toArray.size:=by have:=S.le;omega
  rw[e]at this;exact this
 ·-- the tail
  obtain⟨C',T',R',hF⟩:=hall vs
  have hlist:listed=(eO l.toArray.size).map fun j=>decide (j<n):=by
   apply Array.ext (by simp[M.size]);intro i h1 h2;have hi:i<l.toArray.size:=by rw[<-M.size];exact h1
   have e1:listed.getD i false=listed[i]:=by simp[h1]
   simp only[Array.getElem_map,Array.getElem_range];by_cases hin:i<n
   ·rw[<-e1,zkI hz i hin];simp[hin]
   ·rw[<-e1,M.tail i (by omega) hi];simp[hin]
  have hag:=TRun.agree S M.run R' (L:=fun j=>listed.getD j false=true) M.world M.closed (fun _ _ _=>rfl) M.facts M.facts;have hfr:Holds l.toArray n a a' C' (fun j=>j<n):=(M.frame.congrC hag).congrL fun j hj=>⟨fun _=>hj,fun _=>zkI hz j hj⟩;have haT:a'=T' n:=hfr.eq (R'.holds S n (aJ _));rw[haT]
  have htl:=hF w' M.world (znD.2 fun j hj=>M.facts j (bU.1 hj) (zkI hz j (bU.1 hj)))
   (fun j k hj hk hjk=>M.apart j k hj hk hjk (zkI hz j hj) (zkI hz k hk))
  have hseq:=S.seq;rw[<-hlist]at hseq;have hdl:(l.drop n).length=l.toArray.size-n:=by simp
  rw[<-hdl]at hseq ⊢;exact wpAny_of_seq (l.drop n) n listed (T' n) w' (fun j=>by simp[List.getElem?_drop]) hseq htl
theorem ziF{P:Program}{id:Nat}{l:List Oper}{Q:Exit->Act->World->Prop}{a:Act}{w:World}(n:Nat)(Φ:zfD)(hX:(Φ xm).isSome=false)(hm:P.follows .mixedOrders=true)(hB:extB l.toArray n=true) (h:∀vs,wpT P l.toArray n Φ w.drew vs (fun a'=>∀w',Ext w.drew w'->zeS Φ vs w' (bR n)->Apart l.toArray n Φ vs->wpList P l.toArray (OnlyNormal Q) (l.drop n) a' w') 0 (l.take n) a):(Code.region id l.toArray true).wp P Q a w:=(any_ext n Φ hX hB h).wp hm
end
section
theorem zaO{Q:Exit->Act->World->Prop}{a:Act}{w:World}(h:Q .normal a w):OnlyNormal Q .normal a w:=h
def lowR(φ:Value->World->Prop):Gv->World->Prop:=fun g w=>φ g.v w/\∀b,¬g.f b
def lowK:Sum Value (Value->World->Prop)->Sum Value (Gv->World->Prop)
 |.inl c=>.inl c|.inr φ=>.inr (lowR φ)
def kinds(l:List (Nat×Sum Value (Value->World->Prop))):zfD:=fun k=>(l.find? fun p=>p.1==k).map fun p=>lowK p.2
def yeH(l:List (Nat×Sum Value (Gv->World->Prop))):zfD:=fun k=>(l.find? fun p=>p.1==k).map (·.2)
section
variable {P:Program}{ops:Array Oper}{n:Nat}{Φ:zfD}{w0:World}{vs:Nat->Gv}{Fin:Act->Prop}{k:Nat}{o:Oper}{rest:List Oper}{a:Act}
theorem ylC{c:Value}(hk:Φ k=none)(hfl:zcR ops n k=false)(hw:Region.wanted o (yielded ops a.tmps)=true) (h:∀w,Ext w0 w->zeS Φ vs w (zcW o)->(execOp a.eval o).run P w = .ok (.value c) w) (hr:wpT P ops n Φ w0 vs Fin (k+1) rest (a.put o.dst c)):
  wpT P ops n Φ w0 vs Fin k (o::rest) a:=by
 unfold wpT;simp only[hk];refine⟨c,?_,hr⟩;unfold zvB;rw[zG (by simp[hfl])];exact .inl ⟨hw,h⟩
theorem ypC{c:Value}(hk:Φ k=none)(hfl:zcR ops n k=true)(hw:Region.wanted o (yielded ops a.tmps)=true) (h:∀w,(execOp a.eval o).run P w = .ok (.value c) w) (hr:wpT P ops n Φ w0 vs Fin (k+1) rest (a.put o.dst c)):
  wpT P ops n Φ w0 vs Fin k (o::rest) a:=by
 unfold wpT;simp only[hk];refine⟨c,?_,hr⟩;unfold zvB;rw[zH hfl];exact .inl ⟨hw,fun w _=>h w⟩
theorem yyT(hk:Φ k=none)(hw:Region.wanted o (yielded ops a.tmps)=false)(hr:wpT P ops n Φ w0 vs Fin (k+1) rest (a.put o.dst undef)):
  wpT P ops n Φ w0 vs Fin k (o::rest) a:=by
 unfold wpT;simp only[hk];refine⟨undef,?_,hr⟩;unfold zvB;split
 ·exact .inr ⟨hw,rfl⟩
 ·exact .inr ⟨hw,rfl⟩
theorem yiE{c:Value}(hnn:zwI o=false)(hk:Φ k=some (.inl c))(hfl:zcR ops n k=false)(hw:Region.wanted o (yielded ops a.tmps)=true) (h:∀w,Ext w0 w->zeS Φ vs w (zcW o)->∀R:Value->World->Prop,(∀w',Ext w w'->R c w')->outcome P R ((execOp a.eval o).run P w)) (hr:wpT P ops n Φ w0 vs Fin (k+1) rest (a.put o.dst c)):wpT P ops n Φ w0 vs Fin k (o::rest) a:=by unfold wpT;simp only[hk];refine⟨hfl,?_,hr⟩;unfold zuS;rw[zH hw];exact fun w hx hf R hR=>h w hx hf R fun w' hx'=>hR ⟨c,fun _=>false⟩ _ hx' rfl (fun _ h=>absurd h fL) fun hn=>absurd hn (by rw[hnn];exact fL)
theorem xeL{φ:Gv->World->Prop}(hk:Φ k=some (.inr φ))(hfl:zcR ops n k=false)(hs:∀v w w',φ v w->Ext w w'->φ v w')(hw:Region.wanted o (yielded ops a.tmps)=true) (ho:zwI o=true->∀g w,φ g w->Old w g.v/\∀b,¬g.f b) (h:∀w,Ext w0 w->zeS Φ vs w (zcW o)->∀R:Value->World->Prop,(∀g w',Ext w w'->φ g w'->made Φ vs o w g w'->(zwI o=true->¬Old w g.v)->R g.v w')->outcome P R ((execOp a.eval o).run P w)) (hr:wpT P ops n Φ w0 vs Fin (k+1) rest (a.put o.dst (vs k).v)):wpT P ops n Φ w0 vs Fin k (o::rest) a:=by unfold wpT;simp only[hk];refine⟨hfl,hs,ho,?_,hr⟩;unfold zuS;rw[zH hw];exact h
theorem yuI{φ:Value->World->Prop}(hk:Φ k=some (.inr (lowR φ)))(hfl:zcR ops n k=false)(hs:∀v w w',φ v w->Ext w w'->φ v w')(hw:Region.wanted o (yielded ops a.tmps)=true) (ho:zwI o=true->∀v w,φ v w->Old w v) (h:∀w,Ext w0 w->zeS Φ vs w (zcW o)->∀R:Value->World->Prop,(∀v w',Ext w w'->φ v w'->(zwI o=true->¬Old w v)->R v w')->outcome P R ((execOp a.eval o).run P w)) (hr:wpT P ops n Φ w0 vs Fin (k+1) rest (a.put o.dst (vs k).v)):wpT P ops n Φ w0 vs Fin k (o::rest) a:=
 xeL hk hfl (fun _ _ _ h hx=>⟨hs _ _ _ h.1 hx,h.2⟩) hw (fun hn _ _ h=>⟨ho hn _ _ h.1,h.2⟩)
  (fun w hx hf R hR=>h w hx hf R fun v w' hx' hv hn=>hR ⟨v,fun _=>false⟩ w' hx' ⟨hv,fun _ h=>absurd h fL⟩ (fun _ h=>absurd h fL) hn) hr
end
theorem ymV{Φ:zfD}{vs:Nat->Gv}{w:World}{l:List Nat}(h:zeS Φ vs w l)(j:Nat)(hj:l.contains j=true):zgN Φ vs w j:=
 znD.1 h j (by simpa using hj)
theorem znC{Φ:zfD}{vs:Nat->Gv}{w:World}{l:List Nat}(h:zeS Φ vs w l)(j:Nat){φ:Gv->World->Prop}(hk:Φ j=some (.inr φ))(hj:l.contains j=true):φ (vs j) w:=by have:=ymV h j hj;unfold zgN at this;rw[hk]at this;exact this
theorem zdK{Φ:zfD}{vs:Nat->Gv}{w:World}{l:List Nat}(h:zeS Φ vs w l)(j:Nat){φ:Value->World->Prop}(hk:Φ j=some (.inr (lowR φ)))(hj:l.contains j=true):φ (vs j).v w:=(znC h j hk hj).1
theorem Ext.cells{w w':World}(h:Ext w w'):(∀b o,b<w.heap.size->w'.cell? ⟨b,o,none⟩=w.cell? ⟨b,o,none⟩)/\(∀b o,b<w.heap.size->w'.frozen? ⟨b,o,none⟩=w.frozen? ⟨b,o,none⟩):=
 ⟨fun b o hb=>Below.cell (p:=⟨b,o,none⟩) h hb,fun b o hb=>Below.frozen (p:=⟨b,o,none⟩) h hb⟩
theorem Ext.below{B:Nat}{w w':World}(h:Ext w w')(hB:B<=w.heap.size):Below B w w':=Below.mono h hB
end
abbrev FM:=List (Nat×Value)
def look:FM->Nat->Value
 |[],_=>undef|(d,v)::m,t=>bif aG d t then v else look m t
def fr(n:Nat)(m:FM):Act:={ tmps:=jK (n:=n) fun i=>look m i.val,defers:=[] }
def evO(n:Nat)(m:FM):Operand->Value
 |.tmp t=>bif cM t n then look m t else undef
 |.const v=>v|.global g=>.pointer (some ⟨g,0,none⟩)|.func f=>.func (.func f) #[] #[]
theorem zhR{a b:Nat}:cM a b=decide (a<b):=by rw[fQ];simp[cM,Nat.succ_le_iff,eV]
theorem zlA{a b:Nat}:aG a b=decide (a=b):=by rw[fQ];simp
theorem zdF(n:Nat)(m:FM):(fr n m).eval=evO n m:=by
 funext x;cases x with
 |tmp t=>
  simp only[Act.eval,fr,evO,zhR];by_cases h:t<n
  ·simp[h]
  ·simp[h]
 |_=>rfl
theorem zaI(n:Nat)(m:FM)(d:Nat)(v:Value):(fr n m).put (some d) v=fr n ((d,v)::m):=by
 have e:(jK (n:=n) fun i=>look m i.val).setIfInBounds d v=jK (n:=n) fun i=>look ((d,v)::m) i.val:=by apply iF;intro i;simp only[Array.getElem?_setIfInBounds,jA,look,zlA,Array.size_ofFn];by_cases h:d=i<;>by_cases hi:i<n<;>simp_all
 simp only[fr,Act.put,e]
theorem znI(n:Nat)(m:FM)(v:Value):(fr n m).put none v=fr n m:=rfl
theorem xdZ(n:Nat)(m:FM)(t:Nat):(fr n m).tmps[t]? = if t<n then some (look m t)else none:=by simp[fr,jA]
theorem ycS(n:Nat)(m:FM)(t:Nat):(fr n m).tmps.getD t undef=evO n m (.tmp t):=by rw[<-zdF];rfl
def argm:LV->Nat->FM
 |[],_=>[]|v::l,i=>(i,v)::argm l (i+1)
theorem ynX(l:LV):∀(i t:Nat),look (argm l i) t=if i<=t then l.getD (t-i) undef else undef:=by
 induction l with
 |nil=>intro i t;simp[argm,look]|cons v l ih=>
  intro i t;simp only[argm,look,zlA,ih];by_cases h:i=t
  ·subst h;simp
  ·by_cases h2:i<=t
   ·have e:t-i=(t-(i+1))+1:=by omega
    simp[h,h2,show i+1<=t by omega,e]
   ·simp[h,h2,show ¬i+1<=t by omega]
theorem enter{P:Program}{f:FuncId}{fn:Func}{c:Code}{n:Nat}{args:LV}{w:World}{R:Ending->World->Prop} (hf:P.funcs[f]? = some fn) (hb:fn.body=some c) (hn:fn.ntmps=n) (hl:bM args.length n=true) (h:c.wp P (bodyPost P fn R) (fr n (argm args 0)) w):Calls P f args.toArray w R:=by
 refine calls_of_wp hf hb ?_;have hl':args.length<=n:=aR hl;have e:({ tmps:=args.toArray++fP (fn.ntmps-args.toArray.size) undef,defers:=[] }:Act)=fr n (argm args 0):=by
  unfold fr;congr 1;apply Array.ext
  ·simp[hn];omega
  ·intro i h1 h2;simp only[Array.getElem_append,Array.getElem_replicate,Array.getElem_ofFn,ynX,bX,if_true,Nat.sub_zero];by_cases hi:i<args.length
   ·simp[hi,List.getD]
   ·simp[hi,List.getD]
 rw[e];exact h
abbrev Ent:=Nat×LV×TypeId
def lk:List Ent->Nat->Option Ent
 |[],_=>none|e::_,0=>some e|_::l,k+1=>lk l k
def st:List Ent->Nat->Ent->List Ent
 |[],_,_=>[]|_::l,0,e=>e::l|x::l,k+1,e=>x::st l k e
theorem zmW{e:Ent}:∀{l:List Ent} {k:Nat} {x:Ent},lk l k=some x->lk (st l k e) k=some e
 |[],_,_,h=>by cases h
 |_::_,0,_,_=>rfl|_::l,k+1,_,h=>zmW (l:=l) (k:=k) h
theorem zlH{e:Ent}:∀{l:List Ent} {k j:Nat},j≠k->lk (st l k e) j=lk l j
 |[],_,_,_=>rfl|_::_,0,0,h=>absurd rfl h|_::_,0,_+1,_=>rfl|_::_,_+1,0,_=>rfl|_::l,k+1,j+1,h=>zlH (l:=l) (by omega)
structure HP (w0 w:World) (L:List Ent):Prop where
 below:Below w0.heap.size w0 w
 blk:∀k b cs T,lk L k=some (b,cs,T)->w.heap[b]? = some (.cells cs.toArray T (0,0))/\w0.heap.size<=b
 inj:∀i j b cs T cs' T',lk L i=some (b,cs,T)->lk L j=some (b,cs',T')->i=j
theorem zeO{w:World}{b:Nat}{o:Obj}(h:w.heap[b]? = some o):b<w.heap.size:=by
 rcases fY b w.heap.size with h'|h'
 ·exact h'
 ·simp[fO h']at h
theorem HP.start(w:World):HP w w []:=⟨Below.refl _ _,fun _ _ _ _ h=>(by cases h),fun _ _ _ _ _ _ _ h=>(by cases h)⟩
theorem HP.ext{w0 w w':World}{L:List Ent}(h:HP w0 w L)(hx:Ext w w'):HP w0 w' L:=
 ⟨h.below.trans (Below.mono hx h.below.size),fun k b cs T hk=>by
  obtain⟨h1,h2⟩:=h.blk k b cs T hk
  exact⟨by rw[Below.block hx b (zeO h1)];exact h1,h2⟩,h.inj⟩
theorem Ext.drew(w:World):Ext w w.drew:=Below.drew (Below.refl _ _)
theorem Ext.alloc(w:World)(o:Obj):Ext w (w.alloc o):=Below.alloc (Below.refl _ _) (aJ _) o
theorem HP.drew{w0 w:World}{L:List Ent}(h:HP w0 w L):HP w0 w.drew L:=h.ext (Ext.drew w)
theorem zaR(w:World)(o:Obj):(w.alloc o).heap[w.heap.size]? = some o:=by show(w.heap.push o)[w.heap.size]? = _;simp
theorem HP.push{w0 w w':World}{L:List Ent}{b:Nat}{cs:LV}{T:TypeId}(h:HP w0 w L)(hx:Ext w w')(hb:w.heap.size<=b)(hh:w'.heap[b]? = some (.cells cs.toArray T (0,0))):
  HP w0 w' ((b,cs,T)::L):=by
 have h':=h.ext hx;refine⟨h'.below,?_,?_⟩
 ·intro k b' cs' T' hk;cases k with
  |zero=>simp only[lk,Option.some.injEq,Prod.mk.injEq]at hk;obtain⟨rfl,rfl,rfl⟩:=hk;exact⟨hh,aY h.below.size hb⟩
  |succ k=>exact h'.blk k b' cs' T' hk
 ·intro i j b' cs1 T1 cs2 T2 hi hj;cases i with
  |zero=>
   cases j with
   |zero=>rfl|succ j=>simp only[lk,Option.some.injEq,Prod.mk.injEq]at hi;obtain⟨rfl,_,_⟩:=hi;have:=zeO (h.blk j b cs2 T2 hj).1;omega
  |succ i=>
   cases j with
   |zero=>simp only[lk,Option.some.injEq,Prod.mk.injEq]at hj;obtain⟨rfl,_,_⟩:=hj;have:=zeO (h.blk i b cs1 T1 hi).1;omega
   |succ j=>rw[h.inj i j b' cs1 T1 cs2 T2 hi hj]
theorem HP.alloc{w0 w:World}{L:List Ent}(h:HP w0 w L)(cs:LV)(T:TypeId):HP w0 (w.alloc (.cells cs.toArray T)) ((w.heap.size,cs,T)::L):=
 h.push (Ext.alloc w _) (aJ _) (zaR w _)
theorem HP.set{w0 w w':World}{L:List Ent}{k b:Nat}{cs cs':LV}{T:TypeId}(h:HP w0 w L)(hk:lk L k=some (b,cs,T))(hsz:w'.heap.size=w.heap.size)(hos:w'.os=w.os)(htp:w'.tape=w.tape)(hop:w'.output=w.output) (hb:w'.heap[b]? = some (.cells cs'.toArray T (0,0))) (ho:∀i,i≠b->w'.heap[i]? = w.heap[i]?):HP w0 w' (st L k (b,cs',T)):=by
 have hB:=(h.blk k b cs T hk).2;refine⟨⟨hos.trans h.below.os,htp.trans h.below.tape,hop.trans h.below.output,by rw[hsz];exact h.below.size,fun i hi=>by rw[ho i (by omega)];exact h.below.block i hi⟩,?_,?_⟩
 ·intro j b' c T' hj;by_cases hjk:j=k
  ·subst hjk;rw[zmW hk]at hj;simp only[Option.some.injEq,Prod.mk.injEq]at hj;obtain⟨rfl,rfl,rfl⟩:=hj;exact⟨hb,hB⟩
  ·rw[zlH hjk]at hj;obtain⟨h1,h2⟩:=h.blk j b' c T' hj;have hne:b'≠b:=fun e=>hjk (h.inj j k b' c T' cs T hj (e▸hk));exact⟨by rw[ho b' hne];exact h1,h2⟩
 ·intro i j b' c1 T1 c2 T2 hi hj
  have key:∀i c T1,lk (st L k (b,cs',T)) i=some (b',c,T1)->∃c2 T2,lk L i=some (b',c2,T2):=fun i c T1 hi=>by
   by_cases hik:i=k
   ·subst hik;rw[zmW hk]at hi;simp only[Option.some.injEq,Prod.mk.injEq]at hi;exact⟨cs,T,hi.1▸hk⟩
   ·rw[zlH hik]at hi;exact⟨_,_,hi⟩
  obtain⟨x,y,hx⟩:=key i _ _ hi;obtain⟨x',y',hx'⟩:=key j _ _ hj;exact h.inj i j b' x y x' y' hx hx'
def neL:List Ent->Nat->Prop
 |[],_=>True|e::l,b=>e.1≠b/\neL l b
theorem yvC:∀{L:List Ent} {b k:Nat} {e:Ent},neL L b->lk L k=some e->e.1≠b
 |[],_,_,_,_,h=>by cases h
 |_::_,_,0,_,hn,h=>by injection h with h;rw[<-h];exact hn.1
 |_::_,_,_+1,_,hn,h=>yvC hn.2 h
theorem xbU{b:Nat}:∀{L:List Ent},(∀k e,lk L k=some e->e.1≠b)->neL L b
 |[],_=>trivial|_::_,h=>⟨h 0 _ rfl,xbU fun k e hk=>h (k+1) e hk⟩
theorem HP.neL{w0 w:World}{L:List Ent}(h:HP w0 w L){b:Nat}(hb:w.heap.size<=b):neL L b:=
 xbU fun k ⟨b',cs,T⟩ hk e=>by have:=zeO (h.blk k b' cs T hk).1;simp only at e;omega
theorem zxA:∀(N L:List Ent) (k:Nat),lk (N++L) k=if k<N.length then lk N k else lk L (k-N.length)
 |[],L,k=>by simp
 |e::N,L,0=>rfl|e::N,L,k+1=>by rw[List.cons_append,lk,zxA N L k,lk];simp only[aN,Nat.add_lt_add_iff_right,iU]
theorem HP.join{w0 W w:World}{L N:List Ent}(h:HP w0 W L)(k:HP W w N):HP w0 w (N++L):=by
 refine⟨Below.trans h.below (k.below.mono h.below.size),fun j b cs T hj=>?_,fun i j b c1 T1 c2 T2 hi hj=>?_⟩
 ·rw[zxA]at hj;split at hj
  ·have:=k.blk j b cs T hj;exact⟨this.1,aY h.below.size this.2⟩
  ·have h1:=h.blk _ b cs T hj;exact⟨by rw[k.below.block b (zeO h1.1)];exact h1.1,h1.2⟩
 ·rw[zxA]at hi hj;split at hi<;>split at hj
  ·exact k.inj i j b c1 T1 c2 T2 hi hj
  ·have h1:=(k.blk i b c1 T1 hi).2;have h2:=zeO (h.blk _ b c2 T2 hj).1;omega
  ·have h1:=(k.blk j b c2 T2 hj).2;have h2:=zeO (h.blk _ b c1 T1 hi).1;omega
  ·have:=h.inj _ _ b c1 T1 c2 T2 hi hj;omega
theorem HP.push1{w0 w:World}{L:List Ent}{b:Nat}{cs:LV}{T:TypeId}(h:HP w0 w L)(hw:w0.heap.size<=b)(hn:Go.Proofs.YtmbcolbbekbccaaGreat.neL L b)(hh:w.heap[b]? = some (.cells cs.toArray T (0,0))):HP w0 w ((b,cs,T)::L):=by
 refine⟨h.below,fun k b' cs' T' hk=>?_,fun i j b' c1 T1 c2 T2 hi hj=>?_⟩
 ·cases k with
  |zero=>cases hk;exact⟨hh,hw⟩
  |succ k=>exact h.blk k b' cs' T' hk
 ·cases i with
  |zero=>cases j with
   |zero=>rfl|succ j=>cases hi;exact absurd rfl (yvC (L:=L) (k:=j) hn hj)
  |succ i=>cases j with
   |zero=>cases hj;exact absurd rfl (yvC (L:=L) (k:=i) hn hi)
   |succ j=>rw[h.inj i j b' c1 T1 c2 T2 hi hj]
theorem HP.tail{w0 w:World}{e:Ent}{L:List Ent}(h:HP w0 w (e::L)):HP w0 w L:=
 ⟨h.below,fun k=>h.blk (k+1),fun i j b cs T cs' T' hi hj=>by have:=h.inj (i+1) (j+1) b cs T cs' T' hi hj;omega⟩
theorem HP.nil{w0 w:World}{L:List Ent}(h:HP w0 w L):HP w0 w []:=⟨h.below,fun _ _ _ _ h=>(by cases h),fun _ _ _ _ _ _ _ h=>(by cases h)⟩
def piece:LV->Nat->Nat->LV
 |_,_,0=>[]|[],_,_+1=>[]|v::l,0,n+1=>v::piece l 0 n|_::l,o+1,n+1=>piece l o (n+1)
def lay:LV->Nat->LV->LV
 |l,_,[]=>l|[],_,_=>[]|_::l,0,x::xs=>x::lay l 0 xs|v::l,o+1,x::xs=>v::lay l o (x::xs)
theorem zaL:∀(l:LV) (o n:Nat),piece l o n=(l.drop o).take n
 |_,_,0=>by simp[piece]
 |[],_,_+1=>by simp[piece]
 |v::l,0,n+1=>by simp[piece,zaL l 0 n]
 |_::l,o+1,n+1=>by simp[piece,zaL l o (n+1)]
theorem zcL:∀(l:LV) (o:Nat) (xs:LV),(lay l o xs).length=l.length
 |l,_,[]=>by cases l<;>simp[lay]
 |[],_,_::_=>by simp[lay]
 |_::l,0,x::xs=>by simp[lay,zcL l 0 xs]
 |v::l,o+1,x::xs=>by simp[lay,zcL l o (x::xs)]
theorem zcY:∀(l:LV) (o:Nat) (xs:LV) (i:Nat),(lay l o xs)[i]? = if o<=i/\i<o+xs.length/\i<l.length then xs[i-o]? else l[i]?
 |l,o,[],i=>by
  have:lay l o []=l:=by cases l<;>rfl
  rw[this,zG (by simp;omega)]
 |[],o,_::_,i=>by simp[lay]
 |v::l,0,x::xs,i=>by
  cases i with
  |zero=>simp[lay]|succ i=>
   have:=zcY l 0 xs i;simp only[lay,cD,this,bX,true_and,aN,Nat.sub_zero];by_cases h:i<0+xs.length/\i<l.length
   ·rw[zH h,zH (by omega)]
   ·rw[zG h,zG (by omega)]
 |v::l,o+1,x::xs,i=>by
  cases i with
  |zero=>simp[lay]|succ i=>
   have:=zcY l o (x::xs) i;simp only[lay,cD,this,aN,iU];by_cases h:o<=i/\i<o+(xs.length+1)/\i<l.length
   ·rw[zH h,zH (by omega)]
   ·rw[zG h,zG (by omega)]
def TAgg(P:Program)(T:TypeId)(sz:Nat):Prop:=(∀w,(isAgg T).run P w = .ok true w)/\(∀w,(sizeOf T).run P w = .ok sz w)
def TOne(P:Program)(T:TypeId):Prop:=(∀w,(isAgg T).run P w = .ok false w)/\(∀w,(sizeOf T).run P w = .ok 1 w)
def zoQ(P:Program)(T:TypeId)(z:Value):Prop:=∀w,(zeroValue T).run P w = .ok z w
theorem zbW(b o i:Nat):((⟨b,o,none⟩:Addr).add i)=⟨b,o+i,none⟩:=by simp[Addr.add]
section runs
variable {P:Program}{w:World}
theorem ygN(T:TypeId)(v:Value):(Instr.box T v).run P w = .ok (.pointer (some ⟨w.heap.size,0,none⟩)) (w.alloc (.cells v.cells T)):=by simp[Instr.box,newVar,newRow]
theorem zqO{T:TypeId}{z:Value}(hz:zoQ P T z):(Instr.alloc T true (.tuple #[])).run P w = .ok (.pointer (some ⟨w.heap.size,0,none⟩)) (w.alloc (.cells z.cells T)):=by simp[Instr.alloc,hz w,newVar,newRow]
theorem zhV{b:Nat}{cs:LV}{T:TypeId}{fz:Nat×Nat}(h:w.heap[b]? = some (.cells cs.toArray T fz))(i:Nat):w.cell? ⟨b,i,none⟩=cs[i]?:=by simp[World.cell?,h]
theorem ybN{b:Nat}{cs:LV}{T:TypeId}(h:w.heap[b]? = some (.cells cs.toArray T (0,0)))(i:Nat):w.frozen? ⟨b,i,none⟩=false:=by simp[World.frozen?,h]
theorem zwW{T T':TypeId}{sz b o:Nat}{cs l:LV}{fz:Nat×Nat}(ty:TAgg P T sz)(h:w.heap[b]? = some (.cells cs.toArray T' fz))(hl:piece cs o sz=l)(hsz:bM (o+sz) cs.length=true):(Instr.loadAt T (.pointer (some ⟨b,o,none⟩))).run P w = .ok (.agg l.toArray) w:=by
 have hsz':o+sz<=cs.length:=aR hsz;have hlen:l.length=sz:=by rw[<-hl,zaL];simp;omega
 have:=run_loadCells_list (P:=P) w ⟨b,o,none⟩ l (fun j v hj=>by
  rw[zbW,zhV h,<-hj,<-hl,zaL];have:j<sz:=by rw[<-hlen];exact(List.getElem?_eq_some_iff.1 hj).1
  simp[this])
 rw[hlen]at this;simp[Instr.loadAt,Instr.sureAddr,loadVar,ty.1 w,ty.2 w,this]
theorem yiB{T T':TypeId}{b o:Nat}{cs:LV}{v:Value}{fz:Nat×Nat}(ty:TOne P T)(h:w.heap[b]? = some (.cells cs.toArray T' fz))(hv:cs[o]? = some v):(Instr.loadAt T (.pointer (some ⟨b,o,none⟩))).run P w = .ok v w:=by simp[Instr.loadAt,Instr.sureAddr,loadVar,ty.1 w,zhV h,hv]
theorem zgS{b i:Nat}{v:Value}{cs:LV}{T:TypeId}(h:w.heap[b]? = some (.cells cs.toArray T (0,0))):(w.setCell ⟨b,i,none⟩ v).heap[b]? = some (.cells (cs.set i v).toArray T (0,0)):=by
 have hlt:=zeO h;have h':w.heap[b] = .cells cs.toArray T (0,0):=by simpa[cP hlt]using h
 show(w.heap.modify b _)[b]? = _;rw[cP (by simpa using hlt),Array.getElem_modify_self,h'];simp
theorem zmL{T:TypeId}{b o:Nat}:∀(vs:LV) (i:Nat) (w:World) (cs:LV),(∀v∈vs,v.oneCell'=true)->w.heap[b]? = some (.cells cs.toArray T (0,0))->o+i+vs.length<=cs.length ->∃w',(storeCells ⟨b,o,none⟩ vs i).run P w = .ok () w'/\w'.heap[b]? = some (.cells (lay cs (o+i) vs).toArray T (0,0))/\w'.heap.size=w.heap.size/\w'.os=w.os/\w'.tape=w.tape/\w'.output=w.output/\∀j,j≠b->w'.heap[j]? = w.heap[j]?
 |[],i,w,cs,_,h,_=>⟨w,by simp[storeCells],by
  have:lay cs (o+i) []=cs:=by cases cs<;>rfl
  rw[this];exact h,rfl,rfl,rfl,rfl,fun _ _=>rfl⟩
 |v::vs,i,w,cs,hone,h,hlen=>by
  have hi:o+i<cs.length:=by simp only[aN]at hlen;omega
  have hc:w.cell? ⟨b,o+i,none⟩=some cs[o+i]:=by rw[zhV h];simp[hi]
  have hst:=run_store P w ⟨b,o+i,none⟩ v .plain (hone v (by simp));rw[hc]at hst;simp only[ybN h,dH,if_false]at hst;have h2:=zgS (i:=o+i) (v:=v) h;have hlen2:o+(i+1)+vs.length<=(cs.set (o+i) v).length:=by rw[bP];simp only[aN]at hlen;omega
  obtain⟨w',e,hb,hs,h4,h5,h6,h7⟩:=zmL vs (i+1) (w.setCell ⟨b,o+i,none⟩ v) (cs.set (o+i) v) (fun u hu=>hone u (by simp[hu])) h2 hlen2;refine⟨w',?_,?_,?_,h4,h5,h6,?_⟩
  ·show(do store ((⟨b,o,none⟩:Addr).add i) v;storeCells ⟨b,o,none⟩ vs (i+1):Sem Unit).run P w=_;rw[zbW,Sem.run_bind,hst];exact e
  ·rw[hb];congr 2;apply congrArg List.toArray;apply aX;intro j;rw[zcY,zcY];simp only[aN,bP];by_cases h1:o+(i+1)<=j/\j<o+(i+1)+vs.length/\j<cs.length
   ·rw[zH h1,zH (by omega),show j-(o+i)=(j-(o+(i+1)))+1 by omega];simp
   ·rw[zG h1];by_cases h3:j=o+i
    ·subst h3;rw[zH (by omega)];simp[hi]
    ·rw[zG (by omega),aM (by omega)]
  ·rw[hs];simp[World.setCell]
  ·intro j hj;rw[h7 j hj];exact Below.heap_setCell _ _ _ _ (by simpa using hj)
theorem yfP{T T':TypeId}{sz b o:Nat}{cs l:LV}(ty:TAgg P T sz)(h:w.heap[b]? = some (.cells cs.toArray T' (0,0)))(hlen:l.length=sz)(hone:∀v∈l,v.oneCell'=true)(hsz:bM (o+sz) cs.length=true):∃w',(Instr.storeAt T (.pointer (some ⟨b,o,none⟩)) (.agg l.toArray)).run P w = .ok () w'/\w'.heap[b]? = some (.cells (lay cs o l).toArray T' (0,0))/\w'.heap.size=w.heap.size/\w'.os=w.os/\w'.tape=w.tape/\w'.output=w.output/\∀j,j≠b->w'.heap[j]? = w.heap[j]?:=by have hsz':o+sz<=cs.length:=aR hsz;obtain⟨w',e,hb,rest⟩:=zmL (P:=P) (o:=o) l 0 w cs hone h (by omega);refine⟨w',?_,hb,rest⟩;simp[Instr.storeAt,Instr.sureAddr,storeVar,ty.2 w,Value.cells,hlen,e]
theorem yeN{T T':TypeId}{b o:Nat}{cs:LV}{v:Value}(ty:TOne P T)(h:w.heap[b]? = some (.cells cs.toArray T' (0,0)))(hone:v.oneCell'=true)(hsz:cM o cs.length=true):∃w',(Instr.storeAt T (.pointer (some ⟨b,o,none⟩)) v).run P w = .ok () w'/\w'.heap[b]? = some (.cells (lay cs o [v]).toArray T' (0,0))/\w'.heap.size=w.heap.size/\w'.os=w.os/\w'.tape=w.tape/\w'.output=w.output/\∀j,j≠b->w'.heap[j]? = w.heap[j]?:=by
 have hsz':o<cs.length:=by rw[zhR]at hsz;simpa using hsz
 obtain⟨w',e,hb,rest⟩:=zmL (P:=P) (o:=o) [v] 0 w cs (by simpa using hone) h (by simp;omega);refine⟨w',?_,hb,rest⟩;have hc:v.cells = #[v]:=by cases v<;>first|rfl|simp[Value.oneCell']at hone
 simp[Instr.storeAt,Instr.sureAddr,storeVar,ty.2 w,hc,e]
end runs
def fieldsOf(P:Program)(T:TypeId):Array Field:=match P.underlying T with
 |some (.struct fs)=>fs|_=>#[]
def zlR(P:Program)(T:TypeId)(i off:Nat):Prop:=∀b o (w:World),(Instr.fieldAt T (.pointer (some ⟨b,o,none⟩)) i).run P w = .ok (.pointer (some ⟨b,o+off,none⟩)) w
theorem wr64{x:Int}(h0:-9223372036854775808<=x)(h1:x<9223372036854775808):IntKind.i64.wrap x=x:=by
 have hb:(2:Int)^IntKind.i64.bits=18446744073709551616:=by decide
 have hb2:(2:Int)^(IntKind.i64.bits-1)=9223372036854775808:=by decide
 simp only[IntKind.wrap,hb,hb2,show IntKind.i64.signed=true from rfl,Bool.true_and,zD];split<;>omega
theorem wru{k:IntKind}(hk:k.signed=false){x:Int}(h0:0<=x)(h1:x<2^k.bits):k.wrap x=x:=by simp only[IntKind.wrap,hk,Bool.false_and,dH,if_false];exact Int.emod_eq_of_lt h0 h1
def lkp:List (Nat×Nat)->Nat->Option (Nat×Nat)
 |[],_=>none|p::_,0=>some p|_::l,k+1=>lkp l k
def IsFn(P:Program)(f:FuncId):Prop:=∀(args:Array Value) (w:World),(callFunc f args).run P w = .ok (.enter f args) w
theorem isFn {P : Program} {f : FuncId} {fn : Func} (hf : P.funcs[f]? = some fn) (hn : (fn.name == "runtime.NumGoroutine") = false := by kernel_rfl) (hb : fn.body.isNone = false := by kernel_rfl) : IsFn P f := fun args w => by simp only[callFunc,Sem.run_bind,run_program,Result.andThen,hf,hn,hb,dH,if_false,Sem.run_pure]
section
variable {P:Program}{ops:Array Oper}{Q:Exit->Act->World->Prop}{rest:List Oper}{n:Nat}{m:FM}{w w0:World}{L:List Ent}
variable {d:Nat}{op:Op}{ty:TypeId}{pos:String}{aft:Array Edge}{c v:Value}{x y:Operand}{T:TypeId}
theorem zaA(h:(execOp (evO n m) ⟨some d,op,ty,pos,aft,none⟩).run P w = .ok (.value c) w)(hr:wpList P ops Q rest (fr n ((d,c)::m)) w):
  wpList P ops Q (⟨some d,op,ty,pos,aft,none⟩::rest) (fr n m) w:=
 wpList_plain rfl fun K hK=>by unfold Oper.wp;rw[zdF,h];simp only[Oper.upon,zaI];exact hK _ _ hr
def gval(ops:Array Oper)(n:Nat)(m:FM)(j:Nat):Option Bool:=
 match (ops[j]?).bind (·.dst) with
 |some t=>match evO n m (.tmp t) with
  |.bool b=>some b|_=>none
 |none=>none
theorem ziT(j:Nat):yielded ops (fr n m).tmps j=gval ops n m j:=by
 unfold yielded gval;cases (ops[j]?).bind (·.dst) with
 |none=>rfl|some t=>
  simp only[fD,xdZ,evO,zhR];by_cases h:t<n
  ·simp only[h,if_true,decide_true,zE];cases look m t<;>rfl
  ·simp only[h,if_false,decide_false,zF];rfl
def lko:List Oper->Nat->Option Oper
 |[],_=>none|o::_,0=>some o|_::l,k+1=>lko l k
theorem ykN:∀(l:List Oper) (j:Nat),lko l j=l[j]?
 |[],j=>by simp[lko]
 |o::l,0=>by simp[lko]
 |o::l,k+1=>by simp[lko,ykN l k]
def gvo(n:Nat)(m:FM):Option Oper->Option Bool
 |some ⟨some t,_,_,_,_,_⟩=>match evO n m (.tmp t) with
  |.bool b=>some b|_=>none
 |_=>none
def gvl(l:List Oper)(n:Nat)(m:FM)(j:Nat):Option Bool:=gvo n m (lko l j)
theorem zwQ(l:List Oper)(j:Nat):gval l.toArray n m j=gvl l n m j:=by
 unfold gval gvl;rw[ykN,eJ];cases l[j]? with
 |none=>rfl|some o=>obtain⟨dst,_,_,_,_,_⟩:=o;cases dst<;>rfl
variable {ol:List Oper}
theorem p_gs{j:Nat}{t:Bool}(_hg:gvl ol n m j=some t)(h1:t=true->wpList P ol.toArray Q rest (fr n m) w)(h0:t=false->wpList P ol.toArray Q rest (fr n m) w):wpList P ol.toArray Q rest (fr n m) w:=by cases t;exact h0 rfl;exact h1 rfl
theorem zdG{dst:Option Nat}{j:Nat}{b t:Bool}(hg':gvl ol n m j=some t)(ht:t = !b)(hr:wpList P ol.toArray Q rest ((fr n m).put dst undef) w):
  wpList P ol.toArray Q (⟨dst,op,ty,pos,aft,some (j,b)⟩::rest) (fr n m) w:=by
 refine wpList_skip ?_ hr;simp only[Region.wanted,ziT,zwQ,hg',ht];cases b<;>rfl
theorem zcX{dst:Option Nat}{j:Nat}{b t:Bool}(hg':gvl ol n m j=some t)(ht:t=b)(h:wpList P ol.toArray Q (⟨dst,op,ty,pos,aft,none⟩::rest) (fr n m) w):
  wpList P ol.toArray Q (⟨dst,op,ty,pos,aft,some (j,b)⟩::rest) (fr n m) w:=by
 have hw:Region.wanted ⟨dst,op,ty,pos,aft,some (j,b)⟩ (yielded ol.toArray (fr n m).tmps)=true:=by simp only[Region.wanted,ziT,zwQ,hg',ht];simp
 unfold wpList at h ⊢;rw[zH hw];rw[zH (by rfl)]at h;exact h
theorem yqY{args:Array Operand}{at_:Array TypeId}{f:FuncId}{first cap:Array Value}{l:LV}(hf:IsFn P f)(hx:evO n m x = .func (.func f) first cap) (ha:first.toList++args.toList.map (evO n m)++cap.toList=l) (h:Calls P f l.toArray w fun e w'=>match e with
   |.returned v=>wpList P ops Q rest (fr n ((d,v)::m)) w'|_=>False):
  wpList P ops Q (⟨some d,.call ⟨.value x,args,at_⟩,ty,pos,aft,none⟩::rest) (fr n m) w:=
 wpList_plain rfl fun K hK=>by
  have hargs:(first++args.map (evO n m))++cap=l.toArray:=by rw[<-ha];apply dS;simp
  have hrun:(execOp (evO n m) ⟨some d,.call ⟨.value x,args,at_⟩,ty,pos,aft,none⟩).run P w = .ok (.enter f l.toArray) w:=by simp only[execOp,resolve,hx,Deferred.ofValue,Sem.run_bind,Sem.run_pure,Result.andThen,invoke];rw[hargs];exact hf _ _
  unfold Oper.wp;rw[zdF,hrun];simp only[Oper.upon];refine h.mono fun e w' he=>?_;cases e with
  |returned v=>show K ((fr n m).put (some d) v) w';rw[zaI];exact hK _ _ he
  |panicked c=>exact he.elim|outgrown=>exact he.elim
def args?(n:Nat)(m:FM):List Operand->LV
 |[]=>[]|x::l=>evO n m x::args? n m l
theorem ztN(l:List Operand):l.map (evO n m)=args? n m l:=by
 induction l with
 |nil=>rfl|cons x l ih=>simp[args?,ih]
theorem zaQ{args:List Operand}{at_:Array TypeId}{f:FuncId}{l:LV}(hf:IsFn P f)(ha:args? n m args=l) (h:Calls P f l.toArray w fun e w'=>match e with
   |.returned v=>wpList P ops Q rest (fr n ((d,v)::m)) w'|_=>False):
  wpList P ops Q (⟨some d,.call ⟨.value (.func f),args.toArray,at_⟩,ty,pos,aft,none⟩::rest) (fr n m) w:=
 yqY (first:=#[]) (cap:=#[]) hf rfl (by simp[ztN,ha]) h
theorem zkS{args:List Operand}{at_:Array TypeId}{f:FuncId}{l:LV}(ha:args? n m args=l)(hrun:(callFunc f l.toArray).run P w = .ok (.value v) w) (hr:wpList P ops Q rest (fr n ((d,v)::m)) w):
  wpList P ops Q (⟨some d,.call ⟨.value (.func f),args.toArray,at_⟩,ty,pos,aft,none⟩::rest) (fr n m) w:=
 zaA (by
  have hargs:args.toArray.map (evO n m)=l.toArray:=by rw[<-ha,<-ztN];simp
  simp only[execOp,resolve,evO,Deferred.ofValue,Sem.run_bind,Sem.run_pure,Result.andThen,invoke,hargs]
  simpa using hrun) hr
theorem zeY{l:LV}(H:HP w0 w L)(hx:evO n m x = .agg l.toArray)(h:∀w' b,HP w0 w' ((b,l,T)::L)->wpList P ops Q rest (fr n ((d,.pointer (some ⟨b,0,none⟩))::m)) w'):
  wpList P ops Q (⟨some d,.box T x,ty,pos,aft,none⟩::rest) (fr n m) w:=
 wpList_plain rfl fun K hK=>by
  have hrun:(execOp (evO n m) ⟨some d,.box T x,ty,pos,aft,none⟩).run P w = .ok (.value (.pointer (some ⟨w.heap.size,0,none⟩))) (w.alloc (.cells l.toArray T)):=by simp[execOp,ygN,hx,Value.cells]
  unfold Oper.wp;rw[zdF,hrun];simp only[Oper.upon,zaI];exact hK _ _ (h _ _ (H.alloc l T))
theorem zbH{l:LV}{z:Value}(H:HP w0 w L)(hz:zoQ P T z)(hl:z.cells.toList=l)(h:∀w' b,HP w0 w' ((b,l,T)::L)->wpList P ops Q rest (fr n ((d,.pointer (some ⟨b,0,none⟩))::m)) w'):
  wpList P ops Q (⟨some d,.alloc T,ty,pos,aft,none⟩::rest) (fr n m) w:=
 wpList_plain rfl fun K hK=>by
  have hrun:(execOp (evO n m) ⟨some d,.alloc T,ty,pos,aft,none⟩).run P w = .ok (.value (.pointer (some ⟨w.heap.size,0,none⟩))) (w.alloc (.cells l.toArray T)):=by simp[execOp,zqO hz,<-hl]
  unfold Oper.wp;rw[zdF,hrun];simp only[Oper.upon,zaI];exact hK _ _ (h _ _ (H.alloc l T))
theorem xdN{sz b o k:Nat}{cs l:LV}{T':TypeId}(tg:TAgg P T sz)(H:HP w0 w L)(hp:evO n m x = .pointer (some ⟨b,o,none⟩))(hk:lk L k=some (b,cs,T'))(hy:evO n m y = .agg l.toArray) (hlen:l.length=sz) (hone:l.all (·.oneCell')=true) (hsz:bM (o+sz) cs.length=true) (h:∀w',HP w0 w' (st L k (b,lay cs o l,T'))->wpList P ops Q rest (fr n m) w'):
  wpList P ops Q (⟨none,.store T x y,ty,pos,aft,none⟩::rest) (fr n m) w:=
 wpList_plain rfl fun K hK=>by
  obtain⟨w',e,hb,hs,h4,h5,h6,h7⟩:=yfP tg (H.blk k b cs T' hk).1 hlen (fun v hv=>bH.1 hone v hv) hsz;have hrun:(execOp (evO n m) ⟨none,.store T x y,ty,pos,aft,none⟩).run P w = .ok .skip w':=by simp only[execOp,hp,hy,Sem.run_bind,e,Result.andThen,Sem.run_pure]
  unfold Oper.wp;rw[zdF,hrun];simp only[Oper.upon,znI];exact hK _ _ (h w' (H.set hk hs h4 h5 h6 hb h7))
theorem zcS{b o k:Nat}{cs:LV}{T':TypeId}(tg:TOne P T)(H:HP w0 w L)(hp:evO n m x = .pointer (some ⟨b,o,none⟩))(hk:lk L k=some (b,cs,T'))(hy:evO n m y=v)(hone:v.oneCell'=true)(hsz:cM o cs.length=true) (h:∀w',HP w0 w' (st L k (b,lay cs o [v],T'))->wpList P ops Q rest (fr n m) w'):
  wpList P ops Q (⟨none,.store T x y,ty,pos,aft,none⟩::rest) (fr n m) w:=
 wpList_plain rfl fun K hK=>by
  obtain⟨w',e,hb,hs,h4,h5,h6,h7⟩:=yeN tg (H.blk k b cs T' hk).1 hone hsz;have hrun:(execOp (evO n m) ⟨none,.store T x y,ty,pos,aft,none⟩).run P w = .ok .skip w':=by simp only[execOp,hp,hy,Sem.run_bind,e,Result.andThen,Sem.run_pure]
  unfold Oper.wp;rw[zdF,hrun];simp only[Oper.upon,znI];exact hK _ _ (h w' (H.set hk hs h4 h5 h6 hb h7))
theorem ynT{cs l:LV}(h:cs.length=l.length):lay cs 0 l=l:=by
 apply aX;intro j;rw[zcY];by_cases hj:j<l.length
 ·rw[zH (by omega)];simp
 ·rw[zG (by omega),bT (by omega),bT (by omega)]
theorem zaH{b k:Nat}{cs l:LV}{T':TypeId}{sz:Nat}(tg:TAgg P T sz)(H:HP w0 w L)(hp:evO n m x = .pointer (some ⟨b,0,none⟩))(hk:lk L k=some (b,cs,T'))(hy:evO n m y = .agg l.toArray) (hlen:l.length=sz) (hone:l.all (·.oneCell')=true) (hsz:cs.length=sz) (h:∀w',HP w0 w' (st L k (b,l,T'))->wpList P ops Q rest (fr n m) w'):
  wpList P ops Q (⟨none,.store T x y,ty,pos,aft,none⟩::rest) (fr n m) w:=
 xdN tg H hp hk hy hlen hone (by rw[eV];omega) fun w' H'=>h w' (by
  have e:lay cs 0 l=l:=ynT (by omega)
  rw[e]at H';exact H')
variable {dst:Option Tmp}{e:Operand->Value}{k:IntKind}{a b r:Int}{g:Option (Nat×Bool)}
theorem zaD(hx:e x=v):(execOp e ⟨dst,.move x,ty,pos,aft,g⟩).run P w = .ok (.value v) w:=by simp[execOp,hx]
theorem zhK(hx:e x=v):(execOp e ⟨dst,.assign x,ty,pos,aft,g⟩).run P w = .ok (.value v) w:=by simp[execOp,hx]
theorem zcN{sz b o k:Nat}{cs l:LV}{T':TypeId}(tg:TAgg P T sz)(H:HP w0 w L)(hp:e x = .pointer (some ⟨b,o,none⟩))(hk:lk L k=some (b,cs,T'))(hl:piece cs o sz=l)(hsz:bM (o+sz) cs.length=true):(execOp e ⟨dst,.load T x,ty,pos,aft,g⟩).run P w = .ok (.value (.agg l.toArray)) w:=by simp only[execOp,hp,Sem.run_bind,zwW tg (H.blk k b cs T' hk).1 hl hsz,Result.andThen,Sem.run_pure]
theorem zaE{sz b k:Nat}{cs:LV}{T':TypeId}(tg:TAgg P T sz)(H:HP w0 w L)(hp:e x = .pointer (some ⟨b,0,none⟩))(hk:lk L k=some (b,cs,T'))(hsz:cs.length=sz):(execOp e ⟨dst,.load T x,ty,pos,aft,g⟩).run P w = .ok (.value (.agg cs.toArray)) w:=
 zcN tg H hp hk (by rw[zaL];simp[<-hsz]) (by rw[eV];omega)
theorem r_as{o:Oper}{l l':LV}(h:(execOp e o).run P w = .ok (.value (.agg l.toArray)) w)(he:l=l'):(execOp e o).run P w = .ok (.value (.agg l'.toArray)) w:=by rw[h,he]
theorem zbF{b o k:Nat}{cs:LV}{T':TypeId}(tg:TOne P T)(H:HP w0 w L)(hp:e x = .pointer (some ⟨b,o,none⟩))(hk:lk L k=some (b,cs,T'))(hv:piece cs o 1=[v]):(execOp e ⟨dst,.load T x,ty,pos,aft,g⟩).run P w = .ok (.value v) w:=by
 have hv':cs[o]? = some v:=by rw[zaL]at hv;have:=congrArg (·[0]?) hv;simpa using this
 simp only[execOp,hp,Sem.run_bind,yiB tg (H.blk k b cs T' hk).1 hv',Result.andThen,Sem.run_pure]
theorem zdD{T'}(hx:e x = .int k a)(hy:e y = .int k b)(h:k.wrap (a+b)=r):(execOp e ⟨dst,.binOp .add T x y T',ty,pos,aft,g⟩).run P w = .ok (.value (.int k r)) w:=by simp[execOp,hx,hy,eqGuard,binOp,Op.intArith,h]
theorem zgR{T'}(hx:e x = .int k a)(hy:e y = .int k b)(h:k.wrap (a-b)=r):(execOp e ⟨dst,.binOp .sub T x y T',ty,pos,aft,g⟩).run P w = .ok (.value (.int k r)) w:=by simp[execOp,hx,hy,eqGuard,binOp,Op.intArith,h]
theorem zhH{T'}(hx:e x = .int k a)(hy:e y = .int k b)(h:k.wrap (a*b)=r):(execOp e ⟨dst,.binOp .mul T x y T',ty,pos,aft,g⟩).run P w = .ok (.value (.int k r)) w:=by simp[execOp,hx,hy,eqGuard,binOp,Op.intArith,h]
theorem ywG{T'}(hx:e x = .int k a)(hy:e y = .int k b)(h0:b≠0)(h:k.wrap (a.tdiv b)=r):(execOp e ⟨dst,.binOp .quo T x y T',ty,pos,aft,g⟩).run P w = .ok (.value (.int k r)) w:=by simp[execOp,hx,hy,eqGuard,binOp,Op.intDiv,h,h0]
theorem yqO{T'}(hx:e x = .int k a)(hy:e y = .int k b)(h0:b≠0)(h:a.tmod b=r):(execOp e ⟨dst,.binOp .rem T x y T',ty,pos,aft,g⟩).run P w = .ok (.value (.int k r)) w:=by simp[execOp,hx,hy,eqGuard,binOp,Op.intDiv,h,h0]
theorem zcU{bo:BinOp}(hbo:bo = .and∨bo = .or∨bo = .xor∨bo = .andNot){T'}(hx:e x = .int k a)(hy:e y = .int k b)(h:bits bo k a b=r):(execOp e ⟨dst,.binOp bo T x y T',ty,pos,aft,g⟩).run P w = .ok (.value (.int k r)) w:=by rcases hbo with rfl|rfl|rfl|rfl<;>simp[execOp,hx,hy,eqGuard,binOp,Op.intBits,<-h,bits]
theorem yiO{T'}{k':IntKind}(hx:e x = .int k a)(hy:e y = .int k' b)(h0:¬b<0)(h:k.wrap (a*2^(min b.toNat k.bits))=r):(execOp e ⟨dst,.binOp .shl T x y T',ty,pos,aft,g⟩).run P w = .ok (.value (.int k r)) w:=by simp[execOp,hx,hy,eqGuard,binOp,Op.shift,h,h0]
theorem ziB{T'}{k':IntKind}(hx:e x = .int k a)(hy:e y = .int k' b)(h0:¬b<0)(h:a.fdiv (2^(min b.toNat k.bits))=r):(execOp e ⟨dst,.binOp .shr T x y T',ty,pos,aft,g⟩).run P w = .ok (.value (.int k r)) w:=by simp[execOp,hx,hy,eqGuard,binOp,Op.shift,h,h0]
variable {t s:Bool}
theorem yhF{T'}(hx:e x = .int k a)(hy:e y = .int k b)(h:(a==b)=t):(execOp e ⟨dst,.binOp .eql T x y T',ty,pos,aft,g⟩).run P w = .ok (.value (.bool t)) w:=by simp[execOp,hx,hy,eqGuard,binOp,Op.intCmp,h]
theorem ymX{T'}(hx:e x = .int k a)(hy:e y = .int k b)(h:(a != b)=t):(execOp e ⟨dst,.binOp .neq T x y T',ty,pos,aft,g⟩).run P w = .ok (.value (.bool t)) w:=by simp[execOp,hx,hy,eqGuard,binOp,Op.intCmp,h]
theorem zeT{T'}(hx:e x = .int k a)(hy:e y = .int k b)(h:decide (a<b)=t):(execOp e ⟨dst,.binOp .lss T x y T',ty,pos,aft,g⟩).run P w = .ok (.value (.bool t)) w:=by simp[execOp,hx,hy,eqGuard,binOp,Op.intCmp,h]
theorem r_leq{T'}(hx:e x = .int k a)(hy:e y = .int k b)(h:decide (a<=b)=t):(execOp e ⟨dst,.binOp .leq T x y T',ty,pos,aft,g⟩).run P w = .ok (.value (.bool t)) w:=by simp[execOp,hx,hy,eqGuard,binOp,Op.intCmp,h]
theorem r_gtr{T'}(hx:e x = .int k a)(hy:e y = .int k b)(h:decide (b<a)=t):(execOp e ⟨dst,.binOp .gtr T x y T',ty,pos,aft,g⟩).run P w = .ok (.value (.bool t)) w:=by simp[execOp,hx,hy,eqGuard,binOp,Op.intCmp,h]
theorem zlI{T'}(hx:e x = .int k a)(hy:e y = .int k b)(h:decide (b<=a)=t):(execOp e ⟨dst,.binOp .geq T x y T',ty,pos,aft,g⟩).run P w = .ok (.value (.bool t)) w:=by simp[execOp,hx,hy,eqGuard,binOp,Op.intCmp,h]
theorem zrF{T'}(hx:e x = .bool s)(h:(!s)=t):(execOp e ⟨dst,.unOp .not T' x,ty,pos,aft,g⟩).run P w = .ok (.value (.bool t)) w:=by simp[execOp,hx,Op.unary,h]
theorem r_neg{T'}(hx:e x = .int k a)(h:k.wrap (0-a)=r):(execOp e ⟨dst,.unOp .neg T' x,ty,pos,aft,g⟩).run P w = .ok (.value (.int k r)) w:=by simp only[execOp,hx,Op.unary,Op.intArith,h,Sem.run_bind,Sem.run_pure,Result.andThen]
theorem zbV{z:Operand}(hz:e z = .bool t)(ht:t=true)(hx:e x=v):(execOp e ⟨dst,.pick z x y,ty,pos,aft,g⟩).run P w = .ok (.value v) w:=by subst ht;simp[execOp,hz,hx,asBool]
theorem zaU{z:Operand}(hz:e z = .bool t)(ht:t=false)(hy:e y=v):(execOp e ⟨dst,.pick z x y,ty,pos,aft,g⟩).run P w = .ok (.value v) w:=by subst ht;simp[execOp,hz,hy,asBool]
theorem ykU{z:Operand}{s1 s2:Bool}(hz:e z = .bool s)(hx:e x = .bool s1)(hy:e y = .bool s2)(h:(bif s then s1 else s2)=t):(execOp e ⟨dst,.pick z x y,ty,pos,aft,g⟩).run P w = .ok (.value (.bool t)) w:=by subst h;cases s<;>simp[execOp,hz,hx,hy,asBool]
theorem zaG{i:Nat}{l:LV}(hx:e x = .tuple l.toArray)(h:l[i]? = some v):(execOp e ⟨dst,.extract x i,ty,pos,aft,g⟩).run P w = .ok (.value v) w:=by simp[execOp,hx,Instr.extract,h]
theorem zeJ{T1 T2:TypeId}{dd:TypeDesc}{k':IntKind}(h1:P.underlying T1=some dd)(h2:P.underlying T2=some (.int k'))(hx:e x = .int k a)(h:k'.wrap a=r):(execOp e ⟨dst,.convert T1 T2 x,ty,pos,aft,g⟩).run P w = .ok (.value (.int k' r)) w:=by simp[execOp,hx,convert,Go.underlying,h1,h2,Conv.intToInt,h]
theorem zaK{T':TypeId}{len:Nat}{sz b o i:Nat}(h1:P.underlying T=some (.array len T'))(h2:∀w,(sizeOf T').run P w = .ok sz w)(hx:e x = .pointer (some ⟨b,o,none⟩))(hy:e y = .int k a)(ha:a.toNat=i)(h0:0<=a)(hi:a<len):(execOp e ⟨dst,.indexAddr T x y,ty,pos,aft,g⟩).run P w = .ok (.value (.pointer (some ⟨b,o+i*sz,none⟩))) w:=by simp only[execOp,hx,hy,Instr.indexAt,Sem.run_bind];simp[asIntOf,Go.underlying,h1,Instr.sureAddr,h0,hi,h2,ha,zbW]
theorem xcI{T':TypeId}{len sz i:Nat}{l:LV}(h1:P.underlying T=some (.array len T'))(h2:∀w,(sizeOf T').run P w = .ok sz w)(h3:∀w,(isAgg T').run P w = .ok false w)(hx:e x = .agg l.toArray)(hy:e y = .int k a)(ha:a.toNat=i)(h0:0<=a)(hi:a<len)(hv:piece l (i*sz) 1=[v]):(execOp e ⟨dst,.index T x y,ty,pos,aft,g⟩).run P w = .ok (.value v) w:=by
 have hv':l[i*sz]? = some v:=by rw[zaL]at hv;have:=congrArg (·[0]?) hv;simpa using this
 simp only[execOp,hx,hy,Instr.index,Sem.run_bind];simp[asIntOf,Go.underlying,h1,h0,hi,h2,ha,part,h3,hv']
theorem r_addrF{fs:Array Field}{f:Field}{i sz b o:Nat}(h1:P.underlying T=some (.struct fs))(h2:fs[i]? = some f)(h3:∀w,(sizeOf f.type).run P w = .ok (sz+1) w)(hx:e x = .pointer (some ⟨b,o,none⟩)):(execOp e ⟨dst,.fieldAddr T x i,ty,pos,aft,g⟩).run P w = .ok (.value (.pointer (some ⟨b,o+f.offset,none⟩))) w:=by simp[execOp,hx,Instr.fieldAt,Go.underlying,h1,h2,Instr.sureAddr,fieldPlace,h3,zbW]
theorem zaN{i off b o:Nat}(tf:∀b o (w:World),(Instr.fieldAt T (.pointer (some ⟨b,o,none⟩)) i).run P w = .ok (.pointer (some ⟨b,o+off,none⟩)) w)(hx:e x = .pointer (some ⟨b,o,none⟩)):(execOp e ⟨dst,.fieldAddr T x i,ty,pos,aft,g⟩).run P w = .ok (.value (.pointer (some ⟨b,o+off,none⟩))) w:=by simp only[execOp,hx,Sem.run_bind,tf,Result.andThen,Sem.run_pure]
def znA(pl:List (Nat×Nat))(cs:LV):List (Nat×Value)->Option (LV)
 |[]=>some cs|(i,v)::l=>match lkp pl i with
  |none=>none|some (off,sz)=>bif aG v.cells.toList.length sz&&bM (off+sz) cs.length then znA pl (lay cs off v.cells.toList) l else none
def zmS(P:Program)(T:TypeId)(z:Value)(pl:List (Nat×Nat)):Prop:=∀(ps:List (Nat×Value)) (l:LV) (w:World),znA pl z.cells.toList ps=some l->(Instr.build T ps.toArray).run P w = .ok (.agg l.toArray) w
def zmB(e:Operand->Value):List (Nat×Operand)->List (Nat×Value)
 |[]=>[]|(i,x)::l=>(i,e x)::zmB e l
theorem zwJ(ps:List (Nat×Operand)):(ps.map fun(i,x)=>(i,e x))=zmB e ps:=by
 induction ps with
 |nil=>rfl|cons p ps ih=>obtain⟨i,x⟩:=p;simp[zmB,<-ih]
theorem zbD{z:Value}{pl:List (Nat×Nat)}{ps:List (Nat×Operand)}{vals:List (Nat×Value)}{l:LV}(hT:zmS P T z pl)(hp:zmB e ps=vals)(hl:znA pl z.cells.toList vals=some l):(execOp e ⟨dst,.build T ps.toArray,ty,pos,aft,g⟩).run P w = .ok (.value (.agg l.toArray)) w:=by
 have e1:(ps.toArray.map fun(i,x)=>(i,e x))=vals.toArray:=by rw[<-hp,<-zwJ];simp
 simp only[execOp,Sem.run_bind];rw[e1,hT vals l w hl];simp
theorem r_lenS{args:List Operand}{at_:List TypeId}{sv:ByteArray}{tt:TypeId}(h1:P.underlying tt=some .string)(hx:e x = .string sv):(execOp e ⟨dst,.call ⟨.builtin .len,#[x],#[tt]⟩,ty,pos,aft,g⟩).run P w = .ok (.value (.int .i64 sv.size)) w:=by simp[execOp,resolve,invoke,builtin,Builtin.len_,Go.underlying,h1,hx,goInt]
theorem yjG{sv:Option Addr}{tt T':TypeId}{ln cp:Nat}(h1:P.underlying tt=some (.slice T'))(hx:e x = .slice sv ln cp):(execOp e ⟨dst,.call ⟨.builtin .len,#[x],#[tt]⟩,ty,pos,aft,g⟩).run P w = .ok (.value (.int .i64 ln)) w:=by simp[execOp,resolve,invoke,builtin,Builtin.len_,Go.underlying,h1,hx,goInt]
end
section
variable {P:Program}{ops:Array Oper}{nh:Nat}{Φ:zfD}{W w0:World}{vs:Nat->Gv}{Fin:Act->Prop}{i:Nat}{rest:List Oper}{n:Nat}{m:FM}{L:List Ent}
variable {d:Nat}{op:Op}{ty:TypeId}{pos:String}{aft:Array Edge}{c v:Value}{x y:Operand}{T:TypeId}
theorem zhF(h:∀w,Ext W w->(execOp (evO n m) ⟨some d,op,ty,pos,aft,none⟩).run P w = .ok (.value c) w)(hk:Φ i=none)(hf:zcR ops nh i=false) (hr:wpT P ops nh Φ W vs Fin (i+1) rest (fr n ((d,c)::m))):wpT P ops nh Φ W vs Fin i (⟨some d,op,ty,pos,aft,none⟩::rest) (fr n m):=
 ylC hk hf rfl (fun w hx _=>by rw[zdF];exact h w hx) (by rw[zaI];exact hr)
theorem t_v(h:∀w,Ext W w->(execOp (evO n m) ⟨some d,op,ty,pos,aft,none⟩).run P w = .ok (.value c) w) (hr:wpT P ops nh Φ W vs Fin (i+1) rest (fr n ((d,c)::m))) (hk:Φ i=none:=by rfl) (hf:zcR ops nh i=false:=by rfl):wpT P ops nh Φ W vs Fin i (⟨some d,op,ty,pos,aft,none⟩::rest) (fr n m):=zhF h hk hf hr
theorem tp(h:∀{w:World},(execOp (evO n m) ⟨some d,op,ty,pos,aft,none⟩).run P w = .ok (.value c) w) (hr:wpT P ops nh Φ W vs Fin (i+1) rest (fr n ((d,c)::m))) (hk:Φ i=none:=by rfl) (hf:zcR ops nh i=false:=by rfl):wpT P ops nh Φ W vs Fin i (⟨some d,op,ty,pos,aft,none⟩::rest) (fr n m):=zhF (fun _ _=>h) hk hf hr
theorem zkN(h:∀w,(execOp (evO n m) ⟨some d,op,ty,pos,aft,none⟩).run P w = .ok (.value c) w)(hk:Φ i=none)(hf:zcR ops nh i=true) (hr:wpT P ops nh Φ W vs Fin (i+1) rest (fr n ((d,c)::m))):wpT P ops nh Φ W vs Fin i (⟨some d,op,ty,pos,aft,none⟩::rest) (fr n m):=
 ypC hk hf rfl (fun w=>by rw[zdF];exact h w) (by rw[zaI];exact hr)
theorem zaS{ol:List Oper}{dst:Option Nat}{j:Nat}{b t:Bool}(hg':gvl ol n m j=some t)(ht:t = !b)(hk:Φ i=none)(hr:wpT P ol.toArray nh Φ W vs Fin (i+1) rest ((fr n m).put dst undef)):
  wpT P ol.toArray nh Φ W vs Fin i (⟨dst,op,ty,pos,aft,some (j,b)⟩::rest) (fr n m):=
 yyT hk (by simp only[Region.wanted,ziT,zwQ,hg',ht];cases b<;>rfl) hr
theorem zbI{ol:List Oper}{j:Nat}{b t:Bool}(hg':gvl ol n m j=some t)(ht:t=b)(h:∀w,Ext W w->(execOp (evO n m) ⟨some d,op,ty,pos,aft,some (j,b)⟩).run P w = .ok (.value c) w)(hk:Φ i=none)(hf:zcR ol.toArray nh i=false) (hr:wpT P ol.toArray nh Φ W vs Fin (i+1) rest (fr n ((d,c)::m))):wpT P ol.toArray nh Φ W vs Fin i (⟨some d,op,ty,pos,aft,some (j,b)⟩::rest) (fr n m):=
 ylC hk hf (by simp only[Region.wanted,ziT,zwQ,hg',ht];simp) (fun w hx _=>by rw[zdF];exact h w hx) (by rw[zaI];exact hr)
theorem zeI{args:Array Operand}{at_:Array TypeId}{f:FuncId}{first cap:Array Value}{l:LV}{R:Value->World->Prop}{w:World}{dst:Option Tmp}{g:Option (Nat×Bool)}(hf:IsFn P f)(hx:evO n m x = .func (.func f) first cap) (ha:first.toList++args.toList.map (evO n m)++cap.toList=l) (h:Calls P f l.toArray w fun e w'=>∃v,e = .returned v/\R v w'):
  outcome P R ((execOp (evO n m) ⟨dst,.call ⟨.value x,args,at_⟩,ty,pos,aft,g⟩).run P w):=by
 have hargs:(first++args.map (evO n m))++cap=l.toArray:=by rw[<-ha];apply dS;simp
 have hrun:(execOp (evO n m) ⟨dst,.call ⟨.value x,args,at_⟩,ty,pos,aft,g⟩).run P w = .ok (.enter f l.toArray) w:=by simp only[execOp,resolve,hx,Deferred.ofValue,Sem.run_bind,Sem.run_pure,Result.andThen,invoke];rw[hargs];exact hf _ _
 rw[hrun];exact h.mono fun e w' ⟨v,he,hR⟩=>by subst he;exact hR
theorem xcY{args:List Operand}{at_:Array TypeId}{f:FuncId}{l:LV}(hk:Φ i=some (.inl c))(hf:zcR ops nh i=false)(hfn:IsFn P f)(ha:args? n m args=l) (h:∀w,Ext W w->zeS Φ vs w (zcW ⟨some d,.call ⟨.value (.func f),args.toArray,at_⟩,ty,pos,aft,none⟩)->Calls P f l.toArray w fun e w'=>e = .returned c/\Ext w w') (hr:wpT P ops nh Φ W vs Fin (i+1) rest (fr n ((d,c)::m))):
  wpT P ops nh Φ W vs Fin i (⟨some d,.call ⟨.value (.func f),args.toArray,at_⟩,ty,pos,aft,none⟩::rest) (fr n m):=
 yiE rfl hk hf rfl (fun w hx hF R hR=>by
  rw[zdF]
  exact zeI (first:=#[]) (cap:=#[]) hfn rfl (by simp[ztN,ha]) ((h w hx hF).mono fun e w' ⟨he,hx'⟩=>⟨c,he,hR w' hx'⟩)) (by rw[zaI];exact hr)
theorem ziZ{ol:List Oper}{args:List Operand}{at_:Array TypeId}{f:FuncId}{l:LV}{j:Nat}{b t:Bool}(hg':gvl ol n m j=some t)(ht:t=b)(hk:Φ i=some (.inl c))(hf:zcR ol.toArray nh i=false)(hfn:IsFn P f)(ha:args? n m args=l) (h:∀w,Ext W w->zeS Φ vs w (zcW ⟨some d,.call ⟨.value (.func f),args.toArray,at_⟩,ty,pos,aft,some (j,b)⟩)->Calls P f l.toArray w fun e w'=>e = .returned c/\Ext w w') (hr:wpT P ol.toArray nh Φ W vs Fin (i+1) rest (fr n ((d,c)::m))):
  wpT P ol.toArray nh Φ W vs Fin i (⟨some d,.call ⟨.value (.func f),args.toArray,at_⟩,ty,pos,aft,some (j,b)⟩::rest) (fr n m):=
 yiE rfl hk hf (by simp only[Region.wanted,ziT,zwQ,hg',ht];simp) (fun w hx hF R hR=>by
  rw[zdF]
  exact zeI (first:=#[]) (cap:=#[]) hfn rfl (by simp[ztN,ha]) ((h w hx hF).mono fun e w' ⟨he,hx'⟩=>⟨c,he,hR w' hx'⟩)) (by rw[zaI];exact hr)
theorem zoY{args:List Operand}{at_:Array TypeId}{f:FuncId}{l:LV}(ha:args? n m args=l)(hrun:∀w,(callFunc f l.toArray).run P w = .ok (.value v) w)(hk:Φ i=none)(hf:zcR ops nh i=false) (hr:wpT P ops nh Φ W vs Fin (i+1) rest (fr n ((d,v)::m))):wpT P ops nh Φ W vs Fin i (⟨some d,.call ⟨.value (.func f),args.toArray,at_⟩,ty,pos,aft,none⟩::rest) (fr n m):=
 zhF (fun w _=>by
  have hargs:args.toArray.map (evO n m)=l.toArray:=by rw[<-ha,<-ztN];simp
  simp only[execOp,resolve,evO,Deferred.ofValue,Sem.run_bind,Sem.run_pure,Result.andThen,invoke,hargs]
  simpa using hrun w) hk hf hr
def NewAt(W:World)(l:LV)(T:TypeId)(v:Value)(w:World):Prop:=∃b,v = .pointer (some ⟨b,0,none⟩)/\W.heap.size<=b/\w.heap[b]? = some (.cells l.toArray T (0,0))
theorem NewAt.ext{W:World}{l:LV}{T:TypeId}(v:Value)(w w':World)(h:NewAt W l T v w)(hx:Ext w w'):NewAt W l T v w':=by obtain⟨b,h1,h2,h3⟩:=h;exact⟨b,h1,h2,by rw[Below.block hx b (zeO h3)];exact h3⟩
theorem NewAt.old{W:World}{l:LV}{T:TypeId}{v:Value}{w:World}(h:NewAt W l T v w):Old w v:=by obtain⟨b,h1,_,h3⟩:=h;exact⟨b,0,h1,zeO h3⟩
theorem zeA{l:LV}{z:Value}(hk:Φ i=some (.inr (lowR (NewAt W l T))))(hf:zcR ops nh i=false)(hz:zoQ P T z)(hl:z.cells.toList=l)(hr:wpT P ops nh Φ W vs Fin (i+1) rest (fr n ((d,vs i)::m))):
  wpT P ops nh Φ W vs Fin i (⟨some d,.alloc T,ty,pos,aft,none⟩::rest) (fr n m):=
 yuI hk hf (fun v w w' h hx=>NewAt.ext v w w' h hx) rfl (fun _ v w h=>NewAt.old h) (fun w hx _ R hR=>by
  have hrun:(execOp (fr n m).eval ⟨some d,.alloc T,ty,pos,aft,none⟩).run P w = .ok (.value (.pointer (some ⟨w.heap.size,0,none⟩))) (w.alloc (.cells l.toArray T)):=by simp[execOp,zqO hz,<-hl]
  rw[hrun]
  exact hR _ _ (Ext.alloc w _) ⟨_,rfl,hx.size,zaR w _⟩ fun _ ⟨b,o,he,hlt⟩=>by
   injection he with he;injection he with he;injection he with he _
   exact absurd hlt (by rw[<-he];exact Nat.lt_irrefl _)) (by rw[zaI];exact hr)
theorem zbX{Q':Exit->Act->World->Prop}{tl:List Oper}(h:∀w,Ext W w->zeS Φ vs w (bR nh)->Apart ops nh Φ vs->wpList P ops Q' tl (fr n m) w):wpT P ops nh Φ W vs (fun a'=>∀w',Ext W w'->zeS Φ vs w' (bR nh)->Apart ops nh Φ vs->wpList P ops Q' tl a' w') i [] (fr n m):=h
end
theorem ylE:∀(cs:LV) (off:Nat) (vs:LV) (k:Nat),off+k+vs.length<=cs.length ->(vs.zipIdx k).foldl (fun(a:Array Value) (p:Value×Nat)=>a.setIfInBounds (off+p.2) p.1) cs.toArray=(lay cs (off+k) vs).toArray
 |cs,off,[],k,_=>by
  have:lay cs (off+k) []=cs:=by cases cs<;>rfl
  simp[this]
 |cs,off,v::vs,k,h=>by
  have hk:off+k<cs.length:=by simp only[aN]at h;omega
  have ih:=ylE (cs.set (off+k) v) off vs (k+1) (by simp only[aN,bP]at *;omega);simp only[List.zipIdx_cons,List.foldl_cons];have e1:cs.toArray.setIfInBounds (off+k) v=(cs.set (off+k) v).toArray:=by simp
  rw[e1,ih];congr 1;apply aX;intro j;rw[zcY,zcY];simp only[aN,bP];by_cases h1:off+(k+1)<=j/\j<off+(k+1)+vs.length/\j<cs.length
  ·rw[zH h1,zH (by omega),show j-(off+k)=(j-(off+(k+1)))+1 by omega];simp
  ·rw[zG h1];by_cases h3:j=off+k
   ·subst h3;rw[zH (by omega)];simp[hk]
   ·rw[zG (by omega),aM (by omega)]
theorem zyC{pl:List (Nat×Nat)}{place:Nat->Option (Nat×Nat)}(hpl:∀i,lkp pl i=none∨lkp pl i=place i):∀(ps:List (Nat×Value)) (cs l:LV),znA pl cs ps=some l->Instr.fill place cs.toArray ps=some l.toArray
 |[],cs,l,h=>by simp only[znA,Option.some.injEq]at h;simp[Instr.fill,h]
 |(i,v)::ps,cs,l,h=>by
  unfold znA at h;rcases hpl i with h1|h1
  ·simp[h1]at h
  ·cases h2:lkp pl i with
   |none=>simp[h2]at h|some q=>
    obtain⟨off,sz⟩:=q;simp only[h2]at h;have h3:place i=some (off,sz):=by rw[<-h1,h2]
    cases hc:aG v.cells.toList.length sz&&bM (off+sz) cs.length with
    |false=>rw[hc]at h;cases h
    |true=>
     rw[hc]at h;simp only[zE]at h;simp only[aK,eV]at hc;have hlen:v.cells.toList.length=sz:=by have:=hc.1;rw[zlA]at this;simpa using this
     unfold Instr.fill;simp only[h3];have hsz:v.cells.size=sz:=by simpa using hlen
     rw[zG (by simp[hsz];omega)];have hf:=ylE cs off v.cells.toList 0 (by rw[hlen];omega);have e1:v.cells.zipIdx.foldl (fun cs (c,j)=>cs.setIfInBounds (off+j) c) cs.toArray=(lay cs off v.cells.toList).toArray:=by rw[<-Array.foldl_toList];simpa using hf
     rw[e1];exact zyC hpl ps _ l h
theorem zsQ(sz:Nat):∀(n k i:Nat),lkp ((cZ k n).map fun i=>(i*sz,sz)) i=none∨lkp ((cZ k n).map fun i=>(i*sz,sz)) i=some ((k+i)*sz,sz)
 |0,k,i=>.inl (by simp[lkp])|n+1,k,0=>.inr (by simp[eK,lkp])|n+1,k,i+1=>by have:=zsQ sz n (k+1) i;simp only[eK,List.map_cons,lkp];rw[show k+(i+1)=k+1+i by omega];exact this
theorem ybL{P:Program}{T E:TypeId}{z:Value}{len sz:Nat}{pl:List (Nat×Nat)}(hu:P.underlying T=some (.array len E))(hz:zoQ P T z)(hs:∀w,(sizeOf E).run P w = .ok sz w)(hpl:(cZ 0 len).map (fun i=>(i*sz,sz))=pl):zmS P T z pl:=by
 intro ps l w h;have hf:=zyC (place:=fun i=>some (i*sz,sz)) (fun i=>by subst hpl;simpa using zsQ sz len 0 i) ps z.cells.toList l h;have e1:z.cells.toList.toArray=z.cells:=by simp
 rw[e1]at hf;simp[Instr.build,hz w,Go.underlying,hu,hs,hf]
theorem zuN{P:Program}{T:TypeId}{z:Value}{fs:Array Field}{pl:List (Nat×Nat)}(hu:P.underlying T=some (.struct fs))(hz:zoQ P T z)(hs:∀w,(fs.mapM fun f=>do pure (f.offset,<-sizeOf f.type):Sem (Array (Nat×Nat))).run P w = .ok pl.toArray w):zmS P T z pl:=by
 intro ps l w h
 have hlk:∀(pl:List (Nat×Nat)) (i:Nat),lkp pl i=pl[i]?:=fun pl=>by
  induction pl with
  |nil=>intro i;simp[lkp]|cons p pl ih=>intro i;cases i with
   |zero=>simp[lkp]|succ i=>simp[lkp,ih]
 have hf:=zyC (place:=(pl.toArray[·]?)) (fun i=>by right;simp[hlk]) ps z.cells.toList l h;have e1:z.cells.toList.toArray=z.cells:=by simp
 rw[e1]at hf;have hs':=hs w;simp only[Instr.build,Sem.run_bind,hz w,Result.andThen_ok,Go.underlying,run_program,hu,Sem.run_pure,hs',hf]
theorem p_mv{P:Program}{ops:Array Oper}{Q:Exit->Act->World->Prop}{rest:List Oper}{n:Nat}{m:FM}{w:World}{d:Nat}{ty:TypeId}{pos:String}{aft:Array Edge}{x:Operand}{v:Value}(hx:evO n m x=v)(hr:wpList P ops Q rest (fr n ((d,v)::m)) w):wpList P ops Q (⟨some d,.move x,ty,pos,aft,none⟩::rest) (fr n m) w:=zaA (zaD hx) hr
theorem p_as{P:Program}{ops:Array Oper}{Q:Exit->Act->World->Prop}{rest:List Oper}{n:Nat}{m:FM}{w:World}{d:Nat}{ty:TypeId}{pos:String}{aft:Array Edge}{x:Operand}{v:Value}(hx:evO n m x=v)(hr:wpList P ops Q rest (fr n ((d,v)::m)) w):wpList P ops Q (⟨some d,.assign x,ty,pos,aft,none⟩::rest) (fr n m) w:=zaA (zhK hx) hr
section
variable {P:Program}{Q:Exit->Act->World->Prop}{K:Act->World->Prop}{n:Nat}{m:FM}{w w0:World}{L:List Ent}{id id':Nat}{a:Act}
theorem zaM(h:K a w):Exit.then K Q .normal a w:=h
theorem sr{c2:Code}{l:List Oper}(h:∀K:Act->World->Prop,(∀a w,c2.wp P Q a w->K a w)->wpList P l.toArray (Exit.then K Q) l a w):(Code.seq (.region id l.toArray false) c2).wp P Q a w:=wp_seq_k fun K hK=>wp_region_lit (h K hK)
theorem xk{c2:Code}{ops:Array Oper}(hK:∀a w,c2.wp P Q a w->K a w)(h:c2.wp P Q a w):wpList P ops (Exit.then K Q) [] a w:=wpList_nil (zaM (hK _ _ h))
theorem xn{c2:Code}(hK:∀a w,c2.wp P Q a w->K a w)(h:c2.wp P Q a w):Exit.then K Q .normal a w:=zaM (hK _ _ h)
theorem zgF(h:Q .ret a w):Exit.then K Q .ret a w:=h
theorem zbG(h:Q (.exit id) a w):Exit.then K Q (.exit id) a w:=h
theorem zbE(h:Q .normal a w):Exit.inBlock id Q .normal a w:=h
theorem ymH(h:Q .ret a w):Exit.inBlock id Q .ret a w:=h
theorem zgE(h:Q .normal a w):Exit.inBlock id Q (.exit id) a w:=by simp only[Exit.inBlock,if_true];exact h
theorem ypJ(hne:aG id' id=false)(h:Q (.exit id') a w):Exit.inBlock id Q (.exit id') a w:=by
 have:id'≠id:=fun e=>by rw[zlA]at hne;simp at hne;exact hne e
 simp only[Exit.inBlock,this,if_false];exact h
theorem zcF{c:Operand}{x y:Code}{t:Bool}(hc:evO n m c = .bool t)(ht:t=true->x.wp P Q (fr n m) w)(hf:t=false->y.wp P Q (fr n m) w):(Code.cond c x y).wp P Q (fr n m) w:=
 wp_cond_split (by rw[zdF];exact hc) ht hf
theorem zcE{c:Operand}{x y:Code}{t:Bool}(hc:evO n m c = .bool t)(ht:t=true)(h:x.wp P Q (fr n m) w):(Code.cond c x y).wp P Q (fr n m) w:=
 wp_cond_true (by rw[zdF,hc,ht]) h
theorem ziE{c:Operand}{x y:Code}{t:Bool}(hc:evO n m c = .bool t)(ht:t=false)(h:y.wp P Q (fr n m) w):(Code.cond c x y).wp P Q (fr n m) w:=
 wp_cond_false (by rw[zdF,hc,ht]) h
theorem xfK{c:Code}(I:Nat->Act->World->Prop)(g0:Nat)(h0:I g0 a w) (round:∀g a w,I g a w->c.wp P (Exit.then (fun a' w'=>∃g',g'<g/\I g' a' w') Q) a w):(Code.loop c).wp P Q a w:=by
 let I':Act->World->Prop:=fun a w=>∃g,I g a w
 have hleast:∀a w,∃g,(∃g,I g a w)->I g a w/\∀g',g'<g->¬I g' a w:=fun a w=>by
  by_cases h:∃g,I g a w
  ·have:∃g,I g a w/\∀g',g'<g->¬I g' a w:=by
    obtain⟨g,hg⟩:=h;induction g using eN with
    |_ g ih=>
     by_cases h2:∃g',g'<g/\I g' a w
     ·obtain⟨g',h3,h4⟩:=h2;exact ih g' h3 h4
     ·exact⟨g,hg,fun g' h3 h4=>h2 ⟨g',h3,h4⟩⟩
   obtain⟨g,h1⟩:=this;exact⟨g,fun _=>h1⟩
  ·exact⟨0,fun h2=>absurd h2 h⟩
 let μ:Act->World->Nat:=fun a w=>Classical.choose (hleast a w);have hμ:∀a w (h:∃g,I g a w),I (μ a w) a w/\∀g',g'<μ a w->¬I g' a w:=fun a w h=>Classical.choose_spec (hleast a w) h;refine wp_loop I' μ ⟨g0,h0⟩ fun a w hI=>?_;refine wp_mono (round (μ a w) a w (hμ a w hI).1) fun e a' w' hq=>?_;cases e with
 |normal=>
  obtain⟨g',hlt,hg'⟩:=hq;have h1:∃g,I g a' w':=⟨g',hg'⟩;refine⟨h1,?_⟩;rcases fY g' (μ a' w')with h2|h2
  ·exact absurd hg' ((hμ a' w' h1).2 g' h2)
  ·omega
 |_=>exact hq
def rg(a:Nat):Nat->List Nat->List Nat
 |0,l=>l|n+1,l=>a::rg (a+1) n l
def has:List Nat->Nat->Bool
 |[],_=>false|d::l,t=>bif aG d t then true else has l t
theorem zpE{D:List Nat}{d:Nat}{v:Value}{X:Nat->Value}(hd:has D d=true)(h:∀t,has D t=false->look m t=X t):∀t,has D t=false->look ((d,v)::m) t=X t:=fun t ht=>by
 have hne:d≠t:=fun e=>by rw[e,ht]at hd;cases hd
 simp only[look,zlA,hne,decide_false,zF];exact h t ht
section
variable {P:Program}{ops:Array Oper}{Q:Exit->Act->World->Prop}{rest:List Oper}{n:Nat}{m:FM}{w:World}{d:Nat}{ty:TypeId}{pos:String}{aft:Array Edge}{x:Operand}{nh:Nat}{Φ:zfD}{W:World}{vs:Nat->Gv}{Fin:Act->Prop}{i:Nat}
theorem mvI{k:IntKind}{a:Int}(hx:evO n m x = .int k a)(hr:wpList P ops Q rest (fr n ((d,.int k a)::m)) w):wpList P ops Q (⟨some d,.move x,ty,pos,aft,none⟩::rest) (fr n m) w:=p_mv hx hr
theorem asI{k:IntKind}{a:Int}(hx:evO n m x = .int k a)(hr:wpList P ops Q rest (fr n ((d,.int k a)::m)) w):wpList P ops Q (⟨some d,.assign x,ty,pos,aft,none⟩::rest) (fr n m) w:=p_as hx hr
theorem mvB{a:Bool}(hx:evO n m x = .bool a)(hr:wpList P ops Q rest (fr n ((d,.bool a)::m)) w):wpList P ops Q (⟨some d,.move x,ty,pos,aft,none⟩::rest) (fr n m) w:=p_mv hx hr
theorem asB{a:Bool}(hx:evO n m x = .bool a)(hr:wpList P ops Q rest (fr n ((d,.bool a)::m)) w):wpList P ops Q (⟨some d,.assign x,ty,pos,aft,none⟩::rest) (fr n m) w:=p_as hx hr
theorem mvP{a:Option Addr}(hx:evO n m x = .pointer a)(hr:wpList P ops Q rest (fr n ((d,.pointer a)::m)) w):wpList P ops Q (⟨some d,.move x,ty,pos,aft,none⟩::rest) (fr n m) w:=p_mv hx hr
theorem asP{a:Option Addr}(hx:evO n m x = .pointer a)(hr:wpList P ops Q rest (fr n ((d,.pointer a)::m)) w):wpList P ops Q (⟨some d,.assign x,ty,pos,aft,none⟩::rest) (fr n m) w:=p_as hx hr
theorem asN  (hx:evO n m x = .slice none 0 0) (hr:wpList P ops Q rest (fr n ((d,.slice none 0 0)::m)) w):wpList P ops Q (⟨some d,.assign x,ty,pos,aft,none⟩::rest) (fr n m) w:=p_as hx hr
theorem mvU{a:Array Value}(hx:evO n m x = .tuple a)(hr:wpList P ops Q rest (fr n ((d,.tuple a)::m)) w):wpList P ops Q (⟨some d,.move x,ty,pos,aft,none⟩::rest) (fr n m) w:=p_mv hx hr
end
theorem onz{l:LV}(h:l.all (·.oneCell')=true):∀u∈l,u.oneCell'=true:=fun u hu=>bH.1 h u hu
theorem kcx{D:List Nat}{m1:FM}{X:Nat->Value}(h:∀t,has D t=false->look m1 t=X t:=by (repeat (refine zpE rfl ?_));exact fun _ _=>rfl):∀t,has D t=false->look m1 t=X t:=h
theorem osi{α:Type}{a b:α}(h:some a=some b):a=b:=Option.some.inj h
theorem tkS{α:Type}{a:α}{l:List α}{n:Nat}:(a::l).take (n+1)=a::l.take n:=List.take_succ_cons
theorem tkZ{α:Type}{l:List α}:l.take 0=[]:=List.take_zero
theorem drS{α:Type}{a:α}{l:List α}{n:Nat}:(a::l).drop (n+1)=l.drop n:=List.drop_succ_cons
theorem drZ{α:Type}{l:List α}:l.drop 0=l:=List.drop_zero
section
variable {P:Program}{ops:Array Oper}{Q:Exit->Act->World->Prop}{rest:List Oper}{n:Nat}{m:FM}{w:World}{d:Nat}{ty:TypeId}{pos:String}{aft:Array Edge}{nh:Nat}{Φ:zfD}{W:World}{vs:Nat->Gv}{Fin:Act->Prop}{i:Nat}{c:Value}
theorem wrH{id:Nat}{l hd tl:List Oper}{a:Act}{w0:World}{L:List Ent}(H:HP w0 w L)(n:Nat)(ks:List (Nat×Sum Value (Value->World->Prop))) (hh:l.take n=hd:=by (simp only[tkS,tkZ])<;>exact rfl) (ht:l.drop n=tl:=by (simp only[drS,drZ])<;>exact rfl) (hX:(kinds ks xm).isSome=false:=by rfl) (hm:P.follows .mixedOrders=true:=by rfl) (hB:extB l.toArray n=true:=by kernel_rfl) (h:∀vs:Nat->Gv,HP w0 w.drew L->wpT P l.toArray n (kinds ks) w.drew vs (fun a'=>∀w',Ext w.drew w'->zeS (kinds ks) vs w' (bR n)->Apart l.toArray n (kinds ks) vs->wpList P l.toArray (OnlyNormal Q) tl a' w') 0 hd a):(Code.region id l.toArray true).wp P Q a w:=by subst hh ht;exact ziF n (kinds ks) hX hm hB fun vs=>h vs H.drew
theorem HP.tn{w0 W:World}{L:List Ent}{F G:World->Prop}{A:Prop}(H:HP w0 W L)(k:∀w,HP w0 w L->G w):∀w,Ext W w->F w->A->G w:=fun w hx _ _=>k w (H.ext hx)
theorem HP.xe{w0 w:World}{L:List Ent}{v:Value}{Ψ:Ending->World->Prop}(H:HP w0 w L)(k:∀w',HP w0 w' L->Ψ (.returned v) w'):∀e w',(e = .returned v/\Ext w w')->Ψ e w':=by rintro _ w' ⟨rfl,hx⟩;exact k w' (H.ext hx)
theorem tcl{args:List Operand}{at_:Array TypeId}{f:FuncId}(hfn:IsFn P f)(h:∀w,Calls P f (args? n m args).toArray w fun e w'=>e = .returned c/\Ext w w')(hr:wpT P ops nh Φ W vs Fin (i+1) rest (fr n ((d,c)::m))) (hk:Φ i=some (.inl c):=by rfl) (hf:zcR ops nh i=false:=by rfl):wpT P ops nh Φ W vs Fin i (⟨some d,.call ⟨.value (.func f),args.toArray,at_⟩,ty,pos,aft,none⟩::rest) (fr n m):=xcY hk hf hfn rfl (fun w _ _=>h w) hr
theorem tcx{args:List Operand}{at_:Array TypeId}{f:FuncId}(hfn:IsFn P f)(h:∀w,Ext W w->Calls P f (args? n m args).toArray w fun e w'=>e = .returned c/\Ext w w')(hr:wpT P ops nh Φ W vs Fin (i+1) rest (fr n ((d,c)::m))) (hk:Φ i=some (.inl c):=by rfl) (hf:zcR ops nh i=false:=by rfl):wpT P ops nh Φ W vs Fin i (⟨some d,.call ⟨.value (.func f),args.toArray,at_⟩,ty,pos,aft,none⟩::rest) (fr n m):=xcY hk hf hfn rfl (fun w hx _=>h w hx) hr
theorem kas{D:List Nat}{m1:FM}{X:Nat->Value}(h:∀t,has D t=false->look m1 t=X t:=by (repeat (first|assumption|refine zpE rfl ?_))):∀t,has D t=false->look m1 t=X t:=h
end
abbrev Kp(D:List Nat)(m m':FM):Prop:=∀t,has D t=false->look m t=look m' t
abbrev uz:Value:=.int .u64 0
abbrev z4:LV:=[.int .u64 0,.int .u64 0,.int .u64 0,.int .u64 0]
abbrev Qw:Type:=UInt64×UInt64×UInt64×UInt64
abbrev Qp:Type:=Qw×Qw×Bool
abbrev Qs:Type:=UInt32×UInt32×UInt32×UInt32×UInt32×UInt32×UInt32×UInt32
abbrev cU32:UInt32->Value:=fun a_=>Value.int .u32 (((a_).toNat:Int))
def subl(D:List Nat):List Nat->Bool
 |[]=>true|d::l=>bif has D d then subl D l else false
theorem yeR{D:List Nat}:∀{l:List Nat},subl D l=true->∀t,has D t=false->has l t=false
 |[],_,t,_=>rfl|d::l,h,t,ht=>by
  unfold subl at h;cases hd:has D d with
  |false=>rw[hd]at h;cases h
  |true=>
   rw[hd]at h;have hne:d≠t:=fun e=>by rw[e,ht]at hd;cases hd
   simp only[has,zlA,hne,decide_false,zF];exact yeR h t ht
theorem yiX{D l:List Nat}{m1:FM}{X Y:Nat->Value}(hi:∀t,has l t=false->look m1 t=Y t)(hs:subl D l=true)(h:∀t,has D t=false->Y t=X t):∀t,has D t=false->look m1 t=X t:=
 fun t ht=>(hi t (yeR hs t ht)).trans (h t ht)
theorem kS{D l:List Nat}{m1 m:FM}{X Y:Nat->Value}(hi:∀t,has l t=false->look m1 t=Y t)(hs:subl D l=true)(h:∀t,has D t=false->Y t=X t)(e:(∀t,has D t=false->look m1 t=X t)->(∀t,has D t=false->look m t=X t):=by intro h;(repeat (refine zpE rfl ?_));exact h):∀t,has D t=false->look m t=X t:=e (yiX hi hs h)
theorem zzB{c:Code}{m0:FM}(D:List Nat)(I:Nat->FM->World->Prop)(g0:Nat)(h0:I g0 m0 w) (round:∀g m w,(∀t,has D t=false->look m t=look m0 t)->I g m w ->
   c.wp P (Exit.then (fun a' w'=>∃g' m',g'<g/\a'=fr n m'/\(∀t,has D t=false->look m' t=look m0 t)/\I g' m' w') Q) (fr n m) w):(Code.loop c).wp P Q (fr n m0) w:=by
 refine xfK (fun g a w=>∃m,a=fr n m/\(∀t,has D t=false->look m t=look m0 t)/\I g m w) g0 ⟨m0,rfl,fun _ _=>rfl,h0⟩ ?_;rintro g a w ⟨m,rfl,hk,hI⟩;refine wp_mono (round g m w hk hI) fun e a' w' hq=>?_;cases e with
 |normal=>obtain⟨g',m',h1,h2,h3,h4⟩:=hq;exact⟨g',h1,m',h2,h3,h4⟩
 |_=>exact hq
def resS(tmps:Array Value):ResultVar->Sem Value
 |.tmp t=>pure (tmps.getD t undef)|.cell a t=>do loadVar t (<-asAddr (tmps.getD a undef))
def zyD(P:Program)(n:Nat)(m:FM)(w:World)(r:ResultVar)(v:Value):Prop:=(resS (fr n m).tmps r).run P w = .ok v w
theorem zqB(fn:Func)(tmps:Array Value):results fn tmps=(do let vs <-fn.results.mapM (resS tmps);pure (if h:vs.size=1 then vs[0]else .tuple vs)):=by unfold results;rfl
theorem zcB{t:Nat}{v:Value}(hv:evO n m (.tmp t)=v):zyD P n m w (.tmp t) v:=by show(pure ((fr n m).tmps.getD t undef):Sem Value).run P w=_;rw[ycS,hv];rfl
theorem q_cell{t k b o sz:Nat}{T T':TypeId}{cs l:LV}(tg:TAgg P T sz)(H:HP w0 w L)(hp:evO n m (.tmp t) = .pointer (some ⟨b,o,none⟩))(hk:lk L k=some (b,cs,T'))(hl:piece cs o sz=l) (hsz:bM (o+sz) cs.length=true):zyD P n m w (.cell t T) (.agg l.toArray):=by have hrun:=zwW (P:=P) (w:=w) tg (H.blk k b cs T' hk).1 hl hsz;unfold zyD resS;simp only[ycS,hp];simpa[Instr.loadAt,Instr.sureAddr,asAddr]using hrun
theorem zbN{t k b sz:Nat}{T T':TypeId}{cs:LV}(tg:TAgg P T sz)(H:HP w0 w L)(hp:evO n m (.tmp t) = .pointer (some ⟨b,0,none⟩))(hk:lk L k=some (b,cs,T'))(hsz:cs.length=sz):zyD P n m w (.cell t T) (.agg cs.toArray):=
 q_cell tg H hp hk (by rw[zaL];simp[<-hsz]) (by rw[eV];omega)
theorem e_00{fn:Func}{R:Ending->World->Prop}(hr:fn.results = #[])(h:R (.returned (.tuple #[])) w):bodyPost P fn R .normal (fr n m) w:=
 ⟨rfl,_,by simp[results,hr],h⟩
theorem e_1{fn:Func}{R:Ending->World->Prop}{r1:ResultVar}{v1:Value}(hr:fn.results = #[r1])(h1:zyD P n m w r1 v1)(h:R (.returned v1) w):bodyPost P fn R .ret (fr n m) w:=by refine⟨rfl,v1,?_,h⟩;unfold zyD at h1;rw[zqB,hr];simp only[jH,List.mapM_cons,List.mapM_nil,Sem.run_bind,Sem.run_map,h1,Result.andThen_ok,Sem.run_pure];rfl
theorem e_2{fn:Func}{R:Ending->World->Prop}{r1 r2:ResultVar}{v1 v2:Value}(hr:fn.results = #[r1,r2])(h1:zyD P n m w r1 v1)(h2:zyD P n m w r2 v2)(h:R (.returned (.tuple #[v1,v2])) w):bodyPost P fn R .ret (fr n m) w:=by refine⟨rfl,.tuple #[v1,v2],?_,h⟩;unfold zyD at h1 h2;rw[zqB,hr];simp only[jH,List.mapM_cons,List.mapM_nil,Sem.run_bind,Sem.run_map,h1,h2,Result.andThen_ok,Sem.run_pure];rfl
end
end Go.Proofs.YtmbcolbbekbccaaGreat
