/- Parts of one proof. Conditions: as each theorem says. -/
import Derived.Lib.ConvBytes
import Derived.Lib.AppendStr
import Derived.Test.YtopanhneegpgcaaGreatDoorQyB
open Array renaming ext'->dY,getElem?_eq_getElem->dO,getElem?_eq_some_iff->aT,map->jL,range->fU
open Bool renaming and_eq_true->aI,false_eq_true->fO,not_eq_true'->bM,or_eq_true->cH
open Int renaming eq_ofNat_of_zero_le->eU,tmod->dX,toNat_natCast->bY
open List renaming all_eq_true->bR,any_eq_true->eR,append_assoc->aU,append_nil->bJ,contains_eq_mem->cI,eq_nil_iff_forall_not_mem->fN,eq_nil_of_length_eq_zero->aW,ext_getElem?->bN,flatMap_cons->cO,getElem?_append_left->aF,getElem?_append_right->aG,getElem?_drop->bU,getElem?_eq_none->cB,getElem?_eq_some_iff->aC,getElem?_take->dE,length_append->aD,length_cons->aQ,length_drop->bL,length_set->bW,map_cons->bF,mem_cons->aN,mem_cons_of_mem->aM,mem_cons_self->aO,mem_filter->cE,mem_map->aY,mem_range->dF,nil_append->bP,range'->eQ,range'_succ->eX,range->dJ,replicate->bI
open Nat renaming add_assoc->dP,add_mul->cA,add_zero->gB,beq->aJ,ble->cK,le_of_ble_eq_true->bK,le_of_eq->eI,le_refl->aL,le_trans->bB,lt_of_not_le->dV,mul_le_mul->gA,mul_one->dQ,zero_add->aV
open Option renaming map_some->aX
open Go.Builtin renaming append_->ue,firstCells->mN,lenOf->rG,zeroCells->Wa
open Go.Instr renaming slice->Ef,sliceAt->Ff,sliceBounds->ee,sureAddr->sG
open Go.Op renaming equalIn->Qd
open Go.Region renaming noSelect_spec->AI,ready->tG,wanted->p9
open Go.Result renaming andThen->xh,andThen_ok->Gf
open Go.Sem renaming run_bind->La,run_pure->Eb
namespace Go.Proofs.YtopanhneegpgcaaGreatDoor
open Go Go.RowKit
section
section
variable {P:Program}{ops:Array Oper}{Q:Exit->Act->World->Prop}{rest:List Oper}{n:Nat}{m:FM}{w w':World}{B:r9}{S:Mem}{L:List Q0}
variable {d:Nat}{op:Op}{ty:TypeId}{pos:String}{aft:Array Edge}{c v u:Value}{x y z lo hi:Operand}{T E T':TypeId}
theorem uG{c:Code}(h:∀m0,(∀t,look m0 t=look m t)->c.wp P Q (fr n m0) w):c.wp P Q (fr n m) w:=h m fun _=>rfl
theorem Nv(h:(execOp (o0 n m) ⟨some d,op,ty,pos,aft,none⟩).run P w = .ok (.value c) w')(f:wpList P ops Q rest (fr n ((d,c)::m)) w'):
  wpList P ops Q (⟨some d,op,ty,pos,aft,none⟩::rest) (fr n m) w:=
 wpList_plain rfl fun K j=>by unfold Oper.wp;rw[fo,h];simp only[Oper.upon,ZF];exact j _ _ f
theorem YI(h:(execOp (o0 n m) ⟨none,op,ty,pos,aft,none⟩).run P w = .ok .skip w')(f:wpList P ops Q rest (fr n m) w'):
  wpList P ops Q (⟨none,op,ty,pos,aft,none⟩::rest) (fr n m) w:=
 wpList_plain rfl fun K j=>by unfold Oper.wp;rw[fo,h];simp only[Oper.upon,yuH];exact j _ _ f
theorem AP{φ:World->Value->Prop}(h:∃w' v,(execOp (o0 n m) ⟨some d,op,ty,pos,aft,none⟩).run P w = .ok (.value v) w'/\φ w' v)(f:∀w' v,φ w' v->wpList P ops Q rest (fr n ((d,v)::m)) w'):
  wpList P ops Q (⟨some d,op,ty,pos,aft,none⟩::rest) (fr n m) w:=by
 obtain⟨w',v,j,l⟩:=h;exact Nv j (f w' v l)
theorem BP{φ:World->Nat->Prop}(h:∃w' b,(execOp (o0 n m) ⟨some d,op,ty,pos,aft,none⟩).run P w = .ok (.value (.pointer (some ⟨b,0,none⟩))) w'/\φ w' b)(f:∀w' b,φ w' b->wpList P ops Q rest (fr n ((d,.pointer (some ⟨b,0,none⟩))::m)) w'):
  wpList P ops Q (⟨some d,op,ty,pos,aft,none⟩::rest) (fr n m) w:=by
 obtain⟨w',v,j,l⟩:=h;exact Nv j (f w' v l)
theorem vG{φ:World->Prop}(h:∃w',(execOp (o0 n m) ⟨none,op,ty,pos,aft,none⟩).run P w = .ok .skip w'/\φ w')(f:∀w',φ w'->wpList P ops Q rest (fr n m) w'):
  wpList P ops Q (⟨none,op,ty,pos,aft,none⟩::rest) (fr n m) w:=by
 obtain⟨w',j,l⟩:=h;exact YI j (f w' l)
section
variable {nh k:Nat}{Φ:Oa}{W:World}{vs:Nat->Gv}{Fin:Act->Prop}
def rC(Φ:Oa)(vs:Nat->Gv)(l:List Nat):Nat->Bool:=fun b=>l.any fun k=>qb Φ k&&(vs k).f b
theorem Ov{Φ:Oa}{vs:Nat->Gv}{l:List Nat}{i:Nat}{w:World}(h:l.contains i=true)(j:qb Φ i=true):Mem.le (gf S W (vs i).f w) (gf S W (rC Φ vs l) w):=
 uP fun b p=>eR.2 ⟨i,by simpa using h,by rw[j,p];rfl⟩
abbrev kR{α:Type}[Rp α](S:Mem)(W:World)(y:List α):Sum Value (Gv->World->Prop):=.inr (fun g w'=>x8 (gf S W g.f w') g.v y)
theorem HS.tf{B:r9}{S:Mem}{L:List Q0}{G:World->Prop}{A:Prop}{l:List Nat}(H:HS B S W L)(k:∀w f,Mem.le S f->HS B f w L->(∀{α:Type} [Rp α] (j:Nat) {y:List α},Φ j=some (kR S W y)->l.contains j=true->x8 f (vs j).v y)->G w):∀w,Ext W w->de Φ vs w l->A->G w:=
 fun w q r _=>k w (gf S W (rC Φ vs l) w) (oG H.sub) (H.Pd q) fun {_} _ j {_} h p=>x8.mono (xcF r j h p) (Ov p (by unfold qb;rw[h]))
end
theorem CP{σ β:Type}{body:σ->Option (σ⊕β)}{c:Code}{m0:FM}(D:List Nat)(I:σ->FM->World->Prop){s0:σ}{out:β}(hL:iter body s0=some out)(h0:I s0 m0 w) (round:∀k s m w,(∀t,has D t=false->look m t=look m0 t)->I s m w->∀o,body s=some o->xP o (X9 body k) some=some out ->
   c.wp P (Exit.then (fun j w'=>∃s' f,j=fr n f/\(∀t,has D t=false->look f t=look m0 t)/\I s' f w'/\X9 body k s'=some out) Q) (fr n m) w):(Code.loop c).wp P Q (fr n m0) w:=by
 refine oP D (fun g m w=>∃s,I s m w/\X9 body g s=some out) FU ⟨s0,h0,hL⟩ ?_;rintro g m w A ⟨s,hI,l⟩;cases g with
 |zero=>cases l
 |succ g=>
  obtain⟨o,C,F⟩:=vo l;refine wp_mono (round g s m w A hI o C F) fun e j w' p=>?_;cases e with
  |normal=>obtain⟨s',f,H,J,K,O⟩:=p;exact⟨g,f,Nat.lt_succ_self g,H,J,s',K,O⟩
  |_=>exact p
theorem vZ{l:LV}{z:Value}{e:Operand->Value}{dst:Option Tmp}{g:Option (Nat×Bool)}(H:HS B S w L)(f:DI P T z)(h:z.cells.toList=l):∃w' b,(execOp e ⟨dst,.alloc T,ty,pos,aft,g⟩).run P w = .ok (.value (.pointer (some ⟨b,0,none⟩))) w'/\HS B S w' (.N' b l T::L):=by refine⟨w.alloc (.cells l.toArray T),w.heap.size,?_,H.push (Ext.alloc w _) (Od w _) fun b j=>by cases j;exact aL _⟩;simp[execOp,yvY f,<-h]
theorem wZ{b i N:Nat}{cs:LV}{fz:Nat×Nat}(h:w.heap[b]? = some (.cells cs.toArray T fz))(hf:Lf T fz N)(hi:i<N):w.frozen? ⟨b,i,none⟩=false:=by
 obtain⟨lo,f⟩:=fz;simp only[World.frozen?,h];rcases hf with hf|hf
 ·injection hf with j l;subst j;subst l;simp
 ·have hf:=hf.1;simp only at hf;have:¬lo<=i:=by omega
  simp[this]
theorem ymD{b i:Nat}{v:Value}{cs:LV}{fz:Nat×Nat}(h:w.heap[b]? = some (.cells cs.toArray T fz)):(w.setCell ⟨b,i,none⟩ v).heap[b]? = some (.cells (cs.set i v).toArray T fz):=by
 have f:=Iu h;have j:w.heap[b] = .cells cs.toArray T fz:=by simpa[dO f]using h
 show(w.heap.modify b _)[b]? = _;rw[dO (by simpa using f),Array.getElem_modify_self,j];simp
theorem yk{b i:Nat}{cs:LV}{fz:Nat×Nat}(h:w.heap[b]? = some (.cells cs.toArray T fz)):w.cell? ⟨b,i,none⟩=cs[i]?:=by simp[World.cell?,h]
theorem DP{b o:Nat}{fz:Nat×Nat}:∀(vs:LV) (i:Nat) (w:World) (cs:LV),(∀v∈vs,v.oneCell'=true)->w.heap[b]? = some (.cells cs.toArray T fz)->Lf T fz cs.length->o+i+vs.length<=cs.length ->∃w',(storeCells ⟨b,o,none⟩ vs i).run P w = .ok () w'/\w'.heap[b]? = some (.cells (lay cs (o+i) vs).toArray T fz)/\w'.heap.size=w.heap.size/\w'.os=w.os/\w'.tape=w.tape/\w'.output=w.output/\∀j,j≠b->w'.heap[j]? = w.heap[j]?
 | [], i, w, cs, _, h, _, _ => ⟨w, by simp [storeCells], by have : lay cs (o + i) [] = cs := by cases cs <;> rfl
                                                            rw[this];exact h,rfl,rfl,rfl,rfl,fun _ _=>rfl⟩
 |v::vs,i,w,cs,f,h,r,l=>by
  have hi:o+i<cs.length:=by simp only[aQ]at l;omega
  have C:w.cell? ⟨b,o+i,none⟩=some cs[o+i]:=by rw[yk h];simp[hi]
  have p:=run_store P w ⟨b,o+i,none⟩ v .plain (f v (by simp));rw[C]at p;simp only[wZ h r hi,fO,if_false]at p;have F:=ymD (i:=o+i) (v:=v) h;have q:o+(i+1)+vs.length<=(cs.set (o+i) v).length:=by rw[bW];simp only[aQ]at l;omega
  obtain⟨w',e,H,I,J,K,O,R⟩:=DP vs (i+1) (w.setCell ⟨b,o+i,none⟩ v) (cs.set (o+i) v) (fun u X=>f u (by simp[X])) F (by rw[bW];exact r) q;refine⟨w',?_,?_,?_,J,K,O,?_⟩
  ·show(do store ((⟨b,o,none⟩:Addr).add i) v;storeCells ⟨b,o,none⟩ vs (i+1):Sem Unit).run P w=_;rw[yd,La,p];exact e
  ·rw[H];congr 2;apply congrArg List.toArray;apply bN;intro j;rw[Df,Df];simp only[aQ,bW];by_cases s:o+(i+1)<=j/\j<o+(i+1)+vs.length/\j<cs.length
   ·rw[zJ s,zJ (by omega),show j-(o+i)=(j-(o+(i+1)))+1 by omega];simp
   ·rw[zI s];by_cases Y:j=o+i
    ·subst Y;rw[zJ (by omega)];simp[hi]
    ·rw[zI (by omega),List.getElem?_set_ne (by omega)]
  ·rw[I];simp[World.setCell]
  ·intro j A;rw[R j A];exact Below.heap_setCell _ _ _ _ (by simpa using A)
theorem xbZ{b o sz:Nat}{cs l:LV}{fz:Nat×Nat}(q:∀w,(sizeOf T).run P w = .ok sz w)(r:v.cells=l.toArray)(h:w.heap[b]? = some (.cells cs.toArray T' fz))(hf:Lf T' fz cs.length)(f:l.length=sz)(p:∀u∈l,u.oneCell'=true)(s:o+sz<=cs.length):∃w',(Instr.storeAt T (.pointer (some ⟨b,o,none⟩)) v).run P w = .ok () w'/\w'.heap[b]? = some (.cells (lay cs o l).toArray T' fz)/\w'.heap.size=w.heap.size/\w'.os=w.os/\w'.tape=w.tape/\w'.output=w.output/\∀j,j≠b->w'.heap[j]? = w.heap[j]?:=by obtain⟨w',e,A,rest⟩:=DP (P:=P) (o:=o) l 0 w cs p h hf (by omega);refine⟨w',?_,A,rest⟩;simp[Instr.storeAt,sG,storeVar,q w,r,f,e]
def EP(v:Value)(l:LV):Prop:=v.cells=l.toArray
theorem cells_one(h:v.oneCell'=true):EP v [v]:=by unfold EP;cases v<;>first|rfl|simp[Value.oneCell']at h
def Nf(P:Program)(T:TypeId)(sz:Nat):Prop:=∀w,(sizeOf T).run P w = .ok sz w
theorem wv.sz{sz:Nat}(h:wv P T sz):Nf P T sz:=h.2
theorem Xc.sz(h:Xc P T):Nf P T 1:=h.2
section
variable {e:Operand->Value}{dst:Option Tmp}{g:Option (Nat×Bool)}
theorem YT{sz b o k:Nat}{cs l:LV}(ts:Nf P T sz)(H:HS B S w L)(hp:e x = .pointer (some ⟨b,o,none⟩))(hk:Y3 L k=some (.N' b cs T'))(r:e y=v)(s:EP v l) (f:l.length=sz) (h:∀u∈l,u.oneCell'=true) (j:cK (o+sz) cs.length=true):∃w',(execOp e ⟨none,.store T x y,ty,pos,aft,g⟩).run P w = .ok .skip w'/\HS B S w' (Za L k (.N' b (lay cs o l) T')):=by obtain⟨w',A,C,O,F,I,J,K⟩:=xbZ ts s (H.own k _ hk) (.inl rfl) f h (bK j);refine⟨w',?_,H.Gb hk (by omega) F I J (fun i _ p=>K i fun e=>p (by rw[e];rfl)) C fun R q=>.inl q⟩;simp only[execOp,hp,r,La,A,xh,Eb]
theorem xbC{sz b o:Nat}{cs l:LV}{fz:Nat×Nat}(ty:wv P T sz)(h:w.heap[b]? = some (.cells cs.toArray T' fz))(p:piece cs o sz=l)(q:sz≠0->o+sz<=cs.length):(Instr.loadAt T (.pointer (some ⟨b,o,none⟩))).run P w = .ok (.agg l.toArray) w:=by
 have f:l.length=sz:=by
  rcases Nat.eq_zero_or_pos sz with r|r
  ·rw[<-p,r,P9,List.take_zero];rfl
  ·rw[<-p];exact SI (q (by omega))
 have:=run_loadCells_list (P:=P) w ⟨b,o,none⟩ l (fun j v s=>by
  rw[yd,yk h,<-s,<-p,P9];have:j<sz:=by rw[<-f];exact(aC.1 s).1
  simp[this])
 rw[f]at this;simp[Instr.loadAt,sG,loadVar,ty.1 w,ty.2 w,this]
theorem xZ{b o:Nat}{cs:LV}{fz:Nat×Nat}(ty:Xc P T)(h:w.heap[b]? = some (.cells cs.toArray T' fz))(f:piece cs o 1=[v]):(Instr.loadAt T (.pointer (some ⟨b,o,none⟩))).run P w = .ok v w:=by
 have j:cs[o]? = some v:=by rw[P9]at f;have:=congrArg (·[0]?) f;simpa using this
 simp[Instr.loadAt,sG,loadVar,ty.1 w,yk h,j]
theorem IA{b o k:Nat}{cs:LV}(f:Xc P T)(H:HS B S w L)(hp:e x = .pointer (some ⟨b,o,none⟩))(hk:Y3 L k=some (.N' b cs T'))(h:piece cs o 1=[v]):(execOp e ⟨dst,.load T x,ty,pos,aft,g⟩).run P w = .ok (.value v) w:=by simp only[execOp,hp,La,xZ f (H.own k _ hk) h,xh,Eb]
theorem sC{b p o:Nat}{cs:LV}(h:Xc P T)(hS:Sub S w)(hp:e x = .pointer (some ⟨b,p+o,none⟩))(j:e9 S b p cs)(f:piece cs o 1=[v]):(execOp e ⟨dst,.load T x,ty,pos,aft,g⟩).run P w = .ok (.value v) w:=by
 obtain⟨l,C,F,q,H,r⟩:=j;have s:o+1<=cs.length:=by have:=congrArg List.length f;rw[P9]at this;simp at this;omega
 have A:piece l (p+o) 1=[v]:=by rw[<-f,<-r,kN _ _ _ _ _ s]
 simp only[execOp,hp,La,xZ h (hS _ _ q) A,xh,Eb]
theorem FP{sz b o i N c:Nat}{k:IntKind}{a:Int}(f:P.underlying T=some (.slice E))(h:Nf P E sz)(j:e x=v)(l:v=sl b o N c)(p:e y = .int k a)(q:a=(i:Int))(hi:i<N):(execOp e ⟨dst,.indexAddr T x y,ty,pos,aft,g⟩).run P w = .ok (.value (.pointer (some ⟨b,o+i*sz,none⟩))) w:=by subst q;subst l;simp[execOp,Instr.indexAt,j,p,sl,asIntOf,Go.underlying,f,h w,hi,yd]
theorem Of{sz N:Nat}{cs:LV}(f:P.underlying T=some (.slice E))(j:e x=v)(h:Oe w v N sz cs):(execOp e ⟨dst,.call ⟨.builtin .len,#[x],#[T]⟩,ty,pos,aft,g⟩).run P w = .ok (.value (.int .i64 (N:Int))) w:=by rcases h with⟨⟨a,rfl⟩,rfl,_⟩|⟨b,o,c,l,T',p,rfl,_⟩<;>exact Lk f j
theorem x8.len{α:Type}[Rp α]{xs:List α}(h:x8 S v xs)(hS:Sub S w):∃cs,Oe w v xs.length (Rp.sz α) cs:=by obtain⟨cs,f,_⟩:=h;exact⟨cs,f.w hS⟩
theorem Pf{α:Type}[Rp α]{xs:List α}(f:P.underlying T=some (.slice E))(j:e x=v)(h:x8 S v xs)(hS:Sub S w):(execOp e ⟨dst,.call ⟨.builtin .len,#[x],#[T]⟩,ty,pos,aft,g⟩).run P w = .ok (.value (.int .i64 (xs.length:Int))) w:=by obtain⟨cs,l⟩:=h.len hS;exact Of f j l
theorem Wk{sz N f k:Nat}{cs rs:LV}(h:P.underlying T=some (.slice E))(j:e x=v)(H:HS B S w L)(hk:Y3 L k=some (.H' v N sz cs rs T'))(l:N=f):(execOp e ⟨dst,.call ⟨.builtin .len,#[x],#[T]⟩,ty,pos,aft,g⟩).run P w = .ok (.value (.int .i64 (f:Int))) w:=by subst l;exact Of h j (H.Iv hk)
theorem ZI{f:List Oper}{n:Nat}{m:FM}{j t:Nat}{b:Bool}{o:Oper}(l:dG f j=some o)(h:o.dst=some t)(p:o0 n m (.tmp t) = .bool b):PO f n m j=some b:=by unfold PO;rw[l];obtain⟨dst,_,_,_,_,_⟩:=o;simp only at h;subst h;simp only[jZ,p]
theorem Tr{D:List Nat}{m1 f:FM}{X:Nat->Value}(hk:∀t,look m1 t=look f t)(h:∀t,has D t=false->look f t=X t):∀t,has D t=false->look m1 t=X t:=fun t j=>(hk t).trans (h t j)
theorem tC{α:Type}[Rp α]{xs:List α}{sz p h:Nat}{a b:Int}{k k':IntKind}(f:P.underlying T=some (.slice E))(j:Nf P E sz)(l:e x=v)(q:e lo = .int k' b)(r:e hi = .int k a)(s:b=(p:Int))(A:a=(h:Int))(C:x8 S v xs)(hp:p<=h)(F:h<=xs.length):(execOp e ⟨dst,.slice T x (some lo) (some hi) none,ty,pos,aft,g⟩).run P w = .ok (.value (va v sz p h)) w:=by
 obtain⟨cs,H,_⟩:=C;rcases H with⟨⟨J,rfl⟩,K,_⟩|⟨O,o,c,R,T',X,rfl,I,_⟩
 ·obtain rfl:h=0:=by omega
  obtain rfl:p=0:=by omega
  simp[execOp,Ff,Go.underlying,f,Ef,ee,l,r,q,ie A (aL _),ie s (aL _),j w,va]
 ·simp[execOp,Ff,Go.underlying,f,Ef,ee,l,r,q,sl,ie A (bB F I),ie s hp,j w,va]
theorem kJ{α:Type}[Rp α]{xs:List α}{sz p:Nat}{b:Int}{k':IntKind}(f:P.underlying T=some (.slice E))(h:Nf P E sz)(j:e x=v)(l:e lo = .int k' b)(q:b=(p:Int))(r:x8 S v xs)(hp:p<=xs.length):(execOp e ⟨dst,.slice T x (some lo) none none,ty,pos,aft,g⟩).run P w = .ok (.value (va v sz p xs.length)) w:=by
 obtain⟨cs,s,_⟩:=r;rcases s with⟨⟨C,rfl⟩,A,_⟩|⟨F,o,c,H,T',I,rfl,J,_⟩
 ·obtain rfl:p=0:=by omega
  simp[execOp,Ff,Go.underlying,f,Ef,ee,j,l,ie q (aL _),h w,va,A]
 ·simp[execOp,Ff,Go.underlying,f,Ef,ee,j,l,sl,ie q hp,h w,va]
theorem lJ{α:Type}[Rp α]{xs:List α}{sz h:Nat}{a:Int}{k:IntKind}(f:P.underlying T=some (.slice E))(j:Nf P E sz)(l:e x=v)(p:e hi = .int k a)(q:a=(h:Int))(r:x8 S v xs)(s:h<=xs.length):(execOp e ⟨dst,.slice T x none (some hi) none,ty,pos,aft,g⟩).run P w = .ok (.value (va v sz 0 h)) w:=by
 obtain⟨cs,A,_⟩:=r;rcases A with⟨⟨F,rfl⟩,H,_⟩|⟨I,o,c,J,T',K,rfl,C,_⟩
 ·obtain rfl:h=0:=by omega
  simp[execOp,Ff,Go.underlying,f,Ef,ee,l,p,ie q (aL _),j w,va]
 ·simp[execOp,Ff,Go.underlying,f,Ef,ee,l,p,sl,ie q (bB s C),j w,va]
theorem mJ{N:Nat}{T2:TypeId}{l:Bs}(j:P.underlying T=some (.slice E))(p:P.underlying E=some (.int .u8))(q:P.underlying T2=some .string)(C:e x=v)(r:Oe w v N 1 (W9 l)):(execOp e ⟨dst,.convert T T2 x,ty,pos,aft,g⟩).run P w = .ok (.value (str l)) w:=by
 have key:(convert T T2 v).run P w = .ok (str l) w:=by
  have F:l.length=N:=by have:=r.len;rw[qo]at this;omega
  rcases r with⟨⟨f,rfl⟩,_,H⟩|⟨b,o,c,cs,T',K,rfl,O,I,R,s⟩
  ·have:l=[]:=by simpa[W9]using H
   subst this;rw[run_convert_bytes_string w T T2 E f 0 0 j p q];cases f with
   |none=>simp[Conv.bytesToString];rfl|some f=>simp[Conv.bytesToString,loadCells];rfl
  ·have J:=run_convert_bytes_arg (P:=P) w T E j p b o N c (l.map fun b=>(b.toNat:Int)) (by simpa using F) (fun i hi=>by
    rw[yk I];rw[P9,dQ]at s;have A:((cs.drop o).take N)[i]? = (W9 l)[i]?:=by rw[s]
    rw[dE,zJ hi,bU]at A;rw[A];have h:i<l.length:=by omega
    simp[W9,h]) T2 q
   rw[J,Pr]
 simp[execOp,C,key]
theorem uC{T2:TypeId}{l:Bs}{A:TypeDesc}(C:P.underlying T=some A)(F:P.underlying T2=some (.slice E))(I:P.underlying E=some (.int .u8))(H:HS B S w L)(J:e x=str l)(p:E=so:=by rfl):∃w' v,(execOp e ⟨dst,.convert T T2 x,ty,pos,aft,g⟩).run P w = .ok (.value v) w'/\∃rs,HS B S w' (.H' v l.length 1 (W9 l) rs E::L):=by
 have f:=Lib.run_convert_string_bytes (P:=P) w T T2 E ⟨l.toArray⟩ C F I;have h:(⟨l.toArray⟩:ByteArray).size=l.length:=Lr l;rw[h]at f;have q:=grownCap_ge w l.length 0 E;have r:Lib.bytesCells w E ⟨l.toArray⟩=(W9 l++bI (grownCap w l.length 0 E-l.length) (Value.int .u8 0)).toArray:=by unfold Lib.bytesCells;rw[h];apply dY;simp[W9]
 have j:=Lib.bytesWorld_at_new w E ⟨l.toArray⟩;have s:(Lib.bytesCells w E ⟨l.toArray⟩).size=grownCap w l.length 0 E:=by rw[r];simp[W9];omega
 refine⟨Lib.bytesWorld w E ⟨l.toArray⟩,sl w.heap.size 0 l.length (grownCap w l.length 0 E),by simp only[execOp,J,str,La,f,Gf,Eb],bI (grownCap w l.length 0 E-l.length) (Value.int .u8 0),?_⟩;refine H.push (w':=Lib.bytesWorld w E ⟨l.toArray⟩) ?_ (.inr ⟨w.heap.size,grownCap w l.length 0 E,_,rfl,q,by simp[W9],by simp[W9];omega,by rw[j,r],.inr ?_⟩) fun b K=>by cases K;exact aL _
 ·refine⟨?_,?_,?_,by rw[Lib.bytesWorld_size];omega,fun k O=>Lib.bytesWorld_at_old w E _ k O⟩<;>simp[Lib.bytesWorld,World.freeze,World.alloc,World.drew,-World.alloc_eq,-World.drew_eq]<;>split<;>rfl
 ·exact⟨by simp[W9],p⟩
end
end
end
section
structure Qe (P:Program) (T E:TypeId) (z:Value) (zl:LV) (nb sz:Nat):Prop where
 wc:P.underlying T=some (.slice E)
 Tb:∃i,P.info? E=some i/\i.zero=some z/\i.size=sz/\i.bytes=nb
 cells:z.cells=zl.toArray
 len:zl.length=sz
 pos:0<sz
 small:nb<=2048
theorem Qe.mk'{P:Program}{T E:TypeId}{z:Value}{zl:LV}{nb sz:Nat}(j:P.underlying T=some (.slice E))(f:(P.info? E).map (fun i=>(i.zero,i.size,i.bytes))=some (some z,sz,nb))(l:z.cells=zl.toArray)(p:zl.length=sz)(h:Nat.blt 0 sz=true)(q:cK nb 2048=true):Qe P T E z zl nb sz:=by
 refine⟨j,?_,l,p,by rw[eo]at h;simpa using h,bK q⟩;cases hi:P.info? E with
 |none=>simp[hi]at f|some i=>simp only[hi,aX,Option.some.injEq,Prod.mk.injEq]at f;exact⟨i,rfl,f.1,f.2.1,f.2.2⟩
theorem Qe.l0{P:Program}{T E:TypeId}{z:Value}{zl:LV}{nb sz:Nat}(h:Qe P T E z zl nb sz):Nf P E sz:=fun w=>by obtain⟨i,f,_,j,_⟩:=h.Tb;simp[sizeOf,typeInfo,f,j]
theorem GP(z:Array Value)(zl:LV)(f:z=zl.toArray):∀n,(Wa z n).toList.length=n*zl.length:=fun n=>by rw[Array.length_toList,size_zeroCells,f];simp
section
variable {P:Program}{w:World}{B:r9}{S:Mem}{L:List Q0}{e:Operand->Value}{dst:Option Tmp}{g:Option (Nat×Bool)}
variable {ty:TypeId}{pos:String}{aft:Array Edge}{v v2 z:Value}{x y:Operand}{T E:TypeId}{nb sz N M k:Nat}{zl cs rs ncs:LV}
theorem Oe.first{n:Nat}(h:Oe w v2 n sz ncs):(rG v2).run P w = .ok n w/\(mN sz n v2).run P w = .ok ncs.toArray w:=by
 rcases h with⟨⟨a,rfl⟩,rfl,rfl⟩|⟨b,o,c,A,T',C,rfl,F,p,q,l⟩
 ·refine⟨by simp[rG],?_⟩;cases a with
  |none=>simp[run_firstCells_none]|some a=>exact run_firstCells_some (P:=P) w sz 0 a 0 0 [] (by simp) fun j u f=>by simp at f
 ·refine⟨by simp[rG],?_⟩;have r:ncs.length=n*sz:=by rw[<-l];exact SI q
  refine run_firstCells_some (P:=P) w sz n ⟨b,o,none⟩ n c ncs r fun j u f=>?_;have s:=(aC.1 f).1;rw[yd,yk p];rw[<-l,P9,dE,zJ (by omega),bU]at f;exact f
theorem ZT(I:Qe P T E z zl nb sz)(H:HS B S w L)(hk:Y3 L k=some (.H' v N sz cs rs E))(hr:Oe w v2 M sz ncs)(h1:∀u∈ncs,u.oneCell'=true)(X:N+M<=68719476736):∃w' v' rs',(ue #[T,T] ty #[v,v2]).run P w = .ok v' w'/\HS B S w' (Za L k (.H' v' (N+M) sz (cs++ncs) rs' E)):=by
 obtain⟨i,J,hi2,C,hi4⟩:=I.Tb;have hpos:=I.pos;have K:=I.small;have A:(N+M)*nb<=140737488355328:=by
  calc (N+M)*nb<=68719476736*2048:=gA X K
   _=140737488355328:=by decide
 obtain⟨hf1,hf2⟩:=hr.first (P:=P);have l:=hr.len;have hzl:∀n,(Wa z.cells n).toList.length=n*sz:=fun n=>by rw[GP _ _ I.cells,I.len]
 rcases H.own k _ hk with⟨rfl,rfl,rfl,rfl⟩|⟨b,c,fz,rfl,g1,g2,g3,g4,g5⟩
 ·by_cases hM:M=0
  ·subst hM;have hn:ncs=[]:=aW (by omega);subst hn;refine⟨w,.slice none 0 0,[],?_,H.Gb hk (aL _) rfl rfl rfl (fun _ _ _=>rfl) (.inl ⟨rfl,rfl,rfl,rfl⟩) fun b X=>by cases X⟩;simp[ue,Go.underlying,I.wc,sizeOf,typeInfo,J,C,hf1,hf2]
  ·rcases hr with⟨_,h,_⟩|⟨b2,o2,c2,cs2,T2,fz2,rfl,hc2,Y,ho2,hp2⟩
   ·exact absurd h hM
   ·have r:∀j u,ncs[j]? = some u->w.cell? ((⟨b2,o2,none⟩:Addr).add j)=some u:=fun j u s=>by have hjl:=(aC.1 s).1;rw[yd,yk Y];rw[<-hp2,P9,dE,zJ (by omega),bU]at s;exact s
    have f:=run_append_nil (P:=P) w T ty E i z I.wc J hi2 ⟨b2,o2,none⟩ M c2 ncs (by rw[C];exact l) r (by omega) (by omega) (by rw[hi4];rw[aV]at A;omega);have O:=grownCap_ge w M 0 E;generalize hG:grownCap w M 0 E=G at f O;have F:=hzl (G-M);generalize hZ:Wa z.cells (G-M)=Z at f F;have q:ncs.toArray++Z=(ncs++Z.toList).toArray:=by apply dY;simp
    rw[q]at f;refine⟨_,_,Z.toList,f,?_⟩;refine H.Gb hk (by simp) rfl rfl rfl (fun j s _=>?_) (.inr ⟨w.heap.size,G,(0,0),?_,by omega,?_,?_,?_,.inl rfl⟩) fun b X=>?_
    ·exact(Ext.trans (Ext.drew w) (Ext.alloc w.drew _)).block j s
    ·rw[aV]
    ·simp[l]
    ·refine eI (Eq.symm ?_);rw[bP,aD,l,F,<-cA];congr 1;omega
    ·rw[bP];exact Od w.drew _
    ·cases X;exact .inr (aL _)
 ·by_cases p:N+M<=c
  ·have hcap:N*sz+M*sz<=c*sz:=by rw[<-cA];exact Nat.mul_le_mul_right sz p
   obtain⟨w',he,R,hs,q4,q5,q6,q7⟩:=DP (P:=P) (b:=b) (o:=N*sz) ncs 0 w (cs++rs) h1 g4 g5 (by omega);have hlay:lay (cs++rs) (N*sz+0) ncs=cs++ncs++rs.drop ncs.length:=by
    apply bN;intro j;rw[aD]at g3;rw[Df,gB,aU];by_cases s:j<N*sz
    ·rw[zI (by omega),aF (by omega),aF (by omega)]
    ·by_cases hj2:j<N*sz+ncs.length
     ·rw[zJ ⟨by omega,hj2,by rw[aD];omega⟩,aG (by omega),aF (by omega),g2]
     ·rw[zI (by omega),aG (by omega),aG (by omega),aG (by omega),bU];congr 1;omega
   rw[hlay]at R;refine⟨w',sl b 0 (N+M) c,rs.drop ncs.length,?_,H.Gb hk (by omega) q4 q5 q6 (fun j _ hne=>q7 j fun e=>hne (by rw[e];rfl)) (.inr ⟨b,c,fz,rfl,p,?_,?_,R,?_⟩) fun b' R=>.inl R⟩
   ·simp[ue,Go.underlying,I.wc,sizeOf,typeInfo,J,C,hf1,hf2,p,sl,yd,he]
   ·rw[aD,g2,l,cA]
   ·rw[aD]at g3;simp only[aD,bL];omega
   ·have:(cs++ncs++rs.drop ncs.length).length=(cs++rs).length:=by rw[aD]at g3;simp only[aD,bL];omega
    rw[this];exact g5
  ·rcases hr with⟨_,h,_⟩|⟨b2,o2,c2,cs2,T2,fz2,rfl,hc2,Y,ho2,hp2⟩
   ·subst h;omega
   ·have r:∀j u,ncs[j]? = some u->w.cell? ((⟨b2,o2,none⟩:Addr).add j)=some u:=fun j u s=>by have hjl:=(aC.1 s).1;rw[yd,yk Y];rw[<-hp2,P9,dE,zJ (by omega),bU]at s;exact s
    have holds:∀j u,cs[j]? = some u->w.cell? ((⟨b,0,none⟩:Addr).add j)=some u:=fun j u s=>by rw[yd,yk g4,aV,aF (aC.1 s).1];exact s
    have hfit:=growslice_fits (bytes:=nb) (dV p) A;have f:=run_append_grow (P:=P) w T ty E i z I.wc J hi2 ⟨b,0,none⟩ N c cs (by rw[C];exact g2) holds ⟨b2,o2,none⟩ M c2 ncs (by rw[C];exact l) r (dV p) (by omega) (by rw[hi4];exact hfit);have O:=grownCap_ge w (N+M) c E;generalize hG:grownCap w (N+M) c E=G at f O;have F:=hzl (G-(N+M));generalize hZ:Wa z.cells (G-(N+M))=Z at f F;have q:cs.toArray++ncs.toArray++Z=(cs++ncs++Z.toList).toArray:=by apply dY;simp
    rw[q]at f;refine⟨_,_,Z.toList,f,?_⟩;refine H.Gb hk (by simp) rfl rfl rfl (fun j s _=>?_) (.inr ⟨w.heap.size,G,(0,0),rfl,O,?_,?_,?_,.inl rfl⟩) fun b X=>?_
    ·exact(Ext.trans (Ext.drew w) (Ext.alloc w.drew _)).block j s
    ·rw[aD,g2,l,cA]
    ·refine eI (Eq.symm ?_);simp only[aD,F,g2,l,<-cA];congr 1;omega
    ·exact Od w.drew _
    ·cases X;exact .inr (aL _)
theorem Pv(h:Qe P T E z zl nb sz)(H:HS B S w L)(j:e x=v)(hk:Y3 L k=some (.H' v N sz cs rs E))(l:e y=v2)(p:Oe w v2 M sz ncs)(q:∀u∈ncs,u.oneCell'=true)(r:N+M<=68719476736):∃w' v' rs',(execOp e ⟨dst,.call ⟨.builtin .append,#[x,y],#[T,T]⟩,ty,pos,aft,g⟩).run P w = .ok (.value v') w'/\HS B S w' (Za L k (.H' v' (N+M) sz (cs++ncs) rs' E)):=by obtain⟨w',v',rs',f,s⟩:=ZT (ty:=ty) h H hk p q r;exact⟨w',v',rs',by simp[execOp,resolve,invoke,builtin,j,l,f],s⟩
theorem dU{T2:TypeId}{l:Bs}(J:Qe P T E z zl nb 1)(h2:P.underlying T2=some .string)(H:HS B S w L)(hk:Y3 L k=some (.H' v N 1 cs rs E))(Y:N+l.length<=68719476736):∃w' v' rs',(ue #[T,T2] ty #[v,str l]).run P w = .ok v' w'/\HS B S w' (Za L k (.H' v' (N+l.length) 1 (cs++W9 l) rs' E)):=by
 obtain⟨i,A,hi2,hi3,hi4⟩:=J.Tb;have C:=J.small;have r:(N+l.length)*nb<=140737488355328:=by
  calc (N+l.length)*nb<=68719476736*2048:=gA Y C
   _=140737488355328:=by decide
 have h:(⟨l.toArray⟩:ByteArray).size=l.length:=Lr l;have K:(jL (fun b:UInt8=>Value.int IntKind.u8 (b.toNat:Int)) (⟨l.toArray⟩:ByteArray).data)=(W9 l).toArray:=by simp[W9]
 have O:(mN 1 l.length (str l)).run P w = .ok (W9 l).toArray w:=by
  have hx:(⟨l.toArray⟩:ByteArray).extract 0 l.length=⟨l.toArray⟩:=by rw[YM];simp
  simp only[mN,hx,Eb];rw[<-K]
 have R:(rG (str l)).run P w = .ok l.length w:=by simp[rG,h]
 have hzl:∀n,(Wa z.cells n).toList.length=n:=fun n=>by rw[GP _ _ J.cells,J.len,dQ]
 rcases H.own k _ hk with⟨rfl,rfl,rfl,rfl⟩|⟨b,c,fz,rfl,g1,g2,g3,g4,g5⟩
 ·by_cases hM:l.length=0
  ·have hn:l=[]:=aW hM;subst hn;refine⟨w,.slice none 0 0,[],?_,H.Gb hk (aL _) rfl rfl rfl (fun _ _ _=>rfl) (.inl ⟨rfl,rfl,rfl,rfl⟩) fun b Y=>by cases Y⟩;have h5:=R;have h6:=O;simp only[List.length_nil]at h5 h6;simp[ue,Go.underlying,J.wc,h2,sizeOf,typeInfo,A,hi3,h5,h6]
  ·have f:=run_append_nil_string (P:=P) w T T2 ty E i z J.wc h2 A hi2 ⟨l.toArray⟩ (by rw[h];omega) (by rw[h];omega) (by rw[hi4,h];rw[aV]at r;omega);rw[h]at f;have F:=grownCap_ge w l.length 0 E;generalize hG:grownCap w l.length 0 E=G at f F;have s:=hzl (G-l.length);generalize hZ:Wa z.cells (G-l.length)=Z at f s;have p:(jL (fun b:UInt8=>Value.int IntKind.u8 (b.toNat:Int)) (⟨l.toArray⟩:ByteArray).data)++Z=(W9 l++Z.toList).toArray:=by rw[K];apply dY;simp
   rw[p]at f;refine⟨_,_,Z.toList,f,?_⟩;refine H.Gb hk (by simp) rfl rfl rfl (fun j hj _=>?_) (.inr ⟨w.heap.size,G,(0,0),?_,by omega,?_,?_,?_,.inl rfl⟩) fun b Y=>?_
   ·exact(Ext.trans (Ext.drew w) (Ext.alloc w.drew _)).block j hj
   ·rw[aV]
   ·simp[qo]
   ·rw[bP,aD,s,qo];omega
   ·rw[bP];exact Od w.drew _
   ·cases Y;exact .inr (aL _)
 ·by_cases q:N+l.length<=c
  ·obtain⟨w',he,I,hs,q4,q5,q6,q7⟩:=DP (P:=P) (b:=b) (o:=N) (W9 l) 0 w (cs++rs) (Dv l) g4 g5 (by rw[qo];omega);have hlay:lay (cs++rs) (N+0) (W9 l)=cs++W9 l++rs.drop l.length:=by
    apply bN;intro j;rw[aD]at g3;rw[Df,gB,aU,qo];by_cases hj:j<N
    ·rw[zI (by omega),aF (by omega),aF (by omega)]
    ·by_cases hj2:j<N+l.length
     ·rw[zJ ⟨by omega,hj2,by rw[aD];omega⟩,aG (by omega),aF (by rw[qo];omega),g2,dQ]
     ·rw[zI (by omega),aG (by omega),aG (by omega),aG (by rw[qo];omega),bU];congr 1;rw[qo];omega
   rw[hlay]at I;have X:(cs++W9 l++rs.drop l.length).length=(cs++rs).length:=by rw[aD]at g3;simp only[aD,bL,qo];omega
   refine⟨w',sl b 0 (N+l.length) c,rs.drop l.length,?_,H.Gb hk (by omega) q4 q5 q6 (fun j _ hne=>q7 j fun e=>hne (by rw[e];rfl)) (.inr ⟨b,c,fz,rfl,q,?_,by rw[X];exact g3,I,by rw[X];exact g5⟩) fun b' I=>.inl I⟩
   ·simp[ue,Go.underlying,J.wc,h2,sizeOf,typeInfo,A,hi3,R,O,q,sl,yd,he]
   ·rw[aD,g2,qo];omega
  ·have holds:∀j u,cs[j]? = some u->w.cell? ((⟨b,0,none⟩:Addr).add j)=some u:=fun j u hj=>by rw[yd,yk g4,aV,aF (aC.1 hj).1];exact hj
   have hfit:=growslice_fits (bytes:=nb) (dV q) r;have f:=Lib.run_append_grow_string (P:=P) w T T2 ty E i z J.wc h2 A hi2 ⟨b,0,none⟩ N c cs (by rw[hi3];exact g2) holds ⟨l.toArray⟩ (by rw[h];exact dV q) (by rw[h];omega) (by rw[hi4,h];exact hfit);rw[h]at f;have F:=grownCap_ge w (N+l.length) c E;generalize hG:grownCap w (N+l.length) c E=G at f F;have s:=hzl (G-(N+l.length));generalize hZ:Wa z.cells (G-(N+l.length))=Z at f s;have hsc:Lib.strCells ⟨l.toArray⟩=W9 l:=by simp[Lib.strCells,W9]
   rw[hsc]at f;have p:cs.toArray++(W9 l).toArray++Z=(cs++W9 l++Z.toList).toArray:=by apply dY;simp
   rw[p]at f;refine⟨_,_,Z.toList,f,?_⟩;refine H.Gb hk (by simp) rfl rfl rfl (fun j hj _=>?_) (.inr ⟨w.heap.size,G,(0,0),rfl,F,?_,?_,?_,.inl rfl⟩) fun b Y=>?_
   ·exact(Ext.trans (Ext.drew w) (Ext.alloc w.drew _)).block j hj
   ·rw[aD,g2,qo];omega
   ·simp only[aD,s,g2,qo];omega
   ·exact Od w.drew _
   ·cases Y;exact .inr (aL _)
theorem HS.na(H:HS B S w L)(sz:Nat)(E:TypeId):HS B S w (.H' (.slice none 0 0) 0 sz [] [] E::L):=
 H.push (Ext.refl w) (.inl ⟨rfl,rfl,rfl,rfl⟩) fun b f=>by cases f
theorem ca(zl:LV)(sz n:Nat)(q:zl.length=sz)(hp:0<sz):((fU (n*sz)).map fun x=>(zl.toArray:Array Value)[x%sz]!).toList=(bI n zl).flatten:=by
 subst q;apply bN;intro j;have h:((bI n zl).flatten).length=n*zl.length:=by simp
 by_cases l:j<n*zl.length
 ·have p:j%zl.length<zl.length:=Nat.mod_lt _ hp;have r:((bI n zl).flatten)[j]? = zl[j%zl.length]?:=by
   clear p h;induction n generalizing j with
   |zero=>omega|succ n s=>
    rw[List.replicate_succ,List.flatten_cons];by_cases f:j<zl.length
    ·rw[aF f,Nat.mod_eq_of_lt f]
    ·rw[aG (by omega),s (j-zl.length) (by rw[cA]at l;omega),<-Nat.mod_eq_sub_mod (by omega)]
  rw[r];simp[l,p]
 ·rw[cB (by simp;omega),cB (by simpa using l)]
theorem Qf{ps:List (Nat×Value)}{cs l:LV}(h:ko ((eQ 0 N).map fun i=>(i*sz,sz)) cs ps=some l):Instr.fill (fun i=>some (i*sz,sz)) cs.toArray ps=some l.toArray:=
 PT (fun i=>by simpa using kZ sz N 0 i) ps cs l h
theorem ysL{ps:List (Nat×Operand)}{vals:List (Nat×Value)}{l:LV}(j:Qe P T E z zl nb sz)(hp:zv e ps=vals) (I:ko ((eQ 0 N).map fun i=>(i*sz,sz)) (bI N zl).flatten vals=some l) (J:cK (N*sz) 16777216=true):(execOp e ⟨dst,.buildSlice T N ps.toArray,ty,pos,aft,g⟩).run P w = .ok (.value (sl w.heap.size 0 N N)) (w.alloc (.cells l.toArray E)):=by
 obtain⟨i,p,s,q,K⟩:=j.Tb;have r:=j.pos;have O:(ps.toArray.map fun(i,x)=>(i,e x))=vals.toArray:=by rw[<-hp,<-xdK];simp
 have A:=Qf I;have C:¬16777216<N*sz:=by have:=bK J;omega
 simp only[execOp,La];rw[O];by_cases R:N=0
 ·subst R;simp only[bI,List.flatten_nil]at A;have f:(jL (fun _=>(default:Value)) (fU 0)) = #[]:=by simp
  simp[Instr.buildSlice,Go.underlying,j.wc,sizeOf,typeInfo,p,q,newRow,sl];rw[f,A];simp
 ·have X:=ca zl sz N j.len r;have f:((fU (N*sz)).map fun x=>(zl.toArray:Array Value)[x%sz]!)=((bI N zl).flatten).toArray:=by rw[<-X]
  have F:¬N*sz=0:=by intro h;rcases Nat.mul_eq_zero.1 h with h|h<;>omega
  simp at f;have H:zl.length=sz:=j.len;simp only[Instr.buildSlice,Go.underlying,j.wc,sizeOf,typeInfo,p,q,La,run_program,Gf,Eb,zI C,zI F,zeroValue,s,j.cells];simp[H,f,newRow,sl];rw[A];simp
theorem Gh{ps:List (Nat×Operand)}{vals:List (Nat×Value)}{l:LV}(j:Qe P T E z zl nb sz)(H:HS B S w L)(hp:zv e ps=vals) (p:ko ((eQ 0 N).map fun i=>(i*sz,sz)) (bI N zl).flatten vals=some l) (q:cK (N*sz) 16777216=true) (f:l.length=N*sz):∃w' v,(execOp e ⟨dst,.buildSlice T N ps.toArray,ty,pos,aft,g⟩).run P w = .ok (.value v) w'/\HS B S w' (.H' v N sz l [] E::L):=by have h:=ysL (P:=P) (w:=w) (dst:=dst) (ty:=ty) (pos:=pos) (aft:=aft) (g:=g) j hp p q;refine⟨_,_,h,H.push (Ext.alloc w _) (.inr ⟨w.heap.size,N,(0,0),rfl,aL _,f,by rw[bJ];exact eI f.symm,by rw[bJ];exact Od w _,.inl rfl⟩) fun b r=>by cases r;exact aL _⟩
theorem nJ{a b:Int}{k1 k2:IntKind}{N C:Nat}(f:Qe P T E z zl nb sz)(H:HS B S w L)(I:e x = .int k1 a)(J:e y = .int k2 b)(K:a=(N:Int))(j:b=(C:Int))(l:N<=C)(O:C<=68719476736):∃w' v,(execOp e ⟨dst,.makeSlice T x y,ty,pos,aft,g⟩).run P w = .ok (.value v) w'/\HS B S w' (.H' v N sz (bI N zl).flatten (bI (C-N) zl).flatten E::L):=by
 obtain⟨i,p,q,r,s⟩:=f.Tb;have h:=f.small;subst K;subst j;have A:(i.bytes:Int)*(C:Int)<=281474976710656:=by rw[s,<-Int.natCast_mul];have:nb*C<=2048*68719476736:=gA h O;omega
 have F:=run_make (P:=P) w T E i z f.wc p q k1 k2 N C (by omega) (by omega) A (by omega);have R:madeCells z.cells (((C:Int).toNat)*i.size)=((bI N zl).flatten++(bI (C-N) zl).flatten).toArray:=by
  rw[r,bY,f.cells];unfold madeCells;have X:=ca zl sz C f.len f.pos;have Y:(zl.toArray).size=sz:=by simpa using f.len
  rw[Y];apply dY;rw[X,List.toList_toArray,<-List.flatten_append,List.replicate_append_replicate];congr 2;omega
 rw[R,bY,bY]at F;refine⟨_,_,by simp only[execOp,I,J,La,F,Gf,Eb],H.push (Ext.alloc w _) (.inr ⟨w.heap.size,C,(0,0),rfl,l,?_,?_,Od w _,.inl rfl⟩) fun b j=>by cases j;exact aL _⟩
 ·rw[List.length_flatten];simp[f.len]
 ·refine eI (Eq.symm ?_);simp[f.len];rw[<-cA];congr 1;omega
section
variable {α:Type}[Rp α]
theorem HS.yZ{xs:List α}(H:HS B S w L){k:Nat}(hk:Y3 L k=some (.H' v xs.length sz cs rs T))(j:RL S cs xs)(l:Rp.sz α=sz:=by rfl):∃f,Mem.le S f/\x8 f v xs/\HS B f w (Me L k):=by obtain⟨f,h,p,q⟩:=H.rZ hk;subst l;exact⟨f,h,⟨cs,p,j.mono h⟩,q⟩
theorem Ur{T2:TypeId}{k:Nat}{xs r l:Bs}(j:Qe P T E z zl nb 1)(p:P.underlying T2=some .string)(H:HS B S w L)(q:e x=v)(hk:Y3 L k=some (.H' v xs.length 1 cs rs E))(s:RL S cs xs)(A:e y=str l)(C:X0 xs l=some r):∃w' v',(execOp e ⟨dst,.call ⟨.builtin .append,#[x,y],#[T,T2]⟩,ty,pos,aft,g⟩).run P w = .ok (.value v') w'/\∃cs' rs',HS B S w' (Za L k (.H' v' r.length 1 cs' rs' E))/\RL S cs' r:=by obtain⟨F,I⟩:=Rr C;obtain⟨w',v',rs',f,h⟩:=dU (ty:=ty) j p H hk F;subst I;rw[<-aD]at h;exact⟨w',v',by simp[execOp,resolve,invoke,builtin,q,A,f],_,rs',h,s.append (RL.Vk l)⟩
theorem vC{a b:Int}{k1 k2:IntKind}{h:α}{r:List α}(q:Qe P T E z zl nb sz)(_hs:Rp.sz α=sz)(H:HS B S w L)(s:e x = .int k1 a)(A:e y = .int k2 b)(F:Rp.u7 S zl h)(I:ZB a h=some r)(J:a<=b)(K:b<=(Sk:Int)):∃w' v,(execOp e ⟨dst,.makeSlice T x y,ty,pos,aft,g⟩).run P w = .ok (.value v) w'/\∃cs rs,HS B S w' (.H' v r.length sz cs rs E::L)/\RL S cs r:=by
 obtain⟨R,X,j⟩:=Jv I;have O:b<=68719476736:=K;obtain⟨w',v,f,l⟩:=nJ (dst:=dst) (ty:=ty) (pos:=pos) (aft:=aft) (g:=g) (N:=a.toNat) (C:=b.toNat) q H s A (by omega) (by omega) (by omega) (by omega);have p:r.length=a.toNat:=by rw[<-j];simp
 rw[<-p]at l;refine⟨w',v,f,_,_,l,?_⟩;rw[p,<-j];exact RL.replicate F _
end
theorem Z3{a b:Bool}(h:(a&&b)=true):a=true:=by rw[aI]at h;exact h.1
theorem Y4{a b:Bool}(h:(a&&b)=true):b=true:=by rw[aI]at h;exact h.2
end
end
section
abbrev wC(l:Bs)(p:Nat):Obj:=.stringIter ⟨l.toArray⟩ p
def dec(l:Bs)(p:Nat):Nat×Nat:=Utf8.decode ⟨l.toArray⟩ p
def Lu(l:Bs)(p:Nat):Int:=((dec l p).1:Int)
def Vr(l:Bs)(p:Nat):Nat:=bif decide (p<l.length)then p+(dec l p).2 else p
def IP(l:Bs)(p:Nat):Value:=bif decide (p<l.length)then .tuple #[.bool true,.int .i64 (p:Int),.int .i32 (Lu l p)]else .tuple #[.bool false]
section
variable {P:Program}{ops:Array Oper}{Q:Exit->Act->World->Prop}{rest:List Oper}{n:Nat}{m:FM}{w:World}{B:r9}{S:Mem}{L:List Q0}
variable {d:Nat}{op:Op}{ty:TypeId}{pos:String}{aft:Array Edge}{c v:Value}{x y:Operand}{T T':TypeId}{e:Operand->Value}{dst:Option Tmp}{g:Option (Nat×Bool)}
theorem JP{φ:World->Prop}(h:∃w',(execOp (o0 n m) ⟨some d,op,ty,pos,aft,none⟩).run P w = .ok (.value c) w'/\φ w')(f:∀w',φ w'->wpList P ops Q rest (fr n ((d,c)::m)) w'):
  wpList P ops Q (⟨some d,op,ty,pos,aft,none⟩::rest) (fr n m) w:=by
 obtain⟨w',j,l⟩:=h;exact Nv j (f w' l)
theorem xdN{s:ByteArray}{p b:Nat}(h:w.heap[b]? = some (.stringIter s p)):(getObj b).run P w = .ok (.stringIter s p) w:=by simp[getObj,Sem.run,h]
theorem Wr{s:ByteArray}{p b:Nat}{o:Obj}(h:w.heap[b]? = some (.stringIter s p)):(setObj b o).run P w = .ok () { w with heap:=w.heap.setIfInBounds b o }:=by simp[setObj,Sem.run,h]
theorem Qv{l:Bs}(H:HS B S w L)(f:P.underlying T=some .string)(h:e x=str l):∃w' b,(execOp e ⟨dst,.range T x,ty,pos,aft,g⟩).run P w = .ok (.value (.pointer (some ⟨b,0,none⟩))) w'/\HS B S w' (.obj b (wC l 0)::L):=by refine⟨w.alloc (wC l 0),w.heap.size,?_,H.push (Ext.alloc w _) (Od w _) fun b j=>by cases j;exact aL _⟩;simp[execOp,Instr.range,Go.underlying,f,h,str,wC]
theorem xC{l:Bs}{p k b:Nat}(H:HS B S w L)(C:e x = .pointer (some ⟨b,0,none⟩))(hk:Y3 L k=some (.obj b (wC l p))):∃w',(execOp e ⟨dst,.next x true,ty,pos,aft,g⟩).run P w = .ok (.value (IP l p)) w'/\HS B S w' (Za L k (.obj b (wC l (Vr l p)))):=by
 have j:w.heap[b]? = some (wC l p):=H.own k _ hk;have f:(⟨l.toArray⟩:ByteArray).size=l.length:=Lr l;by_cases hp:p<l.length
 ·have h:=lt_of_heap j;refine⟨{ w with heap:=w.heap.setIfInBounds b (wC l (Vr l p)) },?_,H.Gb hk (by simp) rfl rfl rfl (fun i _ q=>?_) ?_ fun K s=>.inl s⟩
  ·simp[execOp,Instr.next,C,xdN j,f,hp,IP,Vr,Lu,dec,Wr j,goInt]
  ·have A:i≠b:=fun e=>q (by rw[e];rfl);show(w.heap.setIfInBounds b _)[i]? = _;rw[Array.getElem?_setIfInBounds_ne (Ne.symm A)]
  ·show(w.heap.setIfInBounds b _)[b]? = _;simp[h]
 ·refine⟨w,?_,?_⟩
  ·simp[execOp,Instr.next,C,xdN j,f,hp,IP]
  ·have F:Vr l p=p:=by simp[Vr,hp]
   rw[F];have I:Za L k (.obj b (wC l p))=L:=by
    clear H;induction L generalizing k with
    |nil=>rfl|cons r L J=>
     cases k with
     |zero=>simp only[Y3,Option.some.injEq]at hk;rw[hk];rfl|succ k=>simp only[Y3]at hk;simp only[Za];rw[J hk]
   rw[I];exact H
theorem Xr{a:Addr}(f:e x = .pointer (some a)):(execOp e ⟨dst,.nilCheck x,ty,pos,aft,g⟩).run P w = .ok (.value (.pointer (some a))) w:=by simp[execOp,f]
def Re(w:World):Mem:=fun b=>w.heap[b]?
theorem Xk(w:World):Sub (Re w) w:=fun _ _ h=>h
theorem x8.KP{α:Type}[Rp α]{xs:List α}{k sz:Nat}{cs rs:LV}(H:HS B S w L)(hk:Y3 L k=some (.H' v xs.length sz cs rs T))(f:RL S cs xs)(h:Rp.sz α=sz:=by rfl):x8 (Re w) v xs:=by subst h;exact⟨cs,H.Iv hk,f.mono H.sub⟩
theorem Ih:Mc n m []=[]:=rfl
theorem zZ{l:List Operand}{vs:LV}(h:o0 n m x=v)(t:Mc n m l=vs):Mc n m (x::l)=v::vs:=by rw[<-h,<-t];rfl
theorem HS.Rv{k N sz:Nat}{cs rs:LV}(H:HS B S w L)(hk:Y3 L k=some (.H' v N sz cs rs T)):v.oneCell'=true:=by rcases H.own k _ hk with⟨h,_⟩|⟨b,c,f,h,_⟩<;>rw[h]<;>rfl
def BA(b:Nat)(a:Value):Prop:=a = .pointer none∨a = .pointer (some ⟨b,0,none⟩)
def Yk:LV:=(dJ 20).map fun i=>Value.int .u64 ((10^i:Nat):Int)
def TB(S:Mem):Prop:=∃t f,S 3=some (.cells Yk.toArray t f)
theorem TB.mono{S T:Mem}(h:TB S)(f:Mem.le S T):TB T:=by
 first
 |exact trivial
 |(obtain⟨t,j,h⟩:=h;exact⟨t,j,f _ _ h⟩)
structure GV (S:Mem):Prop where
 mx:∃ds T fz m,S 0=some (.cells ds T fz)/\ds[0]? = some (.int .i64 m)
 tb:TB S
theorem GV.mono{S T:Mem}(h:GV S)(f:Mem.le S T):GV T:=by obtain⟨⟨j,E,l,m,p,q⟩,r⟩:=h;exact⟨⟨j,E,l,m,f _ _ p,q⟩,r.mono f⟩
theorem GV.cell(h:GV S)(hS:Sub S w):∃m,w.cell? ⟨0,0,none⟩=some (.int .i64 m):=by obtain⟨⟨l,E,p,m,f,j⟩,_⟩:=h;exact⟨m,by simp[World.cell?,hS _ _ f,j]⟩
end
end
section
theorem yC(a:UInt32)(b:Int)(h:0<=b):dX (a.toNat:Int) b=((i32 (dX (a.toNat:Int) b)).toNat:Int):=by
 have j:=a.toNat_lt;have f:0<=dX (a.toNat:Int) b:=Int.tmod_nonneg _ (by omega);have l:dX (a.toNat:Int) b<=(a.toNat:Int):=by obtain⟨n,rfl⟩:=eU h;rw[<-Int.ofNat_tmod];have:=Nat.mod_le a.toNat n;omega
 rw[Tk f (by omega)]
theorem BC(a:UInt64)(b:Int)(h:0<=b):dX (a.toNat:Int) b=((i64 (dX (a.toNat:Int) b)).toNat:Int):=by
 have j:=a.toNat_lt;have f:0<=dX (a.toNat:Int) b:=Int.tmod_nonneg _ (by omega);have l:dX (a.toNat:Int) b<=(a.toNat:Int):=by obtain⟨n,rfl⟩:=eU h;rw[<-Int.ofNat_tmod];have:=Nat.mod_le a.toNat n;omega
 rw[yP f (by omega)]
section
variable {P:Program}{w:World}{B:r9}{S:Mem}{L:List Q0}{T T':TypeId}{e:Operand->Value}{x y:Operand}{v:Value}{dst:Option Tmp}{pos:String}{aft:Array Edge}{ty:TypeId}{g:Option (Nat×Bool)}
end
end
section
def qc(P:Program)(n:Nat)(T:TypeId)(x y:Value)(t:Bool):Prop:=∀d w,(Qd (d+n) T x y).run P w = .ok t w
variable {P:Program}{n m:Nat}{T E:TypeId}{x y:Value}{t u:Bool}
theorem qc.up(h:qc P n T x y t)(k:Nat):qc P (k+n) T x y t:=fun d w=>by have:=h (d+k) w;rwa[dP]at this
theorem qc.le(h:qc P n T x y t)(k:Nat)(hk:n<=k):qc P k T x y t:=by have:=h.up (k-n);rwa[Nat.sub_add_cancel hk]at this
theorem jU{k:IntKind}{a b:Int}(f:P.underlying T=some (.int k))(h:(a==b)=t):qc P 1 T (.int k a) (.int k b) t:=fun d w=>by rw[<-h];simp[Qd,Go.underlying,f]
theorem eqB{a b:Bool}(f:P.underlying T=some .bool):qc P 1 T (.bool a) (.bool b) (a==b):=fun d w=>by simp[Qd,Go.underlying,f]
theorem AZ{a b:Bs}(f:P.underlying T=some .string):qc P 1 T (str a) (str b) (a==b):=fun d w=>by
 have h:((⟨a.toArray⟩:ByteArray)==⟨b.toArray⟩)=(a==b):=by show(a.toArray==b.toArray)=_;simp
 simp[Qd,Go.underlying,f,str,h]
inductive xo (P:Program) (n:Nat) (xs ys:Array Value):List (TypeId×Nat)->Bool->Prop
 |nil:xo P n xs ys [] true
 |cons {T o fs a b t u}:(∀w,(part T xs o).run P w = .ok a w)->(∀w,(part T ys o).run P w = .ok b w)->qc P n T a b t->xo P n xs ys fs u->xo P n xs ys ((T,o)::fs) (t&&u)
theorem xo.last{xs ys:Array Value}{T:TypeId}{o:Nat}{a b:Value}(f:∀w,(part T xs o).run P w = .ok a w)(j:∀w,(part T ys o).run P w = .ok b w)(h:qc P n T a b t):xo P n xs ys [(T,o)] t:=by
 have:=xo.cons f j h xo.nil
 rwa[Bool.and_true]at this
theorem Sv{l f:LV}{o sz:Nat}(j:wv P T sz)(h:piece l o sz=f)(w:World):(part T l.toArray o).run P w = .ok (.agg f.toArray) w:=by subst h;simp[part,j.1,j.2,P9]
theorem CC{l:LV}{v:Value}{o:Nat}(f:Xc P T)(h:l[o]? = some v)(w:World):(part T l.toArray o).run P w = .ok v w:=by simp[part,f.1,h]
theorem eqFields {xs ys : Array Value} (d : Nat) : ∀ {fs : List Field} {t : Bool}, (∀ f ∈ fs, f.name ≠ "_") -> xo P n xs ys (fs.map fun f => (f.type, f.offset)) t -> ∀ w : World,(do
   for f in fs do
    if f.name ≠ "_" then
     if !(<-Qd (d+n) f.type (<-part f.type xs f.offset) (<-part f.type ys f.offset))then return false
   pure true:Sem Bool).run P w = .ok t w
 |[],t,_,h,w=>by cases h;simp
 |f::fs,t,j,h,w=>by
  have r : f.name ≠ "_" := j f (by simp);cases h with
  |cons s A l p=>have C:=eqFields d (fun g q=>j g (by simp[q])) p w;rename_i a b t u;cases t<;>simp_all [l d]
theorem qc.str {xs ys : LV} {fs : Array Field} (p : P.underlying T = some (.struct fs)) (j : P.stoodInHeld T = false) (q : fs.toList.all (fun f => f.name != "_") = true) {l:List (TypeId×Nat)} (hf:fs.toList.map (fun f=>(f.type,f.offset))=l) (h:xo P n xs.toArray ys.toArray l t):qc P (n+1) T (.agg xs.toArray) (.agg ys.toArray) t:=fun d w=>by subst hf;have:=eqFields d (fun f hf=>by have:=bR.1 q f hf;simpa using this) h w;rw[<-dP];unfold Qd;simp only[La,Go.underlying,run_program,Gf,p,j,Eb,fO,if_false];simpa using this
theorem yo{xs ys:Array Value}{sz:Nat}(d:Nat):∀{k i:Nat} {t:Bool},xo P n xs ys ((eQ i k).map fun j=>(E,j*sz)) t->∀w:World,(do
   for i in eQ i k do
    if !(<-Qd (d+n) E (<-part E xs (i*sz)) (<-part E ys (i*sz)))then return false
   pure true:Sem Bool).run P w = .ok t w
 |0,i,t,h,w=>by cases h;simp
 |k+1,i,t,h,w=>by
  rw[eX,bF]at h;cases h with
  |cons p q f l=>have r:=yo d l w;rename_i a b t u;rw[eX];cases t<;>simp_all [f d]
theorem qc.arr{xs ys:LV}{k sz:Nat}(f:P.underlying T=some (.array k E))(p:∀w,(sizeOf E).run P w = .ok sz w) {l:List (TypeId×Nat)} (hf:(eQ 0 k).map (fun j=>(E,j*sz))=l) (h:xo P n xs.toArray ys.toArray l t):qc P (n+1) T (.agg xs.toArray) (.agg ys.toArray) t:=fun d w=>by subst hf;have:=yo d h w;rw[<-dP];unfold Qd;simp only[La,Go.underlying,run_program,Gf,f,p,Eb];simpa[Std.Legacy.Range.forIn_eq_forIn_range',Std.Legacy.Range.size]using this
section
variable {w:World}{e:Operand->Value}{a b:Operand}{T' ty:TypeId}{pos:String}{aft:Array Edge}{dst:Option Tmp}{g:Option (Nat×Bool)}
theorem LP{xs ys:Array Value}(f:P.eqGuardType P.depth T=false)(hk:n<=10000)(h:qc P n T (.agg xs) (.agg ys) t)(j:e a = .agg xs)(l:e b = .agg ys):(execOp e ⟨dst,.binOp .eql T a b T',ty,pos,aft,g⟩).run P w = .ok (.value (.bool t)) w:=by have key:(Op.equal T (.agg xs) (.agg ys)).run P w = .ok t w:=(h.le 10000 hk) 0 w;simp only[execOp,j,l,eqGuard,binOp,La];simp[f,key]
theorem MP{xs ys:Array Value}(f:P.eqGuardType P.depth T=false)(hk:n<=10000)(h:qc P n T (.agg xs) (.agg ys) t)(j:e a = .agg xs)(l:e b = .agg ys):(execOp e ⟨dst,.binOp .neq T a b T',ty,pos,aft,g⟩).run P w = .ok (.value (.bool (!t))) w:=by have key:(Op.equal T (.agg xs) (.agg ys)).run P w = .ok t w:=(h.le 10000 hk) 0 w;simp only[execOp,j,l,eqGuard,binOp,La];simp[f,key]
end
section
variable {ops:Array Oper}{k d i:Nat}{m:FM}{nh:Nat}{Φ:Oa}{W:World}{vs:Nat->Gv}{Fin:Act->Prop}{rest:List Oper}{ty:TypeId}{pos:String}{aft:Array Edge}{S:Mem}
end
end
section
variable {P:Program}{w:World}{T T':TypeId}{e:Operand->Value}{x y:Operand}{dst:Option Tmp}{pos:String}{aft:Array Edge}{ty:TypeId}{g:Option (Nat×Bool)}{a b:Int}{k:IntKind}
theorem oJ(f:e x = .int .i64 a)(h:e y = .int .i64 b):(execOp e ⟨dst,.binOp .add T x y T',ty,pos,aft,g⟩).run P w = .ok (.value (.int .i64 (P0 (a+b)))) w:=lG f h rfl
theorem pJ(f:e x = .int k a)(h:e y = .int k b):(execOp e ⟨dst,.binOp .lss T x y T',ty,pos,aft,g⟩).run P w = .ok (.value (.bool (decide (a<b)))) w:=mG f h rfl
end
section
variable {P:Program}{ops:Array Oper}{n:Nat}{Φ:Oa}{w0:World}
end
def rmE(pos:Nat->Nat)(e:Edge):Edge:={ e with on:=pos e.on }
def kU(pos:Nat->Nat)(o:Oper):Oper:={ o with after:=(o.after.toList.map (rmE pos)).toArray,guard:=o.guard.map fun p=>(pos p.1,p.2) }
structure Nc (ops ops':Array Oper) (pos inv:Nat->Nat):Prop where
 size:ops'.size=ops.size
 lt:∀i:Nat,i<ops.size->pos i<ops.size
 li:∀i,i<ops.size->inv (pos i)=i
 lt':∀j,j<ops.size->inv j<ops.size
 ri:∀j,j<ops.size->pos (inv j)=j
 at_:∀(i:Nat) (o:Oper),ops[i]? = some o->ops'[pos i]? = some (kU pos o)
 NP:∀(i:Nat) (o:Oper),ops[i]? = some o->∀e∈o.after,e.on<ops.size
 guard:∀(i:Nat) (o:Oper),ops[i]? = some o->∀p,o.guard=some p->p.1<ops.size
section
variable {P:Program}{ops ops':Array Oper}{pos inv:Nat->Nat}{Q:Exit->Act->World->Prop}
theorem Nc.yield(S:Nc ops ops' pos inv){tmps:Array Value}{j:Nat}(f:j<ops.size):yielded ops' tmps (pos j)=yielded ops tmps j:=by have h:=S.at_ j ops[j] (dO f);unfold yielded;rw[h,dO f];rfl
theorem Nc.want(S:Nc ops ops' pos inv){i:Nat}{o:Oper}{tmps:Array Value}(j:ops[i]? = some o):p9 (kU pos o) (yielded ops' tmps)=p9 o (yielded ops tmps):=by
 cases f:o.guard with
 |none=>rw[show p9 o (yielded ops tmps)=true by simp only[p9,f]];simp only[p9,kU,f,Option.map_none]|some p=>obtain⟨g,b⟩:=p;have h:=S.yield (tmps:=tmps) (S.guard i o j _ f);simp only[p9,kU,f,aX]at h ⊢;rw[h]
theorem Nc.ready(S:Nc ops ops' pos inv){L l:Array Bool}(I:L.size=ops.size)(q:l.size=ops.size)(r:∀i,i<ops.size->l.getD (pos i) false=L.getD i false){i:Nat}(hi:i<ops.size):
  pos i∈tG .any ops' l↔i∈tG .any ops L:=by
 have hp:=S.lt i hi;have H:l.getD (pos i) true=L.getD i true:=by have:=r i hi;simp only[Array.getD,I,q,hi,hp,dif_pos]at this ⊢;exact this
 constructor
 ·intro h;obtain⟨s,J,p,A⟩:=mem_ready.1 h;have j:=dO hi;have e:=S.at_ i _ j;rw[e]at p;cases p;refine mem_ready.2 ⟨by rw[<-H];exact s,_,j,fun e f C=>?_⟩;have:=A (rmE pos e) (List.mem_toArray.2 (aY.2 ⟨e,Array.mem_def.1 f,rfl⟩)) C;rw[<-r e.on (S.NP i _ j e f)];exact this
 ·intro h;obtain⟨s,o,j,A⟩:=mem_ready.1 h;refine mem_ready.2 ⟨by rw[H];exact s,_,S.at_ i o j,fun K F C=>?_⟩;obtain⟨e,f,rfl⟩:=aY.1 (List.mem_toArray.1 F);have f:=Array.mem_def.2 f;have:=A e f C;show l.getD (pos e.on) false=true;rw[r e.on (S.NP i o j e f)];exact this
theorem Zk(S:Nc ops ops' pos inv):∀(m:Nat) (L p:Array Bool) (a:Act) (w:World),L.size=ops.size->p.size=ops.size->(∀i,i<ops.size->p.getD (pos i) false=L.getD i false)->wpAny P .any ops' Q m p a w->wpAny P .any ops Q m L a w:=by
 have nil:∀{L p:Array Bool},L.size=ops.size->p.size=ops.size->(∀i,i<ops.size->p.getD (pos i) false=L.getD i false)->(tG .any ops L=[]↔tG .any ops' p=[]):=fun {L p} q f r=>by
  rw[fN,fN];constructor
  ·intro h j J;have C:j<ops.size:=by obtain⟨_,o,s,_⟩:=mem_ready.1 J;have:=(aT.1 s).1;rw[S.size]at this;exact this
   refine h (inv j) ((S.ready q f r (S.lt' j C)).1 ?_);rw[S.ri j C];exact J
  ·intro h i hi;have l:i<ops.size:=by obtain⟨_,o,s,_⟩:=mem_ready.1 hi;exact(aT.1 s).1
   exact h (pos i) ((S.ready q f r l).2 hi)
 intro m;induction m with
 |zero=>intro L p a w q f r h;exact⟨(nil q f r).2 h.1,h.2⟩|succ m O=>
  intro L p a w q f r h;refine⟨fun R=>h.1 ((nil q f r).1 R),fun i hi=>?_⟩;obtain⟨_,o,s,_⟩:=mem_ready.1 hi;have l:=(aT.1 s).1;have F:=h.2 (pos i) ((S.ready q f r l).2 hi)
  have H:∀k,k<ops.size->(p.setIfInBounds (pos i) true).getD (pos k) false=(L.setIfInBounds i true).getD k false:=fun k K=>by
   by_cases A:k=i
   ·subst A;simp[Array.getD,q,f,l,S.lt k l]
   ·have I:pos i≠pos k:=fun e=>A (by rw[<-S.li k K,<-S.li i l,e]);rw[getD_set_ne false I,getD_set_ne false (Ne.symm A)];exact r k K
  have X:∀a w,wpAny P .any ops' Q m (p.setIfInBounds (pos i) true) a w->wpAny P .any ops Q m (L.setIfInBounds i true) a w:=fun a w=>O _ _ a w (by simp[q]) (by simp[f]) H;refine wpOp_mono X ?_;unfold wpOp at F ⊢;rw[S.at_ i o s]at F;rw[s];simp only at F ⊢;rw[S.want s]at F;exact F
theorem b9.perm{l f:List Oper}{a:Act}{w:World}(S:Nc l.toArray f.toArray pos inv)(h:b9 P f Q a w):b9 P l Q a w:=by unfold b9 at h ⊢;rw[S.size]at h;refine Zk S _ _ _ _ _ (by simp) (by simp) (fun i hi=>?_) h;rw[getD_replicate_false,getD_replicate_false]
end
inductive SK where
 |pu|la|rv|mn
abbrev Mu:=List (SK×Nat)
def Jh(ops:Array Oper)(j:Nat):Option Tmp:=match ops[j]? with
 |some o=>o.dst|none=>none
def zd(ops:Array Oper)(i:Nat):List Nat:=match ops[i]? with
 |some o=>Nb o|none=>[]
def Rf(ops:Array Oper)(i:Nat):List Tmp:=match ops[i]? with
 |some o=>o.looksAt ops|none=>[]
def ub(ops:Array Oper)(i j:Nat):Bool:=(OM ops ops.size (zd ops i)).contains j
def Tv(ops:Array Oper)(late mains:List Nat)(i j:Nat):Bool:=match Jh ops j with
 |none=>true|some d=>(j==i||Jh ops i != some d)&&(!(Rf ops i).contains d||(j != i&&((ub ops i j&&(!late.contains j||mains.contains i))||(mains.contains j&&ub ops j i))))
def zo(ops:Array Oper)(late mains:List Nat):Bool:=
 Region.noSelect ops&&(dJ ops.size).all (fun i=>(zd ops i).all (fun j=>decide (j<i))&&(dJ ops.size).all (Tv ops late mains i))&&late.all (fun i=>!mains.contains i)
def Ao:Mu->Option Nat
 |(.rv,_)::s=>Ao s|(.mn,m)::_=>some m|_=>none
def y8(ops:Array Oper)(late mains:List Nat):Mu->List Nat->List Nat->Bool->Bool
 |[],D,U,_=>U.isEmpty&&(dJ ops.size).all D.contains|(.pu,i)::s,D,U,f=>!f&&decide (i<ops.size) && !D.contains i && !late.contains i && !mains.contains i&&(zd ops i).all D.contains&&y8 ops late mains s (i::D) U f|(.la,i)::s,D,U,f=>!f&&decide (i<ops.size) && !D.contains i&&late.contains i&&(zd ops i).all D.contains&&y8 ops late mains s (i::D) (i::U) f|(.rv,i)::s,D,U,_=>U.contains i&&(match Ao s with
  |some m=>ub ops m i|none=>(dJ ops.size).all D.contains&&s.all fun p=>match p.1 with
   |.rv=>true|_=>false)&&y8 ops late mains s D (U.filter fun u=>u != i) true
 |(.mn,i)::s,D,U,_=>decide (i<ops.size) && !D.contains i&&mains.contains i&&(zd ops i).all D.contains&&(dJ ops.size).all (fun j=>D.contains j||j==i||(zd ops j).any fun d=>!D.contains d) &&
   U.all (fun u=>match Jh ops u with
    |some d=>!(Rf ops i).contains d|none=>true)&&y8 ops late mains s (i::D) U false
section
variable {P:Program}{ops:Array Oper}{Q:Exit->Act->World->Prop}{Dsc:Nat->Value->Nat->Obj->Prop}{late mains:List Nat}
def al(Dsc:Nat->Value->Nat->Obj->Prop)(i:Nat)(D:Value->Nat->Obj->Prop):Nat->Value->Nat->Obj->Prop:=fun t=>if t=i then D else Dsc t
def wb(Jp:Nat->World->Prop)(i:Nat)(J:World->Prop):Nat->World->Prop:=fun t=>if t=i then J else Jp t
def qJ(ops:Array Oper)(i:Nat)(Pn:List Nat):List Nat:=Pn.filter fun j=>!ub ops i j
def wpS(P:Program)(ops:Array Oper)(Q:Exit->Act->World->Prop):Mu->(Dsc:Nat->Value->Nat->Obj->Prop)->(Jp:Nat->World->Prop)->(Pn:List Nat)->(G:World->Prop)->(Kp:Nat->Prop)->Act->Prop
 |[],_,_,_,G,_,b=>∀w,G w->Q .normal b w|(.pu,i)::s,Dsc,Jp,Pn,G,Kp,b=>∃(o:Oper) (c:Value) (J:World->Prop),ops[i]? = some o/\((p9 o (yielded ops b.tmps)=true/\∀w,J w->(execOp b.eval o).run P w = .ok (.value c) w)∨(p9 o (yielded ops b.tmps)=false/\c=undef))/\(∀w,G w->J w)/\wpS P ops Q s Dsc (wb Jp i J) (i::Pn) G Kp (b.put o.dst c)|(.la,i)::s,Dsc,Jp,Pn,G,Kp,b=>∃(o:Oper) (D:Value->Nat->Obj->Prop),ops[i]? = some o/\p9 o (yielded ops b.tmps)=true/\(∀w,∃v k x w',(execOp b.eval o).run P w = .ok (.value v) w'/\Ext w w'/\w.heap.size<=k/\w'.heap[k]? = some x/\D v k x)/\wpS P ops Q s (al Dsc i D) Jp Pn G Kp b|(.rv,i)::s,Dsc,Jp,Pn,G,Kp,b=>∃o,ops[i]? = some o/\∀v k x,Dsc i v k x->¬Kp k->(∃w,G w/\w.heap[k]? = some x)->∃(h:World->Prop) (f:Nat->Prop),(∀w,G w->w.heap[k]? = some x->h w)/\(∀j∈Pn,∀w,h w->Jp j w)/\(∀u l,h u->Ext u l->h l)/\(∀u,h u->∀k,f k->k<u.heap.size)/\(∀b,f b->Kp b∨b=k)/\wpS P ops Q s Dsc Jp Pn h f (b.put o.dst v)|(.mn,i)::s,Dsc,Jp,Pn,G,Kp,b=>∃o,ops[i]? = some o/\∀w,G w->(p9 o (yielded ops b.tmps)=true/\outcome P (fun v w'=>∃(h:World->Prop) (f:Nat->Prop),(∀j∈qJ ops i Pn,∀u,h u->Jp j u)/\(∀u l,h u->Ext u l->h l)/\(∀u,h u->∀k,f k->k<u.heap.size)/\h w'/\(∀k,f k->Kp k∨w.heap.size<=k)/\(∀k,k<w.heap.size->¬Kp k->w'.heap[k]? = w.heap[k]?)/\wpS P ops Q s Dsc Jp (qJ ops i Pn) h f (b.put o.dst v)) ((execOp b.eval o).run P w))∨(p9 o (yielded ops b.tmps)=false/\wpS P ops Q s Dsc Jp (qJ ops i Pn) G Kp (b.put o.dst undef))
def Uv(late mains:List Nat)(D U:List Nat)(L:Array Bool)(i:Nat):Prop:=i∈D/\((i∈U/\L.getD i false=true)∨(i∉mains/\i∉late/\L.getD i false=false))
structure X7 (P:Program) (ops:Array Oper) (Dsc:Nat->Value->Nat->Obj->Prop) (late mains:List Nat) (Jp:Nat->World->Prop) (Pn:List Nat) (G:World->Prop) (Kp:Nat->Prop) (D U:List Nat) (L:Array Bool) (a b:Act) (w:World) (V:Nat->Value) (bk:Nat->Nat) (ob:Nat->Obj):Prop where
 size:L.size=ops.size
 sub:∀i,L.getD i false=true->i∈D
 lt:∀i∈D,i<ops.size
 DC:∀i∈D,∀j∈zd ops i,j∈D
 Vv:∀i,L.getD i false=true->∀j∈zd ops i,L.getD j false=true
 Ma:∀i∈D,i∈mains->L.getD i false=true
 da:∀i∈D,i∈late->i∉U->L.getD i false=true
 uD:∀i∈U,i∈D/\i∈late
 pp:∀i∈D,i∉mains->i∉late->L.getD i false=false->∀o,ops[i]? = some o->∃c,((p9 o (yielded ops b.tmps)=true/\∀w,Jp i w->(execOp b.eval o).run P w = .ok (.value c) w)∨(p9 o (yielded ops b.tmps)=false/\c=undef))/\∀s,o.dst=some s->b.tmps[s]? = (a.tmps[s]?).map fun _=>c
 lu:∀i∈U,L.getD i false=false->∀o,ops[i]? = some o->p9 o (yielded ops b.tmps)=true/\∀w,∃v k x w',(execOp b.eval o).run P w = .ok (.value v) w'/\Ext w w'/\w.heap.size<=k/\w'.heap[k]? = some x/\Dsc i v k x
 lf:∀i∈U,L.getD i false=true->Dsc i (V i) (bk i) (ob i)/\w.heap[bk i]? = some (ob i)/\¬Kp (bk i)/\∀o s,ops[i]? = some o->o.dst=some s->a.tmps[s]? = (b.tmps[s]?).map fun _=>V i
 lj:∀i∈U,∀j∈U,L.getD i false=true->L.getD j false=true->bk i=bk j->i=j
 other:∀s,(∀i o,Uv late mains D U L i->ops[i]? = some o->o.dst≠some s)->a.tmps[s]? = b.tmps[s]?
 defers:a.defers=b.defers
 gw:G w
 pn:∀i∈D,i∉mains->i∉late->L.getD i false=false->i∈Pn
 gj:∀j∈Pn,∀u,G u->Jp j u
 gx:∀u u',G u->Ext u u'->G u'
 gk:∀u,G u->∀k,Kp k->k<u.heap.size
structure Bo (ops:Array Oper) (late mains:List Nat):Prop where
 ov:Region.noSelect ops=true
 Z8:∀i,i<ops.size->∀j∈zd ops i,j<i
 dst:∀(i j:Nat) (oi oj:Oper) (d:Tmp),ops[i]? = some oi->ops[j]? = some oj->oj.dst=some d->j≠i->oi.dst≠some d
 look:∀(i j:Nat) (oi oj:Oper) (d:Tmp),ops[i]? = some oi->ops[j]? = some oj->oj.dst=some d->d∈oi.looksAt ops->j≠i/\((ub ops i j=true/\(j∈late->i∈mains))∨(j∈mains/\ub ops j i=true))
 nN:∀i∈late,i∉mains
theorem EC(h:zo ops late mains=true):Bo ops late mains:=by
 unfold zo at h;simp only[aI,bR,dF,zE]at h;obtain⟨⟨s,p⟩,A⟩:=h;have f:∀{i:Nat} {o:Oper},ops[i]? = some o->i<ops.size:=fun h=>(aT.1 h).1;refine⟨s,fun i hi=>(p i hi).1,fun i j C F d hi l q r=>?_,fun i j C F d hi l q H=>?_,fun i hi I=>?_⟩
 ·have:=(p i (f hi)).2 j (f l);unfold Tv Jh at this;simp only[hi,l,q,aI,cH,beq_iff_eq,r,false_or,bne_iff_ne]at this;exact this.1
 ·have:=(p i (f hi)).2 j (f l);unfold Tv Jh Rf at this;simp only[hi,l,q,aI,cH,bM,cI,decide_eq_false_iff_not,bne_iff_ne,zE]at this;rcases this.2 with h|⟨h,J⟩
  ·exact absurd H h
  ·refine⟨h,J.imp (fun h=>⟨h.1,fun K=>h.2.resolve_left (fun k=>k K)⟩) id⟩
 ·have:=A i hi;simp only[bM,cI,decide_eq_false_iff_not]at this;exact this I
theorem lU{i:Nat}{o:Oper}(h:ops[i]? = some o):zd ops i=Nb o:=by unfold zd;rw[h]
theorem mU{L:Array Bool}(l:∀i,L.getD i false=true->∀j∈zd ops i,L.getD j false=true){i j:Nat}(s:∀k∈zd ops i,L.getD k false=true)(h:ub ops i j=true):L.getD j false=true:=by unfold ub at h;simp only[cI,zE]at h;exact MT (p:=fun q=>L.getD q false=true) (N:=ops.size) (fun q F _ A f r C=>l q A r (by rw[lU f];exact C)) ops.size _ (aL _) s j h
theorem wG{D:List Nat}(l:∀i∈D,∀j∈zd ops i,j∈D){i j:Nat}(hi:i∈D)(h:ub ops i j=true):j∈D:=by unfold ub at h;simp only[cI,zE]at h;exact MT (p:=fun q=>q∈D) (N:=ops.size) (fun q C _ s f r A=>l q s r (by rw[lU f];exact A)) ops.size _ (aL _) (l i hi) j h
theorem X7.agree{Jp:Nat->World->Prop}{Pn:List Nat}{G:World->Prop}{Kp:Nat->Prop}{D U:List Nat}{L:Array Bool}{a b:Act}{w:World}{V:Nat->Value}{bk:Nat->Nat}{ob:Nat->Obj}(I:X7 P ops Dsc late mains Jp Pn G Kp D U L a b w V bk ob)(S:Bo ops late mains){i:Nat}{o:Oper}(H:ops[i]? = some o) (J:∀k∈zd ops i,L.getD k false=true) (K:i∈mains->∀u∈U,∀d,Jh ops u=some d->d∉o.looksAt ops):∀t∈o.looksAt ops,a.tmps[t]? = b.tmps[t]?:=fun t C=>I.other t fun j O F p q=>by
 obtain⟨R,h⟩:=S.look i j o O t H p q C;have l:j∈U->i∈mains->False:=fun f A=>K A j f t (by unfold Jh;rw[p];exact q) C;rcases h with⟨r,X⟩|⟨r,_⟩
 ·have Y:=mU I.Vv J r;rcases F.2 with⟨f,_⟩|⟨_,_,s⟩
  ·exact l f (X (I.uD j f).2)
  ·rw[Y]at s;cases s
 ·rcases F.2 with⟨f,_⟩|⟨s,_⟩
  ·exact S.nN j (I.uD j f).2 r
  ·exact s r
theorem X7.BZ{Jp:Nat->World->Prop}{Pn:List Nat}{G:World->Prop}{Kp:Nat->Prop}{D U:List Nat}{L:Array Bool}{a b:Act}{w:World}{V:Nat->Value}{bk:Nat->Nat}{ob:Nat->Obj}(I:X7 P ops Dsc late mains Jp Pn G Kp D U L a b w V bk ob)(S:Bo ops late mains){i:Nat}{o:Oper}(f:ops[i]? = some o) (h:∀k∈zd ops i,L.getD k false=true) (j:i∈mains->∀u∈U,∀d,Jh ops u=some d->d∉o.looksAt ops):execOp a.eval o=execOp b.eval o/\p9 o (yielded ops a.tmps)=p9 o (yielded ops b.tmps):=
 HO (fun cs c=>AI S.ov i o cs c f) (I.agree S f h j)
theorem dh{L:Array Bool}{j:Nat}(h:j<L.size)(k:Nat):(L.setIfInBounds j true).getD k false=true↔L.getD k false=true∨k=j:=by
 by_cases f:k=j
 ·subst f;simp[h]
 ·rw[getD_set_ne false (Ne.symm f)];simp[f]
theorem HC{L:Array Bool}{j:Nat}(f:j<L.size){k:Nat}(h:(L.setIfInBounds j true).getD k false=false):L.getD k false=false/\k≠j:=by have:=mt (dh f k).2 (by rw[h];simp);simp only[not_or]at this;exact⟨by simpa using this.1,this.2⟩
section
variable {Jp:Nat->World->Prop}{Pn:List Nat}{G:World->Prop}{Kp:Nat->Prop}{D U:List Nat}{L:Array Bool}{a b:Act}{w:World}{V:Nat->Value}{bk:Nat->Nat}{ob:Nat->Obj}{i:Nat}{o:Oper}
theorem rJ(S:Bo ops late mains){j:Nat}{f:Oper}(l:ops[j]? = some f){v:Value}(h:∀d,o.dst=some d->d∉f.looksAt ops):execOp (b.put o.dst v).eval f=execOp b.eval f/\p9 f (yielded ops (b.put o.dst v).tmps)=p9 f (yielded ops b.tmps):=
 HO (fun cs c=>AI S.ov j f cs c l) fun t p=>by rw[xd,zI fun e=>h t e p]
theorem X7.pu(I:X7 P ops Dsc late mains Jp Pn G Kp D U L a b w V bk ob)(S:Bo ops late mains)(q:ops[i]? = some o)(hi:i∉D)(h1:i∉late)(h2:i∉mains)(hd:∀k∈zd ops i,k∈D){c:Value}{J:World->Prop} (hc:(p9 o (yielded ops b.tmps)=true/\∀w,J w->(execOp b.eval o).run P w = .ok (.value c) w)∨(p9 o (yielded ops b.tmps)=false/\c=undef)) (hJ:∀w,G w->J w):X7 P ops Dsc late mains (wb Jp i J) (i::Pn) G Kp (i::D) U L a (b.put o.dst c) w V bk ob:=by
 have hsz:i<ops.size:=(aT.1 q).1;have hnl:L.getD i false=false:=by
  cases h:L.getD i false with
  |false=>rfl|true=>exact absurd (I.sub i h) hi
 have mem:∀{k},k∈i::D->k≠i->k∈D:=fun h F=>(aN.1 h).resolve_left F
 have far:∀{j C},j∈D->ops[j]? = some C->∀d,o.dst=some d->d∉C.looksAt ops:=fun {j C} r l d H K=>by
  obtain⟨_,h|⟨h,_⟩⟩:=S.look j i C o d l q H K
  ·exact hi (wG I.DC r h.1)
  ·exact h2 h
 refine { I with sub:=fun k hk=>aM _ (I.sub k hk),lt:=fun k hk=>?_,DC:=fun k hk j r=>?_,Ma:=fun k hk A=>?_,da:=fun k hk A hu=>?_,uD:=fun k hk=>⟨aM _ (I.uD k hk).1,(I.uD k hk).2⟩,pp:=fun k hk A K F ok f=>?_,lu:=fun k hk F ok f=>?_,lf:=fun k hk K=>?_,other:=fun s p=>?_,defers:=?_,pn:=fun k hk A K F=>?_,gj:=fun k hk u hu=>?_ }
 ·rcases aN.1 hk with rfl|hk
  ·exact hsz
  ·exact I.lt k hk
 ·rcases aN.1 hk with rfl|hk
  ·exact aM _ (hd j r)
  ·exact aM _ (I.DC k hk j r)
 ·exact I.Ma k (mem hk fun e=>h2 (e▸A)) A
 ·exact I.da k (mem hk fun e=>h1 (e▸A)) A hu
 ·by_cases e:k=i
  ·subst e;have:ok=o:=ka (f.symm.trans q);subst this;have O:∀d,ok.dst=some d->d∉ok.looksAt ops:=fun d H hll=>(S.look k k ok ok d q q H hll).1 rfl;obtain⟨R,X⟩:=rJ (b:=b) (v:=c) S q O;refine⟨c,by rw[R,X,show wb Jp k J k=J by unfold wb;rw[zJ rfl]];exact hc,fun s p=>?_⟩;rw[xd,zJ p];rw[<-I.other s fun j C r l hdj=>?_];by_cases Y:j=k
   ·subst Y;exact absurd r.1 hi
   ·exact S.dst j k C ok s l q p (Ne.symm Y) hdj
  ·obtain⟨c',g1,g2⟩:=I.pp k (mem hk e) A K F ok f;obtain⟨R,X⟩:=rJ (b:=b) (v:=c) S f (far (mem hk e) f);refine⟨c',by rw[R,X,show wb Jp i J k=Jp k by unfold wb;rw[zI e]];exact g1,fun s p=>?_⟩;rw[xd,zI (S.dst i k o ok s q f p e)];exact g2 s p
 ·obtain⟨R,X⟩:=rJ (b:=b) (v:=c) S f (far (I.uD k hk).1 f);rw[R,X];exact I.lu k hk F ok f
 ·obtain⟨g1,g2,g3,g4⟩:=I.lf k hk K;refine⟨g1,g2,g3,fun ok s f p=>?_⟩;have e:k≠i:=fun e=>hi (e▸(I.uD k hk).1);rw[xd,zI (S.dst i k o ok s q f p e)];exact g4 ok s f p
 ·by_cases Z:o.dst=some s
  ·exact absurd Z (p i o ⟨aO,.inr ⟨h2,h1,hnl⟩⟩ q)
  ·rw[xd,zI Z];exact I.other s fun j C r l=>p j C ⟨aM _ r.1,r.2⟩ l
 ·rw[I.defers];cases o.dst<;>rfl
 ·by_cases e:k=i
  ·subst e;exact aO
  ·exact aM _ (I.pn k (mem hk e) A K F)
 ·by_cases e:k=i
  ·subst e;rw[show wb Jp k J k=J by unfold wb;rw[zJ rfl]];exact hJ u hu
  ·rw[show wb Jp i J k=Jp k by unfold wb;rw[zI e]];exact I.gj k ((aN.1 hk).resolve_left e) u hu
theorem X7.la(I:X7 P ops Dsc late mains Jp Pn G Kp D U L a b w V bk ob)(R:ops[i]? = some o)(hi:i∉D)(H:i∈late)(h2:i∉mains)(hd:∀k∈zd ops i,k∈D) {A:Value->Nat->Obj->Prop} (hc:p9 o (yielded ops b.tmps)=true/\∀w,∃v k x w',(execOp b.eval o).run P w = .ok (.value v) w'/\Ext w w'/\w.heap.size<=k/\w'.heap[k]? = some x/\A v k x):X7 P ops (al Dsc i A) late mains Jp Pn G Kp (i::D) (i::U) L a b w V bk ob:=by
 have C:∀{k},k∈U->al Dsc i A k=Dsc k:=fun {k} hk=>by have:k≠i:=fun e=>hi (e▸(I.uD k hk).1);unfold al;rw[zI this]
 have J:i<ops.size:=(aT.1 R).1;have K:L.getD i false=false:=by
  cases h:L.getD i false with
  |false=>rfl|true=>exact absurd (I.sub i h) hi
 have f:∀{k},k∈i::U->L.getD k false=true->k∈U:=fun {k} hk l=>by
  rcases aN.1 hk with rfl|hk
  ·rw[K]at l;cases l
  ·exact hk
 refine { I with sub:=fun k hk=>aM _ (I.sub k hk),lt:=fun k hk=>?_,DC:=fun k hk j r=>?_,Ma:=fun k hk q=>?_,da:=fun k hk q X=>?_,uD:=fun k hk=>?_,pp:=fun k hk q l F ok p=>?_,lu:=fun k hk F ok p=>?_,lf:=fun k hk l=>(by rw[C (f hk l)];exact I.lf k (f hk l) l),lj:=fun k hk j r Y Z=>I.lj k (f hk Y) j (f r Z) Y Z,other:=fun s hs=>?_,pn:=fun k hk q l F=>?_ }
 ·rcases aN.1 hk with rfl|hk
  ·exact J
  ·exact I.lt k hk
 ·rcases aN.1 hk with rfl|hk
  ·exact aM _ (hd j r)
  ·exact aM _ (I.DC k hk j r)
 ·rcases aN.1 hk with rfl|hk
  ·exact absurd q h2
  ·exact I.Ma k hk q
 ·rcases aN.1 hk with rfl|hk
  ·exact absurd aO X
  ·exact I.da k hk q fun h=>X (aM _ h)
 ·rcases aN.1 hk with rfl|hk
  ·exact⟨aO,H⟩
  ·exact⟨aM _ (I.uD k hk).1,(I.uD k hk).2⟩
 ·rcases aN.1 hk with rfl|hk
  ·exact absurd H l
  ·exact I.pp k hk q l F ok p
 ·rcases aN.1 hk with rfl|hk
  ·have:ok=o:=ka (p.symm.trans R);subst this;rw[show al Dsc k A k=A by unfold al;rw[zJ rfl]];exact hc
  ·rw[C hk];exact I.lu k hk F ok p
 ·refine I.other s fun j oj r O=>hs j oj ⟨aM _ r.1,r.2.imp (fun h=>⟨aM _ h.1,h.2⟩) id⟩ O
 ·rcases aN.1 hk with rfl|hk
  ·exact absurd H l
  ·exact I.pn k hk q l F
theorem X7.Wv(_I:X7 P ops Dsc late mains Jp Pn G Kp D U L a b w V bk ob)(S:Bo ops late mains)(j:ops[i]? = some o)(hi:i∈late){k:Nat}{ok:Oper}(f:ops[k]? = some ok)(hk:k∉mains):∀d,o.dst=some d->d∉ok.looksAt ops:=fun d l p=>by
 obtain⟨_,h|h⟩:=S.look k i ok o d f j l p
 ·exact hk (h.2 hi)
 ·exact S.nN i hi h.1
theorem X7.exP(I:X7 P ops Dsc late mains Jp Pn G Kp D U L a b w V bk ob)(S:Bo ops late mains)(Y:ops[i]? = some o)(hi:i∈D)(h1:i∉late)(hd:∀k∈zd ops i,L.getD k false=true){c:Value} (hc:∀s,o.dst=some s->b.tmps[s]? = (a.tmps[s]?).map fun _=>c):X7 P ops Dsc late mains Jp Pn G Kp D U (L.setIfInBounds i true) (a.put o.dst c) b w V bk ob:=by
 have l:i<L.size:=by rw[I.size];exact(aT.1 Y).1
 have up:∀{k},L.getD k false=true->(L.setIfInBounds i true).getD k false=true:=fun h=>(dh l _).2 (.inl h);have Z:∀{k},k∈U->(L.setIfInBounds i true).getD k false=true->L.getD k false=true:=fun {k} f h=>((dh l _).1 h).resolve_right fun e=>h1 (e▸(I.uD k f).2);refine { I with size:=by simp[I.size],sub:=fun k f=>?_,Vv:=fun k f j r=>?_,Ma:=fun k f A=>up (I.Ma k f A),da:=fun k f A hu=>up (I.da k f A hu),pp:=fun k f A H C ok p=>?_,lu:=fun k f C ok p=>I.lu k f (HC l C).1 ok p,lf:=fun k f H=>?_,lj:=fun k f j r J K=>I.lj k f j r (Z f J) (Z r K),other:=fun s F=>?_,defers:=?_,pn:=fun k f A H C=>I.pn k f A H (HC l C).1 }
 ·rcases(dh l k).1 f with h|rfl
  ·exact I.sub k h
  ·exact hi
 ·rcases(dh l k).1 f with h|rfl
  ·exact up (I.Vv k h j r)
  ·exact up (hd j r)
 ·obtain⟨C,hne⟩:=HC l C;obtain⟨c',J,K⟩:=I.pp k f A H C ok p;refine⟨c',J,fun s F=>?_⟩;rw[xd,zI (S.dst i k o ok s Y p F hne)];exact K s F
 ·obtain⟨J,K,g3,g4⟩:=I.lf k f (Z f H);refine⟨J,K,g3,fun ok s p F=>?_⟩;rw[xd,zI (S.dst i k o ok s Y p F fun e=>h1 (e▸(I.uD k f).2))];exact g4 ok s p F
 ·rw[xd];by_cases q:o.dst=some s
  ·rw[zJ q];exact(hc s q).symm
  ·rw[zI q];refine I.other s fun j oj r O R=>?_;by_cases X:j=i
   ·subst X;exact q (by rw[<-ka (O.symm.trans Y)];exact R)
   ·refine F j oj ⟨r.1,r.2.imp (fun h=>⟨h.1,up h.2⟩) fun h=>⟨h.1,h.2.1,?_⟩⟩ O R;rw[getD_set_ne false (Ne.symm X)];exact h.2.2
 ·rw[<-I.defers];cases o.dst<;>rfl
theorem X7.exL(I:X7 P ops Dsc late mains Jp Pn G Kp D U L a b w V bk ob)(S:Bo ops late mains)(R:ops[i]? = some o)(hi:i∈U)(A:L.getD i false=false)(hd:∀k∈zd ops i,L.getD k false=true){v:Value}{k:Nat}{x:Obj}{w':World} (hx:Ext w w') (hk:w.heap.size<=k) (hh:w'.heap[k]? = some x) (hD:Dsc i v k x):X7 P ops Dsc late mains Jp Pn G Kp D U (L.setIfInBounds i true) (a.put o.dst v) b w' (fun t=>if t=i then v else V t) (fun t=>if t=i then k else bk t) (fun t=>if t=i then x else ob t):=by
 have f:i<L.size:=by rw[I.size];exact(aT.1 R).1
 have hil:=(I.uD i hi).2;have up:∀{k},L.getD k false=true->(L.setIfInBounds i true).getD k false=true:=fun h=>(dh f _).2 (.inl h);have lt:∀{t},t∈U->L.getD t false=true->bk t<w.heap.size:=fun {t} C J=>(aT.1 (I.lf t C J).2.1).1;refine { I with size:=by simp[I.size],sub:=fun k hk=>?_,Vv:=fun k hk j r=>?_,Ma:=fun k hk K=>up (I.Ma k hk K),da:=fun k hk K hu=>up (I.da k hk K hu),pp:=fun t C K J A ok l=>?_,lu:=fun k hk A ok l=>I.lu k hk (HC f A).1 ok l,lf:=fun t C J=>?_,lj:=fun t C j r Y X e=>?_,other:=fun s q=>?_,defers:=?_,gw:=I.gx _ _ I.gw hx,pn:=fun k hk K J A=>I.pn k hk K J (HC f A).1 }
 ·rcases(dh f k).1 hk with h|rfl
  ·exact I.sub k h
  ·exact(I.uD k hi).1
 ·rcases(dh f k).1 hk with h|rfl
  ·exact up (I.Vv k h j r)
  ·exact up (hd j r)
 ·obtain⟨A,hne⟩:=HC f A;obtain⟨c',Y,X⟩:=I.pp t C K J A ok l;refine⟨c',Y,fun s q=>?_⟩;rw[xd,zI (S.dst i t o ok s R l q hne)];exact X s q
 ·by_cases e:t=i
  ·subst e;simp only[if_true];refine⟨hD,hh,fun hK=>absurd (I.gk w I.gw k hK) (by omega),fun ok s l q=>?_⟩;have:ok=o:=ka (l.symm.trans R);subst this;rw[xd,zJ q,I.other s fun j oj r F H=>?_];by_cases Z:j=t
   ·subst Z;rcases r.2 with⟨_,h⟩|⟨_,h,_⟩
    ·rw[A]at h;cases h
    ·exact h hil
   ·exact S.dst j t oj ok s F l q (Ne.symm Z) H
  ·simp only[zI e];have p:L.getD t false=true:=((dh f _).1 J).resolve_right e;obtain⟨Y,X,g3,g4⟩:=I.lf t C p;refine⟨Y,by rw[hx.block _ (lt C p)];exact X,g3,fun ok s l q=>?_⟩;rw[xd,zI (S.dst i t o ok s R l q e)];exact g4 ok s l q
 ·by_cases e1:t=i
  ·by_cases O:j=i
   ·rw[e1,O]
   ·have p:L.getD j false=true:=((dh f _).1 X).resolve_right O;have:=lt r p;simp only[e1,if_true,zI O]at e;omega
  ·have p:L.getD t false=true:=((dh f _).1 Y).resolve_right e1;by_cases O:j=i
   ·have:=lt C p;simp only[O,if_true,zI e1]at e;omega
   ·simp only[zI e1,zI O]at e;exact I.lj t C j r p (((dh f _).1 X).resolve_right O) e
 ·have hds:o.dst≠some s:=q i o ⟨(I.uD i hi).1,.inl ⟨hi,(dh f i).2 (.inr rfl)⟩⟩ R;rw[xd,zI hds];refine I.other s fun j oj r F H=>?_;by_cases hji:j=i
  ·subst hji;exact hds (by rw[<-ka (F.symm.trans R)];exact H)
  ·refine q j oj ⟨r.1,r.2.imp (fun h=>⟨h.1,up h.2⟩) fun h=>⟨h.1,h.2.1,?_⟩⟩ F H;rw[getD_set_ne false (Ne.symm hji)];exact h.2.2
 ·rw[<-I.defers];cases o.dst<;>rfl
theorem X7.rv(I:X7 P ops Dsc late mains Jp Pn G Kp D U L a b w V bk ob)(S:Bo ops late mains)(H:ops[i]? = some o)(hi:i∈U)(X:L.getD i false=true){J:World->Prop}{A:Nat->Prop} (g1:∀w,G w->w.heap[bk i]? = some (ob i)->J w) (g2:∀j∈Pn,∀w,J w->Jp j w) (g3:∀u u',J u->Ext u u'->J u') (g4:∀u,J u->∀k,A k->k<u.heap.size) (g5:∀c,A c->Kp c∨c=bk i):
  X7 P ops Dsc late mains Jp Pn J A D (U.filter fun u=>u != i) L a (b.put o.dst (V i)) w V bk ob:=by
 have mem:∀{k},k∈U.filter (fun u=>u != i)->k∈U/\k≠i:=fun h=>by simpa using cE.1 h
 have C:=(I.uD i hi).2;refine { I with da:=fun k l Y hu=>?_,uD:=fun k l=>I.uD k (mem l).1,pp:=fun k l Y p hn ok f=>?_,lu:=fun k l hn ok f=>?_,lf:=fun k l p=>?_,lj:=fun k l j Z=>I.lj k (mem l).1 j (mem Z).1,other:=fun s F=>?_,defers:=?_,gw:=g1 w I.gw (I.lf i hi X).2.1,gj:=g2,gx:=g3,gk:=g4 }
 ·by_cases e:k=i
  ·subst e;exact X
  ·exact I.da k l Y fun h=>hu (cE.2 ⟨h,by simp[e]⟩)
 ·have q:k≠i:=fun e=>p (e▸C);obtain⟨c',h1,h2⟩:=I.pp k l Y p hn ok f;obtain⟨e1,e2⟩:=rJ (b:=b) (v:=V i) S f (I.Wv S H C f Y);refine⟨c',by rw[e1,e2];exact h1,fun s F=>?_⟩;rw[xd,zI (S.dst i k o ok s H f F q)];exact h2 s F
 ·obtain⟨l,q⟩:=mem l;obtain⟨e1,e2⟩:=rJ (b:=b) (v:=V i) S f (I.Wv S H C f (S.nN k (I.uD k l).2));rw[e1,e2];exact I.lu k l hn ok f
 ·obtain⟨l,q⟩:=mem l;obtain⟨h1,h2,h3,h4⟩:=I.lf k l p;refine⟨h1,h2,fun hK=>?_,fun ok s f F=>?_⟩
  ·rcases g5 _ hK with h|h
   ·exact h3 h
   ·exact q (I.lj k l i hi p X h)
  ·rw[xd,zI (S.dst i k o ok s H f F q)];exact h4 ok s f F
 ·by_cases r:o.dst=some s
  ·rw[xd,zJ r];exact(I.lf i hi X).2.2.2 o s H r
  ·rw[xd,zI r];refine I.other s fun j oj Z K O=>?_;by_cases R:j=i
   ·subst R;exact r (by rw[<-ka (K.symm.trans H)];exact O)
   ·exact F j oj ⟨Z.1,Z.2.imp (fun h=>⟨cE.2 ⟨h.1,by simp[R]⟩,h.2⟩) id⟩ K O
 ·rw[I.defers];cases o.dst<;>rfl
theorem X7.exM(I:X7 P ops Dsc late mains Jp Pn G Kp D U L a b w V bk ob)(S:Bo ops late mains)(R:ops[i]? = some o)(hi:i∉D)(F:i∈mains)(hd:∀k∈zd ops i,L.getD k false=true){v:Value}{w':World}{G':World->Prop}{X:Nat->Prop} (g1:∀j∈qJ ops i Pn,∀u,G' u->Jp j u) (g2:∀u u',G' u->Ext u u'->G' u') (g3:∀u,G' u->∀k,X k->k<u.heap.size) (g4:G' w') (g5:∀k,X k->Kp k∨w.heap.size<=k) (g6:∀k,k<w.heap.size->¬Kp k->w'.heap[k]? = w.heap[k]?):
  X7 P ops Dsc late mains Jp (qJ ops i Pn) G' X (i::D) U (L.setIfInBounds i true) (a.put o.dst v) (b.put o.dst v) w' V bk ob:=by
 have l:i<L.size:=by rw[I.size];exact(aT.1 R).1
 have hnl:i∉late:=fun h=>S.nN i h F;have up:∀{k},L.getD k false=true->(L.setIfInBounds i true).getD k false=true:=fun h=>(dh l _).2 (.inl h);have dn:∀{k},k∈U->(L.setIfInBounds i true).getD k false=true->L.getD k false=true:=fun {k} hk h=>((dh l _).1 h).resolve_right fun e=>hnl (e▸(I.uD k hk).2);have mem:∀{k},k∈i::D->k≠i->k∈D:=fun h q=>(aN.1 h).resolve_left q
 have far:∀{k ok},k∈D->L.getD k false=false->ops[k]? = some ok->∀d,o.dst=some d->d∉ok.looksAt ops:=fun {k ok} hk q f d hdd Y=>by
  obtain⟨_,h|h⟩:=S.look k i ok o d f R hdd Y
  ·exact hi (wG I.DC hk h.1)
  ·have:=mU I.Vv hd h.2;rw[q]at this;cases this
 have ne:∀{k},k∈D->k≠i:=fun hk e=>hi (e▸hk);refine { size:=by simp[I.size],sub:=fun k hk=>?_,lt:=fun k hk=>?_,DC:=fun k hk j r=>?_,Vv:=fun k hk j r=>?_,Ma:=fun k hk F=>?_,da:=fun k hk F hu=>?_,uD:=fun k hk=>⟨aM _ (I.uD k hk).1,(I.uD k hk).2⟩,pp:=fun k hk F Y q ok f=>?_,lu:=fun k hk q ok f=>?_,lf:=fun k hk Y=>?_,lj:=fun k hk j r Z J=>I.lj k hk j r (dn hk Z) (dn r J),other:=fun s H=>?_,defers:=?_,gw:=g4,pn:=fun k hk F Y q=>?_,gj:=g1,gx:=g2,gk:=g3 }
 ·rcases(dh l k).1 hk with h|rfl
  ·exact aM _ (I.sub k h)
  ·exact aO
 ·rcases aN.1 hk with rfl|hk
  ·rw[<-I.size];exact l
  ·exact I.lt k hk
 ·rcases aN.1 hk with rfl|hk
  ·exact aM _ (I.sub j (hd j r))
  ·exact aM _ (I.DC k hk j r)
 ·rcases(dh l k).1 hk with h|rfl
  ·exact up (I.Vv k h j r)
  ·exact up (hd j r)
 ·by_cases e:k=i
  ·subst e;exact(dh l k).2 (.inr rfl)
  ·exact up (I.Ma k (mem hk e) F)
 ·have e:k≠i:=fun e=>hnl (e▸F);exact up (I.da k (mem hk e) F hu)
 ·obtain⟨q,p⟩:=HC l q;have hkD:=mem hk p;obtain⟨c',Z,J⟩:=I.pp k hkD F Y q ok f;obtain⟨e1,e2⟩:=rJ (b:=b) (v:=v) S f (far hkD q f);refine⟨c',by rw[e1,e2];exact Z,fun s H=>?_⟩;rw[xd,xd,zI (S.dst i k o ok s R f H p),zI (S.dst i k o ok s R f H p)];exact J s H
 ·obtain⟨q,p⟩:=HC l q;obtain⟨e1,e2⟩:=rJ (b:=b) (v:=v) S f (far (I.uD k hk).1 q f);rw[e1,e2];obtain⟨Z,J⟩:=I.lu k hk q ok f;exact⟨Z,J⟩
 ·obtain⟨Z,J,h3,h4⟩:=I.lf k hk (dn hk Y);have hlt:=(aT.1 J).1;refine⟨Z,by rw[g6 _ hlt h3];exact J,fun hK=>?_,fun ok s f H=>?_⟩
  ·rcases g5 _ hK with h|h
   ·exact h3 h
   ·omega
  ·have p:=ne (I.uD k hk).1;rw[xd,xd,zI (S.dst i k o ok s R f H p),zI (S.dst i k o ok s R f H p)];exact h4 ok s f H
 ·have K:(∀j O,j≠i->Uv late mains D U L j->ops[j]? = some O->O.dst≠some s)->a.tmps[s]? = b.tmps[s]?:=fun h=>I.other s fun j O r A=>h j O (ne r.1) r A;rw[xd,xd];by_cases C:o.dst=some s
  ·rw[zJ C,zJ C,K fun j O hji r A hdj=>S.dst j i O o s A R C (Ne.symm hji) hdj]
  ·rw[zI C,zI C];refine K fun j O hji r A=>H j O ⟨aM _ r.1,r.2.imp (fun h=>⟨h.1,up h.2⟩) fun h=>⟨h.1,h.2.1,?_⟩⟩ A;rw[getD_set_ne false (Ne.symm hji)];exact h.2.2
 ·have:=I.defers;cases o.dst<;>exact this
 ·obtain⟨q,p⟩:=HC l q;refine cE.2 ⟨I.pn k (mem hk p) F Y q,?_⟩;cases h:ub ops i k with
  |false=>rfl|true=>have:=mU I.Vv hd h;rw[q]at this;cases this
theorem X7.same(I:X7 P ops Dsc late mains Jp Pn G Kp D [] L a b w V bk ob)(h:∀i,i<ops.size->L.getD i false=true):a=b:=by
 have l:a.tmps=b.tmps:=Array.ext_getElem? fun s=>I.other s fun j q p _=>by
  rcases p.2 with⟨l,_⟩|⟨_,_,f⟩
  ·cases l
  ·rw[h j (I.lt j p.1)]at f;cases f
 have f:=I.defers;cases a;cases b;simp only at l f;rw[l,f]
end
section
variable {Jp:Nat->World->Prop}{Pn:List Nat}{G:World->Prop}{Kp:Nat->Prop}{U:List Nat}{L:Array Bool}{a b:Act}{w:World}{V:Nat->Value}{bk:Nat->Nat}{ob:Nat->Obj}
theorem Xv{D:List Nat}:∀{rest:Mu} {U:List Nat} {f:Bool},y8 ops late mains rest D U f=true->(∀i s,rest≠(.pu,i)::s)->(∀i s,rest≠(.la,i)::s) ->(∀m,Ao rest=some m->m∈mains/\m∉D/\m<ops.size/\∀j,j<ops.size->j∈D∨j=m∨∃d∈zd ops j,d∉D)/\(Ao rest=none->∀j,j<ops.size->j∈D)
 |[],_,_,h,_,_=>by simp only[y8,aI,bR,dF,cI,zE]at h;exact⟨fun m l=>(by cases l),fun _=>h.2⟩
 |(.pu,i)::s,_,_,_,h1,_=>absurd rfl (h1 i s)|(.la,i)::s,_,_,_,_,q=>absurd rfl (q i s)|(.mn,i)::s,_,_,h,_,_=>by
  simp only[y8,aI,bR,dF,cI,zE,cH,bM,decide_eq_false_iff_not,eR,beq_iff_eq]at h;refine⟨fun m l=>?_,fun l=>(by cases l)⟩;cases l;refine⟨h.1.1.1.1.2,h.1.1.1.1.1.2,h.1.1.1.1.1.1,fun j r=>?_⟩;rcases h.1.1.2 j r with(h1|h1)|h1
  ·exact .inl h1
  ·exact .inr (.inl h1)
  ·exact .inr (.inr h1)
 |(.rv,i)::s,_,_,h,_,_=>by simp only[y8,aI]at h;have p:=h.2;have:=Xv (rest:=s) p (fun i A e=>by subst e;simp[y8]at p) (fun i A e=>by subst e;simp[y8]at p);exact⟨fun m l=>this.1 m l,fun l=>this.2 l⟩
theorem Yv{D:List Nat}(S:Bo ops late mains){m:Nat}:∀{rest:Mu} {U:List Nat} {f:Bool} {G:World->Prop} {Kp:Nat->Prop} {b:Act},X7 P ops Dsc late mains Jp Pn G Kp D U L a b w V bk ob->y8 ops late mains rest D U f=true->wpS P ops Q rest Dsc Jp Pn G Kp b->Ao rest=some m->(∀k∈zd ops m,L.getD k false=true) ->∃s O C A l F,X7 P ops Dsc late mains Jp Pn A l D C L a F w V bk ob/\y8 ops late mains ((.mn,m)::s) D C O=true/\wpS P ops Q ((.mn,m)::s) Dsc Jp Pn A l F
 |[],_,_,_,_,_,_,_,_,j,_=>by cases j
 |(.pu,i)::s,_,_,_,_,_,_,_,_,j,_=>by cases j
 |(.la,i)::s,_,_,_,_,_,_,_,_,j,_=>by cases j
 |(.mn,i)::s,U,f,G,Kp,b,I,h,p,j,_=>by cases j;exact⟨s,f,U,G,Kp,b,I,h,p⟩
 |(.rv,i)::s,U,f,G,Kp,b,I,h,p,j,H=>by have q:Ao s=some m:=j;simp only[y8,q,aI,cI,zE]at h;obtain⟨⟨J,r⟩,R⟩:=h;have K:=mU I.Vv H r;obtain⟨o,X,p⟩:=p;obtain⟨Y,Z,h3,_⟩:=I.lf i J K;obtain⟨A,l,g1,g2,g3,g4,g5,p⟩:=p _ _ _ Y h3 ⟨w,I.gw,Z⟩;exact Yv S (I.rv S X J K g1 g2 g3 g4 g5) R p q H
theorem Zv{D:List Nat}(S:Bo ops late mains)(j:∀i,i<ops.size->L.getD i false=true):∀{rest:Mu} {U:List Nat} {f:Bool} {G:World->Prop} {Kp:Nat->Prop} {b:Act},X7 P ops Dsc late mains Jp Pn G Kp D U L a b w V bk ob->y8 ops late mains rest D U f=true->wpS P ops Q rest Dsc Jp Pn G Kp b->Ao rest=none->(∀p∈rest,p.1 = .rv)->Q .normal a w
 |[],U,f,G,Kp,b,I,h,l,_,_=>by simp only[y8,aI,List.isEmpty_iff]at h;obtain⟨rfl,_⟩:=h;rw[I.same j];exact l w I.gw
 |(.pu,i)::s,_,_,_,_,_,_,_,_,_,q=>by cases q _ aO
 |(.la,i)::s,_,_,_,_,_,_,_,_,_,q=>by cases q _ aO
 |(.mn,i)::s,_,_,_,_,_,_,_,_,A,_=>by cases A
 |(.rv,i)::s,U,f,G,Kp,b,I,h,l,A,q=>by have r:Ao s=none:=A;simp only[y8,r,aI,cI,zE]at h;obtain⟨⟨C,_⟩,H⟩:=h;have F:=j i (I.lt i (I.uD i C).1);obtain⟨o,J,l⟩:=l;obtain⟨K,O,R,_⟩:=I.lf i C F;obtain⟨G',X,Y,Z,g3,g4,g5,l⟩:=l _ _ _ K R ⟨w,I.gw,O⟩;exact Zv S j (I.rv S J C F Y Z g3 g4 g5) H l r fun p hp=>q p (aM _ hp)
theorem Co{D:List Nat}:∀{rest:Mu} {U:List Nat} {f:Bool},y8 ops late mains rest D U f=true->(∀i s,rest≠(.pu,i)::s)->(∀i s,rest≠(.la,i)::s)->Ao rest=none->∀p∈rest,p.1 = .rv
 |[],_,_,_,_,_,_,p,hp=>by cases hp
 |(.pu,i)::s,_,_,_,r,_,_,_,_=>absurd rfl (r i s)|(.la,i)::s,_,_,_,_,A,_,_,_=>absurd rfl (A i s)|(.mn,i)::s,_,_,_,_,_,l,_,_=>by cases l
 |(.rv,i)::s,_,_,h,_,_,l,p,hp=>by
  have j:Ao s=none:=l;simp only[y8,j,aI]at h;rcases aN.1 hp with rfl|hp
  ·rfl
  ·have q:=h.2;exact Co (rest:=s) q (fun i C e=>by subst e;simp[y8]at q) (fun i C e=>by subst e;simp[y8]at q) j p hp
end
theorem CZ(S:Bo ops late mains){m:Nat}(Z:∀m',m'<m->∀(rest:Mu) (Dsc:Nat->Value->Nat->Obj->Prop) (D U:List Nat) (f:Bool) (Jp:Nat->World->Prop) (Pn:List Nat) (G:World->Prop) (Kp:Nat->Prop) (L:Array Bool) (a b:Act) (w:World) (V:Nat->Value) (bk:Nat->Nat) (ob:Nat->Obj),bh ops.size L=m'->X7 P ops Dsc late mains Jp Pn G Kp D U L a b w V bk ob->y8 ops late mains rest D U f=true->wpS P ops Q rest Dsc Jp Pn G Kp b->wpAny P .any ops Q m' L a w) {rest:Mu} {D U:List Nat} {f:Bool} {Jp:Nat->World->Prop} {Pn:List Nat} {G:World->Prop} {Kp:Nat->Prop} {L:Array Bool} {a b:Act} {w:World} {V:Nat->Value} {bk:Nat->Nat} {ob:Nat->Obj} (hm:bh ops.size L=m) (I:X7 P ops Dsc late mains Jp Pn G Kp D U L a b w V bk ob) (Y:y8 ops late mains rest D U f=true) (hw:wpS P ops Q rest Dsc Jp Pn G Kp b) (h1:∀i s,rest≠(.pu,i)::s) (h2:∀i s,rest≠(.la,i)::s):wpAny P .any ops Q m L a w:=by
 have H:=Xv Y h1 h2;have J:∀{j},j∈tG .any ops L->j<ops.size:=fun K=>by obtain⟨_,o,ho,_⟩:=mem_ready.1 K;exact(aT.1 ho).1
 have unl:∀{j},j∈tG .any ops L->L.getD j false=false:=fun {j} K=>by have hs:=J K;obtain⟨hu,_⟩:=mem_ready.1 K;rw[QM (by rw[I.size];exact hs)]at hu;exact hu
 cases m with
 |zero=>
  have O:=TM hm;have hn:Ao rest=none:=by
   cases h:Ao rest with
   |none=>rfl|some k=>obtain⟨_,g1,g2,_⟩:=H.1 k h;exact absurd (I.sub k (O k g2)) g1
  refine⟨?_,Zv S O I Y hw hn (Co Y h1 h2 hn)⟩;rw[fN];intro j K;have:=O j (J K);rw[unl K]at this;cases this
 |succ m=>
  have hex:∃i,i<ops.size/\L.getD i false=false:=by
   have:¬bh ops.size L=0:=by omega
   unfold bh at this;rw[List.countP_eq_zero]at this;have h2:∃i,¬(i∈dJ ops.size->¬((!L.getD i false)=true)):=Classical.not_forall.1 this;obtain⟨i,h⟩:=h2;by_cases hi:i<ops.size
   ·refine⟨i,hi,?_⟩;cases hp:L.getD i false with
    |false=>rfl|true=>exact absurd (fun _=>by rw[hp];simp) h
   ·exact absurd (fun hmem=>absurd (dF.1 hmem) hi) h
  have hne:tG .any ops L≠[]:=by obtain⟨i,hi,hu,hleast⟩:=TY _ hex;have hoi:ops[i]? = some ops[i]:=dO hi;have:i∈tG .any ops L:=mem_ready.2 ⟨by rw[QM (by rw[I.size];exact hi)];exact hu,_,hoi,fun e he Y=>hleast _ (S.Z8 i hi _ (by rw[lU hoi];exact NM.2 ⟨e,he,Y,rfl⟩))⟩;intro h0;rw[h0]at this;cases this
  refine⟨fun h0=>absurd h0 hne,fun j K=>?_⟩;have hjs:=J K;have r:=unl K;obtain⟨_,oj,p,hdone⟩:=mem_ready.1 K;have l:∀k∈zd ops j,L.getD k false=true:=fun k hk=>by rw[lU p]at hk;obtain⟨e,he,Y,hon⟩:=NM.1 hk;rw[<-hon];exact hdone e he Y
  have hcount:=SY hjs (by rw[I.size];exact hjs) r;have A:j∈D∨Ao rest=some j:=by
   cases h:Ao rest with
   |none=>exact .inl (H.2 h j hjs)|some k=>
    rcases(H.1 k h).2.2.2 j hjs with h3|h3|⟨d,h3,h4⟩
    ·exact .inl h3
    ·exact .inr (by rw[h3])
    ·exact absurd (I.sub d (l d h3)) h4
  unfold wpOp;simp only[p];rcases A with A|F
  ·by_cases R:j∈late
   ·have hjU:j∈U:=Classical.byContradiction fun h=>by have:=I.da j A R h;rw[r]at this;cases this
    obtain⟨q,X⟩:=I.lu j hjU r oj p;obtain⟨v,k,x,w',g1,g2,g3,g4,g5⟩:=X w;obtain⟨he,C⟩:=I.BZ S p l (fun h=>absurd h (S.nN j R));rw[zJ (by rw[C];exact q)];refine .inl ?_;unfold Oper.wp;rw[he,g1];exact Z m (by omega) rest Dsc D U f Jp Pn G Kp _ _ b w' _ _ _ (by omega) (I.exL S p hjU r l g2 g3 g4 g5) Y hw
   ·by_cases F:j∈mains
    ·have:=I.Ma j A F;rw[r]at this;cases this
    ·obtain⟨c,hc,hs⟩:=I.pp j A F R r oj p;obtain⟨he,C⟩:=I.BZ S p l (fun h=>absurd h F);have next:=Z m (by omega) rest Dsc D U f Jp Pn G Kp _ _ b w _ _ _ (by omega) (I.exP S p A R l hs) Y hw
     rcases hc with⟨q,X⟩|⟨q,rfl⟩
     ·rw[zJ (by rw[C];exact q)];refine .inl ?_;unfold Oper.wp;rw[he,X w (I.gj j (I.pn j A F R r) w I.gw)];exact next
     ·rw[zI (by rw[C,q];simp)];exact next
  ·obtain⟨s,f',U',G',Kp',b',I',hb',hw'⟩:=Yv S I Y hw F l;obtain⟨o,ho,hw'⟩:=hw';have:o=oj:=ka (ho.symm.trans p);subst this;simp only[y8,aI,bR,dF,cI,zE,bM,decide_eq_false_iff_not]at hb';obtain⟨⟨⟨⟨⟨⟨hb1,hb2⟩,hb3⟩,hb4⟩,hb5⟩,hb6⟩,hb7⟩:=hb'
   obtain⟨he,C⟩:=I'.BZ S p l (fun _ u hu d hd hl=>by
    have:=hb6 u hu;rw[hd]at this;simp only[bM,decide_eq_false_iff_not]at this
    exact this (by unfold Rf;rw[p];exact hl))
   rcases hw' w I'.gw with⟨q,hout⟩|⟨q,hrest⟩
   ·rw[zJ (by rw[C];exact q)];refine .inl ?_;rw[<-he]at hout;exact NT hout fun v w' ⟨G2,K2,g1,g2,g3,g4,g5,g6,hws⟩=>Z m (by omega) s Dsc (j::D) U' false Jp _ G2 K2 _ _ _ w' _ _ _ (by omega) (I'.exM S p hb2 hb3 l g1 g2 g3 g4 g5 g6) hb7 hws
   ·rw[zI (by rw[C,q];simp)];exact Z m (by omega) s Dsc (j::D) U' false Jp _ G' Kp' _ _ _ w _ _ _ (by omega) (I'.exM S p hb2 hb3 l (fun t ht=>I'.gj t (cE.1 ht).1) I'.gx I'.gk I'.gw (fun _ h=>.inl h) (fun _ _ _=>rfl)) hb7 hrest
theorem dl(S:Bo ops late mains)(m:Nat):∀(rest:Mu) (Dsc:Nat->Value->Nat->Obj->Prop) (D U:List Nat) (f:Bool) (Jp:Nat->World->Prop) (Pn:List Nat) (G:World->Prop) (Kp:Nat->Prop) (L:Array Bool) (a b:Act) (w:World) (V:Nat->Value) (bk:Nat->Nat) (ob:Nat->Obj),bh ops.size L=m->X7 P ops Dsc late mains Jp Pn G Kp D U L a b w V bk ob->y8 ops late mains rest D U f=true->wpS P ops Q rest Dsc Jp Pn G Kp b ->
  wpAny P .any ops Q m L a w:=by
 induction m using Nat.strongRecOn with
 |_ m l=>
  intro rest;induction rest with
  |nil=>intro Dsc D U f Jp Pn G Kp L a b w V bk ob q I j h;exact CZ S l q I j h (fun _ _ e=>by cases e) (fun _ _ e=>by cases e)|cons p s r=>
   intro Dsc D U f Jp Pn G Kp L a b w V bk ob q I j h;obtain⟨k,i⟩:=p;cases k with
   |pu=>obtain⟨o,c,J,C,F,X,h⟩:=h;simp only[y8,aI,bR,cI,zE,bM,decide_eq_false_iff_not]at j;obtain⟨⟨⟨⟨⟨⟨Y,Z⟩,H⟩,A⟩,h5⟩,K⟩,O⟩:=j;exact r _ _ _ _ _ _ _ _ _ _ _ _ _ _ _ q (I.pu S C H A h5 K F X) O h
   |la=>obtain⟨o,Di,C,R,F,h⟩:=h;simp only[y8,aI,bR,cI,zE,bM,decide_eq_false_iff_not]at j;obtain⟨⟨⟨⟨⟨Y,Z⟩,H⟩,A⟩,K⟩,O⟩:=j;exact r _ _ _ _ _ _ _ _ _ _ _ _ _ _ _ q (I.la C H A (S.nN i A) K ⟨R,F⟩) O h
   |rv=>exact CZ S l q I j h (fun _ _ e=>by cases e) (fun _ _ e=>by cases e)|mn=>exact CZ S l q I j h (fun _ _ e=>by cases e) (fun _ _ e=>by cases e)
theorem Yr{l:List Oper}{a:Act}{w:World}{rest:Mu}{Jp:Nat->World->Prop}{G:World->Prop}{Kp:Nat->Prop}(p:zo l.toArray late mains=true)(q:y8 l.toArray late mains rest [] [] false=true)(r:wpS P l.toArray (j5 Q) rest Dsc Jp [] G Kp a) (A:G w.drew) (C:∀u h,G u->Ext u h->G h) (F:∀u,G u->∀k,Kp k->k<u.heap.size):b9 P l Q a w:=by
 unfold b9;have f:∀j,(Array.replicate l.toArray.size false).getD j false=false:=fun j=>getD_replicate_false _ _;refine dl (EC p) _ rest Dsc [] [] false Jp [] G Kp _ a a _ (fun _=>undef) (fun _=>0) (fun _=>default) ?_ ?_ q r
 ·unfold bh;rw[List.countP_eq_length.2 (fun j _=>by rw[f];rfl)];simp
 ·exact { size:=(by simp),sub:=fun i hi=>(by rw[f]at hi;cases hi),lt:=fun i hi=>(by cases hi),DC:=fun i hi=>(by cases hi),Vv:=fun i hi=>(by rw[f]at hi;cases hi),Ma:=fun i hi=>(by cases hi),da:=fun i hi=>(by cases hi),uD:=fun i hi=>(by cases hi),pp:=fun i hi=>(by cases hi),lu:=fun i hi=>(by cases hi),lf:=fun i hi=>(by cases hi),lj:=fun i hi=>(by cases hi),other:=fun s _=>rfl,defers:=rfl,gw:=A,pn:=fun i hi=>(by cases hi),gj:=fun i hi=>(by cases hi),gx:=C,gk:=F }
end
end Go.Proofs.YtopanhneegpgcaaGreatDoor
namespace Go.Proofs.YtopanhneegpgcaaGreatDoor.Am
open Go Go.RowKit
inductive Ty where
 |i (k:IntKind)|b|s|er|sl (e:Ty)|pr (a c:Ty)|un|mp (a c:Ty)
def den:Ty->Type
 |.i k=>match k with
  |.u8=>UInt8 | .u16=>UInt16 | .u32=>UInt32 | .u64=>UInt64|.i8=>Int | .i16=>Int | .i32=>Int | .i64=>Int
 |.b=>Bool|.s=>Bs|.er=>Bool|.sl e=>List (den e)|.pr a c=>den a×den c|.un=>Unit|.mp a c=>List (den a×den c)
def Zr(a c:IntKind):Option (PLift (a=c)):=match a,c with
 |.i8,.i8=>some ⟨rfl⟩ | .i16,.i16=>some ⟨rfl⟩ | .i32,.i32=>some ⟨rfl⟩ | .i64,.i64=>some ⟨rfl⟩|.u8,.u8=>some ⟨rfl⟩ | .u16,.u16=>some ⟨rfl⟩ | .u32,.u32=>some ⟨rfl⟩ | .u64,.u64=>some ⟨rfl⟩|_,_=>none
def P7:(a c:Ty)->Option (PLift (a=c))
 |.i k,.i f=>match Zr k f with
  |some ⟨h⟩=>some ⟨by rw[h]⟩|none=>none
 |.b,.b=>some ⟨rfl⟩|.s,.s=>some ⟨rfl⟩|.un,.un=>some ⟨rfl⟩|.er,.er=>some ⟨rfl⟩|.sl a,.sl c=>match P7 a c with
  |some ⟨h⟩=>some ⟨by rw[h]⟩|none=>none
 |.pr a x,.pr c y=>match P7 a c,P7 x y with
  |some ⟨h⟩,some ⟨k⟩=>some ⟨by rw[h,k]⟩|_,_=>none
 |.mp a x,.mp c y=>match P7 a c,P7 x y with
  |some ⟨h⟩,some ⟨k⟩=>some ⟨by rw[h,k]⟩|_,_=>none
 |_,_=>none
def Ob{a c:Ty}(h:a=c)(x:den a):den c:=h▸x
def l0:Ty->Nat
 |.pr a c=>l0 a+l0 c|.un=>0|_=>1
def one:Ty->Bool
 |.pr _ _=>false|.un=>false|_=>true
def c6:(k:IntKind)->den (.i k)->Int
 |.u8,x=>((x:UInt8).toNat:Int)|.u16,x=>((x:UInt16).toNat:Int)|.u32,x=>((x:UInt32).toNat:Int)|.u64,x=>((x:UInt64).toNat:Int)|.i8,x=>x|.i16,x=>x|.i32,x=>x|.i64,x=>x
def Sf:(k:IntKind)->Int->den (.i k)
 |.u8,x=>i8 x|.u16,x=>i16 x|.u32,x=>i32 x|.u64,x=>i64 x|.i8,x=>IntKind.i8.wrap x|.i16,x=>IntKind.i16.wrap x|.i32,x=>IntKind.i32.wrap x|.i64,x=>P0 x
def oN:(k:IntKind)->Int->den (.i k)
 |.u8,x=>i8 x|.u16,x=>i16 x|.u32,x=>i32 x|.u64,x=>i64 x|.i8,x=>x|.i16,x=>x|.i32,x=>x|.i64,x=>x
abbrev b8:List Ty->Type
 |[]=>Unit|[t]=>den t|t::f::l=>den t×b8 (f::l)
inductive Sh where
 |h (t:Ty)
 |own (id:Nat)
 |ptr (id off:Nat)
 |v7
 |Y'
 |mpr (id:Nat)
 /-- a slice without room behind its end -/
 |hc (e:Ty)
 /-- a pointer to what is only read -/
 |hr (t:Ty)
 |fn (f:Nat) (a c:List Sh)
 |ag (l:List Sh)
 /-- a list of pointers to the members of a family -/
 |fs (id:Nat)
 /-- this number -/
 |kn (k:IntKind) (n:Int)
inductive FC where
 |h (t:Ty)|mpr (id:Nat)
inductive x6 where
 |N' (T:TypeId) (l:List FC)|mp (K V:Ty)
inductive X3 where
 |N' (T:TypeId) (l:List Sh)
 |H' (e:Ty) (T:TypeId)
 /-- kp: no new key came since -/
 |mp (kp:Bool) (K V:Ty)
 /-- a range over object k, a map -/
 |it (k:Nat) (kp:Bool) (K:Ty)
 |is
 /-- an own slice whose first ns may be gone -/
 |qu (e:Ty) (T:TypeId)
 /-- a family: its list's type, its members' blocks -/
 |U4 (T:TypeId) (os:List x6)
 |dead
structure c7 where
 sl:List (Nat×Sh)
 hp:List X3
def Sh.fl:Sh->List Ty
 |.h t=>[t]|.hc e=>[.sl e]|.hr t=>[t]|_=>[]
def Sh.xe:Sh->List Ty
 |.fn _ a c=>a.flatMap Sh.fl++c.flatMap Sh.fl|x=>x.fl
def Sh.o8:Sh->List Ty
 |.ag l=>l.flatMap Sh.xe|x=>x.xe
def nU:List Ty->Ty
 |[]=>.un|[t]=>t|t::f::l=>.pr t (nU (f::l))
def oU:(l:List Ty)->den (nU l)->b8 l
 |[],_=>()|[_],x=>x|_::f::l,x=>(x.1,oU (f::l) x.2)
def pU:(l:List Ty)->b8 l->den (nU l)
 |[],_=>()|[_],x=>x|_::f::l,x=>(x.1,pU (f::l) x.2)
theorem Eo:∀(l:List Ty) (x:b8 l),oU l (pU l x)=x
 |[],_=>rfl|[_],_=>rfl|_::f::l,x=>by show(x.1,oU (f::l) (pU (f::l) x.2))=x;rw[Eo (f::l) x.2]
def FC.up:FC->Sh
 |.h t=>.h t|.mpr k=>.mpr k
def x6.up:x6->X3
 |.N' T l=>.N' T (l.map FC.up)|.mp K V=>.mp false K V
def FC.o8:FC->List Ty
 |.h t=>[t]|.mpr _=>[]
def x6.o8:x6->List Ty
 |.N' _ l=>l.flatMap FC.o8|.mp K V=>[.mp K V]
def fT(os:List x6):Ty:=nU (os.flatMap x6.o8)
def X3.o8:X3->List Ty
 |.N' _ l=>l.flatMap Sh.xe|.H' e _=>[.sl e]|.mp _ K V=>[.mp K V]|.it _ _ K=>[.sl K]|.is=>[.s,.i .i64]|.qu e _=>[.sl e]|.U4 _ os=>[.sl (fT os)]|.dead=>[]
def c7.o8(s:c7):List Ty:=s.sl.flatMap (fun p=>p.2.o8)++s.hp.flatMap X3.o8
def sF(os:List x6):c7:=⟨[(0,.ptr 0 0)],os.map x6.up⟩
theorem FC.il(c:FC):c.up.xe=c.o8:=by cases c<;>rfl
theorem FC.Ub:∀l:List FC,(l.map FC.up).flatMap Sh.xe=l.flatMap FC.o8
 |[]=>rfl|c::l=>by simp only[bF,cO,FC.il,FC.Ub l]
theorem x6.il(o:x6):o.up.o8=o.o8:=by
 cases o with
 |N' T l=>exact FC.Ub l|mp K V=>rfl
theorem x6.Ub:∀os:List x6,(os.map x6.up).flatMap X3.o8=os.flatMap x6.o8
 |[]=>rfl|o::os=>by simp only[bF,cO,x6.il,x6.Ub os]
theorem aw(os:List x6):(sF os).o8=os.flatMap x6.o8:=x6.Ub os
def IC(os:List x6)(x:den (fT os)):b8 (sF os).o8:=cast (by rw[aw]) (oU (os.flatMap x6.o8) x)
inductive SV where
 |v (t:Ty) (x:den t)
 |Y'|v7|z6|xb|undef
 /-- what was not done -/
 |eh
 /-- a slice of no elements and no room -/
 |ye
 /-- a slice that has no room behind its end -/
 |cl (e:Ty) (xs:List (den e))
 /-- a slice that is not nil -/
 |nn (e:Ty) (xs:List (den e))
 /-- of a slice the first n; behind them lies what is left of it -/
 |mpr (id:Nat)
 |ptr (id off:Nat)
 |rp (t:Ty) (x:den t) (off:Nat)
 |own (id ver:Nat)
 |ep (id ver:Nat) (i:Int) (off:Nat)
 |fn (f:Nat) (a c:List SV)
 |ag (l:List SV)
 |Bb (l:List SV)
 /-- a list of pointers to a family's members, a cell of it, a pointer to a member -/
 |fs (id ver:Nat)
 |fe (id ver:Nat) (i:Int)
 |fp (id:Nat) (i:Int) (off:Nat)
inductive AO where
 |N' (T:TypeId) (cs:List SV)
 |H' (ver:Nat) (e:Ty) (T:TypeId) (xs:List (den e))
 |mp (gen:Nat) (K V:Ty) (es:List (den K×den V))
 /-- a range over a map: what came last, what is still to come -/
 |it (mid gen:Nat) (K:Ty) (cur:Option (den K)) (left:List (den K))
 /-- a range over a text -/
 |is (l:Bs) (p:Nat)
 /-- an own slice whose first ns may be gone -/
 |qu (ver:Nat) (e:Ty) (T:TypeId) (xs:List (den e))
 /-- a family; member i is out -/
 |U4 (ver:Nat) (T:TypeId) (os:List x6) (ks:List (den (fT os)))
 |wa (ver:Nat) (T:TypeId) (os:List x6) (ks:List (den (fT os))) (i:Int)
 |dead
structure St where
 sl:List (Nat×SV)
 hp:List AO
def z7:List (Nat×SV)->Nat->SV
 |[],_=>.undef|(d,x)::m,t=>bif aJ d t then x else z7 m t
def V5{α:Type}:List α->Nat->Option α
 |[],_=>none|x::_,0=>some x|_::l,n+1=>V5 l n
def O6{α:Type}:List α->Nat->α->List α
 |[],_,_=>[]|_::l,0,y=>y::l|x::l,n+1,y=>x::O6 l n y
def St.put(f:St)(d:Nat)(x:SV):St:=⟨(d,x)::f.sl,f.hp⟩
def cellsOf:(t:Ty)->den t->List SV
 |.pr a c,x=>cellsOf a x.1++cellsOf c x.2|.un,_=>[]|.i k,x=>[.v (.i k) x]|.b,x=>[.v .b x]|.s,x=>[.v .s x]|.er,x=>[.v .er x]|.sl e,x=>[.v (.sl e) x]|.mp a c,x=>[.v (.mp a c) x]
def W6(t:Ty)(x:den t):SV:=bif one t then .v t x else .ag (cellsOf t x)
def pc(l:List SV)(o n:Nat):List SV:=(l.drop o).take n
def Sd:List SV->Nat->List SV->List SV
 |l,_,[]=>l|[],_,_=>[]|_::l,0,x::f=>x::Sd l 0 f|y::l,o+1,f=>y::Sd l o f
inductive TD where
 |int (k:IntKind)|b|s|sl (E:TypeId)|st (fs:List (TypeId×Nat))|pt (E:TypeId)|ar (n:Nat) (E:TypeId)|map (K V:TypeId)|fn|sJ|ot
structure TI where
 td:TD
 sz:Nat
 z:List SV
 ty:Ty
 nb:Nat
def TI.agg(t:TI):Bool:=match t.td with
 |.st _=>true|.ar _ _=>true|_=>false
def Vb(f:TI)(l:List SV):Option SV:=bif aJ l.length f.sz&&(Nat.blt 0 f.sz||f.agg)then(bif f.agg then some (.ag l)else match l with
 |[x]=>some x|_=>none)else none
abbrev TE:=List (Nat×TI)
def j3:TE->Nat->Option TI
 |[],_=>none|(d,x)::m,t=>bif aJ d t then some x else j3 m t
def Tf(hp:List AO):(t:Ty)->SV->Option (den t)
 |t,.v q x=>match P7 q t with
  |some ⟨h⟩=>some (Ob h x)|none=>none
 |.sl e,.Y'=>some ([]:List (den e))|.sl e,.ye=>some ([]:List (den e))|.sl e,.cl f j=>match P7 f e with
  |some ⟨h⟩=>some (Ob (by rw[h]:Ty.sl f=Ty.sl e) j)|none=>none
 |.sl e,.nn f j=>match P7 f e with
  |some ⟨h⟩=>some (Ob (by rw[h]:Ty.sl f=Ty.sl e) j)|none=>none
 |.sl e,.own id p=>match V5 hp id with
  |some (.H' l f _ j)=>bif aJ p l then(match P7 f e with
   |some ⟨h⟩=>some (Ob (by rw[h]:Ty.sl f=Ty.sl e) j)|none=>none)else none
  |_=>none
 |_,_=>none
def Uf(hp:List AO):(t:Ty)->List SV->Option (den t)
 |.pr a c,l=>match Uf hp a (l.take (l0 a)),Uf hp c (l.drop (l0 a)) with
  |some x,some y=>some (x,y)|_,_=>none
 |.un,l=>match l with
  |[]=>some ()|_=>none
 |t,l=>match l with
  |[x]=>Tf hp t x|_=>none
def Ea(hp:List AO)(t:Ty):SV->Option (den t)
 |.ag l=>bif one t then none else Uf hp t l
 |x=>bif one t then Tf hp t x else none
def ea:SV->List SV
 |.ag l=>l|x=>[x]
def DZ:Value->Option SV
 |.bool x=>some (.v .b x)|.int k n=>bif decide (c6 k (Sf k n)=n)then some (.v (.i k) (Sf k n))else none
 |.string x=>some (.v .s x.data.toList)|.slice none 0 0=>some .Y'|.pointer none=>some .v7|.map none=>some .z6|.nilFunc=>some .xb|.nilIface=>some (.v .er false)|_=>none
def ev(h:St):Operand->Option SV
 |.tmp t=>some (z7 h.sl t)|.const c=>DZ c|.func f=>some (.fn f [] [])|.global _=>none
end Go.Proofs.YtopanhneegpgcaaGreatDoor.Am
