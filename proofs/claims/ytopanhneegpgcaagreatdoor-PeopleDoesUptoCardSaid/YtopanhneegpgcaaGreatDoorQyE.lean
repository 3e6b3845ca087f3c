/- Parts of one proof. Conditions: as each theorem says. -/
import Derived.Maps.RangeRun
import Derived.Test.YtopanhneegpgcaaGreatDoorQyD
open Bool renaming and_eq_true->aI,not_eq_true->cM,or_eq_false_iff->cV,or_eq_true->cH
open Int renaming tmod->dX
open List renaming all_cons->cT,eq_nil_of_length_eq_zero->aW,getElem?_eq_getElem->aH,getElem?_eq_some_iff->aC,length->cZ,length_drop->bL,length_map->aE,length_nil->cN,length_take->bX,map_cons->bF,mem_cons->aN,mem_cons_of_mem->aM,mem_cons_self->aO,mem_of_getElem?->bO,pairwise_cons->bD,toArray->gM
open Nat renaming add_assoc->dP,add_mul->cA,add_zero->gB,beq->aJ,eq_of_beq_eq_true->aB,le_of_ble_eq_true->bK,le_of_eq->eI,le_refl->aL,mul_le_mul_right->dK,one_mul->fA,zero_add->aV,zero_le->bG
open Option renaming bind->aR
open Go.Instr renaming checkKey->YC,findKey->sN,findNow->sQ,slice->Ef,sliceAt->Ff,sliceBounds->ee
open Go.Op renaming equal->EJ,equalIn->Qd,stringOp->DB
open Go.Result renaming andThen->xh,andThen_ok->Gf
open Go.Sem renaming run_bind->La,run_pure->Eb
namespace Go.Proofs.YtopanhneegpgcaaGreatDoor.Am
open Go Go.RowKit
def FJ:TypeDesc->TD
 |.int k=>.int k|.bool=>.b|.string=>.s|.slice E=>.sl E|.struct fs=>.st (fs.toList.map fun f=>(f.type,f.offset))|.pointer E=>.pt E|.array n E=>.ar n E|.map k v=>.map k v|.func _ _ _=>.fn|.interface _=>.sJ|_=>.ot
def zc:SV->Value
 |.v (.i k) x=>.int k (c6 k x)|.v .b x=>.bool x|.v .s l=>str l|.Y'=>.slice none 0 0|.v7=>.pointer none|.z6=>.map none|.xb=>.nilFunc|.v .er _=>.nilIface|_=>undef
def tQ:SV->Bool
 |.v (.i _) _=>true|.v .b _=>true|.v .s _=>true|.Y'=>true|.v7=>true|.z6=>true|.xb=>true|.v .er x=>!(show Bool from x)|_=>false
def zV(f:TI):Value:=bif f.agg then .agg (f.z.map zc).toArray else match f.z with
 |[x]=>zc x|_=>undef
def GJ(P:Program)(T:TypeId):Bool:=match P.underlying T with
 | some (.struct fs) => !(P.stoodInHeld T) && fs.toList.all (fun f => f.name != "_") && !(P.eqGuardType P.depth T)|_=>true
structure l4 (P:Program) (T:TypeId) (f:TI):Prop where
 wc:(P.underlying T).map FJ=some f.td
 Tb:(P.info? T).map (fun i=>(i.zero,i.size,i.bytes))=some (some (zV f),f.sz,f.nb)
 eqb:GJ P T=true
 z:f.z.all tQ=true
 zl:f.z.length=f.sz
 HJ:f.agg=false->f.sz=1
def P3(P:Program)(τ:TE):Prop:=∀T f,j3 τ T=some f->l4 P T f
theorem NG{P:Program}:∀{τ:TE},τ.map (fun p=>((P.underlying p.1).map FJ,(P.info? p.1).map (fun i=>(i.zero,i.size,i.bytes)),GJ P p.1))=τ.map (fun p=>(some p.2.td,some (some (zV p.2),p.2.sz,p.2.nb),true)) ->
  τ.all (fun p=>p.2.z.all tQ&&aJ p.2.z.length p.2.sz&&(p.2.agg||aJ p.2.sz 1))=true->P3 P τ
 |[],_,_=>fun T f h=>by cases h
 |(T',q)::τ,h,d=>fun T f j=>by
  simp only[bF,List.cons.injEq,Prod.mk.injEq]at h;simp only[cT,aI]at d;unfold j3 at j;cases l:aJ T' T with
  |true=>
   rw[l]at j;cases j;have:=aB l;subst this;refine⟨h.1.1,h.1.2.1,h.1.2.2,d.1.1.1,aB d.1.1.2,fun o=>?_⟩;have c:=d.1.2;simp only[cH]at c;rcases c with c|c
   ·rw[o]at c;cases c
   ·exact aB c
  |false=>rw[l]at j;exact NG h.2 d.2 T f j
section
variable {P:Program}{T:TypeId}{f:TI}
theorem l4.i(h:l4 P T f):∃i,P.info? T=some i/\i.zero=some (zV f)/\i.size=f.sz/\i.bytes=f.nb:=by
 have:=h.Tb;cases c:P.info? T with
 |none=>rw[c]at this;cases this
 |some i=>rw[c]at this;simp only[Option.map_some,Option.some.injEq,Prod.mk.injEq]at this;exact⟨i,rfl,this.1,this.2.1,this.2.2⟩
theorem l4.d(h:l4 P T f):∃d,P.underlying T=some d/\FJ d=f.td:=by
 have:=h.wc;cases c:P.underlying T with
 |none=>rw[c]at this;cases this
 |some i=>rw[c]at this;exact⟨i,rfl,ka this⟩
theorem l4.l0(h:l4 P T f):Nf P T f.sz:=fun w=>by obtain⟨i,c,_,d,_⟩:=h.i;simp[sizeOf,typeInfo,c,d]
theorem l4.zero(h:l4 P T f):DI P T (zV f):=fun w=>by obtain⟨i,c,d,_,_⟩:=h.i;simp[zeroValue,typeInfo,c,d]
theorem l4.agg(h:l4 P T f):∀w,(isAgg T).run P w = .ok f.agg w:=fun w=>by obtain⟨d,c,i⟩:=h.d;unfold TI.agg;cases d<;>(rw[<-i];simp[isAgg,Go.underlying,c,FJ])
theorem l4.ZC(h:l4 P T f)(c:f.agg=true):wv P T f.sz:=⟨fun w=>by rw[h.agg w,c],h.l0⟩
theorem l4.Aw(h:l4 P T f)(c:f.agg=false)(d:f.sz=1):Xc P T:=⟨fun w=>by rw[h.agg w,c],by have:=h.l0;rw[d]at this;exact this⟩
theorem l4.int{k:IntKind}(h:l4 P T f)(e:f.td = .int k):P.underlying T=some (.int k):=by obtain⟨d,i,c⟩:=h.d;rw[e]at c;rw[i];cases d<;>cases c;rfl
theorem l4.str(h:l4 P T f)(e:f.td = .s):P.underlying T=some .string:=by obtain⟨d,i,c⟩:=h.d;rw[e]at c;rw[i];cases d<;>cases c;rfl
theorem l4.sl{E:TypeId}(h:l4 P T f)(e:f.td = .sl E):P.underlying T=some (.slice E):=by obtain⟨d,i,c⟩:=h.d;rw[e]at c;rw[i];cases d<;>cases c;rfl
theorem l4.map{K V:TypeId}(h:l4 P T f)(e:f.td = .map K V):P.underlying T=some (.map K V):=by obtain⟨d,i,c⟩:=h.d;rw[e]at c;rw[i];cases d<;>cases c;rfl
theorem l4.arr{N:Nat}{E:TypeId}(h:l4 P T f)(e:f.td = .ar N E):P.underlying T=some (.array N E):=by obtain⟨d,i,c⟩:=h.d;rw[e]at c;cases d<;>first|(cases c;done)|(injection c with a b;subst a;subst b;exact i)
theorem l4.sJ(h:l4 P T f)(e:f.td = .sJ):∃ms,P.underlying T=some (.interface ms):=by obtain⟨d,i,c⟩:=h.d;rw[e]at c;rw[i];cases d<;>cases c;exact⟨_,rfl⟩
theorem l4.ptr{E:TypeId}(h:l4 P T f)(e:f.td = .pt E):P.underlying T=some (.pointer E):=by obtain⟨d,i,c⟩:=h.d;rw[e]at c;rw[i];cases d<;>cases c;rfl
theorem l4.bool(h:l4 P T f)(e:f.td = .b):P.underlying T=some .bool:=by obtain⟨d,i,c⟩:=h.d;rw[e]at c;rw[i];cases d<;>cases c;rfl
theorem l4.st{fs:List (TypeId×Nat)}(h:l4 P T f)(e:f.td = .st fs):∃a,P.underlying T=some (.struct a)/\a.toList.map (fun f=>(f.type,f.offset))=fs:=by obtain⟨d,i,c⟩:=h.d;rw[e]at c;cases d<;>cases c;exact⟨_,i,rfl⟩
theorem l4.eqs {fs : List (TypeId × Nat)} {a : Array Field} (h : l4 P T f) (_ : f.td = .st fs) (c : P.underlying T = some (.struct a)) : P.stoodInHeld T = false /\ a.toList.all (fun f => f.name != "_") = true /\ P.eqGuardType P.depth T = false := by have:=h.eqb;unfold GJ at this;rw[c]at this;simp only[aI,Bool.not_eq_true']at this;exact⟨this.1.1,this.1.2,this.2⟩
theorem OG{S:Mem}{E:List EI}{x:SV}(h:tQ x=true):VC S E x (zc x):=by
 unfold tQ at h;split at h
 ·exact(rfl:[_]=[_])
 ·exact(rfl:[_]=[_])
 ·exact(rfl:[_]=[_])
 ·rfl
 ·rfl
 ·rfl
 ·rfl
 ·rename_i x;cases x with
  |false=>exact⟨_,rfl,.inl ⟨rfl,rfl⟩⟩|true=>cases h
 ·cases h
theorem PG{S:Mem}{E:List EI}:∀{l:List SV},l.all tQ=true->A2 (VC S E) l (l.map zc)
 |[],_=>.nil|x::l,h=>by simp only[cT,aI]at h;exact .cons (OG h.1) (PG h.2)
end
section
variable {S:Mem}{E:List EI}
theorem tN:∀(t:Ty) {c:LV} {x:den t},u7 t S c x->A2 (VC S E) (cellsOf t x) c
 |.i _,c,x,h=>by have h:c=[_]:=h;subst h;exact .cons (rfl:[_]=[_]) .nil
 |.b,c,x,h=>by have h:c=[_]:=h;subst h;exact .cons (rfl:[_]=[_]) .nil
 |.s,c,x,h=>by have h:c=[_]:=h;subst h;exact .cons (rfl:[_]=[_]) .nil
 |.er,c,x,h=>by obtain⟨u,rfl,h⟩:=h;exact .cons ⟨u,rfl,h⟩ .nil
 |.mp a _,c,x,h=>by have h:c=[_]:=h;subst h;exact .cons (rfl:[_]=[_]) .nil
 |.sl e,c,x,h=>by obtain⟨v,rfl,h⟩:=h;exact .cons ⟨v,rfl,h⟩ .nil
 |.pr a c,_,x,h=>by obtain⟨l,o,rfl,d,j⟩:=h;exact(tN a d).X0 (tN c j)
 |.un,c,x,h=>by have h:c=[]:=h;subst h;exact .nil
theorem BU{x:SV}{u:Value}(h:VA (VC S E) x u):A2 (VC S E) (ea x) u.cells.toList/\EP u u.cells.toList:=by
 refine⟨?_,by simp[EP]⟩;by_cases c:oa x=true
 ·have d:VC S E x u:=h.b c;have i:ea x=[x]:=by cases x<;>first|rfl|cases c
  have j:u.cells=[u].toArray:=cells_one d.one;rw[i,j];exact .cons d .nil
 ·cases x with
  |ag l=>obtain⟨o,rfl,h⟩:=h;simpa[ea,Value.cells]using h
  |_=>exact absurd rfl c
theorem uQ{R:SV->Value->Prop}:∀{l:List SV} {m:LV} (o:Nat) {x:List SV} {y:LV},A2 R l m->A2 R x y->A2 R (Sd l o x) (lay m o y)
 |l,m,o,[],[],h,.nil=>by
  cases l with
  |nil=>cases h;exact .nil
  |cons=>cases h with|cons h t=>simpa[Sd,lay]using A2.cons h t
 |[],_,o,_::_,_::_,.nil,.cons _ _=>by simp[Sd,lay];exact .nil
 |_::l,_::m,0,_::x,_::y,.cons a t,.cons b s=>by simp only[Sd,lay];exact .cons b (uQ 0 t s)
 |_::l,_::m,o+1,_::x,_::y,.cons a t,.cons b s=>by simp only[Sd,lay];exact .cons a (uQ o t (.cons b s))
theorem lD{R:SV->Value->Prop}{l:List SV}{m:LV}(o n:Nat)(h:A2 R l m):A2 R (pc l o n) (piece m o n):=by rw[P9];exact(h.drop o).take n
theorem LZ{f:TI}{l:List SV}{us:LV}{x:SV}(h:Vb f l=some x)(c:A2 (VC S E) l us):
  us.length=f.sz/\((f.agg=true/\VA (VC S E) x (.agg us.toArray))∨(f.agg=false/\f.sz=1/\∃u,us=[u]/\VA (VC S E) x u)):=by
 unfold Vb at h;cases d:aJ l.length f.sz&&(Nat.blt 0 f.sz||f.agg) with
 |false=>rw[d]at h;cases h
 |true=>
  rw[d]at h;have i:=aB (Z3 d);refine⟨by rw[<-c.len,i],?_⟩;cases j:f.agg with
  |true=>rw[j]at h;cases h;exact .inl ⟨rfl,us,rfl,c⟩
  |false=>
   rw[j]at h;cases c with
   |nil=>cases h
   |cons p t=>
    cases t with
    |nil=>
     cases h;refine .inr ⟨rfl,by simpa using i.symm,_,rfl,?_⟩;cases x with
     |ag=>exact p.elim|_=>exact p
    |cons _ _=>cases h
end
section
variable {P:Program}{w:World}{S:Mem}{E:List EI}{e:Operand->Value}{dst:Option Tmp}{g:Option (Nat×Bool)}{ty:TypeId}{pos:String}{aft:Array Edge}{x:Operand}
theorem mD{f:TI}{T T':TypeId}{b o:Nat}{ds us:LV}{fz:Nat×Nat}{l:List SV}{a:SV}(p:l4 P T f)(h:Vb f l=some a)(s:A2 (VC S E) l us):∃u,VA (VC S E) a u/\∀(w:World) (T':TypeId) (b o:Nat) (ds:LV) (fz:Nat×Nat),w.heap[b]? = some (.cells ds.toArray T' fz)->e x = .pointer (some ⟨b,o,none⟩)->piece ds o f.sz=us ->(execOp e ⟨dst,.load T x,ty,pos,aft,g⟩).run P w = .ok (.value u) w:=by
 obtain⟨z,t⟩:=LZ h s;have v:∀(ds:LV) (o:Nat),piece ds o f.sz=us->f.sz≠0->o+f.sz<=ds.length:=fun ds o e A=>by rw[P9]at e;have:=congrArg cZ e;simp only[bX,bL]at this;omega
 rcases t with⟨d,i⟩|⟨d,q,u,rfl,i⟩
 ·refine⟨_,i,fun w T' b o ds fz j hp c=>?_⟩;simp only[execOp,hp,La,xbC (p.ZC d) j c (v _ _ c),xh,Eb]
 ·refine⟨_,i,fun w T' b o ds fz j hp c=>?_⟩;rw[q]at c;simp only[execOp,hp,La,xZ (p.Aw d q) j c,xh,Eb]
end
section
variable {S:Mem}{E:List EI}
theorem vI{q:IntKind}{a:den (.i q)}{u:Value}(h:VR S E (.v (.i q) a) u):u = .int q (c6 q a):=by have h:[u]=[Value.int q (c6 q a)]:=h;injection h
theorem vB{a:Bool}{u:Value}(h:VR S E (.v .b a) u):u = .bool a:=by have h:[u]=[Value.bool a]:=h;injection h
theorem vS{a:Bs}{u:Value}(h:VR S E (.v .s a) u):u=str a:=by have h:[u]=[str a]:=h;injection h
theorem iV{q:IntKind}(x:Int):VR S E (.v (.i q) (Sf q x)) (.int q (q.wrap x)):=by show [_]=[_];rw[Po]
theorem bV(x:Bool):VR S E (.v .b x) (.bool x):=(rfl:[_]=[_])
theorem sV(x:Bs):VR S E (.v .s x) (str x):=(rfl:[_]=[_])
end
section
variable {β:Type}{τ:TE}{P:Program}{S:Mem}{E:List EI}{e:Operand->Value}{dst:Option Tmp}{g:Option (Nat×Bool)}{ty:TypeId}{pos:String}{aft:Array Edge}{a b:Operand}{T T':TypeId}{k:SV->Option β}{r:β}
def ua(P:Program)(S:Mem)(E:List EI)(e:Operand->Value)(o:Oper)(k:SV->Option β)(r:β)(C:World->Prop):Prop:=
 ∃z u,k z=some r/\VR S E z u/\∀w,C w->(execOp e o).run P w = .ok (.value u) w
theorem IJ{q:IntKind}(h:MC q=false)(x:den (.i q))(c:Int):c6 q (oN q (xc q (c6 q x) c))=xc q (c6 q x) c:=by
 cases q with
 |u8=>exact(WI x c).symm|u16=>cases h
 |u32=>exact(dC x c).symm|u64=>exact(lC x c).symm|_=>rfl
theorem JJ{q:IntKind}(h:MC q=false)(x:den (.i q))(c:Int):c6 q (oN q (Mf q (c6 q x) c))=Mf q (c6 q x) c:=by
 cases q with
 |u8=>exact(XI x c).symm|u16=>cases h
 |u32=>exact(oC x c).symm|u64=>exact(pC x c).symm|_=>rfl
theorem KJ{q:IntKind}(h:MC q=false)(x:den (.i q))(c:Int)(d:0<=c):c6 q (oN q (dX (c6 q x) c))=dX (c6 q x) c:=by
 cases q with
 |u8=>exact(VI x c d).symm|u16=>cases h
 |u32=>exact(yC x c d).symm|u64=>exact(BC x c d).symm|_=>rfl
theorem xV{q:IntKind}{x:den (.i q)}{c:Int}(h:c6 q x=c):VR S E (.v (.i q) x) (.int q c):=by show [_]=[_];rw[h]
theorem Bw{d:BinOp}{q:IntKind}{x y c:Int}{w:World}(i:e a = .int q x)(j:e b = .int q y)(h:arith d x y=some c):(execOp e ⟨dst,.binOp d T a b T',ty,pos,aft,g⟩).run P w = .ok (.value (.int q (q.wrap c))) w:=by cases d<;>first|(cases h;done)|(cases h;first|exact lG i j rfl|exact QO i j rfl|exact RO i j rfl)
theorem LJ{i:BinOp}{q:IntKind}{x y:Int}{t:Bool}{w:World}(c:e a = .int q x)(d:e b = .int q y)(h:uJ i x y=some t):(execOp e ⟨dst,.binOp i T a b T',ty,pos,aft,g⟩).run P w = .ok (.value (.bool t)) w:=by cases i<;>first|(cases h;done)|(cases h;first|exact WO c d rfl|exact XO c d rfl|exact mG c d rfl|exact YO c d rfl|exact ZO c d rfl|exact jP c d rfl)
theorem nD{op:BinOp}{q q':IntKind}{x:den (.i q)}{y:den (.i q')}{C:World->Prop}(z:e a = .int q (c6 q x))(A:e b = .int q' (c6 q' y))(h:bin τ T op (.v (.i q) x) (.v (.i q') y) k=some r):
  ua P S E e ⟨dst,.binOp op T a b T',ty,pos,aft,g⟩ k r C:=by
 by_cases I:op = .shl
 ·subst I;simp only[bin]at h;cases j:MC q with
  |true=>rw[j]at h;cases h
  |false=>rw[j]at h;obtain⟨_,o,s⟩:=x9 h;exact⟨_,_,s,xV (JJ j _ _),fun w _=>UO z A (by have:=zD (Kv o);omega) rfl⟩
 by_cases u:op = .shr
 ·subst u;simp only[bin]at h;cases j:MC q with
  |true=>rw[j]at h;cases h
  |false=>rw[j]at h;obtain⟨_,o,s⟩:=x9 h;exact⟨_,_,s,xV (IJ j _ _),fun w _=>VO z A (by have:=zD (Kv o);omega) rfl⟩
 cases H:Zr q' q with
 |none=>cases op<;>first|exact absurd rfl I|exact absurd rfl u|(simp only[bin,H]at h;cases h)
 |some p=>
  obtain⟨rfl⟩:=p;by_cases D:op = .quo
  ·subst D;simp only[bin,H]at h;obtain⟨_,o,s⟩:=x9 h;have J:=Kv o;exact⟨_,_,s,iV _,fun w _=>SO z A (by simpa using J) rfl⟩
  by_cases F:op = .rem
  ·subst F;simp only[bin,H]at h;cases j:MC q' with
   |true=>rw[j]at h;cases h
   |false=>rw[j]at h;obtain⟨_,o,s⟩:=x9 h;have J:=zD (Kv o);exact⟨_,_,s,xV (KJ j _ _ (Int.le_of_lt J)),fun w _=>TO z A (by omega) rfl⟩
  have h' : (match arith op (c6 q' x) (c6 q' y) with
        |some r=>k (.v (.i q') (Sf q' r))|none=>match uJ op (c6 q' x) (c6 q' y) with
         |some t=>k (.v .b t)|none=>none)=some r:=by
   cases op<;>first|exact absurd rfl I|exact absurd rfl u|exact absurd rfl D|exact absurd rfl F|(simp only[bin,H]at h;exact h)
  split at h'
  ·rename_i c M;exact⟨_,_,h',iV _,fun w _=>Bw z A M⟩
  ·split at h'
   ·rename_i c M;exact⟨_,_,h',bV _,fun w _=>LJ z A M⟩
   ·cases h'
theorem oD{i:BinOp}{x y:Bs}{C:World->Prop}(c:e a=str x)(d:e b=str y)(h:bin τ T i (.v .s x) (.v .s y) k=some r):
  ua P S E e ⟨dst,.binOp i T a b T',ty,pos,aft,g⟩ k r C:=by
 cases i with
 |add=>obtain⟨l,j,o⟩:=x9 h;obtain⟨p,rfl⟩:=Rr j;exact⟨_,_,o,sV _,fun w _=>Fv c d (by omega) rfl⟩
 |eql=>exact⟨_,_,h,bV _,fun w _=>sP c d rfl⟩|neq=>exact⟨_,_,h,bV _,fun w _=>tP c d rfl⟩|lss=>exact⟨_,_,h,bV _,fun w _=>by simp[execOp,eqGuard,binOp,c,d,DB]⟩|leq=>exact⟨_,_,h,bV _,fun w _=>by simp[execOp,eqGuard,binOp,c,d,DB]⟩|gtr=>exact⟨_,_,h,bV _,fun w _=>by simp[execOp,eqGuard,binOp,c,d,DB]⟩|geq=>exact⟨_,_,h,bV _,fun w _=>by simp[execOp,eqGuard,binOp,c,d,DB]⟩|_=>cases h
theorem Cw{i:BinOp}{x y:Bool}{C:World->Prop}(c:P3 P τ)(j:e a = .bool x)(l:e b = .bool y)(h:bin τ T i (.v .b x) (.v .b y) k=some r):
  ua P S E e ⟨dst,.binOp i T a b T',ty,pos,aft,g⟩ k r C:=by
 simp only[bin]at h;split at h
 ·rename_i t u z z4 o;have A:=(c T _ o).wc;have p:P.underlying T=some .bool:=by obtain⟨d,q,s⟩:=(c T _ o).d;rw[q];cases d<;>cases s;rfl
  have key:∀w,(EJ T (.bool x) (.bool y)).run P w = .ok (x==y) w:=fun w=>(eqB (a:=x) (b:=y) p).le 10000 (by decide) 0 w;cases i with
  |eql=>exact⟨_,_,h,bV _,fun w _=>by simp[execOp,eqGuard,binOp,j,l,key]⟩|neq=>exact⟨_,_,h,bV _,fun w _=>by simp[execOp,eqGuard,binOp,j,l,key,bne]⟩|_=>cases h
 ·cases h
theorem vQ{c:Bool}{o:Option β}(h:(bif c then o else none)=some r):c=true/\o=some r:=by
 cases c with
 |true=>exact⟨rfl,h⟩|false=>cases h
theorem Qo{p:Option Addr}{E':TypeId}{w:World}(c:P.underlying T=some (.pointer E')):(EJ T (.pointer p) (.pointer none)).run P w = .ok p.isNone w:=by
 have key:∀d,(Qd (d+1) T (.pointer p) (.pointer none)).run P w = .ok p.isNone w:=fun d=>by cases p<;>simp[Qd,Go.underlying,c]
 exact key 9999
theorem Jl{d:BinOp}{p:Option Addr}{t:Bool}{C:World->Prop}(c:P3 P τ)(i:e a = .pointer p)(j:e b = .pointer none)(o:p.isNone=t)(h:SP τ T d t k=some r):
  ua P S E e ⟨dst,.binOp d T a b T',ty,pos,aft,g⟩ k r C:=by
 subst o;unfold SP at h;split at h
 ·rename_i s u v z z4 q;have l:=(c T _ q).ptr rfl;split at h
  ·exact⟨_,_,h,bV _,fun w _=>by simp[execOp,eqGuard,binOp,i,j,Qo l]⟩
  ·exact⟨_,_,h,bV _,fun w _=>by simp[execOp,eqGuard,binOp,i,j,Qo l]⟩
  ·cases h
 ·cases h
def Ck(f:TI)(us:LV):Value:=bif f.agg then .agg us.toArray else match us with
 |[u]=>u|_=>undef
theorem MJ{T:TypeId}{k0:IntKind}{l p:List SV}{us vs:LV}{t:Bool}(s:P.underlying T=some (.int k0))(h:jU l p=some t)(z:A2 (VC S E) l us)(i:A2 (VC S E) p vs):∃u v,us=[u]/\vs=[v]/\qc P 1 T u v t:=by
 unfold jU at h;split at h
 ·rename_i q a C c;obtain⟨u,rfl,j⟩:=z.one;obtain⟨v,rfl,o⟩:=i.one;split at h
  ·rename_i A _;cases h;subst A;have j:=vI (VR.ig j);have o:=vI (VR.ig o);subst j;subst o;refine⟨_,_,rfl,rfl,fun d w=>?_⟩;simp only[Qd,Go.underlying,s,La,run_program,Gf,Eb,if_true];congr 1
  ·cases h
 ·cases h
theorem pD{T:TypeId}{l j:List SV}{us vs:LV}{t:Bool}(o:P.underlying T=some .bool)(h:vJ l j=some t)(p:A2 (VC S E) l us)(c:A2 (VC S E) j vs):∃u v,us=[u]/\vs=[v]/\qc P 1 T u v t:=by
 unfold vJ at h;split at h
 ·obtain⟨u,rfl,d⟩:=p.one;obtain⟨v,rfl,i⟩:=c.one;cases h;have d:=vB (VR.ig d);have i:=vB (VR.ig i);subst d;subst i;exact⟨_,_,rfl,rfl,eqB o⟩
 ·cases h
theorem qD{T:TypeId}{l j:List SV}{us vs:LV}{t:Bool}(o:P.underlying T=some .string)(h:wJ l j=some t)(p:A2 (VC S E) l us)(c:A2 (VC S E) j vs):∃u v,us=[u]/\vs=[v]/\qc P 1 T u v t:=by
 unfold wJ at h;split at h
 ·obtain⟨u,rfl,d⟩:=p.one;obtain⟨v,rfl,i⟩:=c.one;cases h;have d:=vS (VR.ig d);have i:=vS (VR.ig i);subst d;subst i;exact⟨_,_,rfl,rfl,AZ o⟩
 ·cases h
theorem Dw(i:P3 P τ){n:Nat}{q:TypeId->List SV->List SV->Option Bool}(G:∀F f l c us vs t,j3 τ F=some f->q F l c=some t->A2 (VC S E) l us->A2 (VC S E) c vs->us.length=f.sz/\vs.length=f.sz/\qc P n F (Ck f us) (Ck f vs) t):∀{fs:List (TypeId×Nat)} {l c:List SV} {us vs:LV} {t:Bool},TP τ q fs l c=some t->A2 (VC S E) l us->A2 (VC S E) c vs->xo P n us.toArray vs.toArray fs t
 |[],_,_,_,_,_,h,_,_=>by cases h;exact .nil
 |(F,o)::fs,l,c,us,vs,t,h,H,j=>by
  have one:∀{f:TI} {t:Bool},j3 τ F=some f->q F (pc l o f.sz) (pc c o f.sz)=some t->(∀w,(part F us.toArray o).run P w = .ok (Ck f (piece us o f.sz)) w)/\(∀w,(part F vs.toArray o).run P w = .ok (Ck f (piece vs o f.sz)) w)/\qc P n F (Ck f (piece us o f.sz)) (Ck f (piece vs o f.sz)) t:=fun {f t} d h=>by
   obtain⟨s,v,z⟩:=G F f _ _ _ _ _ d h (lD o f.sz H) (lD o f.sz j);have D:=i _ _ d
   have pp:∀{us:LV},(piece us o f.sz).length=f.sz->∀w,(part F us.toArray o).run P w = .ok (Ck f (piece us o f.sz)) w:=fun {us} hp=>by
    cases A:f.agg with
    |true=>unfold Ck;rw[A];exact Sv (D.ZC A) rfl|false=>
     have I:f.sz=1:=D.HJ A;rw[I]at hp ⊢
     match C:piece us o 1,hp with
     |[u],_=>unfold Ck;rw[A];refine CC (D.Aw A I) ?_;rw[P9]at C;have:=congrArg (·[0]?) C;simpa using this
   exact⟨pp s,pp v,z⟩
  cases fs with
  |nil=>
   simp only[TP]at h;split at h
   ·rename_i f d;obtain⟨s,v,z⟩:=one d h;exact xo.last s v z
   ·cases h
  |cons p fs=>
   simp only[TP]at h;split at h
   ·rename_i f d;split at h
    ·rename_i a b J M;cases h;obtain⟨s,v,z⟩:=one d J;exact .cons s v z (Dw i G M H j)
    ·cases h
   ·cases h
theorem Ew(i:P3 P τ):∀(n:Nat) (T:TypeId) (f:TI) (l q:List SV) (us vs:LV) (t:Bool),j3 τ T=some f->UP τ n T l q=some t->A2 (VC S E) l us->A2 (VC S E) q vs->us.length=f.sz/\vs.length=f.sz/\qc P n T (Ck f us) (Ck f vs) t
 |0,_,_,_,_,_,_,_,_,h,_,_=>by cases h
 |n+1,T,f,l,q,us,vs,t,D,h,j,d=>by
  unfold UP at h;rw[D]at h;simp only[]at h;cases A:aJ l.length f.sz&&aJ q.length f.sz with
  |false=>rw[A]at h;cases h
  |true=>
   rw[A]at h;simp only[zF]at h;have H:=aB (Z3 A);have I:=aB (Y4 A);have s:=i _ _ D;refine⟨by rw[<-j.len,H],by rw[<-d.len,I],?_⟩;have leaf:∀{u v:Value},f.agg=false->us=[u]->vs=[v]->qc P 1 T u v t->qc P (n+1) T (Ck f us) (Ck f vs) t:=fun {u v} C o p h=>by subst o;subst p;unfold Ck;rw[C];exact h.le _ (by omega)
   split at h
   ·rename_i fs c;obtain⟨a,G,J⟩:=s.st c;obtain⟨M,N,_⟩:=s.eqs c G;have C:f.agg=true:=by unfold TI.agg;rw[c]
    have:=Dw i (fun F O l q us vs t Q h j d=>Ew i n F O l q us vs t Q h j d) h j d;unfold Ck;rw[C];exact qc.str G M N J this
   ·rename_i R c;obtain⟨u,v,o,p,z⟩:=MJ (s.int c) h j d;exact leaf (by unfold TI.agg;rw[c]) o p z
   ·rename_i c;obtain⟨u,v,o,p,z⟩:=pD (s.bool c) h j d;exact leaf (by unfold TI.agg;rw[c]) o p z
   ·rename_i c;obtain⟨u,v,o,p,z⟩:=qD (s.str c) h j d;exact leaf (by unfold TI.agg;rw[c]) o p z
   ·cases h
theorem NJ{q:BinOp}{l i:List SV}{C:World->Prop}(j:P3 P τ)(G:VR S E (.ag l) (e a))(H:VR S E (.ag i) (e b))(h:bin τ T q (.ag l) (.ag i) k=some r):
  ua P S E e ⟨dst,.binOp q T a b T',ty,pos,aft,g⟩ k r C:=by
 have h:fw τ T q l i k=some r:=h;unfold fw at h;split at h
 ·rename_i f s;obtain⟨o,h⟩:=vQ h;split at h
  ·rename_i t c;obtain⟨I,v,J⟩:=G;obtain⟨M,z,N⟩:=H;obtain⟨_,_,p⟩:=Ew j 8 T f l i I M t s c J N;have A:=j _ _ s;have u:∃fs,f.td = .st fs:=by
    unfold UP at c;rw[s]at c;simp only[]at c;cases D:aJ l.length f.sz&&aJ i.length f.sz with
    |false=>rw[D]at c;cases c
    |true=>
     rw[D]at c;simp only[zF]at c;unfold TI.agg at o;split at c
     ·exact⟨_,by assumption⟩
     all_goals first|(rename_i d;rw[d]at o;cases o;done)|cases c
   obtain⟨fs,d⟩:=u;obtain⟨Q,O,R⟩:=A.st d;obtain⟨_,_,F⟩:=A.eqs d O;unfold Ck at p;rw[o]at p;split at h
   ·exact⟨_,_,h,bV _,fun w _=>LP F (by decide) p v z⟩
   ·exact⟨_,_,h,bV _,fun w _=>MP F (by decide) p v z⟩
   ·cases h
  ·cases h
 ·cases h
theorem Kl{o:BinOp}{p:Option Addr}{i j:Nat}{t:Bool}{C:World->Prop}(l:P3 P τ)(q:e a = .slice p i j)(s:e b = .slice none 0 0)(u:p.isNone=t)(h:qU τ T o t k=some r):
  ua P S E e ⟨dst,.binOp o T a b T',ty,pos,aft,g⟩ k r C:=by
 subst u;unfold qU at h;split at h
 ·rename_i A D F G z4 v;have z:=(l T _ v).sl rfl;have key:∀d w,(Qd (d+1) T (.slice p i j) (.slice none 0 0)).run P w = .ok p.isNone w:=fun d w=>by cases p<;>simp[Qd,Go.underlying,z]
  have c:∀w,(EJ T (.slice p i j) (.slice none 0 0)).run P w = .ok p.isNone w:=fun w=>key 9999 w;split at h
  ·exact⟨_,_,h,bV _,fun w _=>by simp[execOp,eqGuard,binOp,q,s,c]⟩
  ·exact⟨_,_,h,bV _,fun w _=>by simp[execOp,eqGuard,binOp,q,s,c]⟩
  ·cases h
 ·cases h
theorem OJ{j:BinOp}{p:Option Nat}{t:Bool}{C:World->Prop}(i:P3 P τ)(l:e a = .map p)(o:e b = .map none)(q:p.isNone=t)(h:FZ τ T j t k=some r):
  ua P S E e ⟨dst,.binOp j T a b T',ty,pos,aft,g⟩ k r C:=by
 subst q;unfold FZ at h;split at h
 ·rename_i v z A D F z4 s;have u:=(i T _ s).map rfl;have key:∀d w,(Qd (d+1) T (.map p) (.map none)).run P w = .ok p.isNone w:=fun d w=>by cases p<;>simp[Qd,Go.underlying,u]
  have c:∀w,(EJ T (.map p) (.map none)).run P w = .ok p.isNone w:=fun w=>key 9999 w;split at h
  ·exact⟨_,_,h,bV _,fun w _=>by simp[execOp,eqGuard,binOp,l,o,c]⟩
  ·exact⟨_,_,h,bV _,fun w _=>by simp[execOp,eqGuard,binOp,l,o,c]⟩
  ·cases h
 ·cases h
theorem Fw{F:BinOp}{x y:SV}{C:World->Prop}(d:P3 P τ)(j:VR S E x (e a))(p:VR S E y (e b))(h:bin τ T F x y k=some r):
  ua P S E e ⟨dst,.binOp F T a b T',ty,pos,aft,g⟩ k r C:=by
 cases x with
 |v t x=>
  cases y with
  |v z y=>
   cases t with
   |i q=>
    cases z with
    |i M=>exact nD (vI j) (vI p) h|_=>cases h
   |b=>
    cases z with
    |b=>exact Cw d (vB j) (vB p) h|_=>cases h
   |s=>
    cases z with
    |s=>exact oD (vS j) (vS p) h|_=>cases h
   |_=>cases h
  |_=>cases t<;>cases h
 |Y'=>
  cases y with
  |Y'=>exact Kl d j p rfl h|_=>cases h
 |nn t I=>
  cases y with
  |Y'=>
   have j:VB S E (.nn t I) (e a):=j;obtain⟨⟨N,u,_⟩,J⟩:=j;rcases u with⟨⟨G,u⟩,_⟩|⟨H,o,c,O,T2,Q,u,_⟩
   ·cases G with
    |none=>exact absurd u (J _ _)|some G=>exact Kl d u p rfl h
   ·exact Kl d u p rfl h
  |_=>cases h
 |z6=>
  cases y with
  |z6=>exact OJ d j p rfl h|_=>cases h
 |v7=>
  cases y with
  |v7=>exact Jl d j p rfl h|_=>cases h
 |ptr id A=>
  cases y with
  |v7=>obtain⟨H,D,_⟩:=j;exact Jl d D p rfl h
  |_=>cases h
 |rp t x A=>
  cases y with
  |v7=>obtain⟨H,o,R,D,_⟩:=j;exact Jl d D p rfl h
  |_=>cases h
 |ag l=>
  cases y with
  |ag U=>exact NJ d j p h|_=>cases h
 |_=>cases h
theorem QG{c:UnOp}{x:SV}{C:World->Prop}(d:VR S E x (e a))(h:un c x k=some r):ua P S E e ⟨dst,.unOp c T a,ty,pos,aft,g⟩ k r C:=by
 unfold un at h;split at h
 ·exact⟨_,_,h,bV _,fun w _=>kP (vB d) rfl⟩
 ·exact⟨_,_,h,iV _,fun w _=>lP (vI d) rfl⟩
 ·cases h
theorem MZ{z x y:Operand}{t:Bool}{w:World}(c:e z = .bool t):(execOp e ⟨dst,.pick z x y,ty,pos,aft,g⟩).run P w = .ok (.value (bif t then e x else e y)) w:=by
 cases t with
 |true=>exact JB c rfl rfl|false=>exact KB c rfl rfl
theorem rD{t c:Ty}(h:t=c){y:den t}{u:Value}(k:VR S E (.v t y) u):VR S E (.v c (Ob h y)) u:=by subst h;exact k
theorem To{z x y:Operand}{t:Bool}{a b:SV}{C:World->Prop}(i:e z = .bool t)(j:VR S E a (e x))(l:VR S E b (e y))(h:ql t a b k=some r):ua P S E e ⟨dst,.pick z x y,ty,pos,aft,g⟩ k r C:=by
 have d:(bif t then k a else k b)=some r->ua P S E e ⟨dst,.pick z x y,ty,pos,aft,g⟩ k r C:=fun h=>by
  cases t with
  |true=>exact⟨_,_,h,j,fun w _=>MZ i⟩|false=>exact⟨_,_,h,l,fun w _=>MZ i⟩
 unfold ql at h;split at h
 ·rename_i a x c y;split at h
  ·rename_i o _;refine⟨_,bif t then _ else _,h,?_,fun w _=>MZ i⟩;cases t with
   |true=>exact j|false=>exact rD o l
  ·cases h
 ·exact d h
end
def kg(S:Mem):(l:List Ty)->LV->b8 l->Prop
 |[],c,_=>c=[]|[t],c,x=>∃u,c=[u]/\a7 t S u x|t::h::l,c,x=>∃u d,c=u::d/\a7 t S u x.1/\kg S (h::l) d x.2
def Be(S:Mem)(l:List Ty)(u:Value)(x:b8 l):Prop:=match l,x with
 |[t],x=>a7 t S u x|l,x=>∃c:LV,u = .tuple c.toArray/\kg S l c x
section
variable {S S2:Mem}{E:List EI}{hp:List AO}
theorem xbU{t c:Ty}(h:t=c){us:LV}{x:den t}(k:u7 t S us x):u7 c S us (Ob h x):=by subst h;exact k
structure Ns (S S2:Mem) (E:List EI) (hp:List AO):Prop where
 own:∀id ver e T (xs:List (den e)) u,V5 hp id=some (.H' ver e T xs)->VB S E (.own id ver) u->u7 (.sl e) S2 [u] xs
 N':∀id T cs u,V5 hp id=some (.N' T cs)->VB S E (.ptr id 0) u->∃b us,u = .pointer (some ⟨b,0,none⟩)/\e9 S2 b 0 us/\A2 (VC S E) cs us
theorem Pu:Ns S S2 E []:=⟨fun id c e T d u h=>(by cases id<;>cases h),fun id T i u h=>(by cases id<;>cases h)⟩
theorem RG(hS:Mem.le S S2)(z:Ns S S2 E hp){t:Ty}{x:SV}{u:Value}{y:den t}(h:Tf hp t x=some y)(d:VC S E x u):u7 t S2 [u] y:=by
 unfold Tf at h;split at h
 ·rename_i A x;split at h
  ·rename_i i _;cases h;exact xbU i ((Q9 A).mono d hS)
  ·cases h
 ·cases h;have:u = .slice none 0 0:=d;subst this;exact⟨_,rfl,x8.nil⟩
 ·cases h;obtain⟨j,_⟩:=d;refine⟨_,rfl,[],?_,rfl⟩;rcases j with j|⟨b,o,c,C,T,D,j,F,G,J,_⟩
  ·exact .inl j
  ·exact .inr ⟨b,o,c,C,T,D,j,F,hS _ _ G,by simp only[cN];omega,by simp[piece]⟩
 ·rename_i e q s;split at h
  ·rename_i i _;cases h;subst i;exact⟨_,rfl,x8.mono d.1 hS⟩
  ·cases h
 ·rename_i e q s;split at h
  ·rename_i i _;cases h;subst i;exact⟨_,rfl,x8.mono d.1 hS⟩
  ·cases h
 ·rename_i e id l;split at h
  ·rename_i p q T s H;cases v:aJ l p with
   |false=>rw[v]at h;cases h
   |true=>
    rw[v]at h;have I:=aB v;subst I;simp only[zF]at h;split at h
    ·rename_i i _;cases h;exact xbU _ (z.own id l q T s u H d.b)
    ·cases h
  ·cases h
 ·cases h
theorem uN(hS:Mem.le S S2)(o:Ns S S2 E hp):∀(t:Ty) {l:List SV} {us:LV} {y:den t},Uf hp t l=some y->A2 (VC S E) l us->u7 t S2 us y
 |.pr a c,l,us,y,h,d=>by
  simp only[Uf]at h;split at h
  ·rename_i v z p q;cases h;exact⟨_,_,(List.take_append_drop (l0 a) us).symm,uN hS o a p (d.take _),uN hS o c q (d.drop _)⟩
  ·cases h
 |.un,l,us,y,h,d=>by
  simp only[Uf]at h;split at h
  ·cases d;exact(rfl:[]=[])
  ·cases h
 |.i k,l,us,y,h,d=>by
  simp only[Uf]at h;split at h
  ·obtain⟨u,rfl,j⟩:=d.one;exact RG hS o h j
  ·cases h
 |.b,l,us,y,h,d=>by
  simp only[Uf]at h;split at h
  ·obtain⟨u,rfl,j⟩:=d.one;exact RG hS o h j
  ·cases h
 |.s,l,us,y,h,d=>by
  simp only[Uf]at h;split at h
  ·obtain⟨u,rfl,j⟩:=d.one;exact RG hS o h j
  ·cases h
 |.er,l,us,y,h,d=>by
  simp only[Uf]at h;split at h
  ·obtain⟨u,rfl,j⟩:=d.one;exact RG hS o h j
  ·cases h
 |.mp a _,l,us,y,h,d=>by
  simp only[Uf]at h;split at h
  ·obtain⟨u,rfl,j⟩:=d.one;exact RG hS o h j
  ·cases h
 |.sl e,l,us,y,h,d=>by
  simp only[Uf]at h;split at h
  ·obtain⟨u,rfl,j⟩:=d.one;exact RG hS o h j
  ·cases h
theorem SG(hS:Mem.le S S2)(j:Ns S S2 E hp){t:Ty}{x:SV}{u:Value}{y:den t}(h:Ea hp t x=some y)(l:VR S E x u):a7 t S2 u y:=by
 unfold Ea at h;unfold a7;split at h
 ·cases c:one t with
  |true=>rw[c]at h;cases h
  |false=>rw[c]at h;rw[zI (by simp)];obtain⟨o,d,p⟩:=l;exact⟨o,d,uN hS j t h p⟩
 ·rename_i q;cases c:one t with
  |false=>rw[c]at h;cases h
  |true=>
   rw[c]at h;rw[zJ rfl];have i:oa x=true:=by cases x<;>first|rfl|exact absurd rfl (q _)
   by_cases d:Ib x=true
   ·exact RG hS j h ((l.b d).b i)
   ·cases x<;>first|exact absurd rfl d|(cases t<;>cases h)
theorem Yh(hS:Mem.le S S2)(d:Ns S S2 E hp):∀(l:List Ty) {xs:List SV} {us:LV} {y:b8 l},JC hp l xs=some y->A2 (VR S E) xs us->kg S2 l us y
 |[],xs,us,y,h,c=>by
  cases c with
  |nil=>rfl|cons=>cases h
 |[t],xs,us,y,h,c=>by
  cases c with
  |nil=>cases h
  |cons a r=>
   cases r with
   |nil=>exact⟨_,rfl,SG hS d h a⟩|cons=>cases h
 |t::i::l,xs,us,y,h,c=>by
  cases c with
  |nil=>cases h
  |cons a r=>
   simp only[JC]at h;split at h
   ·rename_i p q j o;cases h;exact⟨_,_,rfl,SG hS d j a,Yh hS d (i::l) o r⟩
   ·cases h
theorem KA{t:Ty}{u:Value}{y:den t}(h:a7 t S u y):VA (VC S E) (W6 t y) u:=by
 unfold a7 at h;unfold W6;cases c:one t with
 |true=>rw[zJ c]at h;exact h|false=>rw[c,zI (by simp)]at h;obtain⟨d,i,h⟩:=h;exact⟨d,i,tN t h⟩
theorem lg:∀(l:List Ty) {us:LV} {y:b8 l},kg S l us y->A2 (VA (VC S E)) (rc l y) us
 |[],_,_,h=>by rw[show _=[]from h];exact .nil
 |[t],_,_,⟨u,e,h⟩=>by rw[e];exact .cons (KA h) .nil
 |t::c::l,_,_,⟨u,d,e,i,j⟩=>by rw[e];exact .cons (KA i) (lg (c::l) j)
theorem xdQ:∀(l:List Ty) (y:b8 l),(rc l y).length=l.length
 |[],_=>rfl|[_],_=>rfl|_::c::l,y=>by simp[rc,xdQ (c::l) y.2]
theorem Uo{l:List Ty}{u:Value}{y:b8 l}(h:Be S l u y):VR S E (Kh l y) u:=by
 match l,y,h with
 |[],y,⟨d,i,h⟩=>exact⟨d,i,lg [] h⟩|[t],y,h=>exact VR.of (KA h)|t::c::l,y,⟨d,i,h⟩=>
  have j:=lg (E:=E) (t::c::l) h;have o:Kh (t::c::l) y = .Bb (rc (t::c::l) y):=by
   unfold Kh;have:=xdQ (t::c::l) y;split
   ·rename_i p;rw[p]at this;simp at this
   ·rfl
  rw[o];exact⟨d,i,j⟩
theorem CU:∀(t:Ty) {us:LV} {x:den t},bw t=false->u7 t S us x->u7 t S2 us x
 |.i _,_,_,_,h=>h|.b,_,_,_,h=>h|.s,_,_,_,h=>h|.er,_,_,_,h=>h|.un,_,_,_,h=>h|.pr a c,_,_,d,⟨j,l,e,o,p⟩=>by simp only[bw,cV]at d;exact⟨j,l,e,CU a d.1 o,CU c d.2 p⟩
theorem NZ{t:Ty}{u:Value}{x:den t}(d:bw t=false)(h:a7 t S u x):a7 t S2 u x:=by
 unfold a7 at h ⊢;split at h
 ·rename_i c;rw[zJ c];exact CU t d h
 ·rename_i c;rw[zI c];obtain⟨i,e,h⟩:=h;exact⟨i,e,CU t d h⟩
theorem xbM:∀(l:List Ty) {us:LV} {x:b8 l},l.any bw=false->kg S l us x->kg S2 l us x
 |[],_,_,_,h=>h|[t],_,_,c,⟨u,e,h⟩=>⟨u,e,NZ (by simpa using c) h⟩|t::i::l,_,_,c,⟨u,d,e,j,o⟩=>by rw[List.any_cons,cV]at c;exact⟨u,d,e,NZ c.1 j,xbM (i::l) c.2 o⟩
theorem xbK{l:List Ty}{u:Value}{x:b8 l}(i:l.any bw=false)(h:Be S l u x):Be S2 l u x:=by
 match l,x,h with
 |[],_,⟨c,d,h⟩=>exact⟨c,d,h⟩|[t],_,h=>exact NZ (by simpa using i) h|t::j::l,_,⟨c,d,h⟩=>exact⟨c,d,xbM _ i h⟩
end
section
variable {β:Type}{τ:TE}{n:Nat}{P:Program}{B:r9}{S:Mem}{E:List EI}{L:List Q0}{σ:St}{m:FM}{w:World}{dst:Option Tmp}{g:Option (Nat×Bool)}{ty:TypeId}{pos:String}{aft:Array Edge}{a b x y:Operand}{T T':TypeId}{k:SV->Option β}{r:β}
theorem Na{o:Option SV}(h:V3 o k=some r):∃x,o=some x/\k x=some r:=by
 cases o with
 |none=>cases h
 |some x=>exact⟨x,rfl,h⟩
theorem r7{c:Bool}{o:Option β}(h:(bif c then o else none)=some r):c=true/\o=some r:=by
 cases c with
 |true=>exact⟨rfl,h⟩|false=>cases h
theorem Rel.P6(R:Rel n B S E L σ m w){i:Nat}{o:AO}(h:V5 σ.hp i=some o):∃r e,Y3 L i=some r/\E[i]? = some e/\OR S E o r e:=by rw[Fa]at h;obtain⟨r,e,c,d,j⟩:=R.obj i o h;exact⟨r,e,by rw[N7];exact c,d,j⟩
theorem OZ{l l2:LV}{o k:Nat}(h:o+k<=l.length):piece (l++l2) o k=piece l o k:=by rw[P9,P9,List.drop_append_of_le_length (by omega),List.take_append_of_le_length (by rw[bL];omega)]
theorem dc.eq{v v':Value}{n i:Nat}(h:dc S v v' n)(c:i<n):v'=v:=by
 rcases h with h|⟨_,h,_⟩
 ·exact h
 ·omega
theorem dc.Iv{w:World}{v v':Value}{n sz:Nat}{cs:LV}(h:dc S v v' n)(hS:Sub S w)(d:Oe w v n sz cs):Oe w v' n sz cs:=by
 rcases h with rfl|⟨rfl,rfl,h,a,rfl⟩
 ·exact d
 ·have s:=d.len;have:cs=[]:=aW (by omega);subst this;rcases h with⟨h,_,_⟩|⟨b,o,c,i,T,j,l,p,q,t,_⟩
  ·exact .inl ⟨h,rfl,rfl⟩
  ·exact .inr ⟨b,o,c,i,T,j,l,p,hS _ _ q,by omega,by simp[piece]⟩
theorem dc.one{v v':Value}{n:Nat}(h:dc S v v' n)(c:v.oneCell'=true):v'.oneCell'=true:=by
 rcases h with rfl|⟨_,_,_,a,rfl⟩
 ·exact c
 ·rfl
theorem MR.len{K V:Ty}{es:List (den K×den V)}{Q':List MapEntry}(h:MR S K V es Q'):Q'.length=es.length:=by obtain⟨l,c,d⟩:=h.perm;rw[<-d.len,c.length_eq]
theorem DU{b ck:Nat}{Q':Array MapEntry}(h:w.heap[b]? = some (.map Q' ck)):(getObj b).run P w = .ok (.map Q' ck) w:=by simp[getObj,Sem.run,h]
theorem PJ{e:Operand->Value}{K V:TypeId}{b ck N:Nat}{Q':List MapEntry}(c:P.underlying T=some (.map K V))(d:e x = .map (some b))(h:w.heap[b]? = some (.map Q'.toArray ck))(i:Q'.length=N):(execOp e ⟨dst,.call ⟨.builtin .len,#[x],#[T]⟩,ty,pos,aft,g⟩).run P w = .ok (.value (.int .i64 (N:Int))) w:=by subst i;have j:(getObj b).run P w = .ok (.map Q'.toArray ck) w:=DU h;simp[execOp,resolve,invoke,builtin,d,Builtin.len_,Go.underlying,c,j,goInt]
theorem mg{L:List Q0}{w:World}(H:HS B S w L){id N s:Nat}{v:Value}{cs rs:LV}(hk:Y3 L id=some (.H' v N s cs rs T)){i:Nat}(o:i<N):∃b c fz,v=sl b 0 N c/\cs.length=N*s/\w.heap[b]? = some (.cells (cs++rs).toArray T fz):=by
 rcases H.own id _ hk with⟨_,h,_⟩|⟨b,c,fz,d,_,j,_,l,_⟩
 ·omega
 ·exact⟨b,c,fz,d,j,l⟩
theorem Gw{L:List Q0}{w:World}(H:HS B S w L){id N s:Nat}{v:Value}{cs rs:LV}{ms:List R0}(hk:Y3 L id=some (.many (.H' v N s cs rs T::ms))){i:Nat}(o:i<N):∃b c fz,v=sl b 0 N c/\cs.length=N*s/\w.heap[b]? = some (.cells (cs++rs).toArray T fz):=by
 rcases(H.own id _ hk).1 _ aO with⟨_,h,_⟩|⟨b,c,fz,d,_,j,_,l,_⟩
 ·omega
 ·exact⟨b,c,fz,d,j,l⟩
theorem Hw{E':List EI}{x:SV}{u:Value}(hp:xG x=true)(h:VB S E x u):VB S E' x u:=by cases x<;>first|exact h|cases hp
theorem Ll{x:SV}(hp:xG x=true):Xf x=true:=by cases x<;>first|rfl|cases hp
theorem xbE{E':List EI}:∀{l:List SV} {us:LV},l.all xG=true->A2 (VC S E) l us->A2 (VC S E') l us
 |[],_,_,.nil=>.nil|x::l,_,h,.cons a t=>by simp only[cT,aI]at h;exact .cons (Hw h.1 (a.b (Ll h.1))).c (xbE h.2 t)
theorem jg.root{f:List x6}{x:den (fT f)}{rs:List R0}{b:Nat}(h:jg S f x rs b)(d:0<(Te f x).length):∃c us i,R0.N' b us c∈rs/\A2 (VC S i) (Te f x) us:=by
 obtain⟨i,o,v,z,p⟩:=h;unfold Te at d ⊢;split at d
 ·rename_i c A os hp;obtain⟨r,e,q,s,t⟩:=p 0 _ (by rw[hp];rfl);obtain⟨C,us,j,rfl,u⟩:=t;have l:=o _ s;rw[l]at j;refine⟨c,us,i,?_,u⟩;have:r = .N' b us c:=by cases r<;>simp only[R0.up,Q0.N'.injEq,reduceCtorEq]at j;obtain⟨rfl,rfl,rfl⟩:=j;rfl
  rw[<-this];exact bO q
 ·cases d
theorem Iw{sz:Nat}{p:SV}{k:List SV->Option β}(R:Rel n B S E L σ m w){u:Value}(hp:VR S E p u)(h:deref σ.hp p sz k=some r):∃l us,k l=some r/\A2 (VC S E) l us/\∀w',HS B S w' L->∃b o ds T' fz,u = .pointer (some ⟨b,o,none⟩)/\w'.heap[b]? = some (.cells (gM ds) T' fz)/\piece ds o sz=us:=by
 unfold deref at h;split at h
 ·rename_i id d;split at h
  ·rename_i G I J;obtain⟨r0,e0,O,h2,b,us,rfl,rfl,Q⟩:=R.P6 J;obtain⟨b1,hu,e1,A,C⟩:=hp;rw[h2]at A;cases A;cases C _ rfl;exact⟨_,_,h,lD d sz Q,fun w' H=>⟨b,d,us,G,(0,0),hu,H.own id _ O,rfl⟩⟩
  ·cases h
 ·rename_i t x d;obtain⟨N,h⟩:=r7 h;obtain⟨b,o,us,rfl,⟨ds,G,fz,O,h2,Q⟩,A⟩:=hp;have hl:us.length=l0 t:=by rw[(Q9 t).len A,gd]
  have N:=bK N;exact⟨_,_,h,lD d sz (tN t A),fun w' H=>⟨b,o+d,ds,G,fz,rfl,H.sub _ _ O,by rw[<-kN ds o us.length d sz (by omega),Q]⟩⟩
 ·rename_i id ver i d;split at h
  ·rename_i D e G xs J;obtain⟨s,F⟩:=r7 h;have hv:=aB (Z3 s);have N:=bK (Y4 s);clear h;obtain⟨x,hx,h⟩:=x9 F;clear F;subst hv;obtain⟨r0,e0,O,h2,v,v',I,rs,rfl,rfl,Q,hsm⟩:=R.P6 J;obtain⟨hi,z⟩:=qG hx;have U:=(aC.1 z).1;obtain rfl:=hsm.eq U;have hr:=RL.get Q z;rw[gd]at hr;obtain⟨_,e1,A,C⟩:=hp;rw[h2]at A;cases A;obtain⟨b,o,n',c,W,X⟩:=(C _ _ _ rfl).2 rfl;refine⟨_,_,h,lD d sz (tN e hr),fun w' H=>?_⟩;obtain⟨b',c',fz,j,M,Y⟩:=mg H O U;rw[W]at j;obtain⟨rfl,rfl⟩:b=b'/\o=0:=by injection j with j;injection j with j;injection j with j M;exact⟨j,M⟩
   refine⟨b,_,I++rs,G,fz,X,Y,?_⟩;have hm:i.toNat*l0 e+l0 e<=I.length:=by have:=dK (l0 e) (show i.toNat+1<=xs.length by omega);rw[cA,fA]at this;omega
   rw[OZ (by omega),aV,<-kN I (i.toNat*l0 e) (l0 e) d sz N]
  ·rename_i D e G xs J;obtain⟨s,F⟩:=r7 h;have hv:=aB (Z3 s);have N:=bK (Y4 s);clear h;obtain⟨x,hx,h⟩:=x9 F;clear F;subst hv;obtain⟨r0,e0,O,h2,b,c,p,ps,I,rs,q,c',rfl,rfl,g1,Z,g3,g4⟩:=R.P6 J;obtain⟨hi,z⟩:=qG hx;have U:=(aC.1 z).1;have hr:=RL.get Z z;rw[gd]at hr;obtain⟨_,e1,A,C⟩:=hp;rw[h2]at A;cases A;obtain⟨b',o,n',c2,W,X⟩:=(C _ _ _ rfl).2 rfl;obtain⟨rfl,rfl⟩:b=b'/\q=o:=by injection W with j;injection j with j;injection j with j M;exact⟨j,M⟩
   obtain⟨rfl,rfl⟩:q=p*l0 e/\c=p+c':=by
    rcases g4 with g4|g4
    ·exact g4
    ·omega
   refine⟨_,_,h,lD d sz (tN e hr),fun w' H=>?_⟩;obtain⟨b2,c3,fz,j,M,Y⟩:=mg H O (i:=p+i.toNat) (by omega);have hbb:b=b2:=by injection j with j;injection j with j;injection j
   subst hbb;refine⟨b,_,ps++I++rs,G,fz,X,Y,?_⟩;have hcl:I.length=xs.length*l0 e:=by have:=Z.len;rw[gd]at this;exact this
   have hm:i.toNat*l0 e+l0 e<=I.length:=by have:=dK (l0 e) (show i.toNat+1<=xs.length by omega);rw[cA,fA]at this;omega
   rw[OZ (by rw[List.length_append];omega),kN I (i.toNat*l0 e) (l0 e) d sz N,P9,P9,<-g1,dP,List.drop_append,List.drop_eq_nil_of_le (by omega),List.nil_append];congr 2;omega
  ·cases h
 ·rename_i id ver i;split at h
  ·rename_i D G f ks J;obtain⟨s,F⟩:=r7 h;have hv:=aB (Z3 s);have N:=aB (Y4 s);clear h;obtain⟨_,hk,h⟩:=x9 F;have hk:=Kv hk;have Q:=zD (Z3 hk);have A:=zD (Y4 hk);subst N;subst hv;obtain⟨r0,e0,g1,Z,v,rs,ms,bs,rfl,rfl,g3⟩:=R.P6 J;obtain⟨_,e1,C,W⟩:=hp;rw[Z]at C;cases C;obtain⟨b,n',c,X,h8⟩:=(W _ _ _ rfl).2 rfl;have hib:i.toNat<bs.length:=by rw[g3.l2];omega
   refine⟨_,[Q7 bs[i.toNat]],h,.cons (VB.c ⟨rfl,_,Z,fun r1 v1 s1 F=>by cases F;exact⟨Q,_,aH hib,rfl⟩⟩) .nil,fun w' H=>?_⟩;obtain⟨b',c',fz,j,M,Y⟩:=Gw H g1 (i:=i.toNat) (by omega);rw[X]at j;have hbb:b=b':=by injection j with j;injection j with j;injection j
   subst hbb;refine⟨b,_,bs.map Q7++rs,G,fz,h8,Y,?_⟩;rw[OZ (by rw[aE];omega),P9,List.drop_eq_getElem_cons (by rw[aE];exact hib)];simp
  ·cases h
 ·rename_i id i d;split at h
  ·rename_i D G f ks J;obtain⟨x,hx,h⟩:=x9 h;obtain⟨s,F⟩:=r7 h;clear h;have ha:=Y4 s;have hs:=zD (by rw[<-eo];exact Z3 (Z3 s));have hle:=bK (Y4 (Z3 s));obtain⟨hi,z⟩:=qG hx;obtain⟨r0,e0,g1,Z,v,rs,ms,bs,rfl,rfl,g3⟩:=R.P6 J;obtain⟨_,e1,C,W⟩:=hp;rw[Z]at C;cases C;obtain⟨_,b,X,h8⟩:=W _ _ _ rfl;obtain⟨rs1,b1,j,M,Y⟩:=g3.mem _ _ z (by simp);rw[X]at M;cases M;obtain⟨T1,us,Ei,k4,k5⟩:=Y.root (by omega);refine⟨_,_,F,xbE ha (lD d sz k5),fun w' H=>⟨b,d,us,T1,(0,0),h8,?_,rfl⟩⟩;exact(H.own id _ g1).1 (.N' b us T1) (aM _ (List.mem_flatten.2 ⟨rs1,bO j,k4⟩))
  ·cases h
 ·cases h
theorem yxB(d:P3 P τ){i o:Nat}{f:TI}(h:fieldAt τ T i=some (o,f)):∃a fd,P.underlying T=some (.struct a)/\a[i]? = some fd/\fd.offset=o/\l4 P fd.type f:=by
 unfold fieldAt at h;split at h
 ·rename_i fs t u v z4 l;split at h
  ·rename_i F z j;split at h
   ·rename_i A p;cases h;obtain⟨a,q,s⟩:=(d T _ l).st rfl;rw[Fa,<-s,List.getElem?_map]at j;cases c:a.toList[i]? with
    |none=>rw[c]at j;cases j
    |some fd=>rw[c]at j;cases j;exact⟨a,fd,q,by simpa using c,rfl,d _ _ p⟩
   ·cases h
  ·cases h
 ·cases h
theorem EU(c:P3 P τ){f:TI}(h:elemAt τ T=some f):∃E,P.underlying T=some (.slice E)/\l4 P E f:=by
 unfold elemAt at h;split at h
 ·rename_i d j l o z4 i;exact⟨d,(c T _ i).sl rfl,c _ _ h⟩
 ·cases h
theorem Vo{p:SV}{f:TI}{k:SV->Option β}(R:Rel n B S E L σ m w)(c:l4 P T f)(hp:VR S E p (o0 n m a))(h:deref σ.hp p f.sz (fun l=>V3 (Vb f l) k)=some r):
  ua P S E (o0 n m) ⟨dst,.load T a,ty,pos,aft,g⟩ k r (fun w'=>HS B S w' L):=by
 obtain⟨l,F,d,i,j⟩:=Iw R hp h;obtain⟨z,q,s⟩:=Na d;obtain⟨u,t,v⟩:=mD (dst:=dst) (g:=g) (ty:=ty) (pos:=pos) (aft:=aft) (x:=a) (e:=o0 n m) (T':=0) (b:=0) (o:=0) (ds:=[]) (fz:=(0,0)) c q i;exact⟨z,u,s,VR.of t,fun w' H=>by obtain⟨b,o,ds,T',fz,A,C,D⟩:=j w' H;exact v w' T' b o ds fz C A D⟩
theorem xcA{l:LV}{o:Nat}{u:Value}(h:piece l o 1=[u]):l[o]? = some u:=by rw[P9]at h;have:=congrArg (·[0]?) h;simpa using this
theorem Zh{i o:Nat}{f:TI}{l:List SV}{k:SV->Option β}{C:World->Prop}(j:P3 P τ)(hf:fieldAt τ T i=some (o,f))(I:VR S E (.ag l) (o0 n m a))(h:V3 (Vb f (pc l o f.sz)) k=some r):
  ua P S E (o0 n m) ⟨dst,.field T a i,ty,pos,aft,g⟩ k r C:=by
 obtain⟨fs,fd,v,A,rfl,D⟩:=yxB j hf;obtain⟨z,J,F⟩:=Na h;obtain⟨p,G,M⟩:=I;obtain⟨N,q⟩:=LZ J (lD fd.offset f.sz M);rcases q with⟨s,t⟩|⟨s,H,u,d,t⟩
 ·refine⟨z,_,F,VR.of t,fun c _=>?_⟩;have key:(part fd.type p.toArray fd.offset).run P c = .ok (.agg (piece p fd.offset f.sz).toArray) c:=Sv (D.ZC s) rfl c;simp[execOp,Instr.field,Go.underlying,v,A,G,asAgg,key]
 ·refine⟨z,u,F,VR.of t,fun c _=>?_⟩;rw[H]at d;have key:(part fd.type p.toArray fd.offset).run P c = .ok u c:=CC (D.Aw s H) (xcA d) c;simp[execOp,Instr.field,Go.underlying,v,A,G,asAgg,key]
theorem PZ{x z:SV}{o:Nat}{u:Value}(R:Rel n B S E L σ m w)(J:VR S E x u)(h:GG σ.hp x o=some z):∃b o',u = .pointer (some ⟨b,o',none⟩)/\VR S E z (.pointer (some ⟨b,o'+o,none⟩)):=by
 cases x with
 |rp t y j=>cases h;obtain⟨b,o1,us,O,M,p⟩:=J;exact⟨b,_,O,⟨b,o1,us,by rw[dP],M,p⟩⟩
 |ptr id j=>
  simp only[GG]at h;split at h
  ·rename_i Q Z H;cases h;obtain⟨b1,O,I,p,A⟩:=J;exact⟨b1,j,O,⟨b1,rfl,I,p,A⟩⟩
  ·cases h
 |ep id l i j=>
  simp only[GG]at h;split at h
  ·rename_i d e Q xs H;obtain⟨C,h⟩:aJ l d=true/\some (SV.ep id l i (j+o))=some z:=by
    cases q:aJ l d with
    |true=>rw[q]at h;exact⟨rfl,h⟩|false=>rw[q]at h;cases h
   have C:=aB C;cases h;subst C;obtain⟨r0,I,h1,N,v,v',Z,rs,rfl,rfl,h3,U⟩:=R.P6 H;obtain⟨M,I,p,A⟩:=J;rw[N]at p;cases p;obtain⟨W,D⟩:=A _ _ _ rfl;obtain⟨b,X,Y,c,F,G⟩:=D rfl;exact⟨b,_,G,⟨rfl,_,N,fun r v' s q=>by cases q;exact⟨aL _,fun _=>⟨b,X,Y,c,F,by rw[dP]⟩⟩⟩⟩
  ·rename_i d e Q xs H;obtain⟨C,h⟩:aJ l d=true/\some (SV.ep id l i (j+o))=some z:=by
    cases q:aJ l d with
    |true=>rw[q]at h;exact⟨rfl,h⟩|false=>rw[q]at h;cases h
   have C:=aB C;cases h;subst C;obtain⟨r0,I,h1,N,b0,c0,p0,ps,Z,rs,q0,c',rfl,rfl,h3,U⟩:=R.P6 H;obtain⟨M,I,p,A⟩:=J;rw[N]at p;cases p;obtain⟨W,D⟩:=A _ _ _ rfl;obtain⟨b,X,Y,c,F,G⟩:=D rfl;exact⟨b,_,G,⟨rfl,_,N,fun r v' s q=>by cases q;exact⟨aL _,fun _=>⟨b,X,Y,c,F,by rw[dP]⟩⟩⟩⟩
  ·cases h
 |fp id i j=>
  simp only[GG]at h;split at h
  ·rename_i d Q f ks H;cases h;obtain⟨r0,I,g1,g2,v,rs,ms,bs,rfl,rfl,g3⟩:=R.P6 H;obtain⟨_,e1,h5,h6⟩:=J;rw[g2]at h5;cases h5;obtain⟨A,b,M,p⟩:=h6 _ _ _ rfl;exact⟨b,j,p,⟨rfl,_,g2,fun r v' s q=>by cases q;exact⟨A,b,M,rfl⟩⟩⟩
  ·cases h
 |_=>cases h
theorem xcP{i o:Nat}{f:TI}{x:SV}{k:SV->Option β}(c:P3 P τ)(hf:fieldAt τ T i=some (o,f))(d:Nat.blt 0 f.sz=true)(j:Rel n B S E L σ m w)(l:VR S E x (o0 n m a))(h:V3 (GG σ.hp x o) k=some r):
  ua P S E (o0 n m) ⟨dst,.fieldAddr T a i,ty,pos,aft,g⟩ k r (fun w'=>HS B S w' L):=by
 obtain⟨fs,fd,p,q,rfl,s⟩:=yxB c hf;obtain⟨z,t,u⟩:=Na h;rw[eo]at d;have v:∀w,(sizeOf fd.type).run P w = .ok (f.sz-1+1) w:=fun w=>by rw[Nat.sub_add_cancel (zD d)];exact s.l0 w
 obtain⟨b,D,A,C⟩:=PZ j l t;exact⟨_,_,u,C,fun w' _=>MB p q v A⟩
theorem xaZ{q:IntKind}{i:Int}{f:TI}{x:SV}{k:SV->Option β}(hτ:P3 P τ)(hf:elemAt τ T=some f)(G:Rel n B S E L σ m w)(H:VR S E x (o0 n m a))(W:o0 n m b = .int q i) (h:NC σ.hp f x i k=some r):
  ua P S E (o0 n m) ⟨dst,.indexAddr T a b,ty,pos,aft,g⟩ k r (fun w'=>HS B S w' L):=by
 obtain⟨X,Y,Z⟩:=EU hτ hf
 have key:∀{e:Ty} {C:List (den e)},@x8 (den e) (Q9 e) S (o0 n m a) C->(bif aJ f.sz (l0 e)then aR (idx C i) fun x=>k (.rp e x 0)else none)=some r->ua P S E (o0 n m) ⟨dst,.indexAddr T a b,ty,pos,aft,g⟩ k r (fun w'=>HS B S w' L):=fun {e C} D h=>by
  obtain⟨hs,h⟩:=r7 h;have hs:=aB hs;obtain⟨y,hy,h⟩:=x9 h;obtain⟨h3,h4⟩:=qG hy;obtain⟨F,o,n',c,cs,h5,h6,I,s⟩:=D.get h4;rw[gd]at I;have d:Nf P X (l0 e):=by rw[<-hs];exact Z.l0
  exact⟨_,_,h,⟨F,o+i.toNat*l0 e,cs,rfl,I,s⟩,fun w' _=>FP Y d rfl h5 W h3 h6⟩
 cases x with
 |v t C=>
  cases t with
  |sl e=>obtain⟨v,l,D⟩:=H;injection l with l;exact key (by rw[l];exact D) h
  |_=>cases h
 |cl e C=>exact key H.1 h|own id ver=>
  simp only[NC]at h;split at h
  ·rename_i u e T0 C J;obtain⟨z,h⟩:=r7 h;have l:=aB (Z3 z);have hs:=aB (Y4 z);obtain⟨_,j,h⟩:=x9 h;have j:=Kv j;have h3:=zD (Z3 j);have h4:=zD (Y4 j);obtain⟨r0,M,g1,A,v,v',cs,rs,rfl,rfl,g3,hsm⟩:=G.P6 J;obtain⟨I,M,s,N⟩:=H;rw[A]at s;cases s;have O:=(N _ _ _ rfl).2 l;obtain rfl:=hsm.eq (i:=i.toNat) (by omega);obtain⟨F,Q,fz,R,k2,k3⟩:=mg G.hs g1 (i:=i.toNat) (by omega);have d:Nf P X (l0 e):=by rw[<-hs];exact Z.l0
   refine⟨_,_,h,⟨rfl,_,A,fun r1 v1 s1 U=>?_⟩,fun w' _=>FP Y d O R W (show i=(i.toNat:Int) by omega) (by omega)⟩;cases U;exact⟨eI l,fun _=>⟨F,0,_,Q,R,by rw[gB]⟩⟩
  ·rename_i u e T0 C J;obtain⟨z,h⟩:=r7 h;have l:=aB (Z3 z);have hs:=aB (Y4 z);obtain⟨_,j,h⟩:=x9 h;have j:=Kv j;have h3:=zD (Z3 j);have h4:=zD (Y4 j);obtain⟨r0,M,g1,A,F,c,p,ps,cs,rs,q,Q,rfl,rfl,g3⟩:=G.P6 J;obtain⟨I,M,s,N⟩:=H;rw[A]at s;cases s;have O:=(N _ _ _ rfl).2 l;have d:Nf P X (l0 e):=by rw[<-hs];exact Z.l0
   refine⟨_,_,h,⟨rfl,_,A,fun r1 v1 s1 U=>?_⟩,fun w' _=>FP Y d O rfl W (show i=(i.toNat:Int) by omega) (by omega)⟩;cases U;exact⟨eI l,fun _=>⟨F,q,_,Q,rfl,by rw[gB]⟩⟩
  ·cases h
 |fs id ver=>
  simp only[NC]at h;split at h
  ·rename_i u T0 f' ks J;obtain⟨z,h⟩:=r7 h;have l:=aB (Z3 z);have hs:=aB (Y4 z);obtain⟨_,j,h⟩:=x9 h;have j:=Kv j;have h3:=zD (Z3 j);have h4:=zD (Y4 j);obtain⟨r0,M,g1,A,v,rs,ms,bs,rfl,rfl,g3⟩:=G.P6 J;obtain⟨I,M,s,N⟩:=H;rw[A]at s;cases s;have O:=(N _ _ _ rfl).2 l;obtain⟨F,Q,fz,R,k2,k3⟩:=Gw G.hs g1 (i:=i.toNat) (by omega);have d:Nf P X 1:=by rw[<-hs];exact Z.l0
   refine⟨_,_,h,⟨rfl,_,A,fun r1 v1 s1 U=>?_⟩,fun w' _=>FP Y d O R W (show i=(i.toNat:Int) by omega) (by omega)⟩;cases U;exact⟨eI l,fun _=>⟨F,_,Q,R,by rw[aV,Nat.mul_one]⟩⟩
  ·cases h
 |_=>cases h
theorem Jw{q:IntKind}{i:Int}{l:Bs}{k:SV->Option β}(d:P.underlying T=some .string)(j:o0 n m a=str l)(o:o0 n m b = .int q i)(h:(aR (idx l i) fun c=>k (.v (.i .u8) (show UInt8 from c)))=some r):
  ua P S E (o0 n m) ⟨dst,.index T a b,ty,pos,aft,g⟩ k r (fun w'=>HS B S w' L):=by
 obtain⟨y,p,h⟩:=x9 h;obtain⟨s,t⟩:=qG p;exact⟨_,_,h,(rfl:[_]=[_]),fun w' _=>MI d j o s t⟩
theorem QJ{x:SV}{k:SV->Option β}(C:P3 P τ)(O:Rel n B S E L σ m w)(o:VR S E x (o0 n m a))(h:(iw τ T σ.hp x fun n=>k (.v (.i .i64) n))=some r):
  ua P S E (o0 n m) ⟨dst,.call ⟨.builtin .len,#[a],#[T]⟩,ty,pos,aft,g⟩ k r (fun w'=>HS B S w' L):=by
 unfold iw at h;split at h
 ·rename_i z1 z2 z3 z4 M;cases x with
  |v t l=>
   cases t with
   |s=>exact⟨_,_,h,(rfl:[_]=[_]),fun w' _=>Qk ((C T _ M).str rfl) (vS o) rfl⟩|_=>cases h
  |_=>cases h
 ·rename_i E' z1 z2 z3 z4 M;have z:=(C T _ M).sl rfl;cases x with
  |v t l=>
   cases t with
   |sl e=>obtain⟨v,u,R⟩:=o;injection u with u;exact⟨_,_,h,(rfl:[_]=[_]),fun w' H=>Pf (xs:=l) z u R H.sub⟩
   |_=>cases h
  |Y'=>have o:o0 n m a = .slice none 0 0:=o;exact⟨_,_,h,(rfl:[_]=[_]),fun w' _=>Lk z o⟩|own id U=>
   simp only[]at h;split at h
   ·rename_i A e W xs D;obtain⟨N,h⟩:=r7 h;have u:=aB N;obtain⟨X,F,J,G,v,v',cs,rs,rfl,rfl,Q,Y⟩:=O.P6 D;obtain⟨Z,F,d,I⟩:=o;rw[G]at d;cases d;have j:=(I _ _ _ rfl).2 u;exact⟨_,_,h,(rfl:[_]=[_]),fun w' H=>Of z j (Y.Iv H.sub (H.Iv J))⟩
   ·rename_i A e W xs D;obtain⟨N,h⟩:=r7 h;have u:=aB N;obtain⟨X,F,J,G,b',c,p,ps,cs,rs,q,c',rfl,rfl,Q⟩:=O.P6 D;obtain⟨Z,F,d,I⟩:=o;rw[G]at d;cases d;have j:=(I _ _ _ rfl).2 u;exact⟨_,_,h,(rfl:[_]=[_]),fun w' H=>Lk z j⟩
   ·cases h
  |fs id U=>
   simp only[]at h;split at h
   ·rename_i A W f' ks D;obtain⟨N,h⟩:=r7 h;have u:=aB N;obtain⟨X,F,J,G,v,rs,ms,bs,rfl,rfl,Q⟩:=O.P6 D;obtain⟨Z,F,d,I⟩:=o;rw[G]at d;cases d;have j:=(I _ _ _ rfl).2 u;exact⟨_,_,h,(rfl:[_]=[_]),fun w' H=>Of z j (Q0.Iv (v:=v) (n:=ks.length) (sz:=1) (cs:=bs.map Q7) (rs:=rs) (T:=W) ((H.own id _ J).1 _ aO))⟩
   ·cases h
  |cl e l=>exact⟨_,_,h,(rfl:[_]=[_]),fun w' H=>Pf (xs:=l) z rfl o.1 H.sub⟩|_=>cases h
 ·rename_i K V z1 z2 z3 z4 M;have z:=(C T _ M).map rfl;cases x with
  |mpr id=>
   simp only[]at h;split at h
   ·rename_i g K' V' es D;obtain⟨X,F,J,G,b,Q',ck,rfl,rfl,Q,g4⟩:=O.P6 D;obtain⟨Z,F,d,I⟩:=o;rw[G]at d;cases d;have hm:=I _ _ _ _ rfl;refine⟨_,_,h,(rfl:[_]=[_]),fun w' H=>?_⟩;have hh:w'.heap[b]? = some (.map Q'.toArray ck):=H.own id _ J;exact PJ z hm hh Q.len
   ·cases h
  |_=>cases h
 ·cases h
theorem Wo{q c:IntKind}{x:den (.i q)}{D:TypeId}{f:TI}{k:SV->Option β}{C:World->Prop}(j:l4 P T f)(l:P.underlying D=some (.int c))(o:o0 n m a = .int q (c6 q x))(h:k (.v (.i c) (Sf c (c6 q x)))=some r):
  ua P S E (o0 n m) ⟨dst,.convert T D a,ty,pos,aft,g⟩ k r C:=by
 obtain⟨d,p,_⟩:=j.d;exact⟨_,_,h,iV _,fun s _=>FI p l o rfl⟩
theorem ywJ{i:Nat}{l:List SV}{k:SV->Option β}{C:World->Prop}(c:VR S E (.Bb l) (o0 n m a))(h:V3 (V5 l i) k=some r):
  ua P S E (o0 n m) ⟨dst,.extract a i,ty,pos,aft,g⟩ k r C:=by
 obtain⟨z,d,j⟩:=Na h;obtain⟨t,o,p⟩:=c;obtain⟨u,q,s⟩:=p.at d;exact⟨z,u,j,VR.of s,fun v _=>Jr o q⟩
theorem ng(R:Rel n B S E L σ m w):∀{l:List Operand} {xs:List SV},pN σ l=some xs->A2 (VR S E) xs (l.map (o0 n m))
 |[],_,h=>by cases h;exact .nil
 |x::l,xs,h=>by
  unfold pN at h;split at h
  ·rename_i a i c d;cases h;exact .cons (p7 R c) (ng R d)
  ·cases h
theorem ai(c:P3 P τ){w:World}:∀{d:List Field} {pl:List (Nat×Nat)},Oh τ (d.map fun f=>(f.type,f.offset))=some pl->(d.mapM fun f=>do pure (f.offset,<-sizeOf f.type):Sem (List (Nat×Nat))).run P w = .ok pl w
 |[],_,h=>by cases h;simp
 |fd::d,pl,h=>by
  simp only[bF,Oh]at h;split at h
  ·rename_i p q i j;cases h;have l:=(c _ _ i).l0 w;have o:=ai c (w:=w) j;simp only[List.mapM_cons,La,l,Gf,Eb,o]
  ·cases h
theorem QZ(R:Rel n B S E L σ m w){pl:List (Nat×Nat)}:∀{ps:List (Nat×Operand)} {l d:List SV} {us:LV},xJ pl σ ps l=some d->A2 (VC S E) l us ->∃c,ko pl us (zv (o0 n m) ps)=some c/\A2 (VC S E) d c
 |[],l,d,us,h,j=>by cases h;exact⟨us,rfl,j⟩
 |(i,x)::ps,l,d,us,h,j=>by
  unfold xJ at h;split at h
  ·rename_i M o z u v;obtain⟨q,h⟩:=r7 h;have A:=VR.b (p7 R u) (Y4 q);have C:=aB (Z3 (Z3 q));have D:=bK (Y4 (Z3 q));obtain⟨t,_⟩:=BU A;obtain⟨c,F,G⟩:=QZ R h (uQ o j t);refine⟨c,?_,G⟩
   have s:∀(pl:List (Nat×Nat)) (i:Nat),ch pl i=V5 pl i:=fun pl=>by
    induction pl with
    |nil=>intro i;cases i<;>rfl
    |cons p pl H=>intro i;cases i with
     |zero=>rfl|succ i=>exact H i
   simp only[zv,ko,s,v];have I:aJ (o0 n m x).cells.toList.length z=true:=by rw[<-t.len];rw[C];simp
   have J:Nat.ble (o+z) us.length=true:=by rw[<-j.len];rw[Nat.ble_eq];exact D
   rw[I,J];exact F
  ·cases h
theorem Kw{fs:List (TypeId×Nat)}{f:TI}{pl:List (Nat×Nat)}{ps:List (Nat×Operand)}{l:List SV}{k:SV->Option β}(c:P3 P τ)(R:Rel n B S E L σ m w)(d:l4 P T f)(hf:f.td = .st fs)(hp:Oh τ fs=some pl)(o:xJ pl σ ps f.z=some l) (h:k (.ag l)=some r):ua P S E (o0 n m) ⟨dst,.build T ps.toArray,ty,pos,aft,g⟩ k r (fun w'=>HS B S w' L):=by
 obtain⟨a,p,q⟩:=d.st hf;have i:f.agg=true:=by unfold TI.agg;rw[hf]
 have s:zV f = .agg (f.z.map zc).toArray:=by unfold zV;rw[i];rfl
 have j:mP P T (zV f) pl:=OB p d.zero fun w=>by rw[<-q]at hp;have:=ai c (w:=w) hp;rw[Array.mapM_eq_mapM_toList];simp only[Sem.run_map,this];rfl
 obtain⟨t,u,v⟩:=QZ R (pl:=pl) o (PG d.z);refine⟨_,_,h,⟨t,rfl,v⟩,fun w' _=>mo j rfl ?_⟩;rw[s];simpa[Value.cells]using u
theorem Xo(z:Nat):∀(n j:Nat),rl z n j=(List.range' j n).map fun i=>(i*z,z)
 |0,_=>rfl|n+1,j=>by rw[rl,Xo z n (j+1),List.range'_succ];rfl
theorem Ps{N:Nat}{E':TypeId}{f fe:TI}{ps:List (Nat×Operand)}{l:List SV}{k:SV->Option β}(R:Rel n B S E L σ m w)(c:l4 P T f)(hf:f.td = .ar N E')(j:l4 P E' fe)(o:xJ (rl fe.sz N 0) σ ps f.z=some l) (h:k (.ag l)=some r):ua P S E (o0 n m) ⟨dst,.build T ps.toArray,ty,pos,aft,g⟩ k r (fun w'=>HS B S w' L):=by
 have d:f.agg=true:=by unfold TI.agg;rw[hf]
 have p:zV f = .agg (f.z.map zc).toArray:=by unfold zV;rw[d];rfl
 have i:mP P T (zV f) (rl fe.sz N 0):=NB (c.arr hf) c.zero j.l0 (Xo fe.sz N 0).symm;obtain⟨q,s,t⟩:=QZ R (pl:=rl fe.sz N 0) o (PG c.z);refine⟨_,_,h,⟨q,rfl,t⟩,fun w' _=>mo i rfl ?_⟩;rw[p];simpa[Value.cells]using s
theorem RZ{γ:Type}{i:Int}{k:Nat->Option γ}{r:γ}:∀{n j:Nat},Gs n j i k=some r->∃c,c<j+n/\i=(c:Int)/\k c=some r
 |0,_,h=>by cases h
 |n+1,j,h=>by
  unfold Gs at h;cases d:decide (i=(j:Int)) with
  |true=>rw[d]at h;exact⟨j,by omega,zD d,h⟩|false=>rw[d]at h;obtain⟨c,p,l,o⟩:=RZ (n:=n) (j:=j+1) h;exact⟨c,by omega,l,o⟩
theorem Lw{x b:Operand}{k:SV->Option β}(c:P3 P τ)(R:Rel n B S E L σ m w)(h:jw τ σ T x b k=some r):
  ua P S E (o0 n m) ⟨dst,.indexAddr T x b,ty,pos,aft,g⟩ k r (fun w'=>HS B S w' L):=by
 unfold jw at h;split at h
 ·rename_i N F G H I z4 d;split at h
  ·rename_i f l;obtain⟨J,o,h⟩:=Na h;obtain⟨si,p,h⟩:=Na h;split at h
   ·rename_i q i;obtain⟨j,s,t,h⟩:=RZ h;rw[aV]at s;obtain⟨z,u,v⟩:=Na h;obtain⟨M,O,A,C⟩:=PZ R (p7 R o) u;have D:=vI (p7 R p);exact⟨z,_,v,C,fun w' _=>LB ((c _ _ d).arr rfl) (c _ _ l).l0 A D (show(c6 q i).toNat=j by omega) (by omega) (by omega)⟩
   ·cases h
  ·cases h
 ·cases h
theorem Qs{q:IntKind}{i:den (.i q)}{N:Nat}{E':TypeId}{f fe:TI}{b:Operand}{l:List SV}{k:SV->Option β}{C:World->Prop}(Q:l4 P T f)(hf:f.td = .ar N E')(t:l4 P E' fe)(R:VR S E (.ag l) (o0 n m a))(J:o0 n m b = .int q (c6 q i)) (h:(Gs N 0 (c6 q i) fun j=>V3 (Vb fe (pc l (j*fe.sz) fe.sz)) k)=some r):
  ua P S E (o0 n m) ⟨dst,.index T a b,ty,pos,aft,g⟩ k r C:=by
 obtain⟨j,v,d,h⟩:=RZ h;rw[aV]at v;obtain⟨z,U,M⟩:=Na h;obtain⟨A,O,W⟩:=R;obtain⟨X,D⟩:=LZ U (lD (j*fe.sz) fe.sz W);have o:=Q.arr hf;have p:=t.l0;rcases D with⟨F,G⟩|⟨F,H,u,I,G⟩
 ·refine⟨z,_,M,VR.of G,fun c _=>?_⟩;have key:(part E' A.toArray (j*fe.sz)).run P c = .ok (.agg (piece A (j*fe.sz) fe.sz).toArray) c:=Sv (t.ZC F) rfl c;simp[execOp,Instr.index,asIntOf,Go.underlying,o,O,J,d,v,p c,key]
 ·refine⟨z,u,M,VR.of G,fun c _=>?_⟩;have s:=I;rw[H]at s;have key:(part E' A.toArray (j*fe.sz)).run P c = .ok u c:=CC (t.Aw F H) (xcA (by rw[H];exact s)) c;simp[execOp,Instr.index,asIntOf,Go.underlying,o,O,J,d,v,p c,key]
end
theorem A2.Yo{c γ:Type}{R:c->γ->Prop}:∀{l:List c} {m:List γ},A2 R l m->∀a∈l,∃b∈m,R a b
 |_,_,.nil,b,h=>by cases h
 |_,_,.cons a t,b,h=>by
  rcases aN.1 h with rfl|h
  ·exact⟨_,aO,a⟩
  ·obtain⟨x,d,i⟩:=A2.Yo t b h;exact⟨x,aM _ d,i⟩
theorem SZ:∀{k:IntKind} {x y:den (.i k)},c6 k x=c6 k y->x=y
 |.u8,x,_y,h=>UInt8.toNat_inj.1 (Int.ofNat.inj h)|.u16,x,_y,h=>UInt16.toNat_inj.1 (Int.ofNat.inj h)|.u32,x,_y,h=>UInt32.toNat_inj.1 (Int.ofNat.inj h)|.u64,x,_y,h=>UInt64.toNat_inj.1 (Int.ofNat.inj h)|.i8,_,_,h=>h|.i16,_,_,h=>h|.i32,_,_,h=>h|.i64,_,_,h=>h
theorem Zo{d:TD}{K:Ty}(h:VP d K=true):Ud K=true:=by cases d<;>cases K<;>first|rfl|cases h
theorem RJ{τ:TE}{d:TD}{K:Ty}(h:Es τ d K=true):Ud K=true:=by
 unfold Es at h;split at h
 ·rfl
 ·exact Zo h
theorem LI{a b:Bs}(h:str a=str b):a=b:=by have h:Value.string ⟨a.toArray⟩ = .string ⟨b.toArray⟩:=h;injection h with h;injection h with h;injection h
theorem vN:∀{K:Ty},Ud K=true->∀{a b:den K},kv K a=kv K b->a=b
 |.i k,_,a,b,h=>by have h:Value.int k (c6 k a) = .int k (c6 k b):=h;injection h with _ h;exact SZ h
 |.s,_,a,b,h=>by have h:str a=str b:=h;exact LI h
 |.pr .s .s,_,a,b,h=>by have h:Value.agg [str a.1,str a.2].toArray = .agg [str b.1,str b.2].toArray:=h;injection h with h;have h:=List.toArray_inj h;injection h with d c;injection c with c;exact Prod.ext (LI d) (LI c)
theorem A2.Mw{c γ:Type}{R:c->γ->Prop}:∀{l:List c} {m:List γ} {i:Nat} {b:γ},A2 R l m->m[i]? = some b->∃a,l[i]? = some a/\R a b
 |_,_,_,_,.nil,h=>by simp at h
 |_,_,0,_,.cons a _,h=>by simp at h;subst h;exact⟨_,rfl,a⟩
 |_,_,i+1,_,.cons _ t,h=>by obtain⟨a,d,j⟩:=A2.Mw (i:=i) t (by simpa using h);exact⟨a,by simpa using d,j⟩
theorem Ml:∀{K:Ty},Ud K=true->∀{a b:den K},o5 K a b=true↔a=b
 |.i k,_,a,b=>by show decide (c6 k a=c6 k b)=true↔_;rw[decide_eq_true_iff];exact⟨SZ,fun h=>by rw[h]⟩
 |.s,_,a,b=>by show @BEq.beq Bs _ a b=true↔_;exact beq_iff_eq
 |.pr .s .s,_,a,b=>by
  have key:∀a b:Bs×Bs,(a.1==b.1&&a.2==b.2)=true↔a=b:=fun a b=>by rw[aI,beq_iff_eq,beq_iff_eq];exact⟨fun h=>Prod.ext h.1 h.2,fun h=>by rw[h];exact⟨rfl,rfl⟩⟩
  exact key a b
theorem SJ{K:Ty}(c:Ud K=true){a b:den K}:o5 K a b=false↔a≠b:=by rw[<-cM,Ml c]
theorem Nl{S:Mem}:∀{K:Ty},Ud K=true->∀{u:Value} {x:den K},a7 K S u x->u=kv K x
 |.i k,_,u,x,h=>by have h:[u]=[Value.int k (c6 k x)]:=h;injection h
 |.s,_,u,x,h=>by have h:[u]=[str x]:=h;injection h
 |.pr .s .s,_,u,x,h=>by have h:∃c:LV,u = .agg c.toArray/\∃d j,c=d++j/\d=[str x.1]/\j=[str x.2]:=h;obtain⟨_,rfl,_,_,rfl,rfl,rfl⟩:=h;rfl
theorem TG{S:Mem}:∀{K:Ty},Ud K=true->∀{x:den K},a7 K S (kv K x) x
 |.i _k,_,x=>(rfl:[_]=[_])|.s,_,x=>(rfl:[_]=[_])|.pr .s .s,_,x=>⟨[str x.1,str x.2],rfl,[str x.1],[str x.2],rfl,rfl,rfl⟩
section
variable {γ:Type}{K:Ty}
theorem ap(d:Ud K=true):∀{es:List (den K×γ)} {k:den K} {v:γ},W0 (o5 K) es k=some v->(k,v)∈es
 |q::es,k,v,h=>by
  unfold W0 at h;cases c:o5 K q.1 k with
  |true=>rw[c]at h;cases h;rw[<-(Ml d).1 c];exact aO
  |false=>rw[c]at h;exact aM _ (ap d h)
theorem bi(c:Ud K=true):∀{es:List (den K×γ)} {p:den K×γ},es.Pairwise (fun p q=>o5 K p.1 q.1=false)->p∈es->W0 (o5 K) es p.1=some p.2
 |q::es,p,hp,hm=>by
  unfold W0;rcases aN.1 hm with rfl|hm
  ·rw[(Ml c).2 rfl];rfl
  ·have d:=(bD.1 hp).1 p hm;rw[d];exact bi c (bD.1 hp).2 hm
theorem GU(c:Ud K=true):∀{es:List (den K×γ)} {k:den K},J' (o5 K) es k=true↔∃p∈es,p.1=k
 |[],k=>by simp[J']
 |q::es,k=>by unfold J';rw[cH,Ml c,GU c];simp
theorem xaJ(c:Ud K=true):∀{es:List (den K×γ)} {k:den K},J' (o5 K) es k=false->W0 (o5 K) es k=none
 |[],_,_=>rfl|q::es,k,h=>by unfold J' at h;rw[cV]at h;unfold W0;rw[h.1];exact xaJ c h.2
end
section
variable {P:Program}{S:Mem}{K V:Ty}{w:World}
theorem Nw(a b:Bs):((⟨a.toArray⟩:ByteArray)==⟨b.toArray⟩)=(a==b):=by show(a.toArray==b.toArray)=_;simp
theorem Ol{d:TypeDesc}(l:VP (FJ d) K=true)(x y:den K):Instr.sameNow d (kv K x) (kv K y)=some (o5 K y x):=by
 have o:=Zo l
 have j:∀b:Bool,(b=true↔y=x)->b=o5 K y x:=fun b h=>by
  cases q:o5 K y x with
  |true=>rw[h.2 ((Ml o).1 q)]|false=>cases j:b with
   |false=>rfl|true=>exact absurd (h.1 j) ((SJ o).1 q)
 cases K with
 |i k=>
  cases d<;>first|(cases l;done)|skip
  simp only[Instr.sameNow,kv,if_true];rw[j (c6 k x==c6 k y) (by rw[beq_iff_eq];exact⟨fun h=>(SZ h).symm,fun h=>by rw[h]⟩)]
 |s=>
  cases d<;>first|(cases l;done)|skip
  have p:∀x y:Bs,(x==y)=true↔y=x:=fun x y=>by rw[beq_iff_eq];exact eq_comm
  show some ((⟨gM (show Bs from x)⟩:ByteArray)==⟨gM (show Bs from y)⟩)=_;rw[Nw,j _ (p _ _)]
  --, j _ (by rw [beq_iff_eq]; exact eq_comm)]
 |pr a c=>cases d<;>cases a<;>cases c<;>cases l
 |_=>cases o
inductive HU (K V:Ty) (k:den K) (l:List (den K×den V)) (Q':List MapEntry) (i:Nat):Option (Nat×Value)->Prop
 |no:(∀p∈l,p.1≠k)->HU K V k l Q' i none
 |yes {j p en}:l[j]? = some p->Q'[j]? = some en->p.1=k->HU K V k l Q' i (some (i+j,en.val))
inductive ci (K:Ty) (k:den K) (Q':List MapEntry) (i:Nat):Option (Nat×Value)->Prop
 |no:(∀en∈Q',en.key≠kv K k)->ci K k Q' i none
 |yes {j en}:Q'[j]? = some en->en.key=kv K k->ci K k Q' i (some (i+j,en.val))
theorem ci.cons{k:den K}{d:MapEntry}{Q':List MapEntry}{i:Nat}{o:Option (Nat×Value)}(h:ci K k Q' (i+1) o)(l:d.key≠kv K k):ci K k (d::Q') i o:=by
 cases h with
 |no h=>exact .no fun q c=>(aN.1 c).elim (fun e=>e▸l) (h q)
 |yes p s=>rename_i j t;rw[show i+1+j=i+(j+1) by omega];exact .yes (by simpa using p) s
theorem ywR{q:TypeDesc}(d:VP (FJ q) K=true)(k:den K):∀(Q':List MapEntry) (i:Nat),(∀c∈Q',∃x:den K,c.key=kv K x)->∃o,sQ q (kv K k) Q' i=some o/\ci K k Q' i o
 |[],i,_=>⟨none,rfl,.no (by simp)⟩|c::Q',i,h=>by
  have l:=Zo d;obtain⟨x,p⟩:=h c aO;unfold sQ;rw[p,Ol d];cases s:o5 K x k with
  |true=>exact⟨some (i,c.val),rfl,.yes (j:=0) rfl (by rw[p,(Ml l).1 s])⟩|false=>obtain⟨o,t,u⟩:=ywR d k Q' (i+1) fun e v=>h e (aM _ v);exact⟨o,t,u.cons (by rw[p];exact fun e=>(SJ l).1 s (vN l e))⟩
theorem ywK{Kt:TypeId}(hk:Ud K=true)(p:∀(x y:den K) w,(EJ Kt (kv K x) (kv K y)).run P w = .ok (o5 K x y) w)(k:den K):∀(Q':List MapEntry) (i:Nat),(∀c∈Q',∃x:den K,c.key=kv K x)->∃o,(∀w,(Instr.findAsking Kt (kv K k) Q' i).run P w = .ok o w)/\ci K k Q' i o
 |[],i,_=>⟨none,fun w=>rfl,.no (by simp)⟩|c::Q',i,h=>by
  obtain⟨x,d⟩:=h c aO;cases l:o5 K k x with
  |true=>have e:=(Ml hk).1 l;refine⟨some (i,c.val),fun w=>?_,.yes (j:=0) rfl (by rw[d,e])⟩;simp[Instr.findAsking,d,p,l]|false=>obtain⟨o,q,s⟩:=ywK hk p k Q' (i+1) fun e t=>h e (aM _ t);exact⟨o,fun w=>by simp[Instr.findAsking,d,p,l,q],s.cons (by rw[d];exact fun e=>(SJ hk).1 l (vN hk e).symm)⟩
structure Rs (P:Program) (Kt:TypeId) (K:Ty):Prop where
 ok:Ud K=true
 ck:∀(e:Bool) (k:den K) w,(YC e 10000 Kt (kv K k)).run P w = .ok () w
 fk:∀(k:den K) (Q':List MapEntry),(∀en∈Q',∃x:den K,en.key=kv K x)->∃o,(∀w,(sN Kt (kv K k) Q').run P w = .ok o w)/\ci K k Q' 0 o
theorem TJ{Kt:TypeId}{i:TypeDesc}(hk:P.underlying Kt=some i)(j:VP (FJ i) K=true):Rs P Kt K:=by
 refine⟨Zo j,fun e k w=>?_,fun k Q' h=>?_⟩
 ·have l:∀d e,(YC e (d+1) Kt (kv K k)).run P w = .ok () w:=fun d e=>by
   cases K with
   |pr a c=>cases i<;>cases a<;>cases c<;>cases j
   |_=>cases i<;>first|(cases j;done)|(simp[YC,Go.underlying,hk,kv,str])
  exact l 9999 _
 ·obtain⟨o,p,q⟩:=ywR j k Q' 0 h;exact⟨o,fun w=>by simp[sN,Go.underlying,hk,p],q⟩
theorem bp{τ:TE}(c:P3 P τ){F:TypeId}(h:OC τ F=true):P.underlying F=some .string/\Xc P F:=by
 unfold OC at h;split at h
 ·rename_i i;have d:=c _ _ i;exact⟨d.str rfl,d.Aw rfl (d.HJ rfl)⟩
 ·cases h
theorem TZ{τ:TE}(c:P3 P τ){Kt:TypeId}{G:TI}(hk:j3 τ Kt=some G)(h:Es τ G.td K=true):Rs P Kt K:=by
 have v:=c _ _ hk;unfold Es at h;split at h
 ·rename_i F H i;obtain⟨f1,f2⟩:=bp c (Z3 h);obtain⟨I,z⟩:=bp c (Y4 h);obtain⟨a,j,u⟩:=v.st i;obtain⟨N,J,_⟩:=v.eqs i j
  have O:∀(x y:den (.pr .s .s)) w,(EJ Kt (kv (.pr .s .s) x) (kv (.pr .s .s) y)).run P w = .ok (o5 (.pr .s .s) x y) w:=fun x y w=>by
   have t:qc P 2 Kt (.agg [str x.1,str x.2].toArray) (.agg [str y.1,str y.2].toArray) (o5 (.pr .s .s) x y):=
    qc.str j N J u (.cons (CC f2 rfl) (CC f2 rfl) (AZ f1) (xo.last (CC z rfl) (CC z rfl) (AZ I)))
   exact t 9998 w
  refine⟨rfl,fun e k w=>?_,fun k Q' h=>?_⟩
  ·have M : ∀ f ∈ a.toList, f.name ≠ "_" := fun f Q => by simpa using List.all_eq_true.1 J f Q
   obtain⟨p,q,R⟩:∃p q,a = #[p,q]:=by
    have U:=congrArg cZ u;obtain⟨l⟩:=a
    match l,U with
    |[p,q],_=>exact⟨p,q,rfl⟩
   subst R;simp only[bF,List.map_nil,List.cons.injEq,Prod.mk.injEq,and_true]at u;obtain⟨⟨W,X⟩,Y,Z⟩:=u;have e1:=M p (by simp);have e2:=M q (by simp);have c1:∀d (s:Bs),(YC e (d+1) F (str s)).run P w = .ok () w:=fun d s=>by simp[YC,Go.underlying,f1,str]
   have c2:∀d (s:Bs),(YC e (d+1) H (str s)).run P w = .ok () w:=fun d s=>by simp[YC,Go.underlying,I,str]
   have key:∀d (x y:Bs),(YC e (d+1+1) Kt (.agg [str x,str y].toArray)).run P w = .ok () w:=fun d x y=>by have d1:=CC (P:=P) (l:=[str x,str y]) f2 (o:=0) rfl w;have d2:=CC (P:=P) (l:=[str x,str y]) z (o:=1) rfl w;unfold YC;simp[Go.underlying,j,e1,e2,W,X,Y,Z,d1,d2,c1,c2]
   exact key 9998 (show Bs×Bs from k).1 (show Bs×Bs from k).2
  ·cases Q' with
   |nil=>exact⟨none,fun w=>by simp[sN,Go.underlying,j,sQ],.no (by simp)⟩|cons A Q'=>
    obtain⟨o,t,C⟩:=ywK (K:=.pr .s .s) rfl O k (A::Q') 0 h;obtain⟨x,hx⟩:=h A aO;refine⟨o,fun w=>?_,C⟩;have D:sQ (.struct a) (kv (.pr .s .s) k) (A::Q') 0=none:=by unfold sQ;rw[hx];rfl
    simp[sN,Go.underlying,j,D,t]
 ·obtain⟨kd,t,C⟩:=v.d;exact TJ t (by rw[C];exact h)
theorem og{Kt:TypeId}(d:Rs P Kt K)(k:den K){l:List (den K×den V)}{Q':List MapEntry}(s:A2 (fun p c=>a7 K S c.key p.1/\a7 V S c.val p.2) l Q'):∃o,(∀w,(sN Kt (kv K k) Q').run P w = .ok o w)/\HU K V k l Q' 0 o:=by
 have j:∀c∈Q',∃x:den K,c.key=kv K x:=fun c t=>by obtain⟨i,u,rfl⟩:=List.mem_iff_getElem.1 t;obtain⟨p,_,hp⟩:=A2.Mw s (aH u);exact⟨p.1,Nl d.ok hp.1⟩
 obtain⟨o,v,z⟩:=d.fk k Q' j;refine⟨o,v,?_⟩;cases z with
 |no h=>refine .no fun p hp e=>?_;obtain⟨c,t,q⟩:=A2.Yo s p hp;exact h c t (by rw[Nl d.ok q.1,e])
 |yes q A=>obtain⟨p,hp,C⟩:=A2.Mw s q;exact .yes hp q (vN d.ok (by rw[<-Nl d.ok C.1,A]))
theorem MR.fnd(d:Ud K=true){es:List (den K×den V)}{Q':List MapEntry}{l:List (den K×den V)}{k:den K}{o:Option (Nat×Value)}(t:l.Perm es)(i:es.Pairwise fun p q=>o5 K p.1 q.1=false)(C:A2 (fun p s=>a7 K S s.key p.1/\a7 V S s.val p.2) l Q')(h:HU K V k l Q' 0 o)(z:Value)(u:den V)(D:a7 V S z u):
  J' (o5 K) es k=o.isSome/\a7 V S ((o.map (·.2)).getD z) (r6 (o5 K) es k u):=by
 cases h with
 |no h=>
  have c:J' (o5 K) es k=false:=by rw[<-cM,GU d];rintro⟨p,hp,e⟩;exact h p (t.mem_iff.2 hp) e
  refine⟨c,?_⟩;unfold r6;rw[xaJ d c];exact D
 |yes c F v=>rename_i j p s;have hp:p∈es:=t.mem_iff.1 (bO c);refine⟨(GU d).2 ⟨p,hp,v⟩,?_⟩;unfold r6;rw[<-v,bi d i hp];obtain⟨G,A,H⟩:=C.at (n:=j) (a:=p) (by rw[Fa];exact c);rw[F]at A;cases A;exact H.2
theorem Pl{T Kt Vt:TypeId}{b ck:Nat}{Q':List MapEntry}{z:Value}{k:den K}{o:Option (Nat×Value)}{ok:Bool}(d:P.underlying T=some (.map Kt Vt))(j:Rs P Kt K)(l:DI P Vt z)(q:w.heap[b]? = some (.map Q'.toArray ck))(hf:∀w,(sN Kt (kv K k) Q').run P w = .ok o w):(Instr.lookup T (.map (some b)) (kv K k) ok).run P w = .ok (if ok then .tuple #[(o.map (·.2)).getD z,.bool o.isSome]else(o.map (·.2)).getD z) w:=by
 have h:(getObj b).run P w = .ok (.map Q'.toArray ck) w:=DU q;have i:=j.ck Q'.isEmpty k w;have c:=hf w;cases o with
 |none=>cases ok<;>simp[Instr.lookup,Go.underlying,d,h,i,c,l w]
 |some p=>cases ok<;>simp[Instr.lookup,Go.underlying,d,h,i,c]
end
section
variable {β:Type}{τ:TE}{n:Nat}{P:Program}{B:r9}{S:Mem}{E:List EI}{L:List Q0}{σ:St}{m:FM}{w:World}{dst:Option Tmp}{g:Option (Nat×Bool)}{ty:TypeId}{pos:String}{aft:Array Edge}{a b x y:Operand}{T T':TypeId}{k:SV->Option β}{r:β}
theorem UG{c:Type}(xs:List c):Z6 xs 0=some []:=by simp[Z6]
theorem UJ(R:Rel n B S E L σ m w){d:Option Operand}{a:Option Int}(h:Yf σ d=some a):(d=none/\a=none)∨∃x q c,d=some x/\a=some c/\o0 n m x = .int q c:=by
 cases d with
 |none=>cases h;exact .inl ⟨rfl,rfl⟩
 |some x=>
  simp only[Yf]at h;split at h
  ·rename_i q j i;cases h;exact .inr ⟨x,q,_,rfl,rfl,vI (p7 R i)⟩
  ·cases h
theorem sD{C D:Option Operand}{p q:Option Int}{l:Bs}{k:SV->Option β}(R:Rel n B S E L σ m w)(o:P.underlying T=some .string)(t:o0 n m a=str l)(z:Yf σ C=some p)(c:Yf σ D=some q)(h:(aR (Fs l p q) fun r=>k (.v .s r))=some r):
  ua P S E (o0 n m) ⟨dst,.slice T a C D none,ty,pos,aft,g⟩ k r (fun w'=>HS B S w' L):=by
 obtain⟨O,u,G⟩:=x9 h;refine⟨_,_,G,sV _,fun w' _=>?_⟩;rcases UJ R z with⟨rfl,rfl⟩|⟨Q,U,W,rfl,rfl,F⟩
 ·rcases UJ R c with⟨rfl,rfl⟩|⟨H,I,J,rfl,rfl,A⟩
  ·cases u;have X:(⟨l.toArray⟩:ByteArray).extract 0 l.length=⟨l.toArray⟩:=by rw[YM];simp
   simp[execOp,Ff,Ef,Go.underlying,o,t,str,ee]
  ·obtain⟨d,i,j⟩:=VT u;exact Nr o t A d i j
 ·rcases UJ R c with⟨rfl,rfl⟩|⟨H,I,J,rfl,rfl,A⟩
  ·obtain⟨d,i,j⟩:=UT u;exact Mr o t F d i j
  ·obtain⟨d,i,j,M,N⟩:=sZ u;exact Ev o t F A d i j M N
theorem UZ{I J:Option Operand}{p q:Option Int}{e:Ty}{f:TI}{E':TypeId}{xs:List (den e)}{k:SV->Option β}(R:Rel n B S E L σ m w)(s:P.underlying T=some (.slice E'))(N:l4 P E' f)(O:f.sz=l0 e)(j:@x8 (den e) (Q9 e) S (o0 n m a) xs)(D:Yf σ I=some p)(t:Yf σ J=some q)(h:(aR (Fs xs p q) fun r=>k (.v (.sl e) r))=some r):
  ua P S E (o0 n m) ⟨dst,.slice T a I J none,ty,pos,aft,g⟩ k r (fun w'=>HS B S w' L):=by
 obtain⟨Z,l,C⟩:=x9 h;have d:Nf P E' (l0 e):=by rw[<-O];exact N.l0
 have i:Rp.sz (den e)=l0 e:=gd e;rcases UJ R D with⟨rfl,rfl⟩|⟨x1,q1,c1,rfl,rfl,M⟩
 ·rcases UJ R t with⟨rfl,rfl⟩|⟨Q,U,W,rfl,rfl,F⟩
  ·cases l;refine⟨_,va (o0 n m a) (l0 e) 0 xs.length,C,?_,fun w' H=>?_⟩
   ·have:=j.sub (bG _) (aL xs.length);rw[List.take_length,List.drop_zero,i]at this;exact⟨_,rfl,this⟩
   ·obtain⟨cs,u,_⟩:=j;rcases u with⟨⟨a0,u⟩,X,_⟩|⟨b',o,c,ds,T',fz,u,k3,_⟩
    ·simp[execOp,Ff,Go.underlying,s,Ef,ee,u,d w',va,X]
    ·simp[execOp,Ff,Go.underlying,s,Ef,ee,u,sl,d w',va]
  ·obtain⟨z,A,G⟩:=VT l;refine⟨_,_,C,⟨_,rfl,j.Z6 l i⟩,fun w' H=>lJ s d rfl F z j A⟩
 ·rcases UJ R t with⟨rfl,rfl⟩|⟨Q,U,W,rfl,rfl,F⟩
  ·obtain⟨z,A,G⟩:=UT l;refine⟨_,_,C,⟨_,rfl,j.T4 l i⟩,fun w' H=>kJ s d rfl M z j A⟩
  ·obtain⟨z,A,G,Y,h7⟩:=sZ l;refine⟨_,_,C,⟨_,rfl,j.zP l i⟩,fun w' H=>tC s d rfl M F z A j G Y⟩
theorem VZ{M mx:Operand}{q q':IntKind}{p Z:Int}{e:Ty}{f:TI}{xs r':List (den e)}{z:SV}{k:SV->Option β}(N:P3 P τ)(_R:Rel n B S E L σ m w)(O:elemAt τ T=some f)(hs:f.sz=l0 e)(hx:@x8 (den e) (Q9 e) S (o0 n m a) xs)(l:o0 n m M = .int q p)(s:o0 n m mx = .int q' Z)(hp:p=Z)(h1:Z6 xs p=some r') (hz:z = .cl e r'∨(z = .ye/\p=0)) (h:k z=some r):ua P S E (o0 n m) ⟨dst,.slice T a none (some M) (some mx),ty,pos,aft,g⟩ k r (fun w'=>HS B S w' L):=by
 subst hp;obtain⟨E',Q,O⟩:=EU N O;have t:Nf P E' (l0 e):=by rw[<-hs];exact O.l0
 obtain⟨h3,h4,h5⟩:=VT h1;have i:Rp.sz (den e)=l0 e:=gd e;have A:r'.length=p.toNat:=by rw[<-h5,bX];omega
 -- the value
 have main:∃u,(∃H,u=Value.slice H p.toNat p.toNat)/\@x8 (den e) (Q9 e) S u r'/\∀w',(execOp (o0 n m) ⟨dst,.slice T a none (some M) (some mx),ty,pos,aft,g⟩).run P w' = .ok (.value u) w':=by
  obtain⟨cs,d,k2⟩:=hx;rcases d with⟨⟨R,d⟩,U,I⟩|⟨C,o,c,W,T',X,d,U,I,Y,k6⟩
  ·have J:p.toNat=0:=by omega
   have v:r'=[]:=aW (by omega);subst v;refine⟨.slice R 0 0,⟨R,by rw[J]⟩,⟨[],.inl ⟨⟨R,rfl⟩,rfl,rfl⟩,rfl⟩,fun w'=>?_⟩;have j:p=((0:Nat):Int):=by omega
   simp[execOp,Ff,Go.underlying,Q,Ef,ee,d,l,s,ie (P:=P) (w:=w') j (aL _),t w']
  ·have hc:p.toNat<=c:=by omega
   refine⟨.slice (some (if p.toNat=0 then⟨C,o,none⟩else(⟨C,o,none⟩:Addr).add 0)) p.toNat p.toNat,⟨_,rfl⟩,?_,fun w'=>?_⟩
   ·refine⟨cs.take (p.toNat*l0 e),.inr ⟨C,o,p.toNat,W,T',X,?_,by omega,I,?_,?_⟩,?_⟩
    ·rw[A];simp only[sl];split<;>simp[Addr.add]
    ·rw[A,i];rw[i]at Y;have:=dK (l0 e) h4;omega
    ·rw[A,i,<-k6,P9,P9,List.take_take,i];congr 1;exact(Nat.min_eq_left (dK (l0 e) h4)).symm
    ·have:=k2.take p.toNat;rw[i,h5]at this;exact this
   ·by_cases J:p.toNat=0
    ·have j:p=((0:Nat):Int):=by omega
     simp[execOp,ie (P:=P) (w:=w') j (aL 0),ie (P:=P) (w:=w') j (bG c),Ff,Go.underlying,Q,Ef,ee,d,sl,l,s,t w',J]
    ·simp[execOp,Ff,Go.underlying,Q,Ef,ee,d,sl,l,s,ie (P:=P) (w:=w') h3 hc,ie (P:=P) (w:=w') h3 (aL _),t w',J]
 obtain⟨u,⟨H,D⟩,F,G⟩:=main;refine⟨z,u,h,?_,fun w' _=>G w'⟩;rcases hz with rfl|⟨rfl,rfl⟩
 ·exact⟨F,H,by rw[D,A]⟩
 ·have v:r'=[]:=aW (by rw[A];rfl);subst v;refine⟨?_,H,D⟩;obtain⟨cs,d,_⟩:=F;rcases d with⟨d,_⟩|⟨C,o,c,W,T',X,d,U,I,Y,k6⟩
  ·exact .inl ⟨d,rfl,rfl⟩
  ·exact .inr ⟨C,o,c,W,T',X,d,U,I,by simp only[cN]at Y;omega,by simp[piece]⟩
theorem dp(R:Rel n B S E L σ m w){id c:Nat}{e:Ty}{T':TypeId}{xs:List (den e)}{u:Value}(i:V5 σ.hp id=some (.H' c e T' xs))(j:VB S E (.own id c) u):∃cs,RL S cs xs/\∀w',HS B S w' L->Oe w' u xs.length (l0 e) cs:=by obtain⟨z,l,o,p,v,v',cs,A,rfl,rfl,q,d⟩:=R.P6 i;obtain⟨C,l,h,s⟩:=j;rw[p]at h;cases h;have t:=(s _ _ _ rfl).2 rfl;subst t;exact⟨cs,q,fun w' H=>d.Iv H.sub (H.Iv o)⟩
theorem tD{z mx:Operand}{q C:IntKind}{e:Ty}{f:TI}{id d:Nat}{T':TypeId}{xs:List (den e)}{k:SV->Option β}(s:P3 P τ)(R:Rel n B S E L σ m w)(t:elemAt τ T=some f)(hs:f.sz=l0 e)(D:V5 σ.hp id=some (.H' d e T' xs))(F:VB S E (.own id d) (o0 n m a))(i:o0 n m z = .int q 0)(j:o0 n m mx = .int C 0) (h:k .ye=some r):ua P S E (o0 n m) ⟨dst,.slice T a none (some z) (some mx),ty,pos,aft,g⟩ k r (fun w'=>HS B S w' L):=by
 obtain⟨G,A,t⟩:=EU s t;have l:Nf P G (l0 e):=by rw[<-hs];exact t.l0
 obtain⟨J,_,H⟩:=dp R D F;rcases H w R.hs with⟨⟨u,v⟩,_⟩|⟨I,o,c,M,T2,N,v,O,_⟩
 ·refine⟨.ye,.slice u 0 0,h,⟨.inl ⟨⟨u,rfl⟩,rfl,rfl⟩,u,rfl⟩,fun w' _=>?_⟩;simp[execOp,Ff,Go.underlying,A,Ef,ee,v,i,j,ie (P:=P) (w:=w') (show(0:Int)=((0:Nat):Int)from rfl) (aL _),l w']
 ·have p:(0:Int)=((0:Nat):Int):=rfl;refine⟨.ye,.slice (some (⟨I,o,none⟩:Addr)) 0 0,h,⟨.inl ⟨⟨_,rfl⟩,rfl,rfl⟩,_,rfl⟩,fun w' _=>?_⟩;simp[execOp,ie (P:=P) (w:=w') p (aL 0),ie (P:=P) (w:=w') p (bG c),Ff,Go.underlying,A,Ef,ee,v,sl,i,j,l w']
theorem IU(R:Rel n B S E L σ m w){e:Ty}{x:SV}{u:Value}{xs:List (den e)}(i:VR S E x u)(h:Tf σ.hp (.sl e) x=some xs):∃cs,RL S cs xs/\∀w',HS B S w' L->Oe w' u xs.length (l0 e) cs:=by
 have s:Rp.sz (den e)=l0 e:=gd e;cases x with
 |v t y=>
  simp only[Tf]at h;split at h
  ·rename_i j _;cases h;subst j;obtain⟨v,p,cs,d,l⟩:=i;injection p with p;subst p;exact⟨cs,l,fun w' H=>by have:=d.w H.sub;rwa[s]at this⟩
  ·cases h
 |Y'=>cases h;have i:u = .slice none 0 0:=i;exact⟨[],rfl,fun w' H=>.inl ⟨⟨_,i⟩,rfl,rfl⟩⟩
 |ye=>
  cases h;obtain⟨d,_⟩:=i;refine⟨[],rfl,fun w' H=>?_⟩;rcases d with⟨h,_,_⟩|⟨b,o,c,F,T,G,d,l,I,M,_⟩
  ·exact .inl ⟨h,rfl,rfl⟩
  ·exact .inr ⟨b,o,c,F,T,G,d,l,H.sub _ _ I,by simp only[cN];omega,by simp[piece]⟩
 |cl C D=>
  simp only[Tf]at h;split at h
  ·rename_i j _;cases h;subst j;obtain⟨⟨cs,d,l⟩,_⟩:=i;exact⟨cs,l,fun w' H=>by have:=d.w H.sub;rwa[gd]at this⟩
  ·cases h
 |nn C D=>
  simp only[Tf]at h;split at h
  ·rename_i j _;cases h;subst j;obtain⟨⟨cs,d,l⟩,_⟩:=i;exact⟨cs,l,fun w' H=>by have:=d.w H.sub;rwa[gd]at this⟩
  ·cases h
 |own id z=>
  simp only[Tf]at h;split at h
  ·rename_i q C T' D J;cases A:aJ z q with
   |false=>rw[A]at h;cases h
   |true=>
    rw[A]at h;have p:=aB A;subst p;simp only[zF]at h;split at h
    ·rename_i j _;cases h;subst j;exact dp R J i
    ·cases h
  ·cases h
 |_=>cases h
theorem Ow{E' D:TypeId}{x:SV}{l:Bs}{k:SV->Option β}(R:Rel n B S E L σ m w)(q:P.underlying T=some (.slice E'))(t:P.underlying E'=some (.int .u8))(u:P.underlying D=some .string)(z:VR S E x (o0 n m a))(A:Tf σ.hp (.sl (.i .u8)) x=some l)(h:k (.v .s l)=some r):
  ua P S E (o0 n m) ⟨dst,.convert T D a,ty,pos,aft,g⟩ k r (fun w'=>HS B S w' L):=by
 obtain⟨j,o,C⟩:=IU R z A;refine⟨_,_,h,sV _,fun w' H=>?_⟩;have p:=C w' H;have o:RL S j (show Bs from l):=by
  have:∀{l:Bs} {j:LV},@RL (den (.i .u8)) (Q9 (.i .u8)) S j l->RL S j l:=fun {l}=>by
   induction l with
   |nil=>intro j h;exact h|cons x l F=>intro j h;obtain⟨c,d,G,I,J⟩:=h;exact⟨c,d,G,I,F J⟩
  exact this o
 rw[RL.Uk o]at p;exact mJ q t u rfl p
theorem Ss{Kt Vt:TypeId}{J f:TI}{id gn:Nat}{K V:Ty}{es:List (den K×den V)}{xk:SV}{key:den K}{z:den V}{ok:Bool}{k:SV->Option β}(i:P3 P τ)(R:Rel n B S E L σ m w)(U:P.underlying T=some (.map Kt Vt))(hk:j3 τ Kt=some J)(W:j3 τ Vt=some f)(X:VR S E (.mpr id) (o0 n m a))(Y:VR S E xk (o0 n m b))(Z:V5 σ.hp id=some (.mp gn K V es)) (j:Ea [] K xk=some key) (hz:Uf [] V f.z=some z) (M:(Es τ J.td K&&GZ f V)=true) (h:(bif ok then k (.Bb [W6 V (r6 (o5 K) es key z),.v .b (J' (o5 K) es key)])else k (W6 V (r6 (o5 K) es key z)))=some r):
  ua P S E (o0 n m) ⟨dst,.lookup T a b ok,ty,pos,aft,g⟩ k r (fun w'=>HS B S w' L):=by
 have u:=TZ i hk (Z3 M);have p:=u.ok;obtain⟨r0,e0,g1,g2,bb,Q',ck,rfl,rfl,N,g4⟩:=R.P6 Z;obtain⟨_,e0,O,h9⟩:=X;rw[g2]at O;cases O;have hm:=h9 _ _ _ _ rfl;have A:o0 n m b=kv K key:=Nl p (SG (Mem.le_refl S) Pu j Y);have s:=i _ _ W;have C:a7 V S (zV f) z:=by
  have q:=uN (Mem.le_refl S) (Pu (E:=E)) V hz (PG s.z);have c:=Y4 M;unfold GZ at c;unfold a7 zV;cases D:f.agg with
  |true=>
   rw[D]at c;have F:one V=false:=by simpa using c
   rw[F,zI (by simp)];exact⟨_,rfl,q⟩
  |false=>
   rw[D]at c;have F:one V=true:=c;rw[zJ F];have t:=s.zl;rw[s.HJ D]at t
   match G:f.z,t with
   |[x],_=>rw[G]at q;exact q
 obtain⟨l,t,Q⟩:=N.perm;obtain⟨o,hf,I⟩:=og u key Q;obtain⟨q,c⟩:=MR.fnd p t N.ne Q I (zV f) z C;have d:∀w',HS B S w' L->(execOp (o0 n m) ⟨dst,.lookup T a b ok,ty,pos,aft,g⟩).run P w' = .ok (.value (if ok then .tuple #[(o.map (·.2)).getD (zV f),.bool o.isSome]else(o.map (·.2)).getD (zV f))) w':=fun w' H=>by have:=Pl (ok:=ok) U u s.zero (H.own id _ g1) hf;simp[execOp,hm,A,this]
 cases ok with
 |true=>refine⟨_,_,h,?_,fun w' H=>d w' H⟩;exact⟨[_,_],rfl,.cons (KA c) (.cons (by rw[q];exact(rfl:[_]=[_])) .nil)⟩|false=>exact⟨_,_,h,VR.of (KA c),fun w' H=>d w' H⟩
theorem VJ:∀{x:SV} {u:Value},rU x=true->VR S E x u->VA (VB S E) x u:=fun {x u} c h=>by
 cases x with
 |fn=>cases c
 |undef=>cases c
 |eh=>cases c
 |Bb=>cases c
 |ag l=>
  obtain⟨d,j,o⟩:=h;refine⟨d,j,?_⟩
  have:∀{l:List SV} {d:LV},l.all Xf=true->A2 (VC S E) l d->A2 (VB S E) l d:=fun {l d} i p=>by
   induction p with
   |nil=>exact .nil|cons a t q=>simp only[cT,aI]at i;exact .cons (a.b i.1) (q i.2)
  exact this c o
 |_=>exact h
theorem WZ:∀{l:List SV} {us:LV},l.all rU=true->A2 (VR S E) l us->A2 (VA (VB S E)) l us
 |_,_,_,.nil=>.nil|_,_,h,.cons a t=>by simp only[cT,aI]at h;exact .cons (VJ h.1 a) (WZ h.2 t)
theorem wQ{e:Operand->Value}{a b r:Int}{c:Array TypeId}(d:e x = .int .i64 a)(i:e y = .int .i64 b)(h:(bif decide (a<=b)then b else a)=r):(execOp e ⟨dst,.call ⟨.builtin .max,#[x,y],c⟩,ty,pos,aft,g⟩).run P w = .ok (.value (.int .i64 r)) w:=by
 subst h;by_cases j:a<=b
 ·have l:¬b<a:=by omega
  simp[execOp,resolve,invoke,builtin,d,i,Builtin.max_,Builtin.max2,j]
  try omega
 ·have l:b<a:=by omega
  simp[execOp,resolve,invoke,builtin,d,i,Builtin.max_,Builtin.max2,j]
  try omega
theorem WJ{e:Operand->Value}{a b r:Int}{c:Array TypeId}(i:e x = .int .i64 a)(j:e y = .int .i64 b)(h:(bif decide (a<=b)then a else b)=r):(execOp e ⟨dst,.call ⟨.builtin .min,#[x,y],c⟩,ty,pos,aft,g⟩).run P w = .ok (.value (.int .i64 r)) w:=by
 subst h;by_cases l:a<=b
 ·have d:¬b<a:=by omega
  simp[execOp,resolve,invoke,builtin,i,j,Builtin.min_,Builtin.min2,l,d]
 ·have d:b<a:=by omega
  simp[execOp,resolve,invoke,builtin,i,j,Builtin.min_,Builtin.min2,l,d]
theorem Pw{x:Operand}{i j gn:Nat}{K V:Ty}{c:den K}{v:den V}{left:List (den K)}{es:List (den K×den V)}(R:Rel n B S E L σ m w)(M:VR S E (.ptr i 0) (o0 n m x))(N:V5 σ.hp i=some (.it j gn K (some c) left))(O:V5 σ.hp j=some (.mp gn K V es))(Q:W0 (o5 K) es c=some v) (h:k (.Bb [W6 K c,W6 V v])=some r):ua P S E (o0 n m) ⟨dst,.entry x,ty,pos,aft,g⟩ k r (fun w'=>HS B S w' L):=by
 obtain⟨r0,e0,U,W,b,mb,ck,seen,rfl,rfl,F,e1,G,X⟩:=R.P6 N;obtain⟨r1,e2,Y,Z,u,Q',d,rfl,rfl,I,hlt⟩:=R.P6 O;rw[Z]at G;cases G;obtain⟨_,k7⟩:=X _ _ _ _ rfl;obtain⟨rfl,rfl,k8⟩:=k7 rfl;obtain⟨l,hl,hA⟩:=I.perm;obtain⟨b3,z,e3,J,q2⟩:=M;rw[W]at J;cases J;have:=q2 _ rfl;subst this;obtain⟨o,p,q,A⟩:=A2.Yo hA _ (hl.mem_iff.2 (ap F Q));have s:=Nl F q;have C:=((k8 o p).2 c rfl).1 s;have hs:seen=seen.pop.push o.born:=by
  obtain⟨sl⟩:=seen;rcases List.eq_nil_or_concat sl with rfl|⟨l',a,rfl⟩
  ·simp at C
  ·simp at C;subst C;simp
 refine⟨_,_,h,⟨[o.key,o.val],rfl,.cons (KA q) (.cons (KA A) .nil)⟩,fun w' H=>?_⟩;have hh:w'.heap[b]? = some (.mapIter (some u) d (seen.pop.push o.born) d):=by rw[<-hs];exact H.own i _ U
 have D:w'.heap[u]? = some (.map Q'.toArray d):=H.own j _ Y;have t:=run_entry_at (P:=P) w' b u d seen.pop Q'.toArray d o hh D (by simpa using p) (by simpa using I.nd);simp only[execOp,z,La,t,Gf,Eb]
theorem JU{o:Op}(d:P3 P τ)(R:Rel n B S E L σ m w)(h:Hs τ σ o k=some r):ua P S E (o0 n m) ⟨dst,o,ty,pos,aft,g⟩ k r (fun w'=>HS B S w' L):=by
 unfold Hs at h;split at h
 ·split at h
  ·rename_i p q H I;split at h
   ·rename_i z1 z2 z3 z4 J;split at h
    ·rename_i l M;exact sD R ((d _ _ J).str rfl) (vS (p7 R M)) H I h
    ·cases h
   ·rename_i E' z1 z2 z3 z4 J;split at h
    ·rename_i f e W u M;obtain⟨A,h⟩:=r7 h;have s:=p7 R M;obtain⟨v,s,C⟩:=s;injection s with s;exact UZ R ((d _ _ J).sl rfl) (d _ _ u) (aB A) (by rw[s];exact C) H I h
    ·rename_i f e W u M;obtain⟨A,h⟩:=r7 h;exact UZ R ((d _ _ J).sl rfl) (d _ _ u) (aB A) (p7 R M).1 H I h
    ·rename_i f u M;obtain⟨A,h⟩:=r7 h;have s:o0 n m _ = .slice none 0 0:=p7 R M;exact UZ R ((d _ _ J).sl rfl) (d _ _ u) (aB A) (by rw[s];exact x8.nil) H I h
    ·cases h
   ·cases h
  ·cases h
 ·split at h
  ·rename_i f q b' q' c e W u j t X;obtain⟨A,h⟩:=r7 h;have A:=aB A;obtain⟨v,s,C⟩:=p7 R X;injection s with s;have Q:=vI (p7 R j);have U:=vI (p7 R t);cases G:Xb _&&Xb _ with
   |true=>
    rw[G]at h;have k1:=Z3 G;have k2:=Y4 G
    have O:∀{y:Operand} {N:IntKind} {c:Int},Xb y=true->o0 n m y = .int N c->c=0:=fun {y N c} F Y=>by
     unfold Xb at F;split at F
     ·cases Y;rfl
     ·cases F
    have p0:=O k1 Q;have p1:=O k2 U;exact VZ d R u A (by rw[s];exact C) Q U (by rw[p0,p1]) (r':=[]) (by rw[p0];exact UG _) (.inr ⟨rfl,p0⟩) h
   |false=>rw[G]at h;obtain⟨_,hk,h⟩:=x9 h;obtain⟨r',h5,h⟩:=x9 h;exact VZ d R u A (by rw[s];exact C) Q U (zD (Kv hk)) h5 (.inl rfl) h
  ·rename_i f q b' q' c e W u j t X;obtain⟨D,h⟩:=r7 h;have A:=aB (Z3 D);have G:=Y4 D;have C:=(show VB S E (.nn e W) _ from p7 R X).1;have Q:=vI (p7 R j);have U:=vI (p7 R t)
   have O:∀{y:Operand} {N:IntKind} {c:Int},Xb y=true->o0 n m y = .int N c->c=0:=fun {y N c} F Y=>by
    unfold Xb at F;split at F
    ·cases Y;rfl
    ·cases F
   have p0:=O (Z3 G) Q;have p1:=O (Y4 G) U;exact VZ d R u A C Q U (by rw[p0,p1]) (r':=[]) (by rw[p0];exact UG _) (.inr ⟨rfl,p0⟩) h
  ·rename_i f q b' q' c id ver u j t X;split at h
   ·rename_i ver' e T' W hc;obtain⟨D,hq⟩:=r7 h;clear h;have h:=hq;clear hq;have s:=aB (Z3 (Z3 D));have A:=aB (Y4 (Z3 D));subst s;have G:=Y4 D
    have O:∀{y:Operand} {N:IntKind} {c:Int},Xb y=true->o0 n m y = .int N c->o0 n m y = .int N 0:=fun {y N c} F Y=>by
     unfold Xb at F;split at F
     ·cases Y;rfl
     ·cases F
    exact tD d R u A hc (p7 R X) (O (Z3 G) (vI (p7 R j))) (O (Y4 G) (vI (p7 R t))) h
   ·cases h
  ·cases h
 ·split at h
  ·rename_i E' z1 z2 z3 z4 y1 y2 y3 y4 J hD;split at h
   ·rename_i x1 x2 x3 x4 u;obtain⟨x,j,h⟩:=Na h;split at h
    ·rename_i l hl;exact Ow R ((d _ _ J).sl rfl) ((d _ _ u).int rfl) ((d _ _ hD).str rfl) (p7 R j) hl h
    ·cases h
   ·cases h
  ·cases h
 ·split at h
  ·rename_i Kt Vt z1 z2 z3 z4 J;split at h
   ·rename_i kt f id xk hk s j t;split at h
    ·rename_i gn K V es hc;split at h
     ·rename_i key z Z hz;obtain⟨D,h⟩:=r7 h;exact Ss d R ((d _ _ J).map rfl) hk s (p7 R j) (p7 R t) hc Z hz D h
     ·cases h
    ·cases h
   ·cases h
  ·cases h
 ·rename_i fid fa fc;split at h
  ·rename_i la lc j t;obtain⟨D,h⟩:=r7 h;obtain⟨fa⟩:=fa;obtain⟨fc⟩:=fc;refine⟨_,.func (.func fid) (fa.map (o0 n m)).toArray (fc.map (o0 n m)).toArray,h,?_,fun w' _=>?_⟩
   ·exact⟨_,_,rfl,WZ (Z3 D) (ng R j),WZ (Y4 D) (ng R t)⟩
   ·simp[execOp,Instr.makeFunc]
  ·cases h
 ·rename_i x y ats;split at h
  ·rename_i a b j t;exact⟨_,_,h,xV (q:=.i64) rfl,fun w' _=>wQ (vI (p7 R j)) (vI (p7 R t)) rfl⟩
  ·cases h
 ·rename_i x y ats;split at h
  ·rename_i a b j t;exact⟨_,_,h,xV (q:=.i64) rfl,fun w' _=>WJ (vI (p7 R j)) (vI (p7 R t)) rfl⟩
  ·cases h
 ·split at h
  ·rename_i x i M;split at h
   ·rename_i mid gn K c left hi;split at h
    ·rename_i g' K' V es hm;split at h
     ·rename_i hh _;subst hh;obtain⟨D,hq⟩:=r7 h;clear h;have:=aB D;subst this;obtain⟨v,j,t⟩:=x9 hq;exact Pw R (p7 R M) hi hm j t
     ·cases h
    ·cases h
   ·cases h
  ·cases h
 ·cases h
theorem VG {op : BinOp} {f : TI} {a : Bool} {x : Operand} {k : SV -> Option β} {C : World -> Prop} (hT : l4 P T f) (hf : f.td = .sJ) (hx : VR S E (.v .er a) (o0 n m x)) (h : (match op with
      |.eql=>k (.v .b (!(show Bool from a)))|.neq=>k (.v .b a)|_=>none)=some r):ua P S E (o0 n m) ⟨dst,.binOp op T x (.const .nilIface) T',ty,pos,aft,g⟩ k r C:=by
 obtain⟨z,s⟩:=hT.sJ hf;have o:o0 n m (.const .nilIface) = .nilIface:=rfl;obtain⟨u,c,hx⟩:=hx;injection c with c;have key:∀d w,(Qd (d+1) T u .nilIface).run P w = .ok (!(show Bool from a)) w:=fun d w=>by rcases hx with⟨rfl,rfl⟩|⟨rfl,t,v,rfl⟩<;>simp[Qd,Go.underlying,s]
 have i:∀w,(EJ T u .nilIface).run P w = .ok (!(show Bool from a)) w:=fun w=>key 9999 w;have p:∀(op:BinOp) (w:World),(eqGuard op T x (.const .nilIface) u .nilIface).run P w = .ok () w:=fun op w=>by rcases hx with⟨rfl,rfl⟩|⟨rfl,t,v,rfl⟩<;>cases op<;>simp[eqGuard]
 split at h
 ·refine⟨_,_,h,bV _,fun w _=>?_⟩;rcases hx with⟨rfl,rfl⟩|⟨rfl,t,v,rfl⟩<;>simp[execOp,c,o,p,binOp,i]
 ·refine⟨_,_,h,bV _,fun w _=>?_⟩;rcases hx with⟨rfl,rfl⟩|⟨rfl,t,v,rfl⟩<;>simp[execOp,c,o,p,binOp,i]
 ·cases h
theorem vD{i:BinOp}{x y:Operand}{C:World->Prop}(c:P3 P τ)(R:∀x a,ev σ x=some a->VR S E a (o0 n m x))(h:Ph τ σ (.binOp i T x y T') k=some r):ua P S E (o0 n m) ⟨dst,.binOp i T x y T',ty,pos,aft,g⟩ k r C:=by
 unfold Ph at h;split at h
 all_goals first
  |(rename_i d;cases d;done)
  |skip
 ·rename_i d;cases d;split at h
  ·rename_i q s t z4 a j l;exact VG (c _ _ j) rfl (R _ _ l) h
  ·cases h
 ·rename_i d;cases d;obtain⟨x,o,h⟩:=Na h;obtain⟨y,p,h⟩:=Na h;exact Fw c (R _ _ o) (R _ _ p) h
 ·cases h
theorem pg{o:Op}(c:P3 P τ)(R:Rel n B S E L σ m w)(h:Ph τ σ o k=some r):ua P S E (o0 n m) ⟨dst,o,ty,pos,aft,g⟩ k r (fun w'=>HS B S w' L):=by
 unfold Ph at h;split at h
 ·obtain⟨z,d,j⟩:=Na h;exact⟨z,_,j,p7 R d,fun w' _=>yh rfl⟩
 ·obtain⟨z,d,j⟩:=Na h;exact⟨z,_,j,p7 R d,fun w' _=>IB rfl⟩
 ·split at h
  ·rename_i t H;obtain⟨x,d,h⟩:=Na h;obtain⟨y,j,h⟩:=Na h;exact To (vB (p7 R H)) (p7 R d) (p7 R j) h
  ·cases h
 ·split at h
  ·rename_i u v A z4 a s I;exact VG (c _ _ s) rfl (p7 R I) h
  ·cases h
 ·obtain⟨x,d,h⟩:=Na h;obtain⟨y,j,h⟩:=Na h;exact Fw c (p7 R d) (p7 R j) h
 ·obtain⟨x,d,h⟩:=Na h;exact QG (p7 R d) h
 ·split at h
  ·rename_i q a f Q u v A z4 d j D;exact Wo (c _ _ j) ((c _ _ D).int rfl) (vI (p7 R d)) h
  ·exact JU c R h
 ·obtain⟨x,d,h⟩:=Na h;exact QJ c R (p7 R d) h
 ·split at h
  ·rename_i f s;obtain⟨p,d,h⟩:=Na h;exact Vo R (c _ _ s) (p7 R d) h
  ·cases h
 ·split at h
  ·rename_i o f C;obtain⟨x,d,h⟩:=Na h;split at h
   ·exact Zh c C (p7 R d) h
   ·cases h
  ·cases h
 ·split at h
  ·rename_i o f C;obtain⟨J,h⟩:=r7 h;obtain⟨x,d,h⟩:=Na h;exact xcP c C J R (p7 R d) h
  ·cases h
 ·split at h
  ·rename_i f C;obtain⟨x,d,h⟩:=Na h;obtain⟨i,j,h⟩:=Na h;split at h
   ·exact xaZ c C R (p7 R d) (vI (p7 R j)) h
   ·cases h
  ·exact Lw c R h
 ·split at h
  ·rename_i u v A z4 s;obtain⟨x,d,h⟩:=Na h;obtain⟨i,j,h⟩:=Na h;split at h
   ·exact Jw ((c _ _ s).str rfl) (vS (p7 R d)) (vI (p7 R j)) h
   ·cases h
  ·rename_i N M u v A z4 s;split at h
   ·rename_i f F;obtain⟨x,d,h⟩:=Na h;obtain⟨i,j,h⟩:=Na h;split at h
    ·exact Qs (c _ _ s) rfl (c _ _ F) (p7 R d) (vI (p7 R j)) h
    ·cases h
   ·cases h
  ·cases h
 ·obtain⟨x,d,h⟩:=Na h;split at h
  ·exact ywJ (p7 R d) h
  ·cases h
 ·split at h
  ·rename_i fs u v A z4 s;split at h
   ·rename_i pl hp;split at h
    ·rename_i l G;exact Kw c R (c _ _ s) rfl hp G h
    ·cases h
   ·cases h
  ·rename_i N M u v A z4 s;split at h
   ·rename_i f F;split at h
    ·rename_i l G;exact Ps R (c _ _ s) rfl (c _ _ F) G h
    ·cases h
   ·cases h
  ·cases h
 ·obtain⟨x,d,h⟩:=Na h;obtain⟨z,j,h⟩:=Na h;obtain⟨b,U,D,O⟩:=PZ R (p7 R d) j;exact⟨z,_,h,O,fun w' _=>Xr D⟩
 ·exact JU c R h
theorem XJ{o:Op}{C:World->Prop}(d:P3 P τ)(R:∀x a,ev σ x=some a->VR S E a (o0 n m x))(h:HZ τ σ o k=some r):ua P S E (o0 n m) ⟨dst,o,ty,pos,aft,g⟩ k r C:=by
 unfold HZ at h;split at h
 ·obtain⟨z,c,i⟩:=Na h;exact⟨z,_,i,R _ _ c,fun j _=>yh rfl⟩
 ·obtain⟨z,c,i⟩:=Na h;exact⟨z,_,i,R _ _ c,fun j _=>IB rfl⟩
 ·simp only[Ph]at h;split at h
  ·rename_i t l;obtain⟨x,c,h⟩:=Na h;obtain⟨y,i,h⟩:=Na h;exact To (vB (R _ _ l)) (R _ _ c) (R _ _ i) h
  ·cases h
 ·exact vD d R h
 ·obtain⟨x,c,h⟩:=Na h;exact QG (R _ _ c) h
 ·split at h
  ·rename_i q a f u v A D z4 c i p;exact Wo (d _ _ i) ((d _ _ p).int rfl) (vI (R _ _ c)) h
  ·cases h
 ·simp only[Ph]at h;split at h
  ·rename_i o f s;obtain⟨x,c,h⟩:=Na h;split at h
   ·exact Zh d s (R _ _ c) h
   ·cases h
  ·cases h
 ·obtain⟨x,c,h⟩:=Na h;split at h
  ·exact ywJ (R _ _ c) h
  ·cases h
 ·cases h
end
end Go.Proofs.YtopanhneegpgcaaGreatDoor.Am
