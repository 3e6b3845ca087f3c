/- Parts of one proof. Conditions: as each theorem says. -/
import Derived.KernelRfl
import Derived.Laws.AppendOwn
import Derived.Laws.MakeOwn
import Derived.Laws.CopyRow
import Derived.Laws.BytesArg
import Derived.Test.YtopanhneegpgcaaGreatDoorQyA
open Array renaming ext'->dY
open Bool renaming and_eq_true->aI,not_eq_true'->bM,not_eq_true->cM
open Int renaming natCast_nonneg->iK,tmod->dX
open List renaming append_nil->bJ,cons_append->bS,drop_drop->fG,drop_take->iH,drop_zero->bQ,ext_getElem?->bN,getElem?_append_left->aF,getElem?_append_right->aG,getElem?_drop->bU,getElem?_eq_some_iff->aC,getElem?_take->dE,length_append->aD,length_cons->aQ,length_nil->cN,length_set->bW,mapM_toArray->jK,mem_append->bH,mem_of_getElem?->bO,mem_singleton->aZ,range'->eQ,range'_succ->eX,range->dJ,replicate->bI
open Nat renaming add_comm->jI,add_mul->cA,beq->aJ,div_le_self->iU,le_refl->aL,le_trans->bB,lt_of_lt_of_le->cQ,lt_of_not_le->dV,mul_le_mul_right->dK,mul_one->dQ,one_mul->fA,zero_mul->gX
open Option renaming bind_some->eO
open Go.Builtin renaming append_->ue,zeroCells->Wa
open Go.Instr renaming slice->Ef,sliceAt->Ff,sliceBounds->ee
open Go.Op renaming intCmp->WM,stringOp->DB
open Go.Result renaming andThen->xh,andThen_ok->Gf
open Go.Sem renaming run_bind->La,run_pure->Eb
namespace Go.Proofs.YtopanhneegpgcaaGreatDoor
open Go Go.RowKit
def Kk(P:Program)(T:TypeId)(i f:Nat):Prop:=∀b o (w:World),(Instr.fieldAt T (.pointer (some ⟨b,o,none⟩)) i).run P w = .ok (.pointer (some ⟨b,o+f,none⟩)) w
theorem ZY{x:Int}(j:-9223372036854775808<=x)(p:x<9223372036854775808):IntKind.i64.wrap x=x:=by
 have h:(2:Int)^IntKind.i64.bits=18446744073709551616:=by decide
 have f:(2:Int)^(IntKind.i64.bits-1)=9223372036854775808:=by decide
 simp only[IntKind.wrap,h,f,show IntKind.i64.signed=true from rfl,Bool.true_and,zE];split<;>omega
def ch:List (Nat×Nat)->Nat->Option (Nat×Nat)
 |[],_=>none|p::_,0=>some p|_::l,k+1=>ch l k
def s8(P:Program)(f:FuncId):Prop:=∀(h:Array Value) (w:World),(callFunc f h).run P w = .ok (.enter f h) w
theorem Y5 {P : Program} {f : FuncId} {fn : Func} (hf : P.funcs[f]? = some fn) (j : (fn.name == "runtime.NumGoroutine") = false := by kernel_rfl) (p : fn.body.isNone = false := by kernel_rfl) : s8 P f := fun h w => by simp only[callFunc,La,run_program,xh,hf,j,p,Bool.false_eq_true,if_false,Eb]
section
variable {P:Program}{ops:Array Oper}{Q:Exit->Act->World->Prop}{rest:List Oper}{n:Nat}{m:FM}{w w0:World}{L:List ja}
variable {d:Nat}{op:Op}{ty:TypeId}{pos:String}{aft:Array Edge}{c v:Value}{x y:Operand}{T:TypeId}
theorem R9(h:(execOp (o0 n m) ⟨some d,op,ty,pos,aft,none⟩).run P w = .ok (.value c) w)(f:wpList P ops Q rest (fr n ((d,c)::m)) w):
  wpList P ops Q (⟨some d,op,ty,pos,aft,none⟩::rest) (fr n m) w:=
 wpList_plain rfl fun K j=>by unfold Oper.wp;rw[fo,h];simp only[Oper.upon,ZF];exact j _ _ f
def EB(ops:Array Oper)(n:Nat)(m:FM)(j:Nat):Option Bool:=
 match (ops[j]?).bind (·.dst) with
 |some t=>match o0 n m (.tmp t) with
  |.bool b=>some b|_=>none
 |none=>none
theorem ywM(j:Nat):yielded ops (fr n m).tmps j=EB ops n m j:=by
 unfold yielded EB;cases (ops[j]?).bind (·.dst) with
 |none=>rfl|some t=>
  simp only[eO,BB,o0,eo];by_cases h:t<n
  ·simp only[h,if_true,decide_true,zF];cases look m t<;>rfl
  ·simp only[h,if_false,decide_false,zH];rfl
def dG:List Oper->Nat->Option Oper
 |[],_=>none|o::_,0=>some o|_::l,k+1=>dG l k
theorem Hf:∀(l:List Oper) (j:Nat),dG l j=l[j]?
 |[],j=>by simp[dG]
 |o::l,0=>by simp[dG]
 |o::l,k+1=>by simp[dG,Hf l k]
def jZ(n:Nat)(m:FM):Option Oper->Option Bool
 |some ⟨some t,_,_,_,_,_⟩=>match o0 n m (.tmp t) with
  |.bool b=>some b|_=>none
 |_=>none
def PO(l:List Oper)(n:Nat)(m:FM)(j:Nat):Option Bool:=jZ n m (dG l j)
theorem yv(l:List Oper)(j:Nat):EB l.toArray n m j=PO l n m j:=by
 unfold EB PO;rw[Hf,List.getElem?_toArray];cases l[j]? with
 |none=>rfl|some o=>obtain⟨dst,_,_,_,_,_⟩:=o;cases dst<;>rfl
variable {ol:List Oper}
theorem FB{args:Array Operand}{at_:Array TypeId}{f:FuncId}{first cap:Array Value}{l:LV}(hf:s8 P f)(hx:o0 n m x = .func (.func f) first cap) (ha:first.toList++args.toList.map (o0 n m)++cap.toList=l) (h:Calls P f l.toArray w fun e w'=>match e with
   |.returned v=>wpList P ops Q rest (fr n ((d,v)::m)) w'|_=>False):
  wpList P ops Q (⟨some d,.call ⟨.value x,args,at_⟩,ty,pos,aft,none⟩::rest) (fr n m) w:=
 wpList_plain rfl fun K D=>by
  have j:(first++args.map (o0 n m))++cap=l.toArray:=by rw[<-ha];apply dY;simp
  have p:(execOp (o0 n m) ⟨some d,.call ⟨.value x,args,at_⟩,ty,pos,aft,none⟩).run P w = .ok (.enter f l.toArray) w:=by simp only[execOp,resolve,hx,Deferred.ofValue,La,Eb,xh,invoke];rw[j];exact hf _ _
  unfold Oper.wp;rw[fo,p];simp only[Oper.upon];refine h.mono fun e w' q=>?_;cases e with
  |returned v=>show K ((fr n m).put (some d) v) w';rw[ZF];exact D _ _ q
  |panicked c=>exact q.elim|outgrown=>exact q.elim
def Mc(n:Nat)(m:FM):List Operand->LV
 |[]=>[]|x::l=>o0 n m x::Mc n m l
theorem jo(l:List Operand):l.map (o0 n m)=Mc n m l:=by
 induction l with
 |nil=>rfl|cons x l f=>simp[Mc,f]
theorem Jf{args:List Operand}{at_:Array TypeId}{f:FuncId}{l:LV}(hf:s8 P f)(ha:Mc n m args=l) (h:Calls P f l.toArray w fun e w'=>match e with
   |.returned v=>wpList P ops Q rest (fr n ((d,v)::m)) w'|_=>False):
  wpList P ops Q (⟨some d,.call ⟨.value (.func f),args.toArray,at_⟩,ty,pos,aft,none⟩::rest) (fr n m) w:=
 FB (first:=#[]) (cap:=#[]) hf rfl (by simp[jo,ha]) h
theorem HB{args:List Operand}{at_:Array TypeId}{f:FuncId}{l:LV}(p:Mc n m args=l)(j:(callFunc f l.toArray).run P w = .ok (.value v) w) (q:wpList P ops Q rest (fr n ((d,v)::m)) w):
  wpList P ops Q (⟨some d,.call ⟨.value (.func f),args.toArray,at_⟩,ty,pos,aft,none⟩::rest) (fr n m) w:=
 R9 (by
  have h:args.toArray.map (o0 n m)=l.toArray:=by rw[<-p,<-jo];simp
  simp only[execOp,resolve,o0,Deferred.ofValue,La,Eb,xh,invoke,h]
  simpa using j) q
variable {dst:Option Tmp}{e:Operand->Value}{k:IntKind}{a b r:Int}{g:Option (Nat×Bool)}
theorem yh(f:e x=v):(execOp e ⟨dst,.move x,ty,pos,aft,g⟩).run P w = .ok (.value v) w:=by simp[execOp,f]
theorem IB(f:e x=v):(execOp e ⟨dst,.assign x,ty,pos,aft,g⟩).run P w = .ok (.value v) w:=by simp[execOp,f]
theorem lG{T'}(f:e x = .int k a)(j:e y = .int k b)(h:k.wrap (a+b)=r):(execOp e ⟨dst,.binOp .add T x y T',ty,pos,aft,g⟩).run P w = .ok (.value (.int k r)) w:=by simp[execOp,f,j,eqGuard,binOp,Op.intArith,h]
theorem QO{T'}(f:e x = .int k a)(j:e y = .int k b)(h:k.wrap (a-b)=r):(execOp e ⟨dst,.binOp .sub T x y T',ty,pos,aft,g⟩).run P w = .ok (.value (.int k r)) w:=by simp[execOp,f,j,eqGuard,binOp,Op.intArith,h]
theorem RO{T'}(f:e x = .int k a)(j:e y = .int k b)(h:k.wrap (a*b)=r):(execOp e ⟨dst,.binOp .mul T x y T',ty,pos,aft,g⟩).run P w = .ok (.value (.int k r)) w:=by simp[execOp,f,j,eqGuard,binOp,Op.intArith,h]
theorem SO{T'}(f:e x = .int k a)(j:e y = .int k b)(p:b≠0)(h:k.wrap (a.tdiv b)=r):(execOp e ⟨dst,.binOp .quo T x y T',ty,pos,aft,g⟩).run P w = .ok (.value (.int k r)) w:=by simp[execOp,f,j,eqGuard,binOp,Op.intDiv,h,p]
theorem TO{T'}(f:e x = .int k a)(j:e y = .int k b)(p:b≠0)(h:a.tmod b=r):(execOp e ⟨dst,.binOp .rem T x y T',ty,pos,aft,g⟩).run P w = .ok (.value (.int k r)) w:=by simp[execOp,f,j,eqGuard,binOp,Op.intDiv,h,p]
theorem UO{T'}{k':IntKind}(f:e x = .int k a)(j:e y = .int k' b)(p:¬b<0)(h:k.wrap (a*2^(min b.toNat k.bits))=r):(execOp e ⟨dst,.binOp .shl T x y T',ty,pos,aft,g⟩).run P w = .ok (.value (.int k r)) w:=by simp[execOp,f,j,eqGuard,binOp,Op.shift,h,p]
theorem VO{T'}{k':IntKind}(f:e x = .int k a)(j:e y = .int k' b)(p:¬b<0)(h:a.fdiv (2^(min b.toNat k.bits))=r):(execOp e ⟨dst,.binOp .shr T x y T',ty,pos,aft,g⟩).run P w = .ok (.value (.int k r)) w:=by simp[execOp,f,j,eqGuard,binOp,Op.shift,h,p]
variable {t s:Bool}
theorem WO{T'}(f:e x = .int k a)(j:e y = .int k b)(h:(a==b)=t):(execOp e ⟨dst,.binOp .eql T x y T',ty,pos,aft,g⟩).run P w = .ok (.value (.bool t)) w:=by simp[execOp,f,j,eqGuard,binOp,WM,h]
theorem XO{T'}(f:e x = .int k a)(j:e y = .int k b)(h:(a != b)=t):(execOp e ⟨dst,.binOp .neq T x y T',ty,pos,aft,g⟩).run P w = .ok (.value (.bool t)) w:=by simp[execOp,f,j,eqGuard,binOp,WM,h]
theorem mG{T'}(f:e x = .int k a)(j:e y = .int k b)(h:decide (a<b)=t):(execOp e ⟨dst,.binOp .lss T x y T',ty,pos,aft,g⟩).run P w = .ok (.value (.bool t)) w:=by simp[execOp,f,j,eqGuard,binOp,WM,h]
theorem YO{T'}(f:e x = .int k a)(j:e y = .int k b)(h:decide (a<=b)=t):(execOp e ⟨dst,.binOp .leq T x y T',ty,pos,aft,g⟩).run P w = .ok (.value (.bool t)) w:=by simp[execOp,f,j,eqGuard,binOp,WM,h]
theorem ZO{T'}(f:e x = .int k a)(j:e y = .int k b)(h:decide (b<a)=t):(execOp e ⟨dst,.binOp .gtr T x y T',ty,pos,aft,g⟩).run P w = .ok (.value (.bool t)) w:=by simp[execOp,f,j,eqGuard,binOp,WM,h]
theorem jP{T'}(f:e x = .int k a)(j:e y = .int k b)(h:decide (b<=a)=t):(execOp e ⟨dst,.binOp .geq T x y T',ty,pos,aft,g⟩).run P w = .ok (.value (.bool t)) w:=by simp[execOp,f,j,eqGuard,binOp,WM,h]
theorem kP{T'}(f:e x = .bool s)(h:(!s)=t):(execOp e ⟨dst,.unOp .not T' x,ty,pos,aft,g⟩).run P w = .ok (.value (.bool t)) w:=by simp[execOp,f,Op.unary,h]
theorem lP{T'}(f:e x = .int k a)(h:k.wrap (0-a)=r):(execOp e ⟨dst,.unOp .neg T' x,ty,pos,aft,g⟩).run P w = .ok (.value (.int k r)) w:=by simp only[execOp,f,Op.unary,Op.intArith,h,La,Eb,xh]
theorem JB{z:Operand}(f:e z = .bool t)(h:t=true)(j:e x=v):(execOp e ⟨dst,.pick z x y,ty,pos,aft,g⟩).run P w = .ok (.value v) w:=by subst h;simp[execOp,f,j,asBool]
theorem KB{z:Operand}(f:e z = .bool t)(h:t=false)(j:e y=v):(execOp e ⟨dst,.pick z x y,ty,pos,aft,g⟩).run P w = .ok (.value v) w:=by subst h;simp[execOp,f,j,asBool]
theorem Jr{i:Nat}{l:LV}(f:e x = .tuple l.toArray)(h:l[i]? = some v):(execOp e ⟨dst,.extract x i,ty,pos,aft,g⟩).run P w = .ok (.value v) w:=by simp[execOp,f,Instr.extract,h]
theorem FI{f T2:TypeId}{dd:TypeDesc}{k':IntKind}(j:P.underlying f=some dd)(p:P.underlying T2=some (.int k'))(q:e x = .int k a)(h:k'.wrap a=r):(execOp e ⟨dst,.convert f T2 x,ty,pos,aft,g⟩).run P w = .ok (.value (.int k' r)) w:=by simp[execOp,q,convert,Go.underlying,j,p,Conv.intToInt,h]
theorem LB{T':TypeId}{len:Nat}{sz b o i:Nat}(f:P.underlying T=some (.array len T'))(h:∀w,(sizeOf T').run P w = .ok sz w)(j:e x = .pointer (some ⟨b,o,none⟩))(p:e y = .int k a)(q:a.toNat=i)(A:0<=a)(hi:a<len):(execOp e ⟨dst,.indexAddr T x y,ty,pos,aft,g⟩).run P w = .ok (.value (.pointer (some ⟨b,o+i*sz,none⟩))) w:=by simp only[execOp,j,p,Instr.indexAt,La];simp[asIntOf,Go.underlying,f,Instr.sureAddr,A,hi,h,q,yd]
theorem MB{fs:Array Field}{f:Field}{i sz b o:Nat}(h:P.underlying T=some (.struct fs))(j:fs[i]? = some f)(p:∀w,(sizeOf f.type).run P w = .ok (sz+1) w)(q:e x = .pointer (some ⟨b,o,none⟩)):(execOp e ⟨dst,.fieldAddr T x i,ty,pos,aft,g⟩).run P w = .ok (.value (.pointer (some ⟨b,o+f.offset,none⟩))) w:=by simp[execOp,q,Instr.fieldAt,Go.underlying,h,j,Instr.sureAddr,fieldPlace,p,yd]
theorem Ju{i f b o:Nat}(tf:∀b o (w:World),(Instr.fieldAt T (.pointer (some ⟨b,o,none⟩)) i).run P w = .ok (.pointer (some ⟨b,o+f,none⟩)) w)(h:e x = .pointer (some ⟨b,o,none⟩)):(execOp e ⟨dst,.fieldAddr T x i,ty,pos,aft,g⟩).run P w = .ok (.value (.pointer (some ⟨b,o+f,none⟩))) w:=by simp only[execOp,h,La,tf,xh,Eb]
def ko(pl:List (Nat×Nat))(cs:LV):List (Nat×Value)->Option (LV)
 |[]=>some cs|(i,v)::l=>match ch pl i with
  |none=>none|some (f,sz)=>bif aJ v.cells.toList.length sz&&Nat.ble (f+sz) cs.length then ko pl (lay cs f v.cells.toList) l else none
def mP(P:Program)(T:TypeId)(z:Value)(pl:List (Nat×Nat)):Prop:=∀(f:List (Nat×Value)) (l:LV) (w:World),ko pl z.cells.toList f=some l->(Instr.build T f.toArray).run P w = .ok (.agg l.toArray) w
def zv(e:Operand->Value):List (Nat×Operand)->List (Nat×Value)
 |[]=>[]|(i,x)::l=>(i,e x)::zv e l
theorem xdK(ps:List (Nat×Operand)):(ps.map fun(i,x)=>(i,e x))=zv e ps:=by
 induction ps with
 |nil=>rfl|cons p ps f=>obtain⟨i,x⟩:=p;simp[zv,<-f]
theorem mo{z:Value}{pl:List (Nat×Nat)}{ps:List (Nat×Operand)}{vals:List (Nat×Value)}{l:LV}(f:mP P T z pl)(hp:zv e ps=vals)(h:ko pl z.cells.toList vals=some l):(execOp e ⟨dst,.build T ps.toArray,ty,pos,aft,g⟩).run P w = .ok (.value (.agg l.toArray)) w:=by
 have j:(ps.toArray.map fun(i,x)=>(i,e x))=vals.toArray:=by rw[<-hp,<-xdK];simp
 simp only[execOp,La];rw[j,f vals l w h];simp
theorem GI{args:List Operand}{at_:List TypeId}{f:ByteArray}{h:TypeId}(j:P.underlying h=some .string)(p:e x = .string f):(execOp e ⟨dst,.call ⟨.builtin .len,#[x],#[h]⟩,ty,pos,aft,g⟩).run P w = .ok (.value (.int .i64 f.size)) w:=by simp[execOp,resolve,invoke,builtin,Builtin.len_,Go.underlying,j,p,goInt]
theorem Lk{j:Option Addr}{f T':TypeId}{h cp:Nat}(p:P.underlying f=some (.slice T'))(q:e x = .slice j h cp):(execOp e ⟨dst,.call ⟨.builtin .len,#[x],#[f]⟩,ty,pos,aft,g⟩).run P w = .ok (.value (.int .i64 h)) w:=by simp[execOp,resolve,invoke,builtin,Builtin.len_,Go.underlying,p,q,goInt]
end
section
variable {P:Program}{ops:Array Oper}{nh:Nat}{Φ:Oa}{W w0:World}{vs:Nat->Gv}{Fin:Act->Prop}{i:Nat}{rest:List Oper}{n:Nat}{m:FM}{L:List ja}
variable {d:Nat}{op:Op}{ty:TypeId}{pos:String}{aft:Array Edge}{c v:Value}{x y:Operand}{T:TypeId}
theorem Fb(h:∀w,Ext W w->(execOp (o0 n m) ⟨some d,op,ty,pos,aft,none⟩).run P w = .ok (.value c) w)(hk:Φ i=none)(hf:Wc ops nh i=false) (f:vd P ops nh Φ W vs Fin (i+1) rest (fr n ((d,c)::m))):vd P ops nh Φ W vs Fin i (⟨some d,op,ty,pos,aft,none⟩::rest) (fr n m):=
 tv hk hf rfl (fun w j _=>by rw[fo];exact h w j) (by rw[ZF];exact f)
theorem XM{args:Array Operand}{at_:Array TypeId}{f:FuncId}{first cap:Array Value}{l:LV}{R:Value->World->Prop}{w:World}{dst:Option Tmp}{g:Option (Nat×Bool)}(hf:s8 P f)(q:o0 n m x = .func (.func f) first cap) (A:first.toList++args.toList.map (o0 n m)++cap.toList=l) (h:Calls P f l.toArray w fun e w'=>∃v,e = .returned v/\R v w'):
  outcome P R ((execOp (o0 n m) ⟨dst,.call ⟨.value x,args,at_⟩,ty,pos,aft,g⟩).run P w):=by
 have j:(first++args.map (o0 n m))++cap=l.toArray:=by rw[<-A];apply dY;simp
 have p:(execOp (o0 n m) ⟨dst,.call ⟨.value x,args,at_⟩,ty,pos,aft,g⟩).run P w = .ok (.enter f l.toArray) w:=by simp only[execOp,resolve,q,Deferred.ofValue,La,Eb,xh,invoke];rw[j];exact hf _ _
 rw[p];exact h.mono fun e w' ⟨v,C,D⟩=>by subst C;exact D
def zh(W:World)(l:LV)(T:TypeId)(v:Value)(w:World):Prop:=∃b,v = .pointer (some ⟨b,0,none⟩)/\W.heap.size<=b/\w.heap[b]? = some (.cells l.toArray T (0,0))
theorem zh.ext{W:World}{l:LV}{T:TypeId}(v:Value)(w w':World)(h:zh W l T v w)(j:Ext w w'):zh W l T v w':=by obtain⟨b,p,q,f⟩:=h;exact⟨b,p,q,by rw[Below.block j b (Iu f)];exact f⟩
theorem zh.old{W:World}{l:LV}{T:TypeId}{v:Value}{w:World}(h:zh W l T v w):GA w v:=by obtain⟨b,f,_,j⟩:=h;exact⟨b,0,f,Iu j⟩
theorem Av{f:Exit->Act->World->Prop}{j:List Oper}(h:∀w,Ext W w->de Φ vs w (dJ nh)->wh ops nh Φ vs->wpList P ops f j (fr n m) w):vd P ops nh Φ W vs (fun p=>∀w',Ext W w'->de Φ vs w' (dJ nh)->wh ops nh Φ vs->wpList P ops f j p w') i [] (fr n m):=h
end
theorem Ah:∀(cs:LV) (f:Nat) (vs:LV) (k:Nat),f+k+vs.length<=cs.length ->(vs.zipIdx k).foldl (fun(a:Array Value) (p:Value×Nat)=>a.setIfInBounds (f+p.2) p.1) cs.toArray=(lay cs (f+k) vs).toArray
 |cs,f,[],k,_=>by
  have:lay cs (f+k) []=cs:=by cases cs<;>rfl
  simp[this]
 |cs,f,v::vs,k,h=>by
  have A:f+k<cs.length:=by simp only[aQ]at h;omega
  have C:=Ah (cs.set (f+k) v) f vs (k+1) (by simp only[aQ,bW]at *;omega);simp only[List.zipIdx_cons,List.foldl_cons];have D:cs.toArray.setIfInBounds (f+k) v=(cs.set (f+k) v).toArray:=by simp
  rw[D,C];congr 1;apply bN;intro j;rw[Df,Df];simp only[aQ,bW];by_cases q:f+(k+1)<=j/\j<f+(k+1)+vs.length/\j<cs.length
  ·rw[zJ q,zJ (by omega),show j-(f+k)=(j-(f+(k+1)))+1 by omega];simp
  ·rw[zI q];by_cases F:j=f+k
   ·subst F;rw[zJ (by omega)];simp[A]
   ·rw[zI (by omega),List.getElem?_set_ne (by omega)]
theorem PT{pl:List (Nat×Nat)}{place:Nat->Option (Nat×Nat)}(A:∀i,ch pl i=none∨ch pl i=place i):∀(ps:List (Nat×Value)) (cs l:LV),ko pl cs ps=some l->Instr.fill place cs.toArray ps=some l.toArray
 |[],cs,l,h=>by simp only[ko,Option.some.injEq]at h;simp[Instr.fill,h]
 |(i,v)::ps,cs,l,h=>by
  unfold ko at h;rcases A i with h1|h1
  ·simp[h1]at h
  ·cases D:ch pl i with
   |none=>simp[D]at h|some q=>
    obtain⟨f,sz⟩:=q;simp only[D]at h;have G:place i=some (f,sz):=by rw[<-h1,D]
    cases C:aJ v.cells.toList.length sz&&Nat.ble (f+sz) cs.length with
    |false=>rw[C]at h;cases h
    |true=>
     rw[C]at h;simp only[zF]at h;simp only[aI,Nat.ble_eq]at C;have p:v.cells.toList.length=sz:=by have:=C.1;rw[Hu]at this;simpa using this
     unfold Instr.fill;simp only[G];have F:v.cells.size=sz:=by simpa using p
     rw[zI (by simp[F];omega)];have H:=Ah cs f v.cells.toList 0 (by rw[p];omega);have I:v.cells.zipIdx.foldl (fun cs (c,j)=>cs.setIfInBounds (f+j) c) cs.toArray=(lay cs f v.cells.toList).toArray:=by rw[<-Array.foldl_toList];simpa using H
     rw[I];exact PT A ps _ l h
theorem kZ(sz:Nat):∀(n k i:Nat),ch ((eQ k n).map fun i=>(i*sz,sz)) i=none∨ch ((eQ k n).map fun i=>(i*sz,sz)) i=some ((k+i)*sz,sz)
 |0,k,i=>.inl (by simp[ch])|n+1,k,0=>.inr (by simp[eX,ch])|n+1,k,i+1=>by have:=kZ sz n (k+1) i;simp only[eX,List.map_cons,ch];rw[show k+(i+1)=k+1+i by omega];exact this
theorem NB{P:Program}{T E:TypeId}{z:Value}{len sz:Nat}{pl:List (Nat×Nat)}(p:P.underlying T=some (.array len E))(q:DI P T z)(A:∀w,(sizeOf E).run P w = .ok sz w)(f:(eQ 0 len).map (fun i=>(i*sz,sz))=pl):mP P T z pl:=by
 intro C l w h;have j:=PT (place:=fun i=>some (i*sz,sz)) (fun i=>by subst f;simpa using kZ sz len 0 i) C z.cells.toList l h;have D:z.cells.toList.toArray=z.cells:=by simp
 rw[D]at j;simp[Instr.build,q w,Go.underlying,p,A,j]
theorem OB{P:Program}{T:TypeId}{z:Value}{fs:Array Field}{pl:List (Nat×Nat)}(C:P.underlying T=some (.struct fs))(D:DI P T z)(F:∀w,(fs.mapM fun f=>do pure (f.offset,<-sizeOf f.type):Sem (Array (Nat×Nat))).run P w = .ok pl.toArray w):mP P T z pl:=by
 intro G l w h
 have j:∀(pl:List (Nat×Nat)) (i:Nat),ch pl i=pl[i]?:=fun pl=>by
  induction pl with
  |nil=>intro i;simp[ch]|cons p pl H=>intro i;cases i with
   |zero=>simp[ch]|succ i=>simp[ch,H]
 have A:=PT (place:=(pl.toArray[·]?)) (fun i=>by right;simp[j]) G z.cells.toList l h;have I:z.cells.toList.toArray=z.cells:=by simp
 rw[I]at A;have q:=F w;simp only[Instr.build,La,D w,Gf,Go.underlying,run_program,C,Eb,q,A]
theorem ve{P:Program}{ops:Array Oper}{Q:Exit->Act->World->Prop}{rest:List Oper}{n:Nat}{m:FM}{w:World}{d:Nat}{ty:TypeId}{pos:String}{aft:Array Edge}{x:Operand}{v:Value}(f:o0 n m x=v)(h:wpList P ops Q rest (fr n ((d,v)::m)) w):wpList P ops Q (⟨some d,.move x,ty,pos,aft,none⟩::rest) (fr n m) w:=R9 (yh f) h
theorem Bh{P:Program}{ops:Array Oper}{Q:Exit->Act->World->Prop}{rest:List Oper}{n:Nat}{m:FM}{w:World}{d:Nat}{ty:TypeId}{pos:String}{aft:Array Edge}{x:Operand}{v:Value}(f:o0 n m x=v)(h:wpList P ops Q rest (fr n ((d,v)::m)) w):wpList P ops Q (⟨some d,.assign x,ty,pos,aft,none⟩::rest) (fr n m) w:=R9 (IB f) h
section
variable {P:Program}{Q:Exit->Act->World->Prop}{K:Act->World->Prop}{n:Nat}{m:FM}{w w0:World}{L:List ja}{id id':Nat}{a:Act}
theorem Kr(h:K a w):Exit.then K Q .normal a w:=h
theorem sr{c2:Code}{l:List Oper}(h:∀K:Act->World->Prop,(∀a w,c2.wp P Q a w->K a w)->wpList P l.toArray (Exit.then K Q) l a w):(Code.seq (.region id l.toArray false) c2).wp P Q a w:=wp_seq_k fun K f=>wp_region_lit (h K f)
theorem xk{c2:Code}{ops:Array Oper}(f:∀a w,c2.wp P Q a w->K a w)(h:c2.wp P Q a w):wpList P ops (Exit.then K Q) [] a w:=wpList_nil (Kr (f _ _ h))
theorem xn{c2:Code}(f:∀a w,c2.wp P Q a w->K a w)(h:c2.wp P Q a w):Exit.then K Q .normal a w:=Kr (f _ _ h)
theorem Bv(h:Q (.exit id) a w):Exit.then K Q (.exit id) a w:=h
theorem HI(h:Q .normal a w):Exit.inBlock id Q .normal a w:=h
theorem oo(h:Q .normal a w):Exit.inBlock id Q (.exit id) a w:=by simp only[Exit.inBlock,if_true];exact h
theorem Nk(f:aJ id' id=false)(h:Q (.exit id') a w):Exit.inBlock id Q (.exit id') a w:=by
 have:id'≠id:=fun e=>by rw[Hu]at f;simp at f;exact f e
 simp only[Exit.inBlock,this,if_false];exact h
theorem Kf{c:Operand}{x y:Code}{t:Bool}(f:o0 n m c = .bool t)(h:t=true->x.wp P Q (fr n m) w)(hf:t=false->y.wp P Q (fr n m) w):(Code.cond c x y).wp P Q (fr n m) w:=
 wp_cond_split (by rw[fo];exact f) h hf
theorem II{c:Operand}{x y:Code}{t:Bool}(f:o0 n m c = .bool t)(j:t=true)(h:x.wp P Q (fr n m) w):(Code.cond c x y).wp P Q (fr n m) w:=
 wp_cond_true (by rw[fo,f,j]) h
theorem po{c:Operand}{x y:Code}{t:Bool}(f:o0 n m c = .bool t)(j:t=false)(h:y.wp P Q (fr n m) w):(Code.cond c x y).wp P Q (fr n m) w:=
 wp_cond_false (by rw[fo,f,j]) h
theorem Ch{c:Code}(I:Nat->Act->World->Prop)(J:Nat)(N:I J a w) (round:∀g a w,I g a w->c.wp P (Exit.then (fun q w'=>∃f,f<g/\I f q w') Q) a w):(Code.loop c).wp P Q a w:=by
 let O:Act->World->Prop:=fun a w=>∃g,I g a w
 have j:∀a w,∃g,(∃g,I g a w)->I g a w/\∀f,f<g->¬I f a w:=fun a w=>by
  by_cases h:∃g,I g a w
  ·have:∃g,I g a w/\∀f,f<g->¬I f a w:=by
    obtain⟨g,R⟩:=h;induction g using Nat.strongRecOn with
    |_ g U=>
     by_cases p:∃f,f<g/\I f a w
     ·obtain⟨f,G,H⟩:=p;exact U f G H
     ·exact⟨g,R,fun f G H=>p ⟨f,G,H⟩⟩
   obtain⟨g,F⟩:=this;exact⟨g,fun _=>F⟩
  ·exact⟨0,fun p=>absurd p h⟩
 let A:Act->World->Nat:=fun a w=>Classical.choose (j a w);have C:∀a w (h:∃g,I g a w),I (A a w) a w/\∀f,f<A a w->¬I f a w:=fun a w h=>Classical.choose_spec (j a w) h;refine wp_loop O A ⟨J,N⟩ fun a w hI=>?_;refine wp_mono (round (A a w) a w (C a w hI).1) fun e q w' M=>?_;cases e with
 |normal=>
  obtain⟨f,V,D⟩:=M;have F:∃g,I g q w':=⟨f,D⟩;refine⟨F,?_⟩;rcases Nat.lt_or_ge f (A q w')with p|p
  ·exact absurd D ((C q w' F).2 f p)
  ·omega
 |_=>exact M
def rg(a:Nat):Nat->List Nat->List Nat
 |0,l=>l|n+1,l=>a::rg (a+1) n l
def has:List Nat->Nat->Bool
 |[],_=>false|d::l,t=>bif aJ d t then true else has l t
theorem nP{D:List Nat}{d:Nat}{v:Value}{X:Nat->Value}(j:has D d=true)(h:∀t,has D t=false->look m t=X t):∀t,has D t=false->look ((d,v)::m) t=X t:=fun t p=>by
 have f:d≠t:=fun e=>by rw[e,p]at j;cases j
 simp only[look,Hu,f,decide_false,zH];exact h t p
section
variable {P:Program}{ops:Array Oper}{Q:Exit->Act->World->Prop}{rest:List Oper}{n:Nat}{m:FM}{w:World}{d:Nat}{ty:TypeId}{pos:String}{aft:Array Edge}{x:Operand}{nh:Nat}{Φ:Oa}{W:World}{vs:Nat->Gv}{Fin:Act->Prop}{i:Nat}
theorem QT{a:Bool}(f:o0 n m x = .bool a)(h:wpList P ops Q rest (fr n ((d,.bool a)::m)) w):wpList P ops Q (⟨some d,.assign x,ty,pos,aft,none⟩::rest) (fr n m) w:=Bh f h
theorem tB{a:Bool}(f:o0 n m x = .bool a)(h:vd P ops nh Φ W vs Fin (i+1) rest (fr n ((d,.bool a)::m)))(hk:Φ i=none:=by rfl)(hf:Wc ops nh i=false:=by rfl):vd P ops nh Φ W vs Fin i (⟨some d,.move x,ty,pos,aft,none⟩::rest) (fr n m):=Fb (fun _ _=>yh f) h (hk:=hk) (hf:=hf)
theorem tA{a:Array Value}(f:o0 n m x = .agg a)(h:vd P ops nh Φ W vs Fin (i+1) rest (fr n ((d,.agg a)::m)))(hk:Φ i=none:=by rfl)(hf:Wc ops nh i=false:=by rfl):vd P ops nh Φ W vs Fin i (⟨some d,.move x,ty,pos,aft,none⟩::rest) (fr n m):=Fb (fun _ _=>yh f) h (hk:=hk) (hf:=hf)
end
theorem kcx{D:List Nat}{m1:FM}{X:Nat->Value}(h:∀t,has D t=false->look m1 t=X t:=by (repeat (refine nP rfl ?_));exact fun _ _=>rfl):∀t,has D t=false->look m1 t=X t:=h
theorem ka{α:Type}{a b:α}(h:some a=some b):a=b:=Option.some.inj h
theorem lZ{α:Type}{a:α}{l:List α}{n:Nat}:(a::l).take (n+1)=a::l.take n:=List.take_succ_cons
theorem mZ{α:Type}{l:List α}:l.take 0=[]:=List.take_zero
theorem nZ{α:Type}{a:α}{l:List α}{n:Nat}:(a::l).drop (n+1)=l.drop n:=List.drop_succ_cons
theorem oZ{α:Type}{l:List α}:l.drop 0=l:=bQ
section
variable {P:Program}{ops:Array Oper}{Q:Exit->Act->World->Prop}{rest:List Oper}{n:Nat}{m:FM}{w:World}{d:Nat}{ty:TypeId}{pos:String}{aft:Array Edge}{nh:Nat}{Φ:Oa}{W:World}{vs:Nat->Gv}{Fin:Act->Prop}{i:Nat}{c:Value}
end
abbrev Kp(D:List Nat)(m f:FM):Prop:=∀t,has D t=false->look m t=look f t
abbrev z4:LV:=[.int .u64 0,.int .u64 0,.int .u64 0,.int .u64 0]
def Cv(D:List Nat):List Nat->Bool
 |[]=>true|d::l=>bif has D d then Cv D l else false
theorem xbH{D:List Nat}:∀{l:List Nat},Cv D l=true->∀t,has D t=false->has l t=false
 |[],_,t,_=>rfl|d::l,h,t,p=>by
  unfold Cv at h;cases f:has D d with
  |false=>rw[f]at h;cases h
  |true=>
   rw[f]at h;have j:d≠t:=fun e=>by rw[e,p]at f;cases f
   simp only[has,Hu,j,decide_false,zH];exact xbH h t p
theorem pZ{D l:List Nat}{m1:FM}{X Y:Nat->Value}(hi:∀t,has l t=false->look m1 t=Y t)(j:Cv D l=true)(h:∀t,has D t=false->Y t=X t):∀t,has D t=false->look m1 t=X t:=
 fun t f=>(hi t (xbH j t f)).trans (h t f)
theorem kS{D l:List Nat}{m1 m:FM}{X Y:Nat->Value}(hi:∀t,has l t=false->look m1 t=Y t)(f:Cv D l=true)(h:∀t,has D t=false->Y t=X t)(e:(∀t,has D t=false->look m1 t=X t)->(∀t,has D t=false->look m t=X t):=by intro h;(repeat (refine nP rfl ?_));exact h):∀t,has D t=false->look m t=X t:=e (pZ hi f h)
theorem oP{c:Code}{m0:FM}(D:List Nat)(I:Nat->FM->World->Prop)(g0:Nat)(h0:I g0 m0 w) (round:∀g m w,(∀t,has D t=false->look m t=look m0 t)->I g m w ->
   c.wp P (Exit.then (fun p w'=>∃h f,h<g/\p=fr n f/\(∀t,has D t=false->look f t=look m0 t)/\I h f w') Q) (fr n m) w):(Code.loop c).wp P Q (fr n m0) w:=by
 refine Ch (fun g a w=>∃m,a=fr n m/\(∀t,has D t=false->look m t=look m0 t)/\I g m w) g0 ⟨m0,rfl,fun _ _=>rfl,h0⟩ ?_;rintro g a w ⟨m,rfl,C,hI⟩;refine wp_mono (round g m w C hI) fun e p w' q=>?_;cases e with
 |normal=>obtain⟨h,f,F,G,H,J⟩:=q;exact⟨h,F,f,G,H,J⟩
 |_=>exact q
def PB(tmps:Array Value):ResultVar->Sem Value
 |.tmp t=>pure (tmps.getD t undef)|.cell a t=>do loadVar t (<-asAddr (tmps.getD a undef))
def Le(P:Program)(n:Nat)(m:FM)(w:World)(r:ResultVar)(v:Value):Prop:=(PB (fr n m).tmps r).run P w = .ok v w
theorem pP(fn:Func)(tmps:Array Value):results fn tmps=(do let vs <-fn.results.mapM (PB tmps);pure (if h:vs.size=1 then vs[0]else .tuple vs)):=by unfold results;rfl
theorem JI{t:Nat}{v:Value}(f:o0 n m (.tmp t)=v):Le P n m w (.tmp t) v:=by show(pure ((fr n m).tmps.getD t undef):Sem Value).run P w=_;rw[io,f];rfl
theorem qP{fn:Func}{R:Ending->World->Prop}(f:fn.results = #[])(h:R (.returned (.tuple #[])) w):bodyPost P fn R .normal (fr n m) w:=
 ⟨rfl,_,by simp[results,f],h⟩
theorem RT{fn:Func}{R:Ending->World->Prop}{j:ResultVar}{f:Value}(q:fn.results = #[j])(p:Le P n m w j f)(h:R (.returned f) w):bodyPost P fn R .ret (fr n m) w:=by refine⟨rfl,f,?_,h⟩;unfold Le at p;rw[pP,q];simp only[jK,List.mapM_cons,List.mapM_nil,La,Sem.run_map,p,Gf,Eb];rfl
theorem e_2{fn:Func}{R:Ending->World->Prop}{j p:ResultVar}{f v2:Value}(C:fn.results = #[j,p])(q:Le P n m w j f)(A:Le P n m w p v2)(h:R (.returned (.tuple #[f,v2])) w):bodyPost P fn R .ret (fr n m) w:=by refine⟨rfl,.tuple #[f,v2],?_,h⟩;unfold Le at q A;rw[pP,C];simp only[jK,List.mapM_cons,List.mapM_nil,La,Sem.run_map,q,A,Gf,Eb];rfl
end
abbrev sl(b o n c:Nat):Value:=.slice (some ⟨b,o,none⟩) n c
structure TT (P:Program) (T E:TypeId) (z:Value) (nb:Nat):Prop where
 wc:P.underlying T=some (.slice E)
 Tb:∃i,P.info? E=some i/\i.zero=some z/\i.size=1/\i.bytes=nb
 one:z.cells = #[z]
theorem TT.size{P:Program}{T E:TypeId}{z:Value}{nb:Nat}(h:TT P T E z nb)(w:World):(sizeOf E).run P w = .ok 1 w:=by obtain⟨i,f,_,j,_⟩:=h.Tb;simp[sizeOf,typeInfo,f,j]
def Rd(w:World)(v:Value)(l:LV):Prop:=
 (v = .slice none 0 0/\l=[])∨∃b o c cs T f,v=sl b o l.length c/\l.length<=c/\w.heap[b]? = some (.cells cs.toArray T f)/\o+l.length<=cs.length/\piece cs o l.length=l
theorem Rd.ext{w w':World}{v:Value}{l:LV}(h:Rd w v l)(j:Ext w w'):Rd w' v l:=by
 rcases h with h|⟨b,o,c,cs,T,p,q,A,f,C,D⟩
 ·exact .inl h
 ·exact .inr ⟨b,o,c,cs,T,p,q,A,by rw[Below.block j b (Iu f)];exact f,C,D⟩
theorem Rd.hp{w0 w:World}{L:List ja}{v:Value}{l:LV}(h:Rd w0 v l)(H:HP w0 w L):Rd w v l:=h.ext H.below
theorem Rd.nil(w:World):Rd w (.slice none 0 0) []:=.inl ⟨rfl,rfl⟩
theorem Rd.own{w0 w:World}{L:List ja}(H:HP w0 w L){k b o n c:Nat}{cs l:LV}{T:TypeId}(hk:lk L k=some (b,cs,T))(h:piece cs o n=l)(j:o+n<=cs.length)(p:n<=c):Rd w (sl b o n c) l:=by
 have f:l.length=n:=by rw[<-h,P9];simp;omega
 subst f;exact .inr ⟨b,o,c,cs,T,(0,0),rfl,p,(H.N' k b cs T hk).1,j,h⟩
def KI:Value->Nat->Nat->Value
 |.slice a _ c,lo,hi=>.slice (if c=lo then a else a.map (·.add lo)) (hi-lo) (c-lo)|v,_,_=>v
theorem Rd.sub{w:World}{v:Value}{l:LV}(h:Rd w v l){lo hi:Nat}(G:lo<=hi)(D:hi<=l.length):Rd w (KI v lo hi) ((l.drop lo).take (hi-lo)):=by
 have f:((l.drop lo).take (hi-lo)).length=hi-lo:=by simp;omega
 rcases h with⟨rfl,rfl⟩|⟨b,o,c,cs,T,p,rfl,H,q,I,A⟩
 ·simp only[cN]at D;have j:lo=0:=by omega
  have F:hi=0:=by omega
  subst j;subst F;exact .inl ⟨rfl,rfl⟩
 ·by_cases C:c=lo
  ·have j:hi=lo:=by omega
   refine .inr ⟨b,o,c-lo,cs,T,p,?_,by rw[f];omega,q,by rw[f];omega,?_⟩
   ·rw[f];simp[KI,sl,C]
   ·rw[f,j];simp[piece]
  ·refine .inr ⟨b,o+lo,c-lo,cs,T,p,?_,by rw[f];omega,q,by rw[f];omega,?_⟩
   ·rw[f];simp[KI,sl,C,yd]
   ·rw[f,P9];rw[P9]at A
    conv=>rhs;rw[<-A]
    rw[iH,fG,List.take_take];congr 1;omega
section
variable {P:Program}{w:World}{e:Operand->Value}{x y lo hi:Operand}{T E ty:TypeId}{z v u:Value}{nb i:Nat}{l:LV}{a:Int}{k:IntKind}{dst:Option Tmp}{pos:String}{aft:Array Edge}{g:Option (Nat×Bool)}
theorem ie{P:Program}{w:World}{k:IntKind}{a:Int}{h y:Nat}{code:BoundsCode}(f:a=(h:Int))(p:h<=y):(Instr.sliceBound (.int k a) y code).run P w = .ok h w:=by
 subst f;have j:(0:Int)<=(h:Int)/\(h:Int)<=(y:Int):=by omega
 simp[Instr.sliceBound,asIntOf,j]
end
theorem HP.rP{w0 w:World}{L:List ja}{x e:ja}{k:Nat}(hk:lk L k=some x)(h:HP w0 w (e::L)):HP w0 w (st L k e):=by
 obtain⟨b,cs,T⟩:=e;refine⟨h.below,?_,?_⟩
 ·intro j p c T' q;by_cases A:j=k
  ·subst A;rw[NO hk]at q;exact h.N' 0 p c T' q
  ·rw[OO A]at q;exact h.N' (j+1) p c T' q
 ·intro i j p H C I T2 hi q
  have key:∀i c C,lk (st L k (b,cs,T)) i=some (p,c,C)->∃D,(i=k/\D=0∨i≠k/\D=i+1)/\lk ((b,cs,T)::L) D=some (p,c,C):=fun i c C hi=>by
   by_cases f:i=k
   ·subst f;rw[NO hk]at hi;exact⟨0,.inl ⟨rfl,rfl⟩,hi⟩
   ·rw[OO f]at hi;exact⟨i+1,.inr ⟨f,rfl⟩,hi⟩
  obtain⟨D,J,F⟩:=key i _ _ hi;obtain⟨M,N,G⟩:=key j _ _ q;have:=h.inj D M p H C I T2 F G;omega
section
variable {P:Program}{ops:Array Oper}{Q:Exit->Act->World->Prop}{rest:List Oper}{n:Nat}{m:FM}{w w0:World}{L:List ja}
variable {d:Nat}{ty:TypeId}{pos:String}{aft:Array Edge}{x y:Operand}{T E:TypeId}{z:Value}{nb:Nat}
theorem ywY{b len c k:Nat}{xs rs f:LV}{v2:Value}(O:TT P T E z nb)(H:HP w0 w L)(hk:lk L k=some (b,xs++rs,E))(R:xs.length=len)(q:(xs++rs).length=c) (hr:Rd w v2 f) (h1:∀v∈f,v.oneCell'=true) (hb:(len+f.length)*nb<=140737488355328) (hb':len+f.length<=140737488355328):∃b' rs' w',(ue #[T,T] ty #[sl b 0 len c,v2]).run P w = .ok (sl b' 0 (len+f.length) (xs++f++rs').length) w'/\HP w0 w' (st L k (b',xs++f++rs',E)):=by
 obtain⟨i,M,V,C,X⟩:=O.Tb;have A:=(H.N' k b _ E hk).1;subst R;rcases hr with⟨rfl,rfl⟩|⟨Y,o2,c2,cs2,T2,fz2,rfl,hc2,hb2,ho2,hp2⟩
 ·refine⟨b,rs,w,?_,?_⟩
  ·have h:xs.length+0<=c:=by rw[<-q];simp
   have hst:=run_storeCells_at P b (xs.length*1) E [] 0 (xs++rs).toArray w A (by simp) (fun v hv=>by simp at hv);simp only[ue,Go.underlying,sizeOf,typeInfo,Builtin.lenOf,q,cN,bJ];simp[Builtin.firstCells,M,C,storeCells,O.wc];intro hh;simp at h;omega
  ·simp only[bJ];exact H.set hk rfl rfl rfl rfl A (fun _ _=>rfl)
 ·have D:∀j u,f[j]? = some u->w.cell? ((⟨Y,o2,none⟩:Addr).add j)=some u:=fun j u J=>by rw[yd,YY hb2];have hjl:=(aC.1 J).1;rw[<-hp2,P9,dE,zJ hjl,bU]at J;exact J
  by_cases h:xs.length+f.length<=c
  ·refine⟨b,rs.drop f.length,w.setRow b ((xs++rs).take (xs.length*i.size)++f++(xs++rs).drop (xs.length*i.size+f.length)).toArray,?_,?_⟩
   ·have p:=run_append_room (P:=P) w T ty E i O.wc M b xs.length c (xs++rs).toArray A ⟨Y,o2,none⟩ f.length c2 f (by rw[C];omega) D h1 h (by rw[C,dQ];simpa[<-q]using h);have N:(xs++f++rs.drop f.length).length=c:=by rw[<-q];simp only[aD,List.length_drop];rw[<-q,aD]at h;omega
    rw[N];exact p
   ·have e1:(xs++rs).take (xs.length*i.size)++f++(xs++rs).drop (xs.length*i.size+f.length)=xs++f++rs.drop f.length:=by rw[C,dQ,List.take_left,<-fG,List.drop_left]
    rw[e1];exact H.set hk (setRow_size w b _) rfl rfl rfl (setRow_heap w b _ _ E (0,0) A) (fun j J=>setRow_other w b j _ J)
  ·have hnb:nb<=140737488355328∨True:=.inr trivial;have U:=growslice_fits (bytes:=nb) (dV h) hb;have holds:∀j u,xs[j]? = some u->w.cell? ((⟨b,0,none⟩:Addr).add j)=some u:=fun j u J=>by rw[yd,YY A,Nat.zero_add,aF (aC.1 J).1];exact J
   have p:=run_append_grow (P:=P) w T ty E i z O.wc M V ⟨b,0,none⟩ xs.length c xs (by rw[C];omega) holds ⟨Y,o2,none⟩ f.length c2 f (by rw[C];omega) D (dV h) (by omega) (by rw[X];exact U);have hge:=grownCap_ge w (xs.length+f.length) c E;have F:=size_zeroCells z.cells (grownCap w (xs.length+f.length) c E-(xs.length+f.length));rw[O.one]at F p;generalize hG:grownCap w (xs.length+f.length) c E=G at p hge F;generalize hZ:Wa #[z] (G-(xs.length+f.length))=Z at p F;have hZl:Z.toList.length=G-(xs.length+f.length):=by simpa using F
   have N:(xs++f++Z.toList).length=G:=by simp only[aD,hZl];omega
   have I:xs.toArray++f.toArray++Z=(xs++f++Z.toList).toArray:=by apply dY;simp
   refine⟨w.heap.size,Z.toList,w.drew.alloc (.cells (xs++f++Z.toList).toArray E),?_,HP.rP hk ?_⟩
   ·rw[N,<-I];exact p
   ·exact H.push ((Ext.drew w).trans (Ext.alloc w.drew _)) (aL _) (Od w.drew _)
theorem append_nil{f:LV}{v2:Value}(C:TT P T E z nb)(H:HP w0 w L)(hr:Rd w v2 f)(Y:0<f.length)(hb:f.length*nb<=140737488355328)(hb':f.length<=140737488355328):∃b' rs' w',(ue #[T,T] ty #[.slice none 0 0,v2]).run P w = .ok (sl b' 0 f.length (f++rs').length) w'/\HP w0 w' ((b',f++rs',E)::L):=by
 obtain⟨i,D,F,I,J⟩:=C.Tb;rcases hr with⟨rfl,rfl⟩|⟨b2,o2,c2,cs2,T2,fz2,rfl,hc2,M,ho2,N⟩
 ·exact absurd Y (by decide)
 ·have A:∀j u,f[j]? = some u->w.cell? ((⟨b2,o2,none⟩:Addr).add j)=some u:=fun j u O=>by rw[yd,YY M];have R:=(aC.1 O).1;rw[<-N,P9,dE,zJ R,bU]at O;exact O
  have h:=run_append_nil (P:=P) w T ty E i z C.wc D F ⟨b2,o2,none⟩ f.length c2 f (by rw[I];omega) A Y (by omega) (by rw[J];omega);have U:=grownCap_ge w f.length 0 E;have p:=size_zeroCells z.cells (grownCap w f.length 0 E-f.length);rw[C.one]at p h;generalize hG:grownCap w f.length 0 E=G at h U p;generalize hZ:Wa #[z] (G-f.length)=Z at h p;have V:Z.toList.length=G-f.length:=by simpa using p
  have X:(f++Z.toList).length=G:=by simp only[aD,V];omega
  have q:f.toArray++Z=(f++Z.toList).toArray:=by apply dY;simp
  refine⟨w.heap.size,Z.toList,w.drew.alloc (.cells (f++Z.toList).toArray E),?_,?_⟩
  ·rw[X,<-q];exact h
  ·exact H.push ((Ext.drew w).trans (Ext.alloc w.drew _)) (aL _) (Od w.drew _)
theorem QB{xs ys:LV}{i n:Nat}{v:Value}(h:xs.set i v=ys)(f:xs.length=n):ys.length=n:=by rw[<-h,bW,f]
theorem HP.of(h:Ext w0 w):HP w0 w []:=(HP.start w0).ext h
end
def Bk(w:World)(b:Nat)(cs:LV)(T:TypeId):Prop:=w.heap[b]? = some (.cells cs.toArray T (0,0))
theorem Bk.ext{w w':World}{b:Nat}{cs:LV}{T:TypeId}(h:Bk w b cs T)(f:Ext w w'):Bk w' b cs T:=by have j:=Iu h;unfold Bk at *;rw[Below.block f b j];exact h
theorem Bk.hp{w0 w:World}{L:List ja}{b:Nat}{cs:LV}{T:TypeId}(h:Bk w0 b cs T)(H:HP w0 w L):Bk w b cs T:=h.ext H.below
theorem HP.bk{w0 w:World}{L:List ja}{k b:Nat}{cs:LV}{T:TypeId}(H:HP w0 w L)(hk:lk L k=some (b,cs,T)):Bk w b cs T:=(H.N' k b cs T hk).1
section
variable {P:Program}{w w0:World}{e:Operand->Value}{dst:Option Tmp}{g:Option (Nat×Bool)}{ty:TypeId}{pos:String}{aft:Array Edge}{x y:Operand}{T T':TypeId}{b o sz:Nat}{cs l:LV}{v:Value}
end
abbrev str(l:Bs):Value:=.string ⟨l.toArray⟩
def W9(l:Bs):LV:=l.map fun b=>Value.int .u8 (b.toNat:Int)
theorem qo(l:Bs):(W9 l).length=l.length:=by simp[W9]
theorem SB{l:Bs}{i:Nat}{b:UInt8}(h:l[i]? = some b):(W9 l)[i]? = some (.int .u8 (b.toNat:Int)):=by simp[W9,h]
theorem Dv(l:Bs):∀v∈W9 l,v.oneCell'=true:=by intro v f;simp only[W9,List.mem_map]at f;obtain⟨b,_,rfl⟩:=f;rfl
theorem Lr(l:Bs):(⟨l.toArray⟩:ByteArray).size=l.length:=by simp[ByteArray.size]
theorem Pk(a b:Bs):(⟨a.toArray⟩:ByteArray)++⟨b.toArray⟩=⟨(a++b).toArray⟩:=by apply ByteArray.ext;simp
theorem YM(l:Bs)(p h:Nat):(⟨l.toArray⟩:ByteArray).extract p h=⟨((l.take h).drop p).toArray⟩:=by apply ByteArray.ext;simp[ByteArray.data_extract,List.extract_toArray,List.extract_eq_take_drop,iH]
theorem LI{a b:Bs}(h:str a=str b):a=b:=by
 have f:(⟨a.toArray⟩:ByteArray)=⟨b.toArray⟩:=by injection h
 have j:=congrArg (fun x=>x.data.toList) f;simpa using j
section
variable {P:Program}{w:World}{e:Operand->Value}{dst:Option Tmp}{g:Option (Nat×Bool)}{ty:TypeId}{pos:String}{aft:Array Edge}{x y lo hi:Operand}{T:TypeId}{k k':IntKind}{a b:Int}{l r:Bs}{t:Bool}
theorem Qk{N:Nat}(f:P.underlying T=some .string)(h:e x=str l)(j:l.length=N):(execOp e ⟨dst,.call ⟨.builtin .len,#[x],#[T]⟩,ty,pos,aft,g⟩).run P w = .ok (.value (.int .i64 (N:Int))) w:=by subst j;have:=GI (P:=P) (w:=w) (e:=e) (dst:=dst) (g:=g) (ty:=ty) (pos:=pos) (aft:=aft) (args:=[]) (at_:=[]) f h;rw[this,Lr]
theorem MI{i:Nat}{u:UInt8}(j:P.underlying T=some .string)(p:e x=str l)(q:e y = .int k a)(A:a=(i:Int))(h:l[i]? = some u):(execOp e ⟨dst,.index T x y,ty,pos,aft,g⟩).run P w = .ok (.value (.int .u8 (u.toNat:Int))) w:=by
 subst A;have hi:=(aC.1 h).1;have f:=(aC.1 h).2;have C:(⟨l.toArray⟩:ByteArray)[i]? = some u:=by rw[getElem?_pos (⟨l.toArray⟩:ByteArray) i (by simpa[ByteArray.size]using hi)];exact congrArg some f
 simp[execOp,Instr.index,asIntOf,Go.underlying,j,p,q,C]
theorem Ev{p h:Nat}(f:P.underlying T=some .string)(j:e x=str l)(q:e lo = .int k' b)(A:e hi = .int k a)(C:b=(p:Int))(D:a=(h:Int))(hp:p<=h)(F:h<=l.length)(G:(l.take h).drop p=r):(execOp e ⟨dst,.slice T x (some lo) (some hi) none,ty,pos,aft,g⟩).run P w = .ok (.value (str r)) w:=by simp[execOp,Ff,Ef,ee,Go.underlying,f,j,q,A,ie (P:=P) (w:=w) D (y:=l.length) F,ie (P:=P) (w:=w) C hp,Lr,YM,G]
theorem Mr{p:Nat}(f:P.underlying T=some .string)(h:e x=str l)(j:e lo = .int k' b)(q:b=(p:Int))(hp:p<=l.length)(A:l.drop p=r):(execOp e ⟨dst,.slice T x (some lo) none none,ty,pos,aft,g⟩).run P w = .ok (.value (str r)) w:=by simp[execOp,Ff,Ef,ee,Go.underlying,f,h,j,ie (P:=P) (w:=w) q hp,Lr,YM,A]
theorem Nr{h:Nat}(f:P.underlying T=some .string)(j:e x=str l)(p:e hi = .int k a)(q:a=(h:Int))(A:h<=l.length)(C:l.take h=r):(execOp e ⟨dst,.slice T x none (some hi) none,ty,pos,aft,g⟩).run P w = .ok (.value (str r)) w:=by simp[execOp,Ff,Ef,ee,Go.underlying,f,j,p,ie (P:=P) (w:=w) q (y:=l.length) A,Lr,YM,C]
theorem Pr(l:Bs):strOfNums (l.map fun b=>(b.toNat:Int))=⟨l.toArray⟩:=by apply ByteArray.ext;apply Array.toList_inj.1;rw[strOfNums_data];simp[Function.comp_def]
variable {l1 l2:Bs}{T':TypeId}
theorem UB(f:l1.length+l2.length<=9223372036854775807):(DB .add ⟨l1.toArray⟩ ⟨l2.toArray⟩).run P w = .ok (str (l1++l2)) w:=by
 simp only[DB,Lr,Pk]
 rw [if_neg (by have : IntKind.i64.max = 9223372036854775807 := by decide
                rw[this];omega)]
 rfl
theorem Fv(f:e x=str l1)(h:e y=str l2)(j:l1.length+l2.length<=9223372036854775807)(p:l1++l2=r):(execOp e ⟨dst,.binOp .add T x y T',ty,pos,aft,g⟩).run P w = .ok (.value (str r)) w:=by have:=UB (P:=P) (w:=w) j;simp[execOp,eqGuard,binOp,f,h,this,p]
theorem sP(f:e x=str l1)(j:e y=str l2)(h:(l1==l2)=t):(execOp e ⟨dst,.binOp .eql T x y T',ty,pos,aft,g⟩).run P w = .ok (.value (.bool t)) w:=by simp[execOp,eqGuard,binOp,f,j,DB,<-h]
theorem tP(f:e x=str l1)(j:e y=str l2)(h:(l1 != l2)=t):(execOp e ⟨dst,.binOp .neq T x y T',ty,pos,aft,g⟩).run P w = .ok (.value (.bool t)) w:=by simp[execOp,eqGuard,binOp,f,j,DB,<-h,bne]
end
section
abbrev Mem:=Nat->Option Obj
def Mem.le(S T:Mem):Prop:=∀b o,S b=some o->T b=some o
theorem Mem.le_refl(S:Mem):Mem.le S S:=fun _ _ h=>h
theorem Mem.le_trans{S T U:Mem}(h:Mem.le S T)(k:Mem.le T U):Mem.le S U:=fun b o e=>k b o (h b o e)
def Sub(S:Mem)(w:World):Prop:=∀b o,S b=some o->w.heap[b]? = some o
theorem lt_of_heap{w:World}{b:Nat}{o:Obj}(h:w.heap[b]? = some o):b<w.heap.size:=Iu h
theorem Sub.lt{S:Mem}{w:World}(h:Sub S w){b:Nat}{o:Obj}(f:S b=some o):b<w.heap.size:=lt_of_heap (h b o f)
theorem Sub.none{S:Mem}{w:World}(h:Sub S w){b:Nat}(f:w.heap.size<=b):S b=none:=by
 cases e:S b with
 |none=>rfl|some o=>have:=h.lt e;omega
theorem Sub.ext{S:Mem}{w w':World}(h:Sub S w)(f:Ext w w'):Sub S w':=fun b o e=>by rw[Below.block f b (h.lt e)];exact h b o e
def gr(S:Mem)(w w':World):Mem:=fun b=>if b<w.heap.size then S b else w'.heap[b]?
theorem nG{S:Mem}{w w':World}(h:Sub S w):Mem.le S (gr S w w'):=fun b o e=>by unfold gr;rw[zJ (h.lt e)];exact e
theorem NI{S:Mem}{w w':World}(h:Sub S w)(f:Ext w w'):Sub (gr S w w') w':=fun b o e=>by
 unfold gr at e;split at e
 ·exact h.ext f b o e
 ·exact e
def gf(S:Mem)(W:World)(F:Nat->Bool)(w:World):Mem:=fun b=>if b<W.heap.size then S b else if F b=true then w.heap[b]? else none
theorem OI{S:Mem}{W w:World}{F:Nat->Bool}(h:Sub S W)(f:Ext W w):Sub (gf S W F w) w:=fun b o e=>by
 unfold gf at e;split at e
 ·exact h.ext f b o e
 ·split at e
  ·exact e
  ·cases e
theorem oG{S:Mem}{W w:World}{F:Nat->Bool}(h:Sub S W):Mem.le S (gf S W F w):=fun b o e=>by unfold gf;rw[zJ (h.lt e)];exact e
theorem uP{S:Mem}{W w:World}{F G:Nat->Bool}(f:∀b,F b=true->G b=true):Mem.le (gf S W F w) (gf S W G w):=fun b o e=>by
 unfold gf at *;split at e
 ·rename_i h;rw[zJ h];exact e
 ·rename_i h;split at e
  ·rename_i j;rw[zI h,zJ (f b j)];exact e
  ·cases e
abbrev so:TypeId:=5
def Lf(T:TypeId)(fz:Nat×Nat)(n:Nat):Prop:=fz=(0,0)∨(n<=fz.1/\T=so)
inductive R0 where
 |N' (b:Nat) (cs:LV) (T:TypeId)
 |obj (b:Nat) (o:Obj)
 |H' (v:Value) (n sz:Nat) (cs rs:LV) (T:TypeId)
inductive Q0 where
 /-- a block -/
 |N' (b:Nat) (cs:LV) (T:TypeId)
 /-- an object of another kind -/
 |obj (b:Nat) (o:Obj)
 /-- a slice from a block's head on, and what lies behind its end: n elements of sz cells; or the nil one -/
 |H' (v:Value) (n sz:Nat) (cs rs:LV) (T:TypeId)
 /-- many of them -/
 |many (rs:List R0)
def R0.up:R0->Q0
 |.N' b cs T=>.N' b cs T|.obj b o=>.obj b o|.H' v n sz cs f T=>.H' v n sz cs f T
def WB:Value->Option Nat
 |.slice (some a) _ _=>some a.block|_=>none
def R0.key:R0->Option Nat
 |.N' b _ _=>some b|.obj b _=>some b|.H' v _ _ _ _ _=>WB v
def R0.holds(w:World):R0->Prop
 |.N' b cs T=>w.heap[b]? = some (.cells cs.toArray T (0,0))|.obj b o=>w.heap[b]? = some o|.H' v n sz cs f T=>(v = .slice none 0 0/\n=0/\cs=[]/\f=[]) ∨
   ∃b c h,v=sl b 0 n c/\n<=c/\cs.length=n*sz/\c*sz<=(cs++f).length/\w.heap[b]? = some (.cells (cs++f).toArray T h)/\Lf T h (cs++f).length
def R0.apart(rs:List R0):Prop:=rs.Pairwise fun p q=>∀b,p.key=some b->q.key≠some b
def Q0.holds(w:World):Q0->Prop
 |.N' b cs T=>w.heap[b]? = some (.cells cs.toArray T (0,0))|.obj b o=>w.heap[b]? = some o|.H' v n sz cs f T=>(v = .slice none 0 0/\n=0/\cs=[]/\f=[]) ∨
   ∃b c h,v=sl b 0 n c/\n<=c/\cs.length=n*sz/\c*sz<=(cs++f).length/\w.heap[b]? = some (.cells (cs++f).toArray T h)/\Lf T h (cs++f).length
 |.many f=>(∀q∈f,q.holds w)/\R0.apart f
def Q0.has:Q0->Nat->Prop
 |.N' b _ _,i=>some b=some i|.obj b _,i=>some b=some i|.H' v _ _ _ _ _,i=>WB v=some i|.many f,i=>∃q∈f,q.key=some i
def Q0.keys:Q0->List Nat
 |.N' b _ _=>[b]|.obj b _=>[b]|.H' v _ _ _ _ _=>match WB v with
  |some b=>[b]|none=>[]
 |.many f=>f.filterMap R0.key
theorem Q0.mem_keys{r:Q0}{b:Nat}:b∈r.keys↔r.has b:=by
 cases r with
 |N' f cs T=>simp only[Q0.keys,Q0.has,aZ,Option.some.injEq];exact eq_comm|obj f o=>simp only[Q0.keys,Q0.has,aZ,Option.some.injEq];exact eq_comm|H' v n sz cs h T=>
  simp only[Q0.keys,Q0.has];cases WB v with
  |none=>simp|some c=>simp only[aZ,Option.some.injEq];exact eq_comm
 |many h=>simp only[Q0.keys,Q0.has,List.mem_filterMap]
theorem R0.Rk{w:World}{r:R0}{b:Nat}(h:r.holds w)(hk:r.key=some b):b<w.heap.size:=by
 cases r with
 |N' f cs T=>cases hk;exact lt_of_heap h
 |obj f o=>cases hk;exact lt_of_heap h
 |H' v n sz cs p T=>
  rcases h with⟨rfl,_⟩|⟨f,c,q,rfl,_,_,_,j,_⟩
  ·cases hk
  ·cases hk;exact lt_of_heap j
theorem R0.holds_of{w w':World}{r:R0}(h:r.holds w)(hk:∀b,r.key=some b->w'.heap[b]? = w.heap[b]?):r.holds w':=by
 cases r with
 |N' f cs T=>show w'.heap[f]? = _;rw[hk f rfl];exact h
 |obj f o=>show w'.heap[f]? = _;rw[hk f rfl];exact h
 |H' v n sz cs F T=>
  rcases h with h|⟨f,c,j,rfl,p,q,A,C,D⟩
  ·exact .inl h
  ·exact .inr ⟨f,c,j,rfl,p,q,A,by rw[hk f rfl];exact C,D⟩
theorem Q0.Rk{w:World}{r:Q0}{b:Nat}(h:r.holds w)(hk:r.has b):b<w.heap.size:=by
 cases r with
 |N' f cs T=>cases hk;exact lt_of_heap h
 |obj f o=>cases hk;exact lt_of_heap h
 |H' v n sz cs j T=>
  rcases h with⟨rfl,_⟩|⟨f,c,C,rfl,_,_,_,p,_⟩
  ·cases hk
  ·cases hk;exact lt_of_heap p
 |many j=>obtain⟨q,A,hk⟩:=hk;exact R0.Rk (h.1 q A) hk
theorem Q0.holds_of{w w':World}{r:Q0}(h:r.holds w)(hk:∀b,r.has b->w'.heap[b]? = w.heap[b]?):r.holds w':=by
 cases r with
 |N' f cs T=>show w'.heap[f]? = _;rw[hk f rfl];exact h
 |obj f o=>show w'.heap[f]? = _;rw[hk f rfl];exact h
 |H' v n sz cs p T=>
  rcases h with h|⟨f,c,A,rfl,C,D,F,G,H⟩
  ·exact .inl h
  ·exact .inr ⟨f,c,A,rfl,C,D,F,by rw[hk f rfl];exact G,H⟩
 |many p=>exact⟨fun q j=>R0.holds_of (h.1 q j) fun b I=>hk b ⟨q,j,I⟩,h.2⟩
theorem R0.PI{q:R0}{b:Nat}:q.up.has b↔q.key=some b:=by cases q<;>exact Iff.rfl
structure Fr (X:List Nat) (w0 w:World):Prop where
 os:w.os=w0.os
 tape:w.tape=w0.tape
 output:w.output=w0.output
 size:w0.heap.size<=w.heap.size
 block:∀k,k<w0.heap.size->k∉X->w.heap[k]? = w0.heap[k]?
theorem Fr.refl(X:List Nat)(w:World):Fr X w w:=⟨rfl,rfl,rfl,aL _,fun _ _ _=>rfl⟩
theorem Fr.ext{w0 w:World}(h:Fr [] w0 w):Ext w0 w:=⟨h.os,h.tape,h.output,h.size,fun k f=>h.block k f (by simp)⟩
theorem Fr.of{w0 w:World}(h:Ext w0 w):Fr [] w0 w:=⟨h.os,h.tape,h.output,h.size,fun k f _=>h.block k f⟩
structure r9 where
 S0:Mem
 X:List Nat
 w0:World
def Y3:List Q0->Nat->Option Q0
 |[],_=>none|e::_,0=>some e|_::l,k+1=>Y3 l k
def Za:List Q0->Nat->Q0->List Q0
 |[],_,_=>[]|_::l,0,e=>e::l|x::l,k+1,e=>x::Za l k e
def Me:List Q0->Nat->List Q0
 |[],_=>[]|_::l,0=>l|x::l,k+1=>x::Me l k
theorem N7:∀(l:List Q0) (k:Nat),Y3 l k=l[k]?
 |[],_=>by simp[Y3]
 |_::_,0=>by simp[Y3]
 |_::l,k+1=>by simp[Y3,N7 l k]
theorem ZM{e:Q0}:∀{l:List Q0} {k:Nat} {x:Q0},Y3 l k=some x->Y3 (Za l k e) k=some e
 |[],_,_,h=>by cases h
 |_::_,0,_,_=>rfl|_::l,k+1,_,h=>ZM (l:=l) (k:=k) h
theorem uo{e:Q0}:∀{l:List Q0} {k j:Nat},j≠k->Y3 (Za l k e) j=Y3 l j
 |[],_,_,_=>rfl|_::_,0,0,h=>absurd rfl h|_::_,0,_+1,_=>rfl|_::_,_+1,0,_=>rfl|_::l,k+1,j+1,h=>uo (l:=l) (by omega)
theorem QI:∀{l:List Q0} {k j:Nat},Y3 (Me l k) j=if j<k then Y3 l j else Y3 l (j+1)
 |[],_,_=>by simp[Me,Y3]
 |_::l,0,j=>by simp[Me,Y3]
 |_::l,k+1,0=>by simp[Me,Y3]
 |_::l,k+1,j+1=>by simp[Me,Y3,QI (l:=l) (k:=k) (j:=j)]
structure HS (B:r9) (S:Mem) (w:World) (L:List Q0):Prop where
 fr:Fr B.X B.w0 w
 sub:Sub S w
 keep:∀b,b<B.w0.heap.size->b∉B.X->S b=B.S0 b
 own:∀k r,Y3 L k=some r->r.holds w
 old:∀k r b,Y3 L k=some r->r.has b->(B.w0.heap.size<=b∨b∈B.X)/\S b=none
 inj:∀i j r s b,Y3 L i=some r->Y3 L j=some s->r.has b->s.has b->i=j
theorem HS.start{S:Mem}{w:World}(h:Sub S w):HS ⟨S,[],w⟩ S w []:=
 ⟨Fr.refl _ _,h,fun _ _ _=>rfl,fun _ _ h=>by simp[Y3]at h,fun _ _ _ h=>by simp[Y3]at h,fun _ _ _ _ _ h=>by simp[Y3]at h⟩
theorem HS.Hv{S0 S:Mem}{w0 w:World}{L:List Q0}(H:HS ⟨S0,[],w0⟩ S w L):Ext w0 w:=H.fr.ext
theorem HS.gr{S0 S:Mem}{w0 w:World}{L:List Q0}(H:HS ⟨S0,[],w0⟩ S w L):Mem.le S (gr S0 w0 w):=fun b o e=>by
 unfold Go.Proofs.YtopanhneegpgcaaGreatDoor.gr;by_cases h:b<w0.heap.size
 ·rw[zJ h];have f:S b=S0 b:=H.keep b h (by simp);rw[<-f];exact e
 ·rw[zI h];exact H.sub b o e
section
variable {B:r9}{S S':Mem}{w w':World}{L:List Q0}
theorem HS.a8(H:HS B S w L){k b:Nat}{r:Q0}(hk:Y3 L k=some r)(f:r.has b):b<w.heap.size:=Q0.Rk (H.own k r hk) f
theorem Fr.more{X:List Nat}{a b c:World}(h:Fr X a b)(k:Ext b c):Fr X a c:=
 ⟨k.os.trans h.os,k.tape.trans h.tape,k.output.trans h.output,bB h.size k.size,fun i hi f=>(k.block i (cQ hi h.size)).trans (h.block i hi f)⟩
theorem HS.ext(H:HS B S w L)(f:Ext w w'):HS B S w' L:=
 ⟨H.fr.more f,H.sub.ext f,H.keep,fun k r h=>Q0.holds_of (H.own k r h) fun b j=>f.block b (H.a8 h j),H.old,H.inj⟩
theorem HS.call(H:HS B S w L)(j:Ext w w'):HS B (Go.Proofs.YtopanhneegpgcaaGreatDoor.gr S w w') w' L:=
 ⟨H.fr.more j,NI H.sub j,fun b f j=>by
   unfold Go.Proofs.YtopanhneegpgcaaGreatDoor.gr;rw[zJ (cQ f H.fr.size)];exact H.keep b f j,
  fun k r h=>Q0.holds_of (H.own k r h) fun b f=>j.block b (H.a8 h f),
  fun k r b h f=>⟨(H.old k r b h f).1,by unfold Go.Proofs.YtopanhneegpgcaaGreatDoor.gr;rw[zJ (H.a8 h f)];exact(H.old k r b h f).2⟩,H.inj⟩
theorem HS.Pd{F:Nat->Bool}(H:HS B S w L)(j:Ext w w'):HS B (Go.Proofs.YtopanhneegpgcaaGreatDoor.gf S w F w') w' L:=
 ⟨H.fr.more j,OI H.sub j,fun b f j=>by
   unfold Go.Proofs.YtopanhneegpgcaaGreatDoor.gf;rw[zJ (cQ f H.fr.size)];exact H.keep b f j,
  fun k r h=>Q0.holds_of (H.own k r h) fun b f=>j.block b (H.a8 h f),
  fun k r b h f=>⟨(H.old k r b h f).1,by unfold Go.Proofs.YtopanhneegpgcaaGreatDoor.gf;rw[zJ (H.a8 h f)];exact(H.old k r b h f).2⟩,H.inj⟩
theorem HS.drew(H:HS B S w L):HS B S w.drew L:=H.ext (Ext.drew w)
theorem HS.push(H:HS B S w L)(F:Ext w w'){r:Q0}(G:r.holds w')(h:∀b,r.has b->w.heap.size<=b):HS B S w' (r::L):=by
 have p:=H.ext F;refine⟨p.fr,p.sub,p.keep,?_,?_,?_⟩
 ·intro k s f;cases k with
  |zero=>cases f;exact G
  |succ k=>exact p.own k s f
 ·intro k s b f q;cases k with
  |zero=>cases f;exact⟨.inl (bB H.fr.size (h b q)),H.sub.none (h b q)⟩
  |succ k=>exact H.old k s b f q
 ·intro i j s t b hi A C D;cases i with
  |zero=>
   cases j with
   |zero=>rfl|succ j=>cases hi;have I:=h b C;have J:=H.a8 A D;omega
  |succ i=>
   cases j with
   |zero=>cases A;have I:=h b D;have J:=H.a8 hi C;omega
   |succ j=>rw[H.inj i j s t b hi A C D]
theorem HS.Gb(H:HS B S w L){k:Nat}{r r':Q0}(hk:Y3 L k=some r)(G:w.heap.size<=w'.heap.size)(I:w'.os=w.os)(J:w'.tape=w.tape)(M:w'.output=w.output) (N:∀i,i<w.heap.size->¬r.has i->w'.heap[i]? = w.heap[i]?) (R:r'.holds w') (q:∀b,r'.has b->r.has b∨w.heap.size<=b):HS B S w' (Za L k r'):=by
 refine⟨⟨I.trans H.fr.os,J.trans H.fr.tape,M.trans H.fr.output,bB H.fr.size G,?_⟩,?_,H.keep,?_,?_,?_⟩
 ·intro i hi O;rw[N i (cQ hi H.fr.size) (fun e=>?_)]
  ·exact H.fr.block i hi O
  ·rcases(H.old k r i hk e).1 with h|h
   ·omega
   ·exact O h
 ·intro b o e;rw[N b (H.sub.lt e) (fun U=>?_)]
  ·exact H.sub b o e
  ·rw[(H.old k r b hk U).2]at e;cases e
 ·intro j s p;by_cases f:j=k
  ·subst f;rw[ZM hk]at p;cases p;exact R
  ·rw[uo f]at p;exact Q0.holds_of (H.own j s p) fun b A=>N b (H.a8 p A) fun e=>f (H.inj j k s r b p hk A e)
 ·intro j s b p A;by_cases f:j=k
  ·subst f;rw[ZM hk]at p;cases p;rcases q b A with h|h
   ·exact H.old j r b hk h
   ·exact⟨.inl (bB H.fr.size h),H.sub.none h⟩
  ·rw[uo f]at p;exact H.old j s b p A
 ·intro i j s t b hi p D F;by_cases C:i=k
  ·by_cases f:j=k
   ·omega
   ·subst C;rw[ZM hk]at hi;cases hi;rw[uo f]at p;rcases q b D with h|h
    ·exact absurd (H.inj j i t r b p hk F h) f
    ·have:=H.a8 p F;omega
  ·rw[uo C]at hi;by_cases f:j=k
   ·subst f;rw[ZM hk]at p;cases p;rcases q b F with h|h
    ·exact absurd (H.inj i j s r b hi hk D h) C
    ·have:=H.a8 hi D;omega
   ·rw[uo f]at p;exact H.inj i j s t b hi p D F
theorem HS.rm(H:HS B S w L)(k:Nat):HS B S w (Me L k):=by
 refine⟨H.fr,H.sub,H.keep,fun j r f=>?_,fun j r b f=>?_,fun i j r s b hi f h p=>?_⟩
 ·rw[QI]at f;split at f
  ·exact H.own _ _ f
  ·exact H.own _ _ f
 ·rw[QI]at f;split at f
  ·exact H.old _ _ _ f
  ·exact H.old _ _ _ f
 ·rw[QI]at hi f;split at hi<;>split at f<;>have:=H.inj _ _ _ _ _ hi f h p<;>omega
def rb(L:List Q0):List Nat->List Q0
 |[]=>[]|j::f=>match Y3 L j with
  |some r=>r::rb L f|none=>rb L f
def Ku(L:List Q0):List Nat->Bool
 |[]=>true|j::f=>Nat.blt j L.length && !(f.any (aJ j))&&Ku L f
theorem RI{l:List Q0}{k:Nat}:k<l.length->∃r,Y3 l k=some r:=fun h=>⟨l[k],by rw[N7];simp[h]⟩
theorem XB{L:List Q0}:∀{js:List Nat},Ku L js=true->∀{i:Nat} {r:Q0},Y3 (rb L js) i=some r->∃j,js[i]? = some j/\Y3 L j=some r
 |[],_,i,r,h=>by simp[rb,Y3]at h
 |j::js,f,i,r,h=>by
  simp only[Ku,aI]at f;have q:j<L.length:=by have:=f.1.1;rw[eo]at this;simpa using this
  obtain⟨x,p⟩:=RI q;simp only[rb,p]at h;cases i with
  |zero=>simp only[Y3,Option.some.injEq]at h;subst h;exact⟨j,rfl,p⟩|succ i=>simp only[Y3]at h;obtain⟨A,C,D⟩:=XB f.2 h;exact⟨A,by simpa using C,D⟩
theorem qZ{L:List Q0}:∀{js:List Nat},Ku L js=true->∀{i k j:Nat},js[i]? = some j->js[k]? = some j->i=k
 |[],_,i,k,j,h,_=>by simp at h
 |x::js,f,i,k,j,hi,p=>by
  simp only[Ku,aI,bM]at f;have q:∀y∈js,y≠x:=fun y A e=>by have:=List.any_eq_false.1 f.1.2 y A;subst e;simp at this
  cases i with
  |zero=>
   cases k with
   |zero=>rfl|succ k=>simp at hi p;subst hi;exact absurd rfl (q _ (bO p))
  |succ i=>
   cases k with
   |zero=>simp at hi p;subst p;exact absurd rfl (q _ (bO hi))|succ k=>rw[qZ f.2 (i:=i) (k:=k) (by simpa using hi) (by simpa using p)]
theorem HS.ov(H:HS B S w L)(js:List Nat)(f:Ku L js=true):HS B S w (rb L js):=by
 refine⟨H.fr,H.sub,H.keep,fun i r hi=>?_,fun i r b hi p=>?_,fun i k r s b hi q A C=>?_⟩
 ·obtain⟨j,_,h⟩:=XB f hi;exact H.own j r h
 ·obtain⟨j,_,h⟩:=XB f hi;exact H.old j r b h p
 ·obtain⟨j,D,F⟩:=XB f hi;obtain⟨G,I,J⟩:=XB f q;obtain rfl:=H.inj j G r s b F J A C;exact qZ f D I
def U5:List Q0->List Nat
 |[]=>[]|r::l=>r.keys++U5 l
theorem Dh{b:Nat}:∀{l:List Q0},b∈U5 l↔∃k r,Y3 l k=some r/\r.has b
 |[]=>by simp[U5,Y3]
 |x::l=>by
  have p:=Dh (b:=b) (l:=l);unfold U5;rw[bH,Q0.mem_keys];constructor
  ·rintro(h|h)
   ·exact⟨0,x,rfl,h⟩
   ·obtain⟨k,r,f,j⟩:=p.1 h;exact⟨k+1,r,f,j⟩
  ·rintro⟨k,r,f,j⟩;cases k with
   |zero=>simp only[Y3,Option.some.injEq]at f;subst f;exact .inl j|succ k=>exact .inr (p.2 ⟨k,r,f,j⟩)
theorem HS.pG(H:HS B S w L){b:Nat}{l:LV}{T:TypeId}(D:B.w0.heap.size<=b)(hS:S b=none)(F:w.heap[b]? = some (.cells l.toArray T (0,0)))(A:∀c∈U5 L,c≠b):HS B S w (.N' b l T::L):=by
 refine⟨H.fr,H.sub,H.keep,?_,?_,?_⟩
 ·intro k s f;cases k with
  |zero=>cases f;exact F
  |succ k=>exact H.own k s f
 ·intro k s c f C;cases k with
  |zero=>cases f;cases C;exact⟨.inl D,hS⟩
  |succ k=>exact H.old k s c f C
 ·intro i j s t c hi h p q;cases i with
  |zero=>
   cases j with
   |zero=>rfl|succ j=>cases hi;cases p;exact absurd rfl (A b (Dh.2 ⟨j,t,h,q⟩))
  |succ i=>
   cases j with
   |zero=>cases h;cases q;exact absurd rfl (A b (Dh.2 ⟨i,s,hi,p⟩))
   |succ j=>rw[H.inj i j s t c hi h p q]
theorem HS.hand(H:HS B S w L)(js:List Nat)(f:Ku L js=true):HS ⟨S,U5 (rb L js),w⟩ S w (rb L js):=by have h:=H.ov js f;exact⟨Fr.refl _ _,h.sub,fun _ _ _=>rfl,h.own,fun k r b j p=>⟨.inr (Dh.2 ⟨k,r,j,p⟩),(h.old k r b j p).2⟩,h.inj⟩
theorem HS.frame{S':Mem}{N:List Q0}(H:HS B S w L)(js I:List Nat)(f:Ku L (js++I)=true)(F:HS ⟨S,U5 (rb L js),w⟩ S' w' N):HS B S' w' (N++rb L I)/\Mem.le S S':=by
 have q:Ku L js=true:=by
  clear F;induction js with
  |nil=>rfl|cons j js ih=>simp only[bS,Ku,aI,bM,List.any_append,Bool.or_eq_false_iff]at f ⊢;exact⟨⟨f.1.1,f.1.2.1⟩,ih f.2⟩
 have M:Ku L I=true:=by
  clear F q;induction js with
  |nil=>exact f|cons j js ih=>simp only[bS,Ku,aI]at f;exact ih f.2
 have apart:∀{i k j:Nat},js[i]? = some j->I[k]? = some j->False:=fun {i k j} hi A=>by
  have h1:(js++I)[i]? = some j:=by rw[aF (aC.1 hi).1];exact hi
  have C:(js++I)[js.length+k]? = some j:=by rw[aG (by omega)];simpa using A
  have:=qZ f h1 C;have:=(aC.1 hi).1;omega
 have D:=F.fr;have O:∀b,S b≠none->b∉U5 (rb L js):=fun b p J=>by obtain⟨i,s,h1,C⟩:=Dh.1 J;obtain⟨R,_,Y⟩:=XB q h1;exact p (H.old R s b Y C).2
 have hle:Mem.le S S':=fun b o e=>by rw[F.keep b (H.sub.lt e) (O b (by rw[e];simp))];exact e
 -- a resource that stays
 have stay:∀{k:Nat} {r:Q0},Y3 (rb L I) k=some r->∃j,Y3 L j=some r/\∀b,r.has b->b<w.heap.size/\b∉U5 (rb L js):=fun {k r} A=>by obtain⟨j,e,h⟩:=XB M A;refine⟨j,h,fun b p=>⟨H.a8 h p,fun J=>?_⟩⟩;obtain⟨i,s,h1,C⟩:=Dh.1 J;obtain⟨R,e',Y⟩:=XB q h1;obtain rfl:=H.inj j R r s b h Y p C;exact apart e' e
 have gone:∀{b:Nat},b∈U5 (rb L js)->B.w0.heap.size<=b∨b∈B.X:=fun {b} J=>by obtain⟨i,s,h1,C⟩:=Dh.1 J;obtain⟨R,_,Y⟩:=XB q h1;exact(H.old R s b Y C).1
 have U:∀k,Y3 (N++rb L I) k=if k<N.length then Y3 N k else Y3 (rb L I) (k-N.length):=fun k=>by rw[N7,N7,N7,List.getElem?_append]
 refine⟨⟨⟨D.os.trans H.fr.os,D.tape.trans H.fr.tape,D.output.trans H.fr.output,bB H.fr.size D.size,fun i hi hx=>?_⟩,F.sub,fun b p Z=>?_,fun k r A=>?_,fun k r b A p=>?_,fun i j r s b hi V h1 C=>?_⟩,hle⟩
 ·rw[D.block i (cQ hi H.fr.size) (fun J=>?_)]
  ·exact H.fr.block i hi hx
  ·rcases gone J with h|h
   ·omega
   ·exact hx h
 ·rw[F.keep b (cQ p H.fr.size) (fun J=>?_)]
  ·exact H.keep b p Z
  ·rcases gone J with h|h
   ·omega
   ·exact Z h
 ·rw[U]at A;split at A
  ·exact F.own k r A
  ·obtain⟨j,h,G⟩:=stay A;exact Q0.holds_of (H.own j r h) fun b p=>D.block b (G b p).1 (G b p).2
 ·rw[U]at A;split at A
  ·have h:=F.old k r b A p;refine⟨?_,h.2⟩;rcases h.1 with h1|h1
   ·exact .inl (bB H.fr.size h1)
   ·exact gone h1
  ·obtain⟨j,h,G⟩:=stay A;exact⟨(H.old j r b h p).1,by rw[F.keep b (G b p).1 (G b p).2];exact(H.old j r b h p).2⟩
 ·rw[U]at hi V;split at hi<;>split at V
  ·exact F.inj i j r s b hi V h1 C
  ·obtain⟨R,h,G⟩:=stay V;rcases(F.old i r b hi h1).1 with g|g
   ·have:=(G b C).1;have g':w.heap.size<=b:=g;omega
   ·exact absurd g (G b C).2
  ·obtain⟨R,h,G⟩:=stay hi;rcases(F.old j s b V C).1 with g|g
   ·have:=(G b h1).1;have g':w.heap.size<=b:=g;omega
   ·exact absurd g (G b h1).2
  ·have:=(H.ov I M).inj _ _ r s b hi V h1 C;omega
theorem HS.fix(H:HS B S w L){k:Nat}{r:Q0}(hk:Y3 L k=some r){b:Nat}{o:Obj}(C:r.has b)(I:w.heap[b]? = some o):∃S',Mem.le S S'/\S' b=some o/\HS B S' w (Me L k):=by
 refine⟨fun i=>if i=b then some o else S i,fun i p e=>?_,by simp,?_⟩
 ·by_cases h:i=b
  ·subst h;rw[(H.old k r i hk C).2]at e;cases e
  ·simp[h,e]
 ·have q:=H.rm k;have f:=(H.old k r b hk C).1;refine⟨q.fr,fun i p e=>?_,fun i hi D=>?_,q.own,fun j s i A F=>?_,q.inj⟩
  ·by_cases h:i=b
   ·subst h;simp at e;subst e;exact I
   ·simp[h]at e;exact H.sub i p e
  ·have:i≠b:=fun e=>by
    subst e;rcases f with h|h
    ·omega
    ·exact D h
   simp[this,H.keep i hi D]
  ·have G:=q.old j s i A F;refine⟨G.1,?_⟩;have:i≠b:=fun e=>by subst e;rw[QI]at A;split at A<;>have:=H.inj _ _ _ _ _ A hk F C<;>omega
   simp[this,G.2]
end
def we(S:Mem)(v:Value)(n sz:Nat)(cs:LV):Prop:=
 ((∃a,v = .slice a 0 0)/\n=0/\cs=[])∨∃b o c f T h,v=sl b o n c/\n<=c/\S b=some (.cells f.toArray T h)/\o+n*sz<=f.length/\piece f o (n*sz)=cs
theorem we.mono{S T:Mem}{v:Value}{n sz:Nat}{cs:LV}(h:we S v n sz cs)(f:Mem.le S T):we T v n sz cs:=by
 rcases h with h|⟨b,o,c,j,E,p,q,A,C,D,F⟩
 ·exact .inl h
 ·exact .inr ⟨b,o,c,j,E,p,q,A,f _ _ C,D,F⟩
def Oe(w:World)(v:Value)(n sz:Nat)(cs:LV):Prop:=
 ((∃a,v = .slice a 0 0)/\n=0/\cs=[])∨∃b o c f T h,v=sl b o n c/\n<=c/\w.heap[b]? = some (.cells f.toArray T h)/\o+n*sz<=f.length/\piece f o (n*sz)=cs
theorem we.w{S:Mem}{w:World}{v:Value}{n sz:Nat}{cs:LV}(h:we S v n sz cs)(f:Sub S w):Oe w v n sz cs:=by
 rcases h with h|⟨b,o,c,j,E,p,q,A,C,D,F⟩
 ·exact .inl h
 ·exact .inr ⟨b,o,c,j,E,p,q,A,f _ _ C,D,F⟩
theorem SI{l:LV}{o n:Nat}(h:o+n<=l.length):(piece l o n).length=n:=by rw[P9];simp;omega
theorem Oe.len{w:World}{v:Value}{n sz:Nat}{cs:LV}(h:Oe w v n sz cs):cs.length=n*sz:=by
 rcases h with⟨_,rfl,rfl⟩|⟨b,o,c,j,E,p,q,A,C,f,rfl⟩
 ·simp
 ·exact SI f
theorem we.len{S:Mem}{v:Value}{n sz:Nat}{cs:LV}(h:we S v n sz cs):cs.length=n*sz:=by
 rcases h with⟨_,rfl,rfl⟩|⟨b,o,c,j,E,p,q,A,C,f,rfl⟩
 ·simp
 ·exact SI f
theorem Q0.Iv{w:World}{v:Value}{n sz:Nat}{cs rs:LV}{T:TypeId}(h:(Q0.H' v n sz cs rs T).holds w):Oe w v n sz cs:=by
 rcases h with⟨f,j,p,_⟩|⟨b,c,q,rfl,f,j,p,A,_⟩
 ·exact .inl ⟨⟨_,f⟩,j,p⟩
 ·refine .inr ⟨b,0,c,cs++rs,T,q,rfl,f,A,by simp;omega,?_⟩;rw[P9,bQ,<-j,List.take_left'];rfl
theorem we.nil(S:Mem)(sz:Nat):we S (.slice none 0 0) 0 sz []:=.inl ⟨⟨_,rfl⟩,rfl,rfl⟩
theorem HS.Iv{B:r9}{S:Mem}{w:World}{L:List Q0}(H:HS B S w L){k:Nat}{v:Value}{n sz:Nat}{cs rs:LV}{T:TypeId}(hk:Y3 L k=some (.H' v n sz cs rs T)):Oe w v n sz cs:=Q0.Iv (H.own k _ hk)
theorem HS.rZ{B:r9}{S:Mem}{w:World}{L:List Q0}(H:HS B S w L){k:Nat}{v:Value}{n sz:Nat}{cs rs:LV}{T:TypeId}(hk:Y3 L k=some (.H' v n sz cs rs T)):∃S',Mem.le S S'/\we S' v n sz cs/\HS B S' w (Me L k):=by
 have q:=H.own k _ hk;rcases q with⟨f,h,p,_⟩|⟨b,c,A,rfl,f,h,p,C,_⟩
 ·exact⟨S,Mem.le_refl S,.inl ⟨⟨_,f⟩,h,p⟩,H.rm k⟩
 ·obtain⟨S',j,D,F⟩:=H.fix hk (b:=b) rfl C;refine⟨S',j,.inr ⟨b,0,c,cs++rs,T,A,rfl,f,D,by simp;omega,?_⟩,F⟩;rw[P9,bQ,<-h,List.take_left'];rfl
def va:Value->Nat->Nat->Nat->Value
 |.slice a _ c,sz,lo,hi=>.slice (if c=lo then a else a.map (·.add (lo*sz))) (hi-lo) (c-lo)|v,_,_,_=>v
theorem kN(l:LV)(o n p m:Nat)(h:p+m<=n):piece (piece l o n) p m=piece l (o+p) m:=by simp only[P9];rw[iH,List.take_take,fG];congr 1;omega
theorem we.sub{S:Mem}{v:Value}{n sz:Nat}{cs:LV}(h:we S v n sz cs){lo hi:Nat}(C:lo<=hi)(D:hi<=n):we S (va v sz lo hi) (hi-lo) sz (piece cs (lo*sz) ((hi-lo)*sz)):=by
 rcases h with⟨⟨a,rfl⟩,rfl,rfl⟩|⟨b,o,c,f,T,j,rfl,F,p,G,rfl⟩
 ·obtain rfl:hi=0:=by omega
  obtain rfl:lo=0:=by omega
  exact .inl ⟨⟨a,by simp[va]⟩,rfl,by simp[piece]⟩
 ·have A:lo*sz+(hi-lo)*sz<=n*sz:=by rw[<-cA];exact dK sz (by omega)
  by_cases q:c=lo
  ·obtain rfl:hi=lo:=by omega
   refine .inr ⟨b,o,c-hi,f,T,j,?_,by omega,p,by simp;omega,?_⟩
   ·simp[va,sl,q]
   ·simp[piece]
  ·refine .inr ⟨b,o+lo*sz,c-lo,f,T,j,?_,by omega,p,by omega,?_⟩
   ·simp[va,sl,q,yd]
   ·rw[kN _ _ _ _ _ A]
def e9(S:Mem)(b o:Nat)(c:LV):Prop:=∃f T h,S b=some (.cells f.toArray T h)/\o+c.length<=f.length/\piece f o c.length=c
theorem e9.mono{S T:Mem}{b o:Nat}{c:LV}(h:e9 S b o c)(f:Mem.le S T):e9 T b o c:=by obtain⟨j,E,p,q,A⟩:=h;exact⟨j,E,p,f _ _ q,A⟩
theorem we.at{S:Mem}{v:Value}{n sz i:Nat}{cs:LV}(h:we S v n sz cs)(hi:i<n):∃b o c,v=sl b o n c/\e9 S b (o+i*sz) (piece cs (i*sz) sz):=by
 rcases h with⟨_,rfl,rfl⟩|⟨b,o,c,f,T,q,rfl,D,A,C,rfl⟩
 ·omega
 ·have j:i*sz+sz<=n*sz:=by have:=dK sz (show i+1<=n by omega);rw[cA,fA]at this;exact this
  have p:(piece (piece f o (n*sz)) (i*sz) sz).length=sz:=SI (by rw[SI C];exact j);refine⟨b,o,c,rfl,f,T,q,A,by rw[p];omega,?_⟩;rw[p,kN _ _ _ _ _ j]
end
section
section
variable {α β γ σ:Type}
theorem x9{o:Option α}{f:α->Option β}{r:β}(h:o.bind f=some r):∃x,o=some x/\f x=some r:=by
 cases o with
 |none=>cases h
 |some x=>exact⟨x,rfl,h⟩
theorem vP{c:Bool}{a b r:α}(h:(bif c then a else b)=r)(f:c=true):a=r:=by subst f;exact h
theorem wP{c:Bool}{a b r:α}(h:(bif c then a else b)=r)(f:c=false):b=r:=by subst f;exact h
def xP(o:α⊕β)(f:α->Option γ)(g:β->Option γ):Option γ:=match o with
 |.inl a=>f a|.inr b=>g b
def jn(o:Option (α⊕β))(f:α->Option γ)(g:β->Option γ):Option γ:=o.bind fun o=>xP o f g
theorem vo{o:Option (α⊕β)}{f:α->Option γ}{g:β->Option γ}{r:γ}(h:jn o f g=some r):∃x,o=some x/\xP x f g=some r:=x9 h
def X9(body:σ->Option (σ⊕β)):Nat->σ->Option β
 |0,_=>none|k+1,s=>jn (body s) (X9 body k) some
def FU:Nat:=1099511627776
def iter(body:σ->Option (σ⊕β))(s:σ):Option β:=X9 body FU s
theorem sb{body:σ->Option (σ⊕β)}{k:Nat}{s s':σ}(h:body s=some (.inl s')):X9 body (k+1) s=X9 body k s':=by simp only[X9,jn,h,eO,xP]
theorem Ba{body:σ->Option (σ⊕β)}{k:Nat}{s:σ}{b:β}(h:body s=some (.inr b)):X9 body (k+1) s=some b:=by simp only[X9,jn,h,eO,xP]
theorem xbY{body:σ->Option (σ⊕β)}(I:σ->Prop)(m:σ->Nat)(G:β->Prop)(p:∀s,I s->(∃s',body s=some (.inl s')/\I s'/\m s'<m s)∨∃b,body s=some (.inr b)/\G b):∀(k:Nat) (s:σ),I s->m s<k->∃b,X9 body k s=some b/\G b
 |0,_,_,h=>by omega
 |k+1,s,hI,q=>by
  rcases p s hI with⟨s',f,j,A⟩|⟨b,f,j⟩
  ·rw[sb f];exact xbY I m G p k s' j (by omega)
  ·exact⟨b,Ba f,j⟩
def idx(l:List α)(i:Int):Option α:=bif decide (i<0)then none else l[i.toNat]?
theorem qG{l:List α}{i:Int}{x:α}(h:idx l i=some x):i=(i.toNat:Int)/\l[i.toNat]? = some x:=by
 unfold idx at h;by_cases hi:i<0
 ·simp[hi]at h
 ·simp only[hi,decide_false,zH]at h;exact⟨by omega,h⟩
theorem YB{l:List α}(i:Nat):idx l (i:Int)=l[i]?:=by
 have h:¬((i:Int)<0):=by omega
 simp only[idx,h,decide_false,zH,Int.toNat_natCast]
def Qr(l:List α)(lo hi:Int):Option (List α):=bif decide (0<=lo)&&decide (lo<=hi)&&decide (hi<=(l.length:Int))then some ((l.take hi.toNat).drop lo.toNat)else none
theorem sZ{l r:List α}{lo hi:Int}(h:Qr l lo hi=some r):lo=(lo.toNat:Int)/\hi=(hi.toNat:Int)/\lo.toNat<=hi.toNat/\hi.toNat<=l.length/\(l.take hi.toNat).drop lo.toNat=r:=by
 unfold Qr at h;by_cases f:decide (0<=lo)&&decide (lo<=hi)&&decide (hi<=(l.length:Int))
 ·rw[f]at h;simp only[aI,zE]at f;simp only[zF,Option.some.injEq]at h;exact⟨by omega,by omega,by omega,by omega,h⟩
 ·simp only[cM]at f;rw[f]at h;cases h
def T4(l:List α)(lo:Int):Option (List α):=bif decide (0<=lo)&&decide (lo<=(l.length:Int))then some (l.drop lo.toNat)else none
theorem UT{l r:List α}{lo:Int}(h:T4 l lo=some r):lo=(lo.toNat:Int)/\lo.toNat<=l.length/\l.drop lo.toNat=r:=by
 unfold T4 at h;by_cases f:decide (0<=lo)&&decide (lo<=(l.length:Int))
 ·rw[f]at h;simp only[aI,zE]at f;simp only[zF,Option.some.injEq]at h;exact⟨by omega,by omega,h⟩
 ·simp only[cM]at f;rw[f]at h;cases h
def Z6(l:List α)(hi:Int):Option (List α):=bif decide (0<=hi)&&decide (hi<=(l.length:Int))then some (l.take hi.toNat)else none
theorem VT{l r:List α}{hi:Int}(h:Z6 l hi=some r):hi=(hi.toNat:Int)/\hi.toNat<=l.length/\l.take hi.toNat=r:=by
 unfold Z6 at h;by_cases f:decide (0<=hi)&&decide (hi<=(l.length:Int))
 ·rw[f]at h;simp only[aI,zE]at f;simp only[zF,Option.some.injEq]at h;exact⟨by omega,by omega,h⟩
 ·simp only[cM]at f;rw[f]at h;cases h
theorem Pe{l:List α}{n:Nat}(h:n<=l.length):T4 l (n:Int)=some (l.drop n):=by unfold T4;rw[show(decide (0<=(n:Int))&&decide ((n:Int)<=(l.length:Int)))=true by simp;omega];rfl
theorem lN{l:List α}{n:Nat}(h:n<=l.length):Z6 l (n:Int)=some (l.take n):=by unfold Z6;rw[show(decide (0<=(n:Int))&&decide ((n:Int)<=(l.length:Int)))=true by simp;omega];rfl
def Sk:Nat:=68719476736
def X0(a b:List α):Option (List α):=bif decide (a.length+b.length<=Sk)then some (a++b)else none
theorem Rr{a b r:List α}(h:X0 a b=some r):a.length+b.length<=68719476736/\a++b=r:=by
 unfold X0 at h;by_cases f:a.length+b.length<=Sk
 ·simp only[f,decide_true,zF,Option.some.injEq]at h;exact⟨f,h⟩
 ·simp only[f,decide_false,zH]at h;cases h
theorem WT{a b:List α}(h:a.length+b.length<=68719476736):X0 a b=some (a++b):=by have f:a.length+b.length<=Sk:=h;simp only[X0,f,decide_true,zF]
def ZB(n:Int)(z:α):Option (List α):=bif decide (0<=n)&&decide (n<=(Sk:Int))then some (bI n.toNat z)else none
theorem Jv{n:Int}{z:α}{r:List α}(h:ZB n z=some r):0<=n/\n<=68719476736/\bI n.toNat z=r:=by
 unfold ZB at h;by_cases f:decide (0<=n)&&decide (n<=(Sk:Int))
 ·rw[f]at h;simp only[aI,zE]at f;simp only[zF,Option.some.injEq]at h;exact⟨f.1,f.2,h⟩
 ·simp only[cM]at f;rw[f]at h;cases h
def Da(l:List α)(i:Int)(x:α):Option (List α):=bif decide (0<=i)&&decide (i<(l.length:Int))then some (l.set i.toNat x)else none
theorem Sr{l r:List α}{i:Int}{x:α}(h:Da l i x=some r):i=(i.toNat:Int)/\i.toNat<l.length/\l.set i.toNat x=r:=by
 unfold Da at h;by_cases f:decide (0<=i)&&decide (i<(l.length:Int))
 ·rw[f]at h;simp only[aI,zE]at f;simp only[zF,Option.some.injEq]at h;exact⟨by omega,by omega,h⟩
 ·simp only[cM]at f;rw[f]at h;cases h
def o6(c:Bool):Option Unit:=bif c then some ()else none
theorem Kv{c:Bool}{u:Unit}(h:o6 c=some u):c=true:=by cases c with
 |true=>rfl|false=>cases h
end
abbrev P0(x:Int):Int:=IntKind.i64.wrap x
def i8(x:Int):UInt8:=UInt8.ofNat (x%256).toNat
def i16(x:Int):UInt16:=UInt16.ofNat (x%65536).toNat
def i32(x:Int):UInt32:=UInt32.ofNat (x%4294967296).toNat
def i64(x:Int):UInt64:=UInt64.ofNat (x%18446744073709551616).toNat
theorem wo(x:Int):IntKind.u8.wrap x=((i8 x).toNat:Int):=by
 have e:IntKind.u8.wrap x=x%256:=by simp[IntKind.wrap,IntKind.signed,IntKind.bits]
 rw[e];simp[i8];omega
theorem Lv(x:Int):IntKind.u16.wrap x=((i16 x).toNat:Int):=by
 have e:IntKind.u16.wrap x=x%65536:=by simp[IntKind.wrap,IntKind.signed,IntKind.bits]
 rw[e];simp[i16];omega
theorem Eh(x:Int):IntKind.u32.wrap x=((i32 x).toNat:Int):=by
 have e:IntKind.u32.wrap x=x%4294967296:=by simp[IntKind.wrap,IntKind.signed,IntKind.bits]
 rw[e];simp[i32];omega
theorem Fh(x:Int):IntKind.u64.wrap x=((i64 x).toNat:Int):=by
 have e:IntKind.u64.wrap x=x%18446744073709551616:=by simp[IntKind.wrap,IntKind.signed,IntKind.bits]
 rw[e];simp[i64];omega
theorem Mv{x:Int}(h:0<=x)(f:x<256):((i8 x).toNat:Int)=x:=by simp[i8];omega
theorem Tk{x:Int}(h:0<=x)(f:x<4294967296):((i32 x).toNat:Int)=x:=by simp[i32];omega
theorem yP{x:Int}(h:0<=x)(f:x<18446744073709551616):((i64 x).toNat:Int)=x:=by simp[i64];omega
theorem UI(b:UInt8):i8 (b.toNat:Int)=b:=by apply UInt8.toNat.inj;have:=Mv (x:=(b.toNat:Int)) (by omega) (by have:=b.toNat_lt;omega);omega
theorem VI(a:UInt8)(b:Int)(h:0<=b):dX (a.toNat:Int) b=((i8 (dX (a.toNat:Int) b)).toNat:Int):=by
 have j:=a.toNat_lt;have f:0<=dX (a.toNat:Int) b:=Int.tmod_nonneg _ (by omega);have p:dX (a.toNat:Int) b<=(a.toNat:Int):=by obtain⟨n,rfl⟩:=Int.eq_ofNat_of_zero_le h;rw[<-Int.ofNat_tmod];have:=Nat.mod_le a.toNat n;omega
 rw[Mv f (by omega)]
def Mf(k:IntKind)(a b:Int):Int:=k.wrap (a*2^(min b.toNat k.bits))
def xc(k:IntKind)(a b:Int):Int:=a.fdiv (2^(min b.toNat k.bits))
theorem XT{a:Nat}(k:Nat):(a:Int).fdiv (2^k)=((a/2^k:Nat):Int):=by rw[show((2:Int)^k)=((2^k:Nat):Int) by rw[Int.natCast_pow];rfl];exact(Int.ofNat_fdiv a (2^k)).symm
theorem WI(a:UInt8)(b:Int):Int.fdiv (a.toNat:Int) (2^(min b.toNat IntKind.u8.bits))=((i8 (xc .u8 (a.toNat:Int) b)).toNat:Int):=by have f:=a.toNat_lt;unfold xc;rw[XT,Mv (iK _) (by have:=iU a.toNat (2^(min b.toNat IntKind.u8.bits));omega)]
theorem XI(a:UInt8)(b:Int):IntKind.u8.wrap ((a.toNat:Int)*2^(min b.toNat IntKind.u8.bits))=((i8 (Mf .u8 (a.toNat:Int) b)).toNat:Int):=by have e:Mf .u8 (a.toNat:Int) b=IntKind.u8.wrap ((a.toNat:Int)*2^(min b.toNat IntKind.u8.bits)):=rfl;rw[<-e,e,wo,UI]
theorem dC(a:UInt32)(b:Int):Int.fdiv (a.toNat:Int) (2^(min b.toNat IntKind.u32.bits))=((i32 (xc .u32 (a.toNat:Int) b)).toNat:Int):=by have f:=a.toNat_lt;unfold xc;rw[XT,Tk (iK _) (by have:=iU a.toNat (2^(min b.toNat IntKind.u32.bits));omega)]
theorem lC(a:UInt64)(b:Int):Int.fdiv (a.toNat:Int) (2^(min b.toNat IntKind.u64.bits))=((i64 (xc .u64 (a.toNat:Int) b)).toNat:Int):=by have f:=a.toNat_lt;unfold xc;rw[XT,yP (iK _) (by have:=iU a.toNat (2^(min b.toNat IntKind.u64.bits));omega)]
theorem mC(b:UInt32):i32 (b.toNat:Int)=b:=by apply UInt32.toNat.inj;have:=Tk (x:=(b.toNat:Int)) (by omega) (by have:=b.toNat_lt;omega);omega
theorem nC(b:UInt64):i64 (b.toNat:Int)=b:=by apply UInt64.toNat.inj;have:=yP (x:=(b.toNat:Int)) (by omega) (by have:=b.toNat_lt;omega);omega
theorem oC(a:UInt32)(b:Int):IntKind.u32.wrap ((a.toNat:Int)*2^(min b.toNat IntKind.u32.bits))=((i32 (Mf .u32 (a.toNat:Int) b)).toNat:Int):=by have e:Mf .u32 (a.toNat:Int) b=IntKind.u32.wrap ((a.toNat:Int)*2^(min b.toNat IntKind.u32.bits)):=rfl;rw[<-e,e,Eh,mC]
theorem pC(a:UInt64)(b:Int):IntKind.u64.wrap ((a.toNat:Int)*2^(min b.toNat IntKind.u64.bits))=((i64 (Mf .u64 (a.toNat:Int) b)).toNat:Int):=by have e:Mf .u64 (a.toNat:Int) b=IntKind.u64.wrap ((a.toNat:Int)*2^(min b.toNat IntKind.u64.bits)):=rfl;rw[<-e,e,Fh,nC]
theorem not_true{b:Bool}(h:b=true):(!b)=false:=by rw[h];rfl
theorem not_false{b:Bool}(h:b=false):(!b)=true:=by rw[h];rfl
class Rp (α:Type) where
 sz:Nat
 u7:Mem->LV->α->Prop
 len:∀{S c x},u7 S c x->c.length=sz
 mono:∀{S T c x},u7 S c x->Mem.le S T->u7 T c x
 one:∀{S c x},u7 S c x->∀v∈c,v.oneCell'=true
def RL{α:Type}[Rp α](S:Mem):LV->List α->Prop
 |cs,[]=>cs=[]|cs,x::f=>∃c d,cs=c++d/\Rp.u7 S c x/\RL S d f
section
variable {α β:Type}[Rp α][Rp β]{S T:Mem}
theorem RL.mono:∀{xs:List α} {cs:LV},RL S cs xs->Mem.le S T->RL T cs xs
 |[],_,h,_=>h|_::_,_,⟨c,d,e,j,p⟩,f=>⟨c,d,e,Rp.mono j f,RL.mono p f⟩
theorem RL.len:∀{xs:List α} {cs:LV},RL S cs xs->cs.length=xs.length*Rp.sz α
 |[],_,h=>by rw[show _=[]from h];simp
 |x::xs,_,⟨c,d,e,f,j⟩=>by rw[e,aD,Rp.len f,RL.len j,aQ,cA];omega
theorem RL.one:∀{xs:List α} {cs:LV},RL S cs xs->∀v∈cs,v.oneCell'=true
 |[],_,h,v,f=>by rw[show _=[]from h]at f;cases f
 |x::xs,_,⟨c,d,e,j,p⟩,v,f=>by
  rw[e]at f;rcases bH.1 f with h|h
  ·exact Rp.one j v h
  ·exact RL.one p v h
theorem RL.nil:RL S [] ([]:List α):=rfl
theorem RL.cons{c d:LV}{x:α}{xs:List α}(f:Rp.u7 S c x)(h:RL S d xs):RL S (c++d) (x::xs):=⟨c,d,rfl,f,h⟩
theorem RL.single{c:LV}{x:α}(f:Rp.u7 S c x):RL S c [x]:=⟨c,[],by simp,f,rfl⟩
theorem RL.append:∀{xs:List α} {cs ds:LV} {ys:List α},RL S cs xs->RL S ds ys->RL S (cs++ds) (xs++ys)
 |[],cs,_,_,h,k=>by rw[show cs=[]from h];exact k
 |x::xs,_,ds,ys,⟨c,d,e,f,j⟩,k=>by rw[e,List.append_assoc];exact⟨c,d++ds,rfl,f,RL.append j k⟩
theorem RL.get:∀{xs:List α} {cs:LV} {i:Nat} {x:α},RL S cs xs->xs[i]? = some x->Rp.u7 S (piece cs (i*Rp.sz α) (Rp.sz α)) x
 |[],_,_,_,_,h=>by simp at h
 |y::xs,_,0,x,⟨c,d,e,f,j⟩,h=>by simp at h;subst h;rw[e,P9,gX,bQ,<-Rp.len f,List.take_left];exact f
 |y::xs,_,i+1,x,⟨c,d,e,f,j⟩,h=>by have p:=RL.get j (i:=i) (by simpa using h);rw[e,P9,cA,fA,jI,<-Rp.len f,<-fG,List.drop_left,Rp.len f,<-P9];exact p
theorem RL.take:∀{xs:List α} {cs:LV} (n:Nat),RL S cs xs->RL S (cs.take (n*Rp.sz α)) (xs.take n)
 |[],cs,n,h=>by rw[show cs=[]from h];simp[RL]
 |x::xs,_,0,_=>by simp[RL]
 |x::xs,_,n+1,⟨c,d,e,f,j⟩=>by refine⟨c,d.take (n*Rp.sz α),?_,f,RL.take n j⟩;rw[e,cA,fA,jI,<-Rp.len f,List.take_length_add_append]
theorem RL.drop:∀{xs:List α} {cs:LV} (n:Nat),RL S cs xs->RL S (cs.drop (n*Rp.sz α)) (xs.drop n)
 |[],cs,n,h=>by rw[show cs=[]from h];simp[RL]
 |x::xs,cs,0,h=>by simpa using h
 |x::xs,_,n+1,⟨c,d,e,f,j⟩=>by have p:=RL.drop n j;rw[e,cA,fA,jI,<-Rp.len f,List.drop_length_add_append,Rp.len f];exact p
theorem RL.sub{xs:List α}{cs:LV}{lo hi:Nat}(h:RL S cs xs)(_h1:lo<=hi):RL S (piece cs (lo*Rp.sz α) ((hi-lo)*Rp.sz α)) ((xs.take hi).drop lo):=by have:=RL.drop lo (RL.take hi h);rw[iH]at this;rw[P9,Nat.sub_mul];exact this
theorem RL.set:∀{xs:List α} {cs c:LV} {i:Nat} {x:α},RL S cs xs->Rp.u7 S c x->i<xs.length->RL S (lay cs (i*Rp.sz α) c) (xs.set i x)
 |[],_,_,_,_,_,_,h=>by simp at h
 |y::xs,_,f,0,x,⟨c,d,e,p,C⟩,q,_=>by
  refine⟨f,d,?_,q,C⟩;have F:c.length=f.length:=by rw[Rp.len p,Rp.len q]
  rw[e,gX];apply bN;intro j;rw[Df];by_cases A:j<f.length
  ·rw[zJ (by simp;omega),aF A];simp
  ·rw[zI (by omega),aG (by omega),aG (by omega),F]
 |y::xs,_,f,i+1,x,⟨c,d,e,p,C⟩,q,hi=>by
  refine⟨c,lay d (i*Rp.sz α) f,?_,p,RL.set C q (by simpa using hi)⟩;rw[e];apply bN;intro j;have G:(i+1)*Rp.sz α=c.length+i*Rp.sz α:=by rw[cA,fA,Rp.len p];omega
  rw[Df,G];by_cases A:j<c.length
  ·rw[zI (by omega),aF A,aF A]
  ·rw[aG (by omega),aG (by omega),Df,aD];by_cases D:i*Rp.sz α<=j-c.length/\j-c.length<i*Rp.sz α+f.length/\j-c.length<d.length
   ·rw[zJ (by omega),zJ D];congr 1;omega
   ·rw[zI (by omega),zI D]
theorem RL.replicate{c:LV}{x:α}(h:Rp.u7 S c x):∀n,RL S (bI n c).flatten (bI n x)
 |0=>rfl|n+1=>⟨c,_,by simp[List.replicate_succ],h,RL.replicate h n⟩
def x8{α:Type}[Rp α](S:Mem)(v:Value)(xs:List α):Prop:=∃cs,we S v xs.length (Rp.sz α) cs/\RL S cs xs
theorem x8.mono{v:Value}{xs:List α}(h:x8 S v xs)(f:Mem.le S T):x8 T v xs:=by obtain⟨cs,j,p⟩:=h;exact⟨cs,j.mono f,p.mono f⟩
theorem x8.nil:x8 S (.slice none 0 0) ([]:List α):=⟨[],we.nil S _,rfl⟩
theorem x8.sub{v:Value}{xs:List α}(h:x8 S v xs){lo hi:Nat}(f:lo<=hi)(j:hi<=xs.length):x8 S (va v (Rp.sz α) lo hi) ((xs.take hi).drop lo):=by
 obtain⟨cs,p,q⟩:=h;refine⟨_,?_,q.sub f⟩;have A:((xs.take hi).drop lo).length=hi-lo:=by simp;omega
 rw[A];exact p.sub f j
theorem x8.zP{v:Value}{xs r:List α}{lo hi:Int}{sz:Nat}(h:x8 S v xs)(e:Qr xs lo hi=some r)(f:Rp.sz α=sz:=by rfl):x8 S (va v sz lo.toNat hi.toNat) r:=by obtain⟨_,_,j,p,q⟩:=sZ e;subst f;rw[<-q];exact h.sub j p
theorem x8.T4{v:Value}{xs r:List α}{lo:Int}{sz:Nat}(h:x8 S v xs)(e:Go.Proofs.YtopanhneegpgcaaGreatDoor.T4 xs lo=some r)(f:Rp.sz α=sz:=by rfl):x8 S (va v sz lo.toNat xs.length) r:=by obtain⟨_,j,p⟩:=UT e;subst f;have:=h.sub j (aL _);rw[List.take_length,p]at this;exact this
theorem x8.Z6{v:Value}{xs r:List α}{hi:Int}{sz:Nat}(h:x8 S v xs)(e:Go.Proofs.YtopanhneegpgcaaGreatDoor.Z6 xs hi=some r)(f:Rp.sz α=sz:=by rfl):x8 S (va v sz 0 hi.toNat) r:=by obtain⟨_,j,p⟩:=VT e;subst f;have:=h.sub (Nat.zero_le _) j;rw[bQ,p]at this;exact this
theorem x8.get{v:Value}{xs:List α}{i:Nat}{x:α}(h:x8 S v xs)(f:xs[i]? = some x):∃b o n c cs,v=sl b o n c/\i<n/\e9 S b (o+i*Rp.sz α) cs/\Rp.u7 S cs x:=by obtain⟨A,j,p⟩:=h;have hi:=(aC.1 f).1;obtain⟨b,o,c,e,q⟩:=j.at hi;exact⟨b,o,_,c,_,e,hi,q,p.get f⟩
theorem x8.qC{v:Value}{xs:List α}(h:x8 S v xs):v.oneCell'=true:=by obtain⟨cs,f,_⟩:=h;rcases f with⟨⟨_,rfl⟩,_⟩|⟨b,o,c,j,T,p,rfl,_⟩<;>rfl
theorem x8.cells{v:Value}{xs:List α}(h:x8 S v xs):v.cells.toList=[v]:=by obtain⟨cs,f,_⟩:=h;rcases f with⟨⟨_,rfl⟩,_⟩|⟨b,o,c,j,T,p,rfl,_⟩<;>rfl
end
section
variable {α β:Type}[Rp α][Rp β]{S:Mem}
instance (priority:=low) instRpList:Rp (List α) where
 sz:=1
 u7 S c xs:=∃v,c=[v]/\x8 S v xs
 len:=fun⟨_,e,_⟩=>by rw[e];rfl
 mono:=fun⟨v,e,h⟩ hl=>⟨v,e,h.mono hl⟩
 one:=fun⟨v,e,h⟩ u hu=>by rw[e,aZ]at hu;rw[hu];exact h.qC
instance instRpStr:Rp Bs where
 sz:=1
 u7 _ c x:=c=[str x]
 len:=fun e=>by rw[e];rfl
 mono:=fun e _=>e
 one:=fun e u hu=>by rw[e,aZ]at hu;rw[hu];rfl
instance instRpInt:Rp Int where
 sz:=1
 u7 _ c x:=c=[.int .i64 x]
 len:=fun e=>by rw[e];rfl
 mono:=fun e _=>e
 one:=fun e u hu=>by rw[e,aZ]at hu;rw[hu];rfl
instance instRpU8:Rp UInt8 where
 sz:=1
 u7 _ c x:=c=[.int .u8 (x.toNat:Int)]
 len:=fun e=>by rw[e];rfl
 mono:=fun e _=>e
 one:=fun e u hu=>by rw[e,aZ]at hu;rw[hu];rfl
instance instRpU32:Rp UInt32 where
 sz:=1
 u7 _ c x:=c=[.int .u32 (x.toNat:Int)]
 len:=fun e=>by rw[e];rfl
 mono:=fun e _=>e
 one:=fun e u hu=>by rw[e,aZ]at hu;rw[hu];rfl
instance instRpU64:Rp UInt64 where
 sz:=1
 u7 _ c x:=c=[.int .u64 (x.toNat:Int)]
 len:=fun e=>by rw[e];rfl
 mono:=fun e _=>e
 one:=fun e u hu=>by rw[e,aZ]at hu;rw[hu];rfl
instance instRpBool:Rp Bool where
 sz:=1
 u7 _ c x:=c=[.bool x]
 len:=fun e=>by rw[e];rfl
 mono:=fun e _=>e
 one:=fun e u hu=>by rw[e,aZ]at hu;rw[hu];rfl
instance instRpUnit:Rp Unit where
 sz:=0
 u7 _ c _:=c=[]
 len:=fun e=>by rw[e];rfl
 mono:=fun e _=>e
 one:=fun e u hu=>by rw[e]at hu;cases hu
instance instRpProd:Rp (α×β) where
 sz:=Rp.sz α+Rp.sz β
 u7 S c x:=∃c1 c2,c=c1++c2/\Rp.u7 S c1 x.1/\Rp.u7 S c2 x.2
 len:=fun⟨c1,c2,e,h1,h2⟩=>by rw[e,aD,Rp.len h1,Rp.len h2]
 mono:=fun⟨c1,c2,e,h1,h2⟩ hl=>⟨c1,c2,e,Rp.mono h1 hl,Rp.mono h2 hl⟩
 one:=fun⟨c1,c2,e,h1,h2⟩ u hu=>by
  rw[e]at hu;rcases bH.1 hu with h|h
  ·exact Rp.one h1 u h
  ·exact Rp.one h2 u h
theorem tZ{x:UInt8}:Rp.u7 S [.int .u8 (x.toNat:Int)] x:=rfl
theorem uZ{c:LV}{x:UInt8}(h:Rp.u7 S c x):c=[.int .u8 (x.toNat:Int)]:=h
theorem elT{c:LV}{x:Bs}(h:Rp.u7 S c x):c=[str x]:=h
theorem RL.Uk:∀{xs:Bs} {cs:LV},RL S cs xs->cs=W9 xs
 |[],_,h=>h|x::xs,_,⟨c,d,e,f,j⟩=>by rw[e,uZ f,RL.Uk j];rfl
theorem RL.Vk:∀(xs:Bs),RL S (W9 xs) xs
 |[]=>rfl|x::xs=>⟨_,_,rfl,tZ,RL.Vk xs⟩
end
end
section
variable {P:Program}{ops:Array Oper}{Q:Exit->Act->World->Prop}{rest:List Oper}{n:Nat}{m:FM}{w:World}{d:Nat}{ty:TypeId}{pos:String}{aft:Array Edge}{x:Operand}{nh:Nat}{Φ:Oa}{W:World}{vs:Nat->Gv}{Fin:Act->Prop}{i:Nat}
end
end Go.Proofs.YtopanhneegpgcaaGreatDoor
