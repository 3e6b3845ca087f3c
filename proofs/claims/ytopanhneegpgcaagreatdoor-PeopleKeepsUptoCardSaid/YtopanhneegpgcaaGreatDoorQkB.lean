/- Parts of one proof. Conditions: as each theorem says. -/
import Derived.KernelRfl
import Derived.Laws.AppendOwn
import Derived.Laws.MakeOwn
import Derived.Laws.CopyRow
import Derived.Laws.BytesArg
import Derived.Test.YtopanhneegpgcaaGreatDoorQkA
open Array renaming ext'->cZ
open Bool renaming and_eq_true->aH,false_eq_true->eW,not_eq_true'->bE,not_eq_true->cB
open Int renaming natCast_nonneg->gO,tmod->eD
open List renaming append_nil->bQ,cons_append->bL,drop_drop->eM,drop_take->gK,drop_zero->cO,ext_getElem?->bD,getElem?_append_left->aE,getElem?_append_right->aF,getElem?_drop->bJ,getElem?_eq_some_iff->aC,getElem?_take->cF,length_append->aD,length_cons->aS,length_nil->bZ,length_set->bP,mapM_toArray->iR,mem_append->bI,mem_of_getElem?->bH,mem_singleton->aZ,range'->dQ,range'_succ->eC,range->cU,replicate->bC
open Nat renaming add_comm->iP,add_mul->bN,beq->aG,div_le_self->iB,le_refl->aK,le_trans->aY,lt_of_lt_of_le->cE,lt_of_not_le->dH,mul_le_mul_right->cJ,mul_one->cV,one_mul->dR,zero_mul->gA
open Option renaming bind_some->dO
namespace Go.Proofs.YtopanhneegpgcaaGreatDoor
open Go Go.RowKit
def xdS(P:Program)(T:TypeId)(i off:Nat):Prop:=∀b o (w:World),(Instr.fieldAt T (.pointer (some ⟨b,o,none⟩)) i).run P w = .ok (.pointer (some ⟨b,o+off,none⟩)) w
theorem wr64{x:Int}(h0:-9223372036854775808<=x)(h1:x<9223372036854775808):IntKind.i64.wrap x=x:=by
 have hb:(2:Int)^IntKind.i64.bits=18446744073709551616:=by decide
 have hb2:(2:Int)^(IntKind.i64.bits-1)=9223372036854775808:=by decide
 simp only[IntKind.wrap,hb,hb2,show IntKind.i64.signed=true from rfl,Bool.true_and,zD];split<;>omega
def lkp:List (Nat×Nat)->Nat->Option (Nat×Nat)
 |[],_=>none|p::_,0=>some p|_::l,k+1=>lkp l k
def IsFn(P:Program)(f:FuncId):Prop:=∀(args:Array Value) (w:World),(callFunc f args).run P w = .ok (.enter f args) w
theorem isFn {P : Program} {f : FuncId} {fn : Func} (hf : P.funcs[f]? = some fn) (hn : (fn.name == "runtime.NumGoroutine") = false := by kernel_rfl) (hb : fn.body.isNone = false := by kernel_rfl) : IsFn P f := fun args w => by simp only[callFunc,Sem.run_bind,run_program,Result.andThen,hf,hn,hb,eW,if_false,Sem.run_pure]
section
variable {P:Program}{ops:Array Oper}{Q:Exit->Act->World->Prop}{rest:List Oper}{n:Nat}{m:FM}{w w0:World}{L:List Ent}
variable {d:Nat}{op:Op}{ty:TypeId}{pos:String}{aft:Array Edge}{c v:Value}{x y:Operand}{T:TypeId}
theorem zeW(h:(execOp (evO n m) ⟨some d,op,ty,pos,aft,none⟩).run P w = .ok (.value c) w)(hr:wpList P ops Q rest (fr n ((d,c)::m)) w):
  wpList P ops Q (⟨some d,op,ty,pos,aft,none⟩::rest) (fr n m) w:=
 wpList_plain rfl fun K hK=>by unfold Oper.wp;rw[zmS,h];simp only[Oper.upon,yfA];exact hK _ _ hr
def gval(ops:Array Oper)(n:Nat)(m:FM)(j:Nat):Option Bool:=
 match (ops[j]?).bind (·.dst) with
 |some t=>match evO n m (.tmp t) with
  |.bool b=>some b|_=>none
 |none=>none
theorem ykF(j:Nat):yielded ops (fr n m).tmps j=gval ops n m j:=by
 unfold yielded gval;cases (ops[j]?).bind (·.dst) with
 |none=>rfl|some t=>
  simp only[dO,tmps_fr,evO,zmU];by_cases h:t<n
  ·simp only[h,if_true,decide_true,zE];cases look m t<;>rfl
  ·simp only[h,if_false,decide_false,zF];rfl
def lko:List Oper->Nat->Option Oper
 |[],_=>none|o::_,0=>some o|_::l,k+1=>lko l k
theorem yvE:∀(l:List Oper) (j:Nat),lko l j=l[j]?
 |[],j=>by simp[lko]
 |o::l,0=>by simp[lko]
 |o::l,k+1=>by simp[lko,yvE l k]
def gvo(n:Nat)(m:FM):Option Oper->Option Bool
 |some ⟨some t,_,_,_,_,_⟩=>match evO n m (.tmp t) with
  |.bool b=>some b|_=>none
 |_=>none
def gvl(l:List Oper)(n:Nat)(m:FM)(j:Nat):Option Bool:=gvo n m (lko l j)
theorem gvl_eq(l:List Oper)(j:Nat):gval l.toArray n m j=gvl l n m j:=by
 unfold gval gvl;rw[yvE,List.getElem?_toArray];cases l[j]? with
 |none=>rfl|some o=>obtain⟨dst,_,_,_,_,_⟩:=o;cases dst<;>rfl
variable {ol:List Oper}
theorem p_callf{args:Array Operand}{at_:Array TypeId}{f:FuncId}{first cap:Array Value}{l:LV}(hf:IsFn P f)(hx:evO n m x = .func (.func f) first cap) (ha:first.toList++args.toList.map (evO n m)++cap.toList=l) (h:Calls P f l.toArray w fun e w'=>match e with
   |.returned v=>wpList P ops Q rest (fr n ((d,v)::m)) w'|_=>False):
  wpList P ops Q (⟨some d,.call ⟨.value x,args,at_⟩,ty,pos,aft,none⟩::rest) (fr n m) w:=
 wpList_plain rfl fun K hK=>by
  have hargs:(first++args.map (evO n m))++cap=l.toArray:=by rw[<-ha];apply cZ;simp
  have hrun:(execOp (evO n m) ⟨some d,.call ⟨.value x,args,at_⟩,ty,pos,aft,none⟩).run P w = .ok (.enter f l.toArray) w:=by simp only[execOp,resolve,hx,Deferred.ofValue,Sem.run_bind,Sem.run_pure,Result.andThen,invoke];rw[hargs];exact hf _ _
  unfold Oper.wp;rw[zmS,hrun];simp only[Oper.upon];refine h.mono fun e w' he=>?_;cases e with
  |returned v=>show K ((fr n m).put (some d) v) w';rw[yfA];exact hK _ _ he
  |panicked c=>exact he.elim|outgrown=>exact he.elim
def args?(n:Nat)(m:FM):List Operand->LV
 |[]=>[]|x::l=>evO n m x::args? n m l
theorem yyX(l:List Operand):l.map (evO n m)=args? n m l:=by
 induction l with
 |nil=>rfl|cons x l ih=>simp[args?,ih]
theorem yvT{args:List Operand}{at_:Array TypeId}{f:FuncId}{l:LV}(hf:IsFn P f)(ha:args? n m args=l) (h:Calls P f l.toArray w fun e w'=>match e with
   |.returned v=>wpList P ops Q rest (fr n ((d,v)::m)) w'|_=>False):
  wpList P ops Q (⟨some d,.call ⟨.value (.func f),args.toArray,at_⟩,ty,pos,aft,none⟩::rest) (fr n m) w:=
 p_callf (first:=#[]) (cap:=#[]) hf rfl (by simp[yyX,ha]) h
theorem p_callv{args:List Operand}{at_:Array TypeId}{f:FuncId}{l:LV}(ha:args? n m args=l)(hrun:(callFunc f l.toArray).run P w = .ok (.value v) w) (hr:wpList P ops Q rest (fr n ((d,v)::m)) w):
  wpList P ops Q (⟨some d,.call ⟨.value (.func f),args.toArray,at_⟩,ty,pos,aft,none⟩::rest) (fr n m) w:=
 zeW (by
  have hargs:args.toArray.map (evO n m)=l.toArray:=by rw[<-ha,<-yyX];simp
  simp only[execOp,resolve,evO,Deferred.ofValue,Sem.run_bind,Sem.run_pure,Result.andThen,invoke,hargs]
  simpa using hrun) hr
variable {dst:Option Tmp}{e:Operand->Value}{k:IntKind}{a b r:Int}{g:Option (Nat×Bool)}
theorem zpT(hx:e x=v):(execOp e ⟨dst,.move x,ty,pos,aft,g⟩).run P w = .ok (.value v) w:=by simp[execOp,hx]
theorem zrV(hx:e x=v):(execOp e ⟨dst,.assign x,ty,pos,aft,g⟩).run P w = .ok (.value v) w:=by simp[execOp,hx]
theorem r_add{T'}(hx:e x = .int k a)(hy:e y = .int k b)(h:k.wrap (a+b)=r):(execOp e ⟨dst,.binOp .add T x y T',ty,pos,aft,g⟩).run P w = .ok (.value (.int k r)) w:=by simp[execOp,hx,hy,eqGuard,binOp,Op.intArith,h]
theorem r_sub{T'}(hx:e x = .int k a)(hy:e y = .int k b)(h:k.wrap (a-b)=r):(execOp e ⟨dst,.binOp .sub T x y T',ty,pos,aft,g⟩).run P w = .ok (.value (.int k r)) w:=by simp[execOp,hx,hy,eqGuard,binOp,Op.intArith,h]
theorem r_mul{T'}(hx:e x = .int k a)(hy:e y = .int k b)(h:k.wrap (a*b)=r):(execOp e ⟨dst,.binOp .mul T x y T',ty,pos,aft,g⟩).run P w = .ok (.value (.int k r)) w:=by simp[execOp,hx,hy,eqGuard,binOp,Op.intArith,h]
theorem r_quo{T'}(hx:e x = .int k a)(hy:e y = .int k b)(h0:b≠0)(h:k.wrap (a.tdiv b)=r):(execOp e ⟨dst,.binOp .quo T x y T',ty,pos,aft,g⟩).run P w = .ok (.value (.int k r)) w:=by simp[execOp,hx,hy,eqGuard,binOp,Op.intDiv,h,h0]
theorem r_rem{T'}(hx:e x = .int k a)(hy:e y = .int k b)(h0:b≠0)(h:a.tmod b=r):(execOp e ⟨dst,.binOp .rem T x y T',ty,pos,aft,g⟩).run P w = .ok (.value (.int k r)) w:=by simp[execOp,hx,hy,eqGuard,binOp,Op.intDiv,h,h0]
theorem r_bits{bo:BinOp}(hbo:bo = .and∨bo = .or∨bo = .xor∨bo = .andNot){T'}(hx:e x = .int k a)(hy:e y = .int k b)(h:bits bo k a b=r):(execOp e ⟨dst,.binOp bo T x y T',ty,pos,aft,g⟩).run P w = .ok (.value (.int k r)) w:=by rcases hbo with rfl|rfl|rfl|rfl<;>simp[execOp,hx,hy,eqGuard,binOp,Op.intBits,<-h,bits]
theorem r_shl{T'}{k':IntKind}(hx:e x = .int k a)(hy:e y = .int k' b)(h0:¬b<0)(h:k.wrap (a*2^(min b.toNat k.bits))=r):(execOp e ⟨dst,.binOp .shl T x y T',ty,pos,aft,g⟩).run P w = .ok (.value (.int k r)) w:=by simp[execOp,hx,hy,eqGuard,binOp,Op.shift,h,h0]
theorem r_shr{T'}{k':IntKind}(hx:e x = .int k a)(hy:e y = .int k' b)(h0:¬b<0)(h:a.fdiv (2^(min b.toNat k.bits))=r):(execOp e ⟨dst,.binOp .shr T x y T',ty,pos,aft,g⟩).run P w = .ok (.value (.int k r)) w:=by simp[execOp,hx,hy,eqGuard,binOp,Op.shift,h,h0]
variable {t s:Bool}
theorem r_eql{T'}(hx:e x = .int k a)(hy:e y = .int k b)(h:(a==b)=t):(execOp e ⟨dst,.binOp .eql T x y T',ty,pos,aft,g⟩).run P w = .ok (.value (.bool t)) w:=by simp[execOp,hx,hy,eqGuard,binOp,Op.intCmp,h]
theorem r_neq{T'}(hx:e x = .int k a)(hy:e y = .int k b)(h:(a != b)=t):(execOp e ⟨dst,.binOp .neq T x y T',ty,pos,aft,g⟩).run P w = .ok (.value (.bool t)) w:=by simp[execOp,hx,hy,eqGuard,binOp,Op.intCmp,h]
theorem r_lss{T'}(hx:e x = .int k a)(hy:e y = .int k b)(h:decide (a<b)=t):(execOp e ⟨dst,.binOp .lss T x y T',ty,pos,aft,g⟩).run P w = .ok (.value (.bool t)) w:=by simp[execOp,hx,hy,eqGuard,binOp,Op.intCmp,h]
theorem r_leq{T'}(hx:e x = .int k a)(hy:e y = .int k b)(h:decide (a<=b)=t):(execOp e ⟨dst,.binOp .leq T x y T',ty,pos,aft,g⟩).run P w = .ok (.value (.bool t)) w:=by simp[execOp,hx,hy,eqGuard,binOp,Op.intCmp,h]
theorem r_gtr{T'}(hx:e x = .int k a)(hy:e y = .int k b)(h:decide (b<a)=t):(execOp e ⟨dst,.binOp .gtr T x y T',ty,pos,aft,g⟩).run P w = .ok (.value (.bool t)) w:=by simp[execOp,hx,hy,eqGuard,binOp,Op.intCmp,h]
theorem r_geq{T'}(hx:e x = .int k a)(hy:e y = .int k b)(h:decide (b<=a)=t):(execOp e ⟨dst,.binOp .geq T x y T',ty,pos,aft,g⟩).run P w = .ok (.value (.bool t)) w:=by simp[execOp,hx,hy,eqGuard,binOp,Op.intCmp,h]
theorem r_not{T'}(hx:e x = .bool s)(h:(!s)=t):(execOp e ⟨dst,.unOp .not T' x,ty,pos,aft,g⟩).run P w = .ok (.value (.bool t)) w:=by simp[execOp,hx,Op.unary,h]
theorem r_neg{T'}(hx:e x = .int k a)(h:k.wrap (0-a)=r):(execOp e ⟨dst,.unOp .neg T' x,ty,pos,aft,g⟩).run P w = .ok (.value (.int k r)) w:=by simp only[execOp,hx,Op.unary,Op.intArith,h,Sem.run_bind,Sem.run_pure,Result.andThen]
theorem r_pickt{z:Operand}(hz:e z = .bool t)(ht:t=true)(hx:e x=v):(execOp e ⟨dst,.pick z x y,ty,pos,aft,g⟩).run P w = .ok (.value v) w:=by subst ht;simp[execOp,hz,hx,asBool]
theorem r_pickf{z:Operand}(hz:e z = .bool t)(ht:t=false)(hy:e y=v):(execOp e ⟨dst,.pick z x y,ty,pos,aft,g⟩).run P w = .ok (.value v) w:=by subst ht;simp[execOp,hz,hy,asBool]
theorem xcL{i:Nat}{l:LV}(hx:e x = .tuple l.toArray)(h:l[i]? = some v):(execOp e ⟨dst,.extract x i,ty,pos,aft,g⟩).run P w = .ok (.value v) w:=by simp[execOp,hx,Instr.extract,h]
theorem r_conv{T1 T2:TypeId}{dd:TypeDesc}{k':IntKind}(h1:P.underlying T1=some dd)(h2:P.underlying T2=some (.int k'))(hx:e x = .int k a)(h:k'.wrap a=r):(execOp e ⟨dst,.convert T1 T2 x,ty,pos,aft,g⟩).run P w = .ok (.value (.int k' r)) w:=by simp[execOp,hx,convert,Go.underlying,h1,h2,Conv.intToInt,h]
theorem r_addrA{T':TypeId}{len:Nat}{sz b o i:Nat}(h1:P.underlying T=some (.array len T'))(h2:∀w,(sizeOf T').run P w = .ok sz w)(hx:e x = .pointer (some ⟨b,o,none⟩))(hy:e y = .int k a)(ha:a.toNat=i)(h0:0<=a)(hi:a<len):(execOp e ⟨dst,.indexAddr T x y,ty,pos,aft,g⟩).run P w = .ok (.value (.pointer (some ⟨b,o+i*sz,none⟩))) w:=by simp only[execOp,hx,hy,Instr.indexAt,Sem.run_bind];simp[asIntOf,Go.underlying,h1,Instr.sureAddr,h0,hi,h2,ha,zbY]
theorem r_addrF{fs:Array Field}{f:Field}{i sz b o:Nat}(h1:P.underlying T=some (.struct fs))(h2:fs[i]? = some f)(h3:∀w,(sizeOf f.type).run P w = .ok (sz+1) w)(hx:e x = .pointer (some ⟨b,o,none⟩)):(execOp e ⟨dst,.fieldAddr T x i,ty,pos,aft,g⟩).run P w = .ok (.value (.pointer (some ⟨b,o+f.offset,none⟩))) w:=by simp[execOp,hx,Instr.fieldAt,Go.underlying,h1,h2,Instr.sureAddr,fieldPlace,h3,zbY]
theorem zqQ{i off b o:Nat}(tf:∀b o (w:World),(Instr.fieldAt T (.pointer (some ⟨b,o,none⟩)) i).run P w = .ok (.pointer (some ⟨b,o+off,none⟩)) w)(hx:e x = .pointer (some ⟨b,o,none⟩)):(execOp e ⟨dst,.fieldAddr T x i,ty,pos,aft,g⟩).run P w = .ok (.value (.pointer (some ⟨b,o+off,none⟩))) w:=by simp only[execOp,hx,Sem.run_bind,tf,Result.andThen,Sem.run_pure]
def ycT(pl:List (Nat×Nat))(cs:LV):List (Nat×Value)->Option (LV)
 |[]=>some cs|(i,v)::l=>match lkp pl i with
  |none=>none|some (off,sz)=>bif aG v.cells.toList.length sz&&Nat.ble (off+sz) cs.length then ycT pl (lay cs off v.cells.toList) l else none
def yrC(P:Program)(T:TypeId)(z:Value)(pl:List (Nat×Nat)):Prop:=∀(ps:List (Nat×Value)) (l:LV) (w:World),ycT pl z.cells.toList ps=some l->(Instr.build T ps.toArray).run P w = .ok (.agg l.toArray) w
def zzI(e:Operand->Value):List (Nat×Operand)->List (Nat×Value)
 |[]=>[]|(i,x)::l=>(i,e x)::zzI e l
theorem yoG(ps:List (Nat×Operand)):(ps.map fun(i,x)=>(i,e x))=zzI e ps:=by
 induction ps with
 |nil=>rfl|cons p ps ih=>obtain⟨i,x⟩:=p;simp[zzI,<-ih]
theorem xaE{z:Value}{pl:List (Nat×Nat)}{ps:List (Nat×Operand)}{vals:List (Nat×Value)}{l:LV}(hT:yrC P T z pl)(hp:zzI e ps=vals)(hl:ycT pl z.cells.toList vals=some l):(execOp e ⟨dst,.build T ps.toArray,ty,pos,aft,g⟩).run P w = .ok (.value (.agg l.toArray)) w:=by
 have e1:(ps.toArray.map fun(i,x)=>(i,e x))=vals.toArray:=by rw[<-hp,<-yoG];simp
 simp only[execOp,Sem.run_bind];rw[e1,hT vals l w hl];simp
theorem r_lenS{args:List Operand}{at_:List TypeId}{sv:ByteArray}{tt:TypeId}(h1:P.underlying tt=some .string)(hx:e x = .string sv):(execOp e ⟨dst,.call ⟨.builtin .len,#[x],#[tt]⟩,ty,pos,aft,g⟩).run P w = .ok (.value (.int .i64 sv.size)) w:=by simp[execOp,resolve,invoke,builtin,Builtin.len_,Go.underlying,h1,hx,goInt]
theorem ytW{sv:Option Addr}{tt T':TypeId}{ln cp:Nat}(h1:P.underlying tt=some (.slice T'))(hx:e x = .slice sv ln cp):(execOp e ⟨dst,.call ⟨.builtin .len,#[x],#[tt]⟩,ty,pos,aft,g⟩).run P w = .ok (.value (.int .i64 ln)) w:=by simp[execOp,resolve,invoke,builtin,Builtin.len_,Go.underlying,h1,hx,goInt]
end
section
variable {P:Program}{ops:Array Oper}{nh:Nat}{Φ:zhT}{W w0:World}{vs:Nat->Gv}{Fin:Act->Prop}{i:Nat}{rest:List Oper}{n:Nat}{m:FM}{L:List Ent}
variable {d:Nat}{op:Op}{ty:TypeId}{pos:String}{aft:Array Edge}{c v:Value}{x y:Operand}{T:TypeId}
theorem zkT(h:∀w,Ext W w->(execOp (evO n m) ⟨some d,op,ty,pos,aft,none⟩).run P w = .ok (.value c) w)(hk:Φ i=none)(hf:zgT ops nh i=false) (hr:wpT P ops nh Φ W vs Fin (i+1) rest (fr n ((d,c)::m))):wpT P ops nh Φ W vs Fin i (⟨some d,op,ty,pos,aft,none⟩::rest) (fr n m):=
 wpT_pure hk hf rfl (fun w hx _=>by rw[zmS];exact h w hx) (by rw[yfA];exact hr)
theorem zlL{args:Array Operand}{at_:Array TypeId}{f:FuncId}{first cap:Array Value}{l:LV}{R:Value->World->Prop}{w:World}{dst:Option Tmp}{g:Option (Nat×Bool)}(hf:IsFn P f)(hx:evO n m x = .func (.func f) first cap) (ha:first.toList++args.toList.map (evO n m)++cap.toList=l) (h:Calls P f l.toArray w fun e w'=>∃v,e = .returned v/\R v w'):
  outcome P R ((execOp (evO n m) ⟨dst,.call ⟨.value x,args,at_⟩,ty,pos,aft,g⟩).run P w):=by
 have hargs:(first++args.map (evO n m))++cap=l.toArray:=by rw[<-ha];apply cZ;simp
 have hrun:(execOp (evO n m) ⟨dst,.call ⟨.value x,args,at_⟩,ty,pos,aft,g⟩).run P w = .ok (.enter f l.toArray) w:=by simp only[execOp,resolve,hx,Deferred.ofValue,Sem.run_bind,Sem.run_pure,Result.andThen,invoke];rw[hargs];exact hf _ _
 rw[hrun];exact h.mono fun e w' ⟨v,he,hR⟩=>by subst he;exact hR
def NewAt(W:World)(l:LV)(T:TypeId)(v:Value)(w:World):Prop:=∃b,v = .pointer (some ⟨b,0,none⟩)/\W.heap.size<=b/\w.heap[b]? = some (.cells l.toArray T (0,0))
theorem NewAt.ext{W:World}{l:LV}{T:TypeId}(v:Value)(w w':World)(h:NewAt W l T v w)(hx:Ext w w'):NewAt W l T v w':=by obtain⟨b,h1,h2,h3⟩:=h;exact⟨b,h1,h2,by rw[Below.block hx b (zhJ h3)];exact h3⟩
theorem NewAt.old{W:World}{l:LV}{T:TypeId}{v:Value}{w:World}(h:NewAt W l T v w):Old w v:=by obtain⟨b,h1,_,h3⟩:=h;exact⟨b,0,h1,zhJ h3⟩
theorem t_nil{Q':Exit->Act->World->Prop}{tl:List Oper}(h:∀w,Ext W w->zjQ Φ vs w (cU nh)->Apart ops nh Φ vs->wpList P ops Q' tl (fr n m) w):wpT P ops nh Φ W vs (fun a'=>∀w',Ext W w'->zjQ Φ vs w' (cU nh)->Apart ops nh Φ vs->wpList P ops Q' tl a' w') i [] (fr n m):=h
end
theorem ytY:∀(cs:LV) (off:Nat) (vs:LV) (k:Nat),off+k+vs.length<=cs.length ->(vs.zipIdx k).foldl (fun(a:Array Value) (p:Value×Nat)=>a.setIfInBounds (off+p.2) p.1) cs.toArray=(lay cs (off+k) vs).toArray
 |cs,off,[],k,_=>by
  have:lay cs (off+k) []=cs:=by cases cs<;>rfl
  simp[this]
 |cs,off,v::vs,k,h=>by
  have hk:off+k<cs.length:=by simp only[aS]at h;omega
  have ih:=ytY (cs.set (off+k) v) off vs (k+1) (by simp only[aS,bP]at *;omega);simp only[List.zipIdx_cons,List.foldl_cons];have e1:cs.toArray.setIfInBounds (off+k) v=(cs.set (off+k) v).toArray:=by simp
  rw[e1,ih];congr 1;apply bD;intro j;rw[zcN,zcN];simp only[aS,bP];by_cases h1:off+(k+1)<=j/\j<off+(k+1)+vs.length/\j<cs.length
  ·rw[zI h1,zI (by omega),show j-(off+k)=(j-(off+(k+1)))+1 by omega];simp
  ·rw[zH h1];by_cases h3:j=off+k
   ·subst h3;rw[zI (by omega)];simp[hk]
   ·rw[zH (by omega),List.getElem?_set_ne (by omega)]
theorem ynC{pl:List (Nat×Nat)}{place:Nat->Option (Nat×Nat)}(hpl:∀i,lkp pl i=none∨lkp pl i=place i):∀(ps:List (Nat×Value)) (cs l:LV),ycT pl cs ps=some l->Instr.fill place cs.toArray ps=some l.toArray
 |[],cs,l,h=>by simp only[ycT,Option.some.injEq]at h;simp[Instr.fill,h]
 |(i,v)::ps,cs,l,h=>by
  unfold ycT at h;rcases hpl i with h1|h1
  ·simp[h1]at h
  ·cases h2:lkp pl i with
   |none=>simp[h2]at h|some q=>
    obtain⟨off,sz⟩:=q;simp only[h2]at h;have h3:place i=some (off,sz):=by rw[<-h1,h2]
    cases hc:aG v.cells.toList.length sz&&Nat.ble (off+sz) cs.length with
    |false=>rw[hc]at h;cases h
    |true=>
     rw[hc]at h;simp only[zE]at h;simp only[aH,Nat.ble_eq]at hc;have hlen:v.cells.toList.length=sz:=by have:=hc.1;rw[zqR]at this;simpa using this
     unfold Instr.fill;simp only[h3];have hsz:v.cells.size=sz:=by simpa using hlen
     rw[zH (by simp[hsz];omega)];have hf:=ytY cs off v.cells.toList 0 (by rw[hlen];omega);have e1:v.cells.zipIdx.foldl (fun cs (c,j)=>cs.setIfInBounds (off+j) c) cs.toArray=(lay cs off v.cells.toList).toArray:=by rw[<-Array.foldl_toList];simpa using hf
     rw[e1];exact ynC hpl ps _ l h
theorem yiL(sz:Nat):∀(n k i:Nat),lkp ((dQ k n).map fun i=>(i*sz,sz)) i=none∨lkp ((dQ k n).map fun i=>(i*sz,sz)) i=some ((k+i)*sz,sz)
 |0,k,i=>.inl (by simp[lkp])|n+1,k,0=>.inr (by simp[eC,lkp])|n+1,k,i+1=>by have:=yiL sz n (k+1) i;simp only[eC,List.map_cons,lkp];rw[show k+(i+1)=k+1+i by omega];exact this
theorem tbuildA{P:Program}{T E:TypeId}{z:Value}{len sz:Nat}{pl:List (Nat×Nat)}(hu:P.underlying T=some (.array len E))(hz:ysV P T z)(hs:∀w,(sizeOf E).run P w = .ok sz w)(hpl:(dQ 0 len).map (fun i=>(i*sz,sz))=pl):yrC P T z pl:=by
 intro ps l w h;have hf:=ynC (place:=fun i=>some (i*sz,sz)) (fun i=>by subst hpl;simpa using yiL sz len 0 i) ps z.cells.toList l h;have e1:z.cells.toList.toArray=z.cells:=by simp
 rw[e1]at hf;simp[Instr.build,hz w,Go.underlying,hu,hs,hf]
theorem tbuildS{P:Program}{T:TypeId}{z:Value}{fs:Array Field}{pl:List (Nat×Nat)}(hu:P.underlying T=some (.struct fs))(hz:ysV P T z)(hs:∀w,(fs.mapM fun f=>do pure (f.offset,<-sizeOf f.type):Sem (Array (Nat×Nat))).run P w = .ok pl.toArray w):yrC P T z pl:=by
 intro ps l w h
 have hlk:∀(pl:List (Nat×Nat)) (i:Nat),lkp pl i=pl[i]?:=fun pl=>by
  induction pl with
  |nil=>intro i;simp[lkp]|cons p pl ih=>intro i;cases i with
   |zero=>simp[lkp]|succ i=>simp[lkp,ih]
 have hf:=ynC (place:=(pl.toArray[·]?)) (fun i=>by right;simp[hlk]) ps z.cells.toList l h;have e1:z.cells.toList.toArray=z.cells:=by simp
 rw[e1]at hf;have hs':=hs w;simp only[Instr.build,Sem.run_bind,hz w,Result.andThen_ok,Go.underlying,run_program,hu,Sem.run_pure,hs',hf]
theorem p_mv{P:Program}{ops:Array Oper}{Q:Exit->Act->World->Prop}{rest:List Oper}{n:Nat}{m:FM}{w:World}{d:Nat}{ty:TypeId}{pos:String}{aft:Array Edge}{x:Operand}{v:Value}(hx:evO n m x=v)(hr:wpList P ops Q rest (fr n ((d,v)::m)) w):wpList P ops Q (⟨some d,.move x,ty,pos,aft,none⟩::rest) (fr n m) w:=zeW (zpT hx) hr
theorem p_as{P:Program}{ops:Array Oper}{Q:Exit->Act->World->Prop}{rest:List Oper}{n:Nat}{m:FM}{w:World}{d:Nat}{ty:TypeId}{pos:String}{aft:Array Edge}{x:Operand}{v:Value}(hx:evO n m x=v)(hr:wpList P ops Q rest (fr n ((d,v)::m)) w):wpList P ops Q (⟨some d,.assign x,ty,pos,aft,none⟩::rest) (fr n m) w:=zeW (zrV hx) hr
section
variable {P:Program}{Q:Exit->Act->World->Prop}{K:Act->World->Prop}{n:Nat}{m:FM}{w w0:World}{L:List Ent}{id id':Nat}{a:Act}
theorem zvK(h:K a w):Exit.then K Q .normal a w:=h
theorem sr{c2:Code}{l:List Oper}(h:∀K:Act->World->Prop,(∀a w,c2.wp P Q a w->K a w)->wpList P l.toArray (Exit.then K Q) l a w):(Code.seq (.region id l.toArray false) c2).wp P Q a w:=wp_seq_k fun K hK=>wp_region_lit (h K hK)
theorem xk{c2:Code}{ops:Array Oper}(hK:∀a w,c2.wp P Q a w->K a w)(h:c2.wp P Q a w):wpList P ops (Exit.then K Q) [] a w:=wpList_nil (zvK (hK _ _ h))
theorem xn{c2:Code}(hK:∀a w,c2.wp P Q a w->K a w)(h:c2.wp P Q a w):Exit.then K Q .normal a w:=zvK (hK _ _ h)
theorem x_exit(h:Q (.exit id) a w):Exit.then K Q (.exit id) a w:=h
theorem b_norm(h:Q .normal a w):Exit.inBlock id Q .normal a w:=h
theorem b_hit(h:Q .normal a w):Exit.inBlock id Q (.exit id) a w:=by simp only[Exit.inBlock,if_true];exact h
theorem xaO(hne:aG id' id=false)(h:Q (.exit id') a w):Exit.inBlock id Q (.exit id') a w:=by
 have:id'≠id:=fun e=>by rw[zqR]at hne;simp at hne;exact hne e
 simp only[Exit.inBlock,this,if_false];exact h
theorem yrR{c:Operand}{x y:Code}{t:Bool}(hc:evO n m c = .bool t)(ht:t=true->x.wp P Q (fr n m) w)(hf:t=false->y.wp P Q (fr n m) w):(Code.cond c x y).wp P Q (fr n m) w:=
 wp_cond_split (by rw[zmS];exact hc) ht hf
theorem c_true{c:Operand}{x y:Code}{t:Bool}(hc:evO n m c = .bool t)(ht:t=true)(h:x.wp P Q (fr n m) w):(Code.cond c x y).wp P Q (fr n m) w:=
 wp_cond_true (by rw[zmS,hc,ht]) h
theorem xfG{c:Operand}{x y:Code}{t:Bool}(hc:evO n m c = .bool t)(ht:t=false)(h:y.wp P Q (fr n m) w):(Code.cond c x y).wp P Q (fr n m) w:=
 wp_cond_false (by rw[zmS,hc,ht]) h
theorem yzO{c:Code}(I:Nat->Act->World->Prop)(g0:Nat)(h0:I g0 a w) (round:∀g a w,I g a w->c.wp P (Exit.then (fun a' w'=>∃g',g'<g/\I g' a' w') Q) a w):(Code.loop c).wp P Q a w:=by
 let I':Act->World->Prop:=fun a w=>∃g,I g a w
 have hleast:∀a w,∃g,(∃g,I g a w)->I g a w/\∀g',g'<g->¬I g' a w:=fun a w=>by
  by_cases h:∃g,I g a w
  ·have:∃g,I g a w/\∀g',g'<g->¬I g' a w:=by
    obtain⟨g,hg⟩:=h;induction g using Nat.strongRecOn with
    |_ g ih=>
     by_cases h2:∃g',g'<g/\I g' a w
     ·obtain⟨g',h3,h4⟩:=h2;exact ih g' h3 h4
     ·exact⟨g,hg,fun g' h3 h4=>h2 ⟨g',h3,h4⟩⟩
   obtain⟨g,h1⟩:=this;exact⟨g,fun _=>h1⟩
  ·exact⟨0,fun h2=>absurd h2 h⟩
 let μ:Act->World->Nat:=fun a w=>Classical.choose (hleast a w);have hμ:∀a w (h:∃g,I g a w),I (μ a w) a w/\∀g',g'<μ a w->¬I g' a w:=fun a w h=>Classical.choose_spec (hleast a w) h;refine wp_loop I' μ ⟨g0,h0⟩ fun a w hI=>?_;refine wp_mono (round (μ a w) a w (hμ a w hI).1) fun e a' w' hq=>?_;cases e with
 |normal=>
  obtain⟨g',hlt,hg'⟩:=hq;have h1:∃g,I g a' w':=⟨g',hg'⟩;refine⟨h1,?_⟩;rcases Nat.lt_or_ge g' (μ a' w')with h2|h2
  ·exact absurd hg' ((hμ a' w' h1).2 g' h2)
  ·omega
 |_=>exact hq
def rg(a:Nat):Nat->List Nat->List Nat
 |0,l=>l|n+1,l=>a::rg (a+1) n l
def has:List Nat->Nat->Bool
 |[],_=>false|d::l,t=>bif aG d t then true else has l t
theorem zzW{D:List Nat}{d:Nat}{v:Value}{X:Nat->Value}(hd:has D d=true)(h:∀t,has D t=false->look m t=X t):∀t,has D t=false->look ((d,v)::m) t=X t:=fun t ht=>by
 have hne:d≠t:=fun e=>by rw[e,ht]at hd;cases hd
 simp only[look,zqR,hne,decide_false,zF];exact h t ht
section
variable {P:Program}{ops:Array Oper}{Q:Exit->Act->World->Prop}{rest:List Oper}{n:Nat}{m:FM}{w:World}{d:Nat}{ty:TypeId}{pos:String}{aft:Array Edge}{x:Operand}{nh:Nat}{Φ:zhT}{W:World}{vs:Nat->Gv}{Fin:Act->Prop}{i:Nat}
theorem asB{a:Bool}(hx:evO n m x = .bool a)(hr:wpList P ops Q rest (fr n ((d,.bool a)::m)) w):wpList P ops Q (⟨some d,.assign x,ty,pos,aft,none⟩::rest) (fr n m) w:=p_as hx hr
theorem tB{a:Bool}(hx:evO n m x = .bool a)(hr:wpT P ops nh Φ W vs Fin (i+1) rest (fr n ((d,.bool a)::m)))(hk:Φ i=none:=by rfl)(hf:zgT ops nh i=false:=by rfl):wpT P ops nh Φ W vs Fin i (⟨some d,.move x,ty,pos,aft,none⟩::rest) (fr n m):=zkT (fun _ _=>zpT hx) hr (hk:=hk) (hf:=hf)
theorem tA{a:Array Value}(hx:evO n m x = .agg a)(hr:wpT P ops nh Φ W vs Fin (i+1) rest (fr n ((d,.agg a)::m)))(hk:Φ i=none:=by rfl)(hf:zgT ops nh i=false:=by rfl):wpT P ops nh Φ W vs Fin i (⟨some d,.move x,ty,pos,aft,none⟩::rest) (fr n m):=zkT (fun _ _=>zpT hx) hr (hk:=hk) (hf:=hf)
end
theorem kcx{D:List Nat}{m1:FM}{X:Nat->Value}(h:∀t,has D t=false->look m1 t=X t:=by (repeat (refine zzW rfl ?_));exact fun _ _=>rfl):∀t,has D t=false->look m1 t=X t:=h
theorem osi{α:Type}{a b:α}(h:some a=some b):a=b:=Option.some.inj h
theorem tkS{α:Type}{a:α}{l:List α}{n:Nat}:(a::l).take (n+1)=a::l.take n:=List.take_succ_cons
theorem tkZ{α:Type}{l:List α}:l.take 0=[]:=List.take_zero
theorem drS{α:Type}{a:α}{l:List α}{n:Nat}:(a::l).drop (n+1)=l.drop n:=List.drop_succ_cons
theorem drZ{α:Type}{l:List α}:l.drop 0=l:=cO
section
variable {P:Program}{ops:Array Oper}{Q:Exit->Act->World->Prop}{rest:List Oper}{n:Nat}{m:FM}{w:World}{d:Nat}{ty:TypeId}{pos:String}{aft:Array Edge}{nh:Nat}{Φ:zhT}{W:World}{vs:Nat->Gv}{Fin:Act->Prop}{i:Nat}{c:Value}
end
abbrev Kp(D:List Nat)(m m':FM):Prop:=∀t,has D t=false->look m t=look m' t
abbrev z4:LV:=[.int .u64 0,.int .u64 0,.int .u64 0,.int .u64 0]
def subl(D:List Nat):List Nat->Bool
 |[]=>true|d::l=>bif has D d then subl D l else false
theorem yqO{D:List Nat}:∀{l:List Nat},subl D l=true->∀t,has D t=false->has l t=false
 |[],_,t,_=>rfl|d::l,h,t,ht=>by
  unfold subl at h;cases hd:has D d with
  |false=>rw[hd]at h;cases h
  |true=>
   rw[hd]at h;have hne:d≠t:=fun e=>by rw[e,ht]at hd;cases hd
   simp only[has,zqR,hne,decide_false,zF];exact yqO h t ht
theorem ylX{D l:List Nat}{m1:FM}{X Y:Nat->Value}(hi:∀t,has l t=false->look m1 t=Y t)(hs:subl D l=true)(h:∀t,has D t=false->Y t=X t):∀t,has D t=false->look m1 t=X t:=
 fun t ht=>(hi t (yqO hs t ht)).trans (h t ht)
theorem kS{D l:List Nat}{m1 m:FM}{X Y:Nat->Value}(hi:∀t,has l t=false->look m1 t=Y t)(hs:subl D l=true)(h:∀t,has D t=false->Y t=X t)(e:(∀t,has D t=false->look m1 t=X t)->(∀t,has D t=false->look m t=X t):=by intro h;(repeat (refine zzW rfl ?_));exact h):∀t,has D t=false->look m t=X t:=e (ylX hi hs h)
theorem loopF{c:Code}{m0:FM}(D:List Nat)(I:Nat->FM->World->Prop)(g0:Nat)(h0:I g0 m0 w) (round:∀g m w,(∀t,has D t=false->look m t=look m0 t)->I g m w ->
   c.wp P (Exit.then (fun a' w'=>∃g' m',g'<g/\a'=fr n m'/\(∀t,has D t=false->look m' t=look m0 t)/\I g' m' w') Q) (fr n m) w):(Code.loop c).wp P Q (fr n m0) w:=by
 refine yzO (fun g a w=>∃m,a=fr n m/\(∀t,has D t=false->look m t=look m0 t)/\I g m w) g0 ⟨m0,rfl,fun _ _=>rfl,h0⟩ ?_;rintro g a w ⟨m,rfl,hk,hI⟩;refine wp_mono (round g m w hk hI) fun e a' w' hq=>?_;cases e with
 |normal=>obtain⟨g',m',h1,h2,h3,h4⟩:=hq;exact⟨g',h1,m',h2,h3,h4⟩
 |_=>exact hq
def resS(tmps:Array Value):ResultVar->Sem Value
 |.tmp t=>pure (tmps.getD t undef)|.cell a t=>do loadVar t (<-asAddr (tmps.getD a undef))
def yxH(P:Program)(n:Nat)(m:FM)(w:World)(r:ResultVar)(v:Value):Prop:=(resS (fr n m).tmps r).run P w = .ok v w
theorem zvC(fn:Func)(tmps:Array Value):results fn tmps=(do let vs <-fn.results.mapM (resS tmps);pure (if h:vs.size=1 then vs[0]else .tuple vs)):=by unfold results;rfl
theorem ysP{t:Nat}{v:Value}(hv:evO n m (.tmp t)=v):yxH P n m w (.tmp t) v:=by show(pure ((fr n m).tmps.getD t undef):Sem Value).run P w=_;rw[xaV,hv];rfl
theorem e_00{fn:Func}{R:Ending->World->Prop}(hr:fn.results = #[])(h:R (.returned (.tuple #[])) w):bodyPost P fn R .normal (fr n m) w:=
 ⟨rfl,_,by simp[results,hr],h⟩
theorem e_1{fn:Func}{R:Ending->World->Prop}{r1:ResultVar}{v1:Value}(hr:fn.results = #[r1])(h1:yxH P n m w r1 v1)(h:R (.returned v1) w):bodyPost P fn R .ret (fr n m) w:=by refine⟨rfl,v1,?_,h⟩;unfold yxH at h1;rw[zvC,hr];simp only[iR,List.mapM_cons,List.mapM_nil,Sem.run_bind,Sem.run_map,h1,Result.andThen_ok,Sem.run_pure];rfl
theorem e_2{fn:Func}{R:Ending->World->Prop}{r1 r2:ResultVar}{v1 v2:Value}(hr:fn.results = #[r1,r2])(h1:yxH P n m w r1 v1)(h2:yxH P n m w r2 v2)(h:R (.returned (.tuple #[v1,v2])) w):bodyPost P fn R .ret (fr n m) w:=by refine⟨rfl,.tuple #[v1,v2],?_,h⟩;unfold yxH at h1 h2;rw[zvC,hr];simp only[iR,List.mapM_cons,List.mapM_nil,Sem.run_bind,Sem.run_map,h1,h2,Result.andThen_ok,Sem.run_pure];rfl
end
abbrev sl(b o n c:Nat):Value:=.slice (some ⟨b,o,none⟩) n c
structure TSl (P:Program) (T E:TypeId) (z:Value) (nb:Nat):Prop where
 und:P.underlying T=some (.slice E)
 info:∃i,P.info? E=some i/\i.zero=some z/\i.size=1/\i.bytes=nb
 one:z.cells = #[z]
theorem TSl.size{P:Program}{T E:TypeId}{z:Value}{nb:Nat}(h:TSl P T E z nb)(w:World):(sizeOf E).run P w = .ok 1 w:=by obtain⟨i,h1,_,h3,_⟩:=h.info;simp[sizeOf,typeInfo,h1,h3]
def Rd(w:World)(v:Value)(l:LV):Prop:=
 (v = .slice none 0 0/\l=[])∨∃b o c cs T fz,v=sl b o l.length c/\l.length<=c/\w.heap[b]? = some (.cells cs.toArray T fz)/\o+l.length<=cs.length/\piece cs o l.length=l
theorem Rd.ext{w w':World}{v:Value}{l:LV}(h:Rd w v l)(hx:Ext w w'):Rd w' v l:=by
 rcases h with h|⟨b,o,c,cs,T,fz,h1,h2,h3,h4,h5⟩
 ·exact .inl h
 ·exact .inr ⟨b,o,c,cs,T,fz,h1,h2,by rw[Below.block hx b (zhJ h3)];exact h3,h4,h5⟩
theorem Rd.hp{w0 w:World}{L:List Ent}{v:Value}{l:LV}(h:Rd w0 v l)(H:HP w0 w L):Rd w v l:=h.ext H.below
theorem Rd.nil(w:World):Rd w (.slice none 0 0) []:=.inl ⟨rfl,rfl⟩
theorem Rd.own{w0 w:World}{L:List Ent}(H:HP w0 w L){k b o n c:Nat}{cs l:LV}{T:TypeId}(hk:lk L k=some (b,cs,T))(hl:piece cs o n=l)(hn:o+n<=cs.length)(hc:n<=c):Rd w (sl b o n c) l:=by
 have hlen:l.length=n:=by rw[<-hl,zaS];simp;omega
 subst hlen;exact .inr ⟨b,o,c,cs,T,(0,0),rfl,hc,(H.blk k b cs T hk).1,hn,hl⟩
def subv:Value->Nat->Nat->Value
 |.slice a _ c,lo,hi=>.slice (if c=lo then a else a.map (·.add lo)) (hi-lo) (c-lo)|v,_,_=>v
theorem Rd.sub{w:World}{v:Value}{l:LV}(h:Rd w v l){lo hi:Nat}(h1:lo<=hi)(h2:hi<=l.length):Rd w (subv v lo hi) ((l.drop lo).take (hi-lo)):=by
 have hlen:((l.drop lo).take (hi-lo)).length=hi-lo:=by simp;omega
 rcases h with⟨rfl,rfl⟩|⟨b,o,c,cs,T,fz,rfl,h3,h4,h5,h6⟩
 ·simp only[bZ]at h2;have e1:lo=0:=by omega
  have e2:hi=0:=by omega
  subst e1;subst e2;exact .inl ⟨rfl,rfl⟩
 ·by_cases hc:c=lo
  ·have e1:hi=lo:=by omega
   refine .inr ⟨b,o,c-lo,cs,T,fz,?_,by rw[hlen];omega,h4,by rw[hlen];omega,?_⟩
   ·rw[hlen];simp[subv,sl,hc]
   ·rw[hlen,e1];simp[piece]
  ·refine .inr ⟨b,o+lo,c-lo,cs,T,fz,?_,by rw[hlen];omega,h4,by rw[hlen];omega,?_⟩
   ·rw[hlen];simp[subv,sl,hc,zbY]
   ·rw[hlen,zaS];rw[zaS]at h6
    conv=>rhs;rw[<-h6]
    rw[gK,eM,List.take_take];congr 1;omega
section
variable {P:Program}{w:World}{e:Operand->Value}{x y lo hi:Operand}{T E ty:TypeId}{z v u:Value}{nb i:Nat}{l:LV}{a:Int}{k:IntKind}{dst:Option Tmp}{pos:String}{aft:Array Edge}{g:Option (Nat×Bool)}
theorem zbC{P:Program}{w:World}{k:IntKind}{a:Int}{h y:Nat}{code:BoundsCode}(ha:a=(h:Int))(hh:h<=y):(Instr.sliceBound (.int k a) y code).run P w = .ok h w:=by
 subst ha;have h2:(0:Int)<=(h:Int)/\(h:Int)<=(y:Int):=by omega
 simp[Instr.sliceBound,asIntOf,h2]
end
theorem HP.moved{w0 w:World}{L:List Ent}{x e:Ent}{k:Nat}(hk:lk L k=some x)(h:HP w0 w (e::L)):HP w0 w (st L k e):=by
 obtain⟨b,cs,T⟩:=e;refine⟨h.below,?_,?_⟩
 ·intro j b' c T' hj;by_cases hjk:j=k
  ·subst hjk;rw[zuV hk]at hj;exact h.blk 0 b' c T' hj
  ·rw[zsL hjk]at hj;exact h.blk (j+1) b' c T' hj
 ·intro i j b' c1 T1 c2 T2 hi hj
  have key:∀i c T1,lk (st L k (b,cs,T)) i=some (b',c,T1)->∃i',(i=k/\i'=0∨i≠k/\i'=i+1)/\lk ((b,cs,T)::L) i'=some (b',c,T1):=fun i c T1 hi=>by
   by_cases hik:i=k
   ·subst hik;rw[zuV hk]at hi;exact⟨0,.inl ⟨rfl,rfl⟩,hi⟩
   ·rw[zsL hik]at hi;exact⟨i+1,.inr ⟨hik,rfl⟩,hi⟩
  obtain⟨i',hi1,hi2⟩:=key i _ _ hi;obtain⟨j',hj1,hj2⟩:=key j _ _ hj;have:=h.inj i' j' b' c1 T1 c2 T2 hi2 hj2;omega
section
variable {P:Program}{ops:Array Oper}{Q:Exit->Act->World->Prop}{rest:List Oper}{n:Nat}{m:FM}{w w0:World}{L:List Ent}
variable {d:Nat}{ty:TypeId}{pos:String}{aft:Array Edge}{x y:Operand}{T E:TypeId}{z:Value}{nb:Nat}
theorem yjT{b len c k:Nat}{xs rs news:LV}{v2:Value}(hT:TSl P T E z nb)(H:HP w0 w L)(hk:lk L k=some (b,xs++rs,E))(hlen:xs.length=len)(hcap:(xs++rs).length=c) (hr:Rd w v2 news) (h1:∀v∈news,v.oneCell'=true) (hb:(len+news.length)*nb<=140737488355328) (hb':len+news.length<=140737488355328):∃b' rs' w',(Builtin.append_ #[T,T] ty #[sl b 0 len c,v2]).run P w = .ok (sl b' 0 (len+news.length) (xs++news++rs').length) w'/\HP w0 w' (st L k (b',xs++news++rs',E)):=by
 obtain⟨i,hi1,hi2,hi3,hi4⟩:=hT.info;have hblk:=(H.blk k b _ E hk).1;subst hlen;rcases hr with⟨rfl,rfl⟩|⟨b2,o2,c2,cs2,T2,fz2,rfl,hc2,hb2,ho2,hp2⟩
 ·refine⟨b,rs,w,?_,?_⟩
  ·have hroom:xs.length+0<=c:=by rw[<-hcap];simp
   have hst:=run_storeCells_at P b (xs.length*1) E [] 0 (xs++rs).toArray w hblk (by simp) (fun v hv=>by simp at hv);simp only[Builtin.append_,Go.underlying,sizeOf,typeInfo,Builtin.lenOf,hcap,bZ,bQ];simp[Builtin.firstCells,hi1,hi3,storeCells,hT.und];intro hh;simp at hroom;omega
  ·simp only[bQ];exact H.set hk rfl rfl rfl rfl hblk (fun _ _=>rfl)
 ·have hnews:∀j u,news[j]? = some u->w.cell? ((⟨b2,o2,none⟩:Addr).add j)=some u:=fun j u hj=>by rw[zbY,ybX hb2];have hjl:=(aC.1 hj).1;rw[<-hp2,zaS,cF,zI hjl,bJ]at hj;exact hj
  by_cases hroom:xs.length+news.length<=c
  ·refine⟨b,rs.drop news.length,w.setRow b ((xs++rs).take (xs.length*i.size)++news++(xs++rs).drop (xs.length*i.size+news.length)).toArray,?_,?_⟩
   ·have hrun:=run_append_room (P:=P) w T ty E i hT.und hi1 b xs.length c (xs++rs).toArray hblk ⟨b2,o2,none⟩ news.length c2 news (by rw[hi3];omega) hnews h1 hroom (by rw[hi3,cV];simpa[<-hcap]using hroom);have hcl:(xs++news++rs.drop news.length).length=c:=by rw[<-hcap];simp only[aD,List.length_drop];rw[<-hcap,aD]at hroom;omega
    rw[hcl];exact hrun
   ·have e1:(xs++rs).take (xs.length*i.size)++news++(xs++rs).drop (xs.length*i.size+news.length)=xs++news++rs.drop news.length:=by rw[hi3,cV,List.take_left,<-eM,List.drop_left]
    rw[e1];exact H.set hk (setRow_size w b _) rfl rfl rfl (setRow_heap w b _ _ E (0,0) hblk) (fun j hj=>setRow_other w b j _ hj)
  ·have hnb:nb<=140737488355328∨True:=.inr trivial;have hfit:=growslice_fits (bytes:=nb) (dH hroom) hb;have holds:∀j u,xs[j]? = some u->w.cell? ((⟨b,0,none⟩:Addr).add j)=some u:=fun j u hj=>by rw[zbY,ybX hblk,Nat.zero_add,aE (aC.1 hj).1];exact hj
   have hrun:=run_append_grow (P:=P) w T ty E i z hT.und hi1 hi2 ⟨b,0,none⟩ xs.length c xs (by rw[hi3];omega) holds ⟨b2,o2,none⟩ news.length c2 news (by rw[hi3];omega) hnews (dH hroom) (by omega) (by rw[hi4];exact hfit);have hge:=grownCap_ge w (xs.length+news.length) c E;have hsz:=size_zeroCells z.cells (grownCap w (xs.length+news.length) c E-(xs.length+news.length));rw[hT.one]at hsz hrun;generalize hG:grownCap w (xs.length+news.length) c E=G at hrun hge hsz;generalize hZ:Builtin.zeroCells #[z] (G-(xs.length+news.length))=Z at hrun hsz;have hZl:Z.toList.length=G-(xs.length+news.length):=by simpa using hsz
   have hcl:(xs++news++Z.toList).length=G:=by simp only[aD,hZl];omega
   have hcells:xs.toArray++news.toArray++Z=(xs++news++Z.toList).toArray:=by apply cZ;simp
   refine⟨w.heap.size,Z.toList,w.drew.alloc (.cells (xs++news++Z.toList).toArray E),?_,HP.moved hk ?_⟩
   ·rw[hcl,<-hcells];exact hrun
   ·exact H.push ((Ext.drew w).trans (Ext.alloc w.drew _)) (aK _) (zaL w.drew _)
theorem append_nil{news:LV}{v2:Value}(hT:TSl P T E z nb)(H:HP w0 w L)(hr:Rd w v2 news)(h0:0<news.length)(hb:news.length*nb<=140737488355328)(hb':news.length<=140737488355328):∃b' rs' w',(Builtin.append_ #[T,T] ty #[.slice none 0 0,v2]).run P w = .ok (sl b' 0 news.length (news++rs').length) w'/\HP w0 w' ((b',news++rs',E)::L):=by
 obtain⟨i,hi1,hi2,hi3,hi4⟩:=hT.info;rcases hr with⟨rfl,rfl⟩|⟨b2,o2,c2,cs2,T2,fz2,rfl,hc2,hb2,ho2,hp2⟩
 ·exact absurd h0 (by decide)
 ·have hnews:∀j u,news[j]? = some u->w.cell? ((⟨b2,o2,none⟩:Addr).add j)=some u:=fun j u hj=>by rw[zbY,ybX hb2];have hjl:=(aC.1 hj).1;rw[<-hp2,zaS,cF,zI hjl,bJ]at hj;exact hj
  have hrun:=run_append_nil (P:=P) w T ty E i z hT.und hi1 hi2 ⟨b2,o2,none⟩ news.length c2 news (by rw[hi3];omega) hnews h0 (by omega) (by rw[hi4];omega);have hge:=grownCap_ge w news.length 0 E;have hsz:=size_zeroCells z.cells (grownCap w news.length 0 E-news.length);rw[hT.one]at hsz hrun;generalize hG:grownCap w news.length 0 E=G at hrun hge hsz;generalize hZ:Builtin.zeroCells #[z] (G-news.length)=Z at hrun hsz;have hZl:Z.toList.length=G-news.length:=by simpa using hsz
  have hcl:(news++Z.toList).length=G:=by simp only[aD,hZl];omega
  have hcells:news.toArray++Z=(news++Z.toList).toArray:=by apply cZ;simp
  refine⟨w.heap.size,Z.toList,w.drew.alloc (.cells (news++Z.toList).toArray E),?_,?_⟩
  ·rw[hcl,<-hcells];exact hrun
  ·exact H.push ((Ext.drew w).trans (Ext.alloc w.drew _)) (aK _) (zaL w.drew _)
theorem zyZ{xs ys:LV}{i n:Nat}{v:Value}(h:xs.set i v=ys)(hn:xs.length=n):ys.length=n:=by rw[<-h,bP,hn]
theorem HP.of(h:Ext w0 w):HP w0 w []:=(HP.start w0).ext h
end
def Bk(w:World)(b:Nat)(cs:LV)(T:TypeId):Prop:=w.heap[b]? = some (.cells cs.toArray T (0,0))
theorem Bk.ext{w w':World}{b:Nat}{cs:LV}{T:TypeId}(h:Bk w b cs T)(hx:Ext w w'):Bk w' b cs T:=by have hb:=zhJ h;unfold Bk at *;rw[Below.block hx b hb];exact h
theorem Bk.hp{w0 w:World}{L:List Ent}{b:Nat}{cs:LV}{T:TypeId}(h:Bk w0 b cs T)(H:HP w0 w L):Bk w b cs T:=h.ext H.below
theorem HP.bk{w0 w:World}{L:List Ent}{k b:Nat}{cs:LV}{T:TypeId}(H:HP w0 w L)(hk:lk L k=some (b,cs,T)):Bk w b cs T:=(H.blk k b cs T hk).1
section
variable {P:Program}{w w0:World}{e:Operand->Value}{dst:Option Tmp}{g:Option (Nat×Bool)}{ty:TypeId}{pos:String}{aft:Array Edge}{x y:Operand}{T T':TypeId}{b o sz:Nat}{cs l:LV}{v:Value}
end
theorem wrapN{k:IntKind}(hk:k.signed=false)(n:Nat):k.wrap (n:Int)=((n%2^k.bits:Nat):Int):=by simp only[IntKind.wrap,hk,Bool.false_and,eW,if_false];rw[Int.natCast_emod];congr 1
theorem wrapS{k:IntKind}(hk:k.signed=false){n:Nat}(hn:n<2^k.bits):k.wrap (n:Int)=(n:Int):=by rw[wrapN hk,Nat.mod_eq_of_lt hn]
theorem ydS(k:IntKind)(x:Nat)(hx:x<2^k.bits):(BitVec.ofInt k.bits (x:Int)).toNat=x:=by simp[Nat.mod_eq_of_lt hx]
theorem andN{k:IntKind}(hk:k.signed=false){x y:Nat}(hx:x<2^k.bits)(hy:y<2^k.bits):bits .and k (x:Int) (y:Int)=((x&&&y:Nat):Int):=by simp only[bits,BitVec.toNat_and,ydS k x hx,ydS k y hy];exact wrapS hk (Nat.lt_of_le_of_lt Nat.and_le_left hx)
theorem orN{k:IntKind}(hk:k.signed=false){x y:Nat}(hx:x<2^k.bits)(hy:y<2^k.bits):bits .or k (x:Int) (y:Int)=((x|||y:Nat):Int):=by simp only[bits,BitVec.toNat_or,ydS k x hx,ydS k y hy];exact wrapS hk (Nat.or_lt_two_pow hx hy)
theorem xorN{k:IntKind}(hk:k.signed=false){x y:Nat}(hx:x<2^k.bits)(hy:y<2^k.bits):bits .xor k (x:Int) (y:Int)=((x^^^y:Nat):Int):=by simp only[bits,BitVec.toNat_xor,ydS k x hx,ydS k y hy];exact wrapS hk (Nat.xor_lt_two_pow hx hy)
abbrev str(l:Bs):Value:=.string ⟨l.toArray⟩
def u8s(l:Bs):LV:=l.map fun b=>Value.int .u8 (b.toNat:Int)
theorem zdM(l:Bs):(u8s l).length=l.length:=by simp[u8s]
theorem u8s_get{l:Bs}{i:Nat}{b:UInt8}(h:l[i]? = some b):(u8s l)[i]? = some (.int .u8 (b.toNat:Int)):=by simp[u8s,h]
theorem u8s_ones(l:Bs):∀v∈u8s l,v.oneCell'=true:=by intro v hv;simp only[u8s,List.mem_map]at hv;obtain⟨b,_,rfl⟩:=hv;rfl
theorem zjO(l:Bs):(⟨l.toArray⟩:ByteArray).size=l.length:=by simp[ByteArray.size]
theorem yxT(a b:Bs):(⟨a.toArray⟩:ByteArray)++⟨b.toArray⟩=⟨(a++b).toArray⟩:=by apply ByteArray.ext;simp
theorem zpB(l:Bs)(p h:Nat):(⟨l.toArray⟩:ByteArray).extract p h=⟨((l.take h).drop p).toArray⟩:=by apply ByteArray.ext;simp[ByteArray.data_extract,List.extract_toArray,List.extract_eq_take_drop,gK]
theorem ybN{a b:Bs}(h:str a=str b):a=b:=by
 have h1:(⟨a.toArray⟩:ByteArray)=⟨b.toArray⟩:=by injection h
 have h2:=congrArg (fun x=>x.data.toList) h1;simpa using h2
section
variable {P:Program}{w:World}{e:Operand->Value}{dst:Option Tmp}{g:Option (Nat×Bool)}{ty:TypeId}{pos:String}{aft:Array Edge}{x y lo hi:Operand}{T:TypeId}{k k':IntKind}{a b:Int}{l r:Bs}{t:Bool}
theorem xfI{N:Nat}(h1:P.underlying T=some .string)(hx:e x=str l)(hN:l.length=N):(execOp e ⟨dst,.call ⟨.builtin .len,#[x],#[T]⟩,ty,pos,aft,g⟩).run P w = .ok (.value (.int .i64 (N:Int))) w:=by subst hN;have:=r_lenS (P:=P) (w:=w) (e:=e) (dst:=dst) (g:=g) (ty:=ty) (pos:=pos) (aft:=aft) (args:=[]) (at_:=[]) h1 hx;rw[this,zjO]
theorem r_idxT{i:Nat}{u:UInt8}(h1:P.underlying T=some .string)(hx:e x=str l)(hy:e y = .int k a)(ha:a=(i:Int))(hv:l[i]? = some u):(execOp e ⟨dst,.index T x y,ty,pos,aft,g⟩).run P w = .ok (.value (.int .u8 (u.toNat:Int))) w:=by
 subst ha;have hi:=(aC.1 hv).1;have hv':=(aC.1 hv).2;have h2:(⟨l.toArray⟩:ByteArray)[i]? = some u:=by rw[getElem?_pos (⟨l.toArray⟩:ByteArray) i (by simpa[ByteArray.size]using hi)];exact congrArg some hv'
 simp[execOp,Instr.index,asIntOf,Go.underlying,h1,hx,hy,h2]
theorem r_sliceT{p h:Nat}(h1:P.underlying T=some .string)(hx:e x=str l)(hz:e lo = .int k' b)(hy:e hi = .int k a)(hb:b=(p:Int))(ha:a=(h:Int))(hp:p<=h)(hh:h<=l.length)(hr:(l.take h).drop p=r):(execOp e ⟨dst,.slice T x (some lo) (some hi) none,ty,pos,aft,g⟩).run P w = .ok (.value (str r)) w:=by simp[execOp,Instr.sliceAt,Instr.slice,Instr.sliceBounds,Go.underlying,h1,hx,hz,hy,zbC (P:=P) (w:=w) ha (y:=l.length) hh,zbC (P:=P) (w:=w) hb hp,zjO,zpB,hr]
theorem xfD{p:Nat}(h1:P.underlying T=some .string)(hx:e x=str l)(hz:e lo = .int k' b)(hb:b=(p:Int))(hp:p<=l.length)(hr:l.drop p=r):(execOp e ⟨dst,.slice T x (some lo) none none,ty,pos,aft,g⟩).run P w = .ok (.value (str r)) w:=by simp[execOp,Instr.sliceAt,Instr.slice,Instr.sliceBounds,Go.underlying,h1,hx,hz,zbC (P:=P) (w:=w) hb hp,zjO,zpB,hr]
theorem yzW{h:Nat}(h1:P.underlying T=some .string)(hx:e x=str l)(hy:e hi = .int k a)(ha:a=(h:Int))(hh:h<=l.length)(hr:l.take h=r):(execOp e ⟨dst,.slice T x none (some hi) none,ty,pos,aft,g⟩).run P w = .ok (.value (str r)) w:=by simp[execOp,Instr.sliceAt,Instr.slice,Instr.sliceBounds,Go.underlying,h1,hx,hy,zbC (P:=P) (w:=w) ha (y:=l.length) hh,zjO,zpB,hr]
theorem xbZ(l:Bs):strOfNums (l.map fun b=>(b.toNat:Int))=⟨l.toArray⟩:=by apply ByteArray.ext;apply Array.toList_inj.1;rw[strOfNums_data];simp[Function.comp_def]
variable {l1 l2:Bs}{T':TypeId}
theorem run_cat(hn:l1.length+l2.length<=9223372036854775807):(Op.stringOp .add ⟨l1.toArray⟩ ⟨l2.toArray⟩).run P w = .ok (str (l1++l2)) w:=by
 simp only[Op.stringOp,zjO,yxT]
 rw [if_neg (by have : IntKind.i64.max = 9223372036854775807 := by decide
                rw[this];omega)]
 rfl
theorem r_cat(hx:e x=str l1)(hy:e y=str l2)(hn:l1.length+l2.length<=9223372036854775807)(hr:l1++l2=r):(execOp e ⟨dst,.binOp .add T x y T',ty,pos,aft,g⟩).run P w = .ok (.value (str r)) w:=by have:=run_cat (P:=P) (w:=w) hn;simp[execOp,eqGuard,binOp,hx,hy,this,hr]
theorem r_eqT(hx:e x=str l1)(hy:e y=str l2)(h:(l1==l2)=t):(execOp e ⟨dst,.binOp .eql T x y T',ty,pos,aft,g⟩).run P w = .ok (.value (.bool t)) w:=by simp[execOp,eqGuard,binOp,hx,hy,Op.stringOp,<-h]
theorem r_neT(hx:e x=str l1)(hy:e y=str l2)(h:(l1 != l2)=t):(execOp e ⟨dst,.binOp .neq T x y T',ty,pos,aft,g⟩).run P w = .ok (.value (.bool t)) w:=by simp[execOp,eqGuard,binOp,hx,hy,Op.stringOp,<-h,bne]
end
section
abbrev Mem:=Nat->Option Obj
def Mem.le(S T:Mem):Prop:=∀b o,S b=some o->T b=some o
theorem Mem.le_refl(S:Mem):Mem.le S S:=fun _ _ h=>h
theorem Mem.le_trans{S T U:Mem}(h:Mem.le S T)(k:Mem.le T U):Mem.le S U:=fun b o e=>k b o (h b o e)
def jm(n:Nat)(T:TypeId):Obj:=.mapIter none n #[T] 0
def isJ:Obj->Bool
 |.mapIter none _ _ _=>true|_=>false
def Fits:Obj->Option Obj->Prop
 |.mapIter none n _ _,x=>∃c T,x=some (.cells c T (0,0))/\c.size=n|.mapIter (some a) n s k,x=>x=some (.mapIter (some a) n s k)|.cells c T z,x=>x=some (.cells c T z)|o,x=>x=some o
def nj:Option Obj->Option Obj
 |some (.mapIter none _ _ _)=>none|x=>x
theorem yzJ{o:Obj}{x:Option Obj}(h:Fits o x)(hj:isJ o=false):x=some o:=by
 cases o with
 |mapIter m n s k=>cases m with
  |none=>cases hj
  |some a=>exact h
 |_=>exact h
theorem yyU{o:Obj}(hj:isJ o=false):Fits o (some o):=by
 cases o with
 |mapIter m n s k=>cases m with
  |none=>cases hj
  |some a=>rfl
 |_=>rfl
theorem xbC{o:Obj}{x:Option Obj}(h:Fits o x):∃y,x=some y:=by
 cases hj:isJ o with
 |false=>exact⟨_,yzJ h hj⟩|true=>cases o with
  |mapIter m n s k=>cases m with
   |none=>obtain⟨c,T,h,_⟩:=h;exact⟨_,h⟩
   |some a=>exact⟨_,h⟩
  |_=>cases hj
theorem nj_is{x:Option Obj}{o:Obj}(h:nj x=some o):x=some o/\isJ o=false:=by
 cases x with
 |none=>cases h
 |some y=>cases y with
  |mapIter m n s k=>cases m with
   |none=>cases h
   |some a=>cases h;exact⟨rfl,rfl⟩
  |_=>cases h;exact⟨rfl,rfl⟩
theorem nj_of{o:Obj}(hj:isJ o=false):nj (some o)=some o:=by
 cases o with
 |mapIter m n s k=>cases m with
  |none=>cases hj
  |some a=>rfl
 |_=>rfl
theorem ymX{x:Option Obj}{o:Obj}(h:nj x=some o):Fits o x:=by obtain⟨rfl,hj⟩:=nj_is h;exact yyU hj
def Sub(S:Mem)(w:World):Prop:=∀b o,S b=some o->Fits o w.heap[b]?
theorem lt_of_heap{w:World}{b:Nat}{o:Obj}(h:w.heap[b]? = some o):b<w.heap.size:=zhJ h
theorem Sub.lt{S:Mem}{w:World}(h:Sub S w){b:Nat}{o:Obj}(hb:S b=some o):b<w.heap.size:=by obtain⟨y,hy⟩:=xbC (h b o hb);exact lt_of_heap hy
theorem Sub.none{S:Mem}{w:World}(h:Sub S w){b:Nat}(hb:w.heap.size<=b):S b=none:=by
 cases e:S b with
 |none=>rfl|some o=>have:=h.lt e;omega
theorem Sub.ext{S:Mem}{w w':World}(h:Sub S w)(hx:Ext w w'):Sub S w':=fun b o e=>by rw[Below.block hx b (h.lt e)];exact h b o e
def gr(S:Mem)(w w':World):Mem:=fun b=>if b<w.heap.size then S b else nj w'.heap[b]?
theorem ypJ{S:Mem}{w w':World}(h:Sub S w):Mem.le S (gr S w w'):=fun b o e=>by unfold gr;rw[zI (h.lt e)];exact e
theorem gr_sub{S:Mem}{w w':World}(h:Sub S w)(hx:Ext w w'):Sub (gr S w w') w':=fun b o e=>by
 unfold gr at e;split at e
 ·exact h.ext hx b o e
 ·exact ymX e
def gf(S:Mem)(W:World)(F:Nat->Bool)(w:World):Mem:=fun b=>if b<W.heap.size then S b else if F b=true then nj w.heap[b]? else none
theorem gf_sub{S:Mem}{W w:World}{F:Nat->Bool}(h:Sub S W)(hx:Ext W w):Sub (gf S W F w) w:=fun b o e=>by
 unfold gf at e;split at e
 ·exact h.ext hx b o e
 ·split at e
  ·exact ymX e
  ·cases e
theorem gf_le{S:Mem}{W w:World}{F:Nat->Bool}(h:Sub S W):Mem.le S (gf S W F w):=fun b o e=>by unfold gf;rw[zI (h.lt e)];exact e
theorem gf_up{S:Mem}{W w:World}{F G:Nat->Bool}(hF:∀b,F b=true->G b=true):Mem.le (gf S W F w) (gf S W G w):=fun b o e=>by
 unfold gf at *;split at e
 ·rename_i h;rw[zI h];exact e
 ·rename_i h;split at e
  ·rename_i h2;rw[zH h,zI (hF b h2)];exact e
  ·cases e
abbrev yxK:TypeId:=5
def okfz(T:TypeId)(fz:Nat×Nat)(n:Nat):Prop:=fz=(0,0)∨(n<=fz.1/\T=yxK)
inductive R0 where
 |blk (b:Nat) (cs:LV) (T:TypeId)
 |obj (b:Nat) (o:Obj)
 |osl (v:Value) (n sz:Nat) (cs rs:LV) (T:TypeId)
inductive Res where
 /-- a block -/
 |blk (b:Nat) (cs:LV) (T:TypeId)
 /-- an object of another kind -/
 |obj (b:Nat) (o:Obj)
 /-- a slice from a block's head on, and what lies behind its end: n elements of sz cells; or the nil one -/
 |osl (v:Value) (n sz:Nat) (cs rs:LV) (T:TypeId)
 /-- many of them -/
 |many (rs:List R0)
def R0.up:R0->Res
 |.blk b cs T=>.blk b cs T|.obj b o=>.obj b o|.osl v n sz cs rs T=>.osl v n sz cs rs T
def vkey:Value->Option Nat
 |.slice (some a) _ _=>some a.block|_=>none
def R0.key:R0->Option Nat
 |.blk b _ _=>some b|.obj b _=>some b|.osl v _ _ _ _ _=>vkey v
def R0.holds(w:World):R0->Prop
 |.blk b cs T=>w.heap[b]? = some (.cells cs.toArray T (0,0))|.obj b o=>w.heap[b]? = some o|.osl v n sz cs rs T=>(v = .slice none 0 0/\n=0/\cs=[]/\rs=[]) ∨
   ∃b c fz,v=sl b 0 n c/\n<=c/\cs.length=n*sz/\c*sz<=(cs++rs).length/\w.heap[b]? = some (.cells (cs++rs).toArray T fz)/\okfz T fz (cs++rs).length
def R0.apart(rs:List R0):Prop:=rs.Pairwise fun p q=>∀b,p.key=some b->q.key≠some b
def Res.holds(w:World):Res->Prop
 |.blk b cs T=>w.heap[b]? = some (.cells cs.toArray T (0,0))|.obj b o=>w.heap[b]? = some o|.osl v n sz cs rs T=>(v = .slice none 0 0/\n=0/\cs=[]/\rs=[]) ∨
   ∃b c fz,v=sl b 0 n c/\n<=c/\cs.length=n*sz/\c*sz<=(cs++rs).length/\w.heap[b]? = some (.cells (cs++rs).toArray T fz)/\okfz T fz (cs++rs).length
 |.many rs=>(∀q∈rs,q.holds w)/\R0.apart rs
def Res.has:Res->Nat->Prop
 |.blk b _ _,i=>some b=some i|.obj b _,i=>some b=some i|.osl v _ _ _ _ _,i=>vkey v=some i|.many rs,i=>∃q∈rs,q.key=some i
def Res.keys:Res->List Nat
 |.blk b _ _=>[b]|.obj b _=>[b]|.osl v _ _ _ _ _=>match vkey v with
  |some b=>[b]|none=>[]
 |.many rs=>rs.filterMap R0.key
theorem Res.mem_keys{r:Res}{b:Nat}:b∈r.keys↔r.has b:=by
 cases r with
 |blk b' cs T=>simp only[Res.keys,Res.has,aZ,Option.some.injEq];exact eq_comm|obj b' o=>simp only[Res.keys,Res.has,aZ,Option.some.injEq];exact eq_comm|osl v n sz cs rs T=>
  simp only[Res.keys,Res.has];cases vkey v with
  |none=>simp|some c=>simp only[aZ,Option.some.injEq];exact eq_comm
 |many rs=>simp only[Res.keys,Res.has,List.mem_filterMap]
theorem R0.key_lt{w:World}{r:R0}{b:Nat}(h:r.holds w)(hk:r.key=some b):b<w.heap.size:=by
 cases r with
 |blk b' cs T=>cases hk;exact lt_of_heap h
 |obj b' o=>cases hk;exact lt_of_heap h
 |osl v n sz cs rs T=>
  rcases h with⟨rfl,_⟩|⟨b',c,fz,rfl,_,_,_,hh,_⟩
  ·cases hk
  ·cases hk;exact lt_of_heap hh
theorem R0.holds_of{w w':World}{r:R0}(h:r.holds w)(hk:∀b,r.key=some b->w'.heap[b]? = w.heap[b]?):r.holds w':=by
 cases r with
 |blk b' cs T=>show w'.heap[b']? = _;rw[hk b' rfl];exact h
 |obj b' o=>show w'.heap[b']? = _;rw[hk b' rfl];exact h
 |osl v n sz cs rs T=>
  rcases h with h|⟨b',c,fz,rfl,h1,h2,h3,hh,hf⟩
  ·exact .inl h
  ·exact .inr ⟨b',c,fz,rfl,h1,h2,h3,by rw[hk b' rfl];exact hh,hf⟩
theorem Res.key_lt{w:World}{r:Res}{b:Nat}(h:r.holds w)(hk:r.has b):b<w.heap.size:=by
 cases r with
 |blk b' cs T=>cases hk;exact lt_of_heap h
 |obj b' o=>cases hk;exact lt_of_heap h
 |osl v n sz cs rs T=>
  rcases h with⟨rfl,_⟩|⟨b',c,fz,rfl,_,_,_,hh,_⟩
  ·cases hk
  ·cases hk;exact lt_of_heap hh
 |many rs=>obtain⟨q,hq,hk⟩:=hk;exact R0.key_lt (h.1 q hq) hk
theorem Res.holds_of{w w':World}{r:Res}(h:r.holds w)(hk:∀b,r.has b->w'.heap[b]? = w.heap[b]?):r.holds w':=by
 cases r with
 |blk b' cs T=>show w'.heap[b']? = _;rw[hk b' rfl];exact h
 |obj b' o=>show w'.heap[b']? = _;rw[hk b' rfl];exact h
 |osl v n sz cs rs T=>
  rcases h with h|⟨b',c,fz,rfl,h1,h2,h3,hh,hf⟩
  ·exact .inl h
  ·exact .inr ⟨b',c,fz,rfl,h1,h2,h3,by rw[hk b' rfl];exact hh,hf⟩
 |many rs=>exact⟨fun q hq=>R0.holds_of (h.1 q hq) fun b hb=>hk b ⟨q,hq,hb⟩,h.2⟩
theorem R0.up_has{q:R0}{b:Nat}:q.up.has b↔q.key=some b:=by cases q<;>exact Iff.rfl
structure Fr (X:List Nat) (w0 w:World):Prop where
 os:w.os=w0.os
 tape:w.tape=w0.tape
 output:w.output=w0.output
 size:w0.heap.size<=w.heap.size
 block:∀k,k<w0.heap.size->k∉X->w.heap[k]? = w0.heap[k]?
theorem Fr.refl(X:List Nat)(w:World):Fr X w w:=⟨rfl,rfl,rfl,aK _,fun _ _ _=>rfl⟩
theorem Fr.ext{w0 w:World}(h:Fr [] w0 w):Ext w0 w:=⟨h.os,h.tape,h.output,h.size,fun k hk=>h.block k hk (by simp)⟩
theorem Fr.of{w0 w:World}(h:Ext w0 w):Fr [] w0 w:=⟨h.os,h.tape,h.output,h.size,fun k hk _=>h.block k hk⟩
structure Bas where
 S0:Mem
 X:List Nat
 w0:World
def lkR:List Res->Nat->Option Res
 |[],_=>none|e::_,0=>some e|_::l,k+1=>lkR l k
def stR:List Res->Nat->Res->List Res
 |[],_,_=>[]|_::l,0,e=>e::l|x::l,k+1,e=>x::stR l k e
def rmR:List Res->Nat->List Res
 |[],_=>[]|_::l,0=>l|x::l,k+1=>x::rmR l k
theorem zaW:∀(l:List Res) (k:Nat),lkR l k=l[k]?
 |[],_=>by simp[lkR]
 |_::_,0=>by simp[lkR]
 |_::l,k+1=>by simp[lkR,zaW l k]
theorem zpC{e:Res}:∀{l:List Res} {k:Nat} {x:Res},lkR l k=some x->lkR (stR l k e) k=some e
 |[],_,_,h=>by cases h
 |_::_,0,_,_=>rfl|_::l,k+1,_,h=>zpC (l:=l) (k:=k) h
theorem zbX{e:Res}:∀{l:List Res} {k j:Nat},j≠k->lkR (stR l k e) j=lkR l j
 |[],_,_,_=>rfl|_::_,0,0,h=>absurd rfl h|_::_,0,_+1,_=>rfl|_::_,_+1,0,_=>rfl|_::l,k+1,j+1,h=>zbX (l:=l) (by omega)
theorem yiY:∀{l:List Res} {k j:Nat},lkR (rmR l k) j=if j<k then lkR l j else lkR l (j+1)
 |[],_,_=>by simp[rmR,lkR]
 |_::l,0,j=>by simp[rmR,lkR]
 |_::l,k+1,0=>by simp[rmR,lkR]
 |_::l,k+1,j+1=>by simp[rmR,lkR,yiY (l:=l) (k:=k) (j:=j)]
structure HS (B:Bas) (S:Mem) (w:World) (L:List Res):Prop where
 fr:Fr B.X B.w0 w
 sub:Sub S w
 keep:∀b,b<B.w0.heap.size->b∉B.X->S b=B.S0 b
 own:∀k r,lkR L k=some r->r.holds w
 old:∀k r b,lkR L k=some r->r.has b->(B.w0.heap.size<=b∨b∈B.X)/\S b=none
 inj:∀i j r s b,lkR L i=some r->lkR L j=some s->r.has b->s.has b->i=j
theorem HS.start{S:Mem}{w:World}(h:Sub S w):HS ⟨S,[],w⟩ S w []:=
 ⟨Fr.refl _ _,h,fun _ _ _=>rfl,fun _ _ h=>by simp[lkR]at h,fun _ _ _ h=>by simp[lkR]at h,fun _ _ _ _ _ h=>by simp[lkR]at h⟩
theorem HS.toExt{S0 S:Mem}{w0 w:World}{L:List Res}(H:HS ⟨S0,[],w0⟩ S w L):Ext w0 w:=H.fr.ext
def cut(S:Mem):Mem:=fun b=>nj (S b)
theorem cut_le{S:Mem}:Mem.le (cut S) S:=fun _ _ e=>(nj_is e).1
theorem cut_at{S:Mem}{b:Nat}{o:Obj}(h:S b=some o)(hj:isJ o=false):cut S b=some o:=by unfold cut;rw[h];exact nj_of hj
def NoJ(S:Mem):Prop:=∀b o,S b=some o->isJ o=false
theorem cut_noJ{S:Mem}:NoJ (cut S):=fun _ _ e=>(nj_is e).2
theorem HS.gr{S0 S:Mem}{w0 w:World}{L:List Res}(H:HS ⟨S0,[],w0⟩ S w L):Mem.le (cut S) (gr S0 w0 w):=fun b o e=>by
 obtain⟨e,hj⟩:=nj_is e;unfold Go.Proofs.YtopanhneegpgcaaGreatDoor.gr;by_cases h:b<w0.heap.size
 ·rw[zI h];have h2:S b=S0 b:=H.keep b h (by simp);rw[<-h2];exact e
 ·rw[zH h,yzJ (H.sub b o e) hj];exact nj_of hj
section
variable {B:Bas}{S S':Mem}{w w':World}{L:List Res}
theorem HS.res_lt(H:HS B S w L){k b:Nat}{r:Res}(hk:lkR L k=some r)(hb:r.has b):b<w.heap.size:=Res.key_lt (H.own k r hk) hb
theorem Fr.more{X:List Nat}{a b c:World}(h:Fr X a b)(k:Ext b c):Fr X a c:=
 ⟨k.os.trans h.os,k.tape.trans h.tape,k.output.trans h.output,aY h.size k.size,fun i hi hx=>(k.block i (cE hi h.size)).trans (h.block i hi hx)⟩
theorem HS.ext(H:HS B S w L)(hx:Ext w w'):HS B S w' L:=
 ⟨H.fr.more hx,H.sub.ext hx,H.keep,fun k r hk=>Res.holds_of (H.own k r hk) fun b hb=>hx.block b (H.res_lt hk hb),H.old,H.inj⟩
theorem HS.call(H:HS B S w L)(hx:Ext w w'):HS B (Go.Proofs.YtopanhneegpgcaaGreatDoor.gr S w w') w' L:=
 ⟨H.fr.more hx,gr_sub H.sub hx,fun b hb hx=>by
   unfold Go.Proofs.YtopanhneegpgcaaGreatDoor.gr;rw[zI (cE hb H.fr.size)];exact H.keep b hb hx,
  fun k r hk=>Res.holds_of (H.own k r hk) fun b hb=>hx.block b (H.res_lt hk hb),
  fun k r b hk hb=>⟨(H.old k r b hk hb).1,by unfold Go.Proofs.YtopanhneegpgcaaGreatDoor.gr;rw[zI (H.res_lt hk hb)];exact(H.old k r b hk hb).2⟩,H.inj⟩
theorem HS.callF{F:Nat->Bool}(H:HS B S w L)(hx:Ext w w'):HS B (Go.Proofs.YtopanhneegpgcaaGreatDoor.gf S w F w') w' L:=
 ⟨H.fr.more hx,gf_sub H.sub hx,fun b hb hx=>by
   unfold Go.Proofs.YtopanhneegpgcaaGreatDoor.gf;rw[zI (cE hb H.fr.size)];exact H.keep b hb hx,
  fun k r hk=>Res.holds_of (H.own k r hk) fun b hb=>hx.block b (H.res_lt hk hb),
  fun k r b hk hb=>⟨(H.old k r b hk hb).1,by unfold Go.Proofs.YtopanhneegpgcaaGreatDoor.gf;rw[zI (H.res_lt hk hb)];exact(H.old k r b hk hb).2⟩,H.inj⟩
theorem HS.drew(H:HS B S w L):HS B S w.drew L:=H.ext (Ext.drew w)
theorem HS.push(H:HS B S w L)(hx:Ext w w'){r:Res}(hr:r.holds w')(hn:∀b,r.has b->w.heap.size<=b):HS B S w' (r::L):=by
 have H':=H.ext hx;refine⟨H'.fr,H'.sub,H'.keep,?_,?_,?_⟩
 ·intro k s hk;cases k with
  |zero=>cases hk;exact hr
  |succ k=>exact H'.own k s hk
 ·intro k s b hk hb;cases k with
  |zero=>cases hk;exact⟨.inl (aY H.fr.size (hn b hb)),H.sub.none (hn b hb)⟩
  |succ k=>exact H.old k s b hk hb
 ·intro i j s t b hi hj h1 h2;cases i with
  |zero=>
   cases j with
   |zero=>rfl|succ j=>cases hi;have a1:=hn b h1;have a2:=H.res_lt hj h2;omega
  |succ i=>
   cases j with
   |zero=>cases hj;have a1:=hn b h2;have a2:=H.res_lt hi h1;omega
   |succ j=>rw[H.inj i j s t b hi hj h1 h2]
theorem HS.upd(H:HS B S w L){k:Nat}{r r':Res}(hk:lkR L k=some r)(hsz:w.heap.size<=w'.heap.size)(hos:w'.os=w.os)(htp:w'.tape=w.tape)(hop:w'.output=w.output) (hb:∀i,i<w.heap.size->¬r.has i->w'.heap[i]? = w.heap[i]?) (hr:r'.holds w') (hkey:∀b,r'.has b->r.has b∨w.heap.size<=b):HS B S w' (stR L k r'):=by
 refine⟨⟨hos.trans H.fr.os,htp.trans H.fr.tape,hop.trans H.fr.output,aY H.fr.size hsz,?_⟩,?_,H.keep,?_,?_,?_⟩
 ·intro i hi hx;rw[hb i (cE hi H.fr.size) (fun e=>?_)]
  ·exact H.fr.block i hi hx
  ·rcases(H.old k r i hk e).1 with h|h
   ·omega
   ·exact hx h
 ·intro b o e;rw[hb b (H.sub.lt e) (fun e2=>?_)]
  ·exact H.sub b o e
  ·rw[(H.old k r b hk e2).2]at e;cases e
 ·intro j s hj;by_cases hjk:j=k
  ·subst hjk;rw[zpC hk]at hj;cases hj;exact hr
  ·rw[zbX hjk]at hj;exact Res.holds_of (H.own j s hj) fun b hbs=>hb b (H.res_lt hj hbs) fun e=>hjk (H.inj j k s r b hj hk hbs e)
 ·intro j s b hj hbs;by_cases hjk:j=k
  ·subst hjk;rw[zpC hk]at hj;cases hj;rcases hkey b hbs with h|h
   ·exact H.old j r b hk h
   ·exact⟨.inl (aY H.fr.size h),H.sub.none h⟩
  ·rw[zbX hjk]at hj;exact H.old j s b hj hbs
 ·intro i j s t b hi hj h1 h2;by_cases hik:i=k
  ·by_cases hjk:j=k
   ·omega
   ·subst hik;rw[zpC hk]at hi;cases hi;rw[zbX hjk]at hj;rcases hkey b h1 with h|h
    ·exact absurd (H.inj j i t r b hj hk h2 h) hjk
    ·have:=H.res_lt hj h2;omega
  ·rw[zbX hik]at hi;by_cases hjk:j=k
   ·subst hjk;rw[zpC hk]at hj;cases hj;rcases hkey b h2 with h|h
    ·exact absurd (H.inj i j s r b hi hk h1 h) hik
    ·have:=H.res_lt hi h1;omega
   ·rw[zbX hjk]at hj;exact H.inj i j s t b hi hj h1 h2
theorem HS.rm(H:HS B S w L)(k:Nat):HS B S w (rmR L k):=by
 refine⟨H.fr,H.sub,H.keep,fun j r hj=>?_,fun j r b hj=>?_,fun i j r s b hi hj h1 h2=>?_⟩
 ·rw[yiY]at hj;split at hj
  ·exact H.own _ _ hj
  ·exact H.own _ _ hj
 ·rw[yiY]at hj;split at hj
  ·exact H.old _ _ _ hj
  ·exact H.old _ _ _ hj
 ·rw[yiY]at hi hj;split at hi<;>split at hj<;>have:=H.inj _ _ _ _ _ hi hj h1 h2<;>omega
def selR(L:List Res):List Nat->List Res
 |[]=>[]|j::js=>match lkR L j with
  |some r=>r::selR L js|none=>selR L js
def yfU(L:List Res):List Nat->Bool
 |[]=>true|j::js=>Nat.blt j L.length && !(js.any (aG j))&&yfU L js
theorem lkR_lt{l:List Res}{k:Nat}:k<l.length->∃r,lkR l k=some r:=fun h=>⟨l[k],by rw[zaW];simp[h]⟩
theorem zwG{L:List Res}:∀{js:List Nat},yfU L js=true->∀{i:Nat} {r:Res},lkR (selR L js) i=some r->∃j,js[i]? = some j/\lkR L j=some r
 |[],_,i,r,h=>by simp[selR,lkR]at h
 |j::js,hok,i,r,h=>by
  simp only[yfU,aH]at hok;have hj:j<L.length:=by have:=hok.1.1;rw[zmU]at this;simpa using this
  obtain⟨x,hx⟩:=lkR_lt hj;simp only[selR,hx]at h;cases i with
  |zero=>simp only[lkR,Option.some.injEq]at h;subst h;exact⟨j,rfl,hx⟩|succ i=>simp only[lkR]at h;obtain⟨j',h1,h2⟩:=zwG hok.2 h;exact⟨j',by simpa using h1,h2⟩
theorem yiA{L:List Res}:∀{js:List Nat},yfU L js=true->∀{i k j:Nat},js[i]? = some j->js[k]? = some j->i=k
 |[],_,i,k,j,h,_=>by simp at h
 |x::js,hok,i,k,j,hi,hk=>by
  simp only[yfU,aH,bE]at hok;have hx:∀y∈js,y≠x:=fun y hy e=>by have:=List.any_eq_false.1 hok.1.2 y hy;subst e;simp at this
  cases i with
  |zero=>
   cases k with
   |zero=>rfl|succ k=>simp at hi hk;subst hi;exact absurd rfl (hx _ (bH hk))
  |succ i=>
   cases k with
   |zero=>simp at hi hk;subst hk;exact absurd rfl (hx _ (bH hi))|succ k=>rw[yiA hok.2 (i:=i) (k:=k) (by simpa using hi) (by simpa using hk)]
theorem HS.sel(H:HS B S w L)(js:List Nat)(hok:yfU L js=true):HS B S w (selR L js):=by
 refine⟨H.fr,H.sub,H.keep,fun i r hi=>?_,fun i r b hi hb=>?_,fun i k r s b hi hk h1 h2=>?_⟩
 ·obtain⟨j,_,h⟩:=zwG hok hi;exact H.own j r h
 ·obtain⟨j,_,h⟩:=zwG hok hi;exact H.old j r b h hb
 ·obtain⟨j,e1,g1⟩:=zwG hok hi;obtain⟨j',e2,g2⟩:=zwG hok hk;obtain rfl:=H.inj j j' r s b g1 g2 h1 h2;exact yiA hok e1 e2
def zbD:List Res->List Nat
 |[]=>[]|r::l=>r.keys++zbD l
theorem zdF{b:Nat}:∀{l:List Res},b∈zbD l↔∃k r,lkR l k=some r/\r.has b
 |[]=>by simp[zbD,lkR]
 |x::l=>by
  have ih:=zdF (b:=b) (l:=l);unfold zbD;rw[bI,Res.mem_keys];constructor
  ·rintro(h|h)
   ·exact⟨0,x,rfl,h⟩
   ·obtain⟨k,r,h1,h2⟩:=ih.1 h;exact⟨k+1,r,h1,h2⟩
  ·rintro⟨k,r,h1,h2⟩;cases k with
   |zero=>simp only[lkR,Option.some.injEq]at h1;subst h1;exact .inl h2|succ k=>exact .inr (ih.2 ⟨k,r,h1,h2⟩)
theorem HS.adopt(H:HS B S w L){b:Nat}{l:LV}{T:TypeId}(hb:B.w0.heap.size<=b)(hS:S b=none)(hh:w.heap[b]? = some (.cells l.toArray T (0,0)))(hn:∀c∈zbD L,c≠b):HS B S w (.blk b l T::L):=by
 refine⟨H.fr,H.sub,H.keep,?_,?_,?_⟩
 ·intro k s hk;cases k with
  |zero=>cases hk;exact hh
  |succ k=>exact H.own k s hk
 ·intro k s c hk hc;cases k with
  |zero=>cases hk;cases hc;exact⟨.inl hb,hS⟩
  |succ k=>exact H.old k s c hk hc
 ·intro i j s t c hi hj h1 h2;cases i with
  |zero=>
   cases j with
   |zero=>rfl|succ j=>cases hi;cases h1;exact absurd rfl (hn b (zdF.2 ⟨j,t,hj,h2⟩))
  |succ i=>
   cases j with
   |zero=>cases hj;cases h2;exact absurd rfl (hn b (zdF.2 ⟨i,s,hi,h1⟩))
   |succ j=>rw[H.inj i j s t c hi hj h1 h2]
theorem HS.hand(H:HS B S w L)(js:List Nat)(hok:yfU L js=true):HS ⟨S,zbD (selR L js),w⟩ S w (selR L js):=by have h:=H.sel js hok;exact⟨Fr.refl _ _,h.sub,fun _ _ _=>rfl,h.own,fun k r b hk hb=>⟨.inr (zdF.2 ⟨k,r,hk,hb⟩),(h.old k r b hk hb).2⟩,h.inj⟩
theorem HS.frame{S':Mem}{N:List Res}(H:HS B S w L)(js ks:List Nat)(hok:yfU L (js++ks)=true)(H':HS ⟨S,zbD (selR L js),w⟩ S' w' N):HS B S' w' (N++selR L ks)/\Mem.le S S':=by
 have hokj:yfU L js=true:=by
  clear H';induction js with
  |nil=>rfl|cons j js ih=>simp only[bL,yfU,aH,bE,List.any_append,Bool.or_eq_false_iff]at hok ⊢;exact⟨⟨hok.1.1,hok.1.2.1⟩,ih hok.2⟩
 have hokk:yfU L ks=true:=by
  clear H' hokj;induction js with
  |nil=>exact hok|cons j js ih=>simp only[bL,yfU,aH]at hok;exact ih hok.2
 have apart:∀{i k j:Nat},js[i]? = some j->ks[k]? = some j->False:=fun {i k j} hi hk=>by
  have h1:(js++ks)[i]? = some j:=by rw[aE (aC.1 hi).1];exact hi
  have h2:(js++ks)[js.length+k]? = some j:=by rw[aF (by omega)];simpa using hk
  have:=yiA hok h1 h2;have:=(aC.1 hi).1;omega
 have hfr:=H'.fr;have nokey:∀b,S b≠none->b∉zbD (selR L js):=fun b hb hm=>by obtain⟨i,s,h1,h2⟩:=zdF.1 hm;obtain⟨j',_,h'⟩:=zwG hokj h1;exact hb (H.old j' s b h' h2).2
 have hle:Mem.le S S':=fun b o e=>by rw[H'.keep b (H.sub.lt e) (nokey b (by rw[e];simp))];exact e
 -- a resource that stays
 have stay:∀{k:Nat} {r:Res},lkR (selR L ks) k=some r->∃j,lkR L j=some r/\∀b,r.has b->b<w.heap.size/\b∉zbD (selR L js):=fun {k r} hk=>by obtain⟨j,e,h⟩:=zwG hokk hk;refine⟨j,h,fun b hb=>⟨H.res_lt h hb,fun hm=>?_⟩⟩;obtain⟨i,s,h1,h2⟩:=zdF.1 hm;obtain⟨j',e',h'⟩:=zwG hokj h1;obtain rfl:=H.inj j j' r s b h h' hb h2;exact apart e' e
 have gone:∀{b:Nat},b∈zbD (selR L js)->B.w0.heap.size<=b∨b∈B.X:=fun {b} hm=>by obtain⟨i,s,h1,h2⟩:=zdF.1 hm;obtain⟨j',_,h'⟩:=zwG hokj h1;exact(H.old j' s b h' h2).1
 have lkA:∀k,lkR (N++selR L ks) k=if k<N.length then lkR N k else lkR (selR L ks) (k-N.length):=fun k=>by rw[zaW,zaW,zaW,List.getElem?_append]
 refine⟨⟨⟨hfr.os.trans H.fr.os,hfr.tape.trans H.fr.tape,hfr.output.trans H.fr.output,aY H.fr.size hfr.size,fun i hi hx=>?_⟩,H'.sub,fun b hb hbx=>?_,fun k r hk=>?_,fun k r b hk hb=>?_,fun i j r s b hi hj h1 h2=>?_⟩,hle⟩
 ·rw[hfr.block i (cE hi H.fr.size) (fun hm=>?_)]
  ·exact H.fr.block i hi hx
  ·rcases gone hm with h|h
   ·omega
   ·exact hx h
 ·rw[H'.keep b (cE hb H.fr.size) (fun hm=>?_)]
  ·exact H.keep b hb hbx
  ·rcases gone hm with h|h
   ·omega
   ·exact hbx h
 ·rw[lkA]at hk;split at hk
  ·exact H'.own k r hk
  ·obtain⟨j,h,hs⟩:=stay hk;exact Res.holds_of (H.own j r h) fun b hb=>hfr.block b (hs b hb).1 (hs b hb).2
 ·rw[lkA]at hk;split at hk
  ·have h:=H'.old k r b hk hb;refine⟨?_,h.2⟩;rcases h.1 with h1|h1
   ·exact .inl (aY H.fr.size h1)
   ·exact gone h1
  ·obtain⟨j,h,hs⟩:=stay hk;exact⟨(H.old j r b h hb).1,by rw[H'.keep b (hs b hb).1 (hs b hb).2];exact(H.old j r b h hb).2⟩
 ·rw[lkA]at hi hj;split at hi<;>split at hj
  ·exact H'.inj i j r s b hi hj h1 h2
  ·obtain⟨j',h,hs⟩:=stay hj;rcases(H'.old i r b hi h1).1 with g|g
   ·have:=(hs b h2).1;have g':w.heap.size<=b:=g;omega
   ·exact absurd g (hs b h2).2
  ·obtain⟨j',h,hs⟩:=stay hi;rcases(H'.old j s b hj h2).1 with g|g
   ·have:=(hs b h1).1;have g':w.heap.size<=b:=g;omega
   ·exact absurd g (hs b h1).2
  ·have:=(H.sel ks hokk).inj _ _ r s b hi hj h1 h2;omega
theorem HS.fix(H:HS B S w L){k:Nat}{r:Res}(hk:lkR L k=some r){b:Nat}{o:Obj}(hb:r.has b)(ho:Fits o w.heap[b]?):∃S',Mem.le S S'/\S' b=some o/\HS B S' w (rmR L k):=by
 refine⟨fun i=>if i=b then some o else S i,fun i p e=>?_,by simp,?_⟩
 ·by_cases h:i=b
  ·subst h;rw[(H.old k r i hk hb).2]at e;cases e
  ·simp[h,e]
 ·have h':=H.rm k;have hold:=(H.old k r b hk hb).1;refine⟨h'.fr,fun i p e=>?_,fun i hi hx=>?_,h'.own,fun j s i hj hs=>?_,h'.inj⟩
  ·by_cases h:i=b
   ·subst h;simp at e;subst e;exact ho
   ·simp[h]at e;exact H.sub i p e
  ·have:i≠b:=fun e=>by
    subst e;rcases hold with h|h
    ·omega
    ·exact hx h
   simp[this,H.keep i hi hx]
  ·have h1:=h'.old j s i hj hs;refine⟨h1.1,?_⟩;have:i≠b:=fun e=>by subst e;rw[yiY]at hj;split at hj<;>have:=H.inj _ _ _ _ _ hj hk hs hb<;>omega
   simp[this,h1.2]
end
def SlS(S:Mem)(v:Value)(n sz:Nat)(cs:LV):Prop:=
 ((∃a,v = .slice a 0 0)/\n=0/\cs=[])∨∃b o c ds T fz,v=sl b o n c/\n<=c/\S b=some (.cells ds.toArray T fz)/\o+n*sz<=ds.length/\piece ds o (n*sz)=cs
theorem SlS.mono{S T:Mem}{v:Value}{n sz:Nat}{cs:LV}(h:SlS S v n sz cs)(hl:Mem.le S T):SlS T v n sz cs:=by
 rcases h with h|⟨b,o,c,ds,E,fz,h1,h2,h3,h4,h5⟩
 ·exact .inl h
 ·exact .inr ⟨b,o,c,ds,E,fz,h1,h2,hl _ _ h3,h4,h5⟩
def SlW(w:World)(v:Value)(n sz:Nat)(cs:LV):Prop:=
 ((∃a,v = .slice a 0 0)/\n=0/\cs=[])∨∃b o c ds T fz,v=sl b o n c/\n<=c/\w.heap[b]? = some (.cells ds.toArray T fz)/\o+n*sz<=ds.length/\piece ds o (n*sz)=cs
theorem SlS.w{S:Mem}{w:World}{v:Value}{n sz:Nat}{cs:LV}(h:SlS S v n sz cs)(hs:Sub S w):SlW w v n sz cs:=by
 rcases h with h|⟨b,o,c,ds,E,fz,h1,h2,h3,h4,h5⟩
 ·exact .inl h
 ·exact .inr ⟨b,o,c,ds,E,fz,h1,h2,hs _ _ h3,h4,h5⟩
theorem ziN{l:LV}{o n:Nat}(h:o+n<=l.length):(piece l o n).length=n:=by rw[zaS];simp;omega
theorem SlW.len{w:World}{v:Value}{n sz:Nat}{cs:LV}(h:SlW w v n sz cs):cs.length=n*sz:=by
 rcases h with⟨_,rfl,rfl⟩|⟨b,o,c,ds,E,fz,h1,h2,h3,h4,rfl⟩
 ·simp
 ·exact ziN h4
theorem SlS.len{S:Mem}{v:Value}{n sz:Nat}{cs:LV}(h:SlS S v n sz cs):cs.length=n*sz:=by
 rcases h with⟨_,rfl,rfl⟩|⟨b,o,c,ds,E,fz,h1,h2,h3,h4,rfl⟩
 ·simp
 ·exact ziN h4
theorem Res.slW{w:World}{v:Value}{n sz:Nat}{cs rs:LV}{T:TypeId}(h:(Res.osl v n sz cs rs T).holds w):SlW w v n sz cs:=by
 rcases h with⟨h1,h2,h3,_⟩|⟨b,c,fz,rfl,h1,h2,h3,h4,_⟩
 ·exact .inl ⟨⟨_,h1⟩,h2,h3⟩
 ·refine .inr ⟨b,0,c,cs++rs,T,fz,rfl,h1,h4,by simp;omega,?_⟩;rw[zaS,cO,<-h2,List.take_left'];rfl
theorem SlS.nil(S:Mem)(sz:Nat):SlS S (.slice none 0 0) 0 sz []:=.inl ⟨⟨_,rfl⟩,rfl,rfl⟩
theorem HS.slW{B:Bas}{S:Mem}{w:World}{L:List Res}(H:HS B S w L){k:Nat}{v:Value}{n sz:Nat}{cs rs:LV}{T:TypeId}(hk:lkR L k=some (.osl v n sz cs rs T)):SlW w v n sz cs:=Res.slW (H.own k _ hk)
theorem HS.fixS{B:Bas}{S:Mem}{w:World}{L:List Res}(H:HS B S w L){k:Nat}{v:Value}{n sz:Nat}{cs rs:LV}{T:TypeId}(hk:lkR L k=some (.osl v n sz cs rs T)):∃S',Mem.le S S'/\SlS S' v n sz cs/\HS B S' w (rmR L k):=by
 have hh:=H.own k _ hk;rcases hh with⟨h1,h2,h3,_⟩|⟨b,c,fz,rfl,h1,h2,h3,h4,_⟩
 ·exact⟨S,Mem.le_refl S,.inl ⟨⟨_,h1⟩,h2,h3⟩,H.rm k⟩
 ·obtain⟨S',hle,hb,H'⟩:=H.fix hk (b:=b) (o:=.cells (cs++rs).toArray T fz) rfl h4;refine⟨S',hle,.inr ⟨b,0,c,cs++rs,T,fz,rfl,h1,hb,by simp;omega,?_⟩,H'⟩;rw[zaS,cO,<-h2,List.take_left'];rfl
theorem HS.junk{B:Bas}{S:Mem}{w:World}{L:List Res}(H:HS B S w L){k:Nat}{v:Value}{n:Nat}{cs rs:LV}{T:TypeId}(hk:lkR L k=some (.osl v n 1 cs rs T))(hT:T≠yxK):∃S',Mem.le S S'/\HS B S' w (rmR L k)/\((∃a,v = .slice a 0 0/\n=0)∨∃b c m,v = .slice (some ⟨b,0,none⟩) n c/\n<=c/\S' b=some (jm m T)/\n<=m):=by
 have hh:=H.own k _ hk;rcases hh with⟨rfl,rfl,_⟩|⟨b,c,fz,rfl,h1,h2,h3,h4,h5⟩
 ·exact⟨S,Mem.le_refl S,H.rm k,.inl ⟨none,rfl,rfl⟩⟩
 ·have hz:fz=(0,0):=h5.resolve_right fun h=>hT h.2;subst hz;obtain⟨S',hle,hb,H'⟩:=H.fix hk (b:=b) (o:=jm (cs++rs).length T) rfl ⟨_,_,h4,by simp⟩;exact⟨S',hle,H',.inr ⟨b,c,_,rfl,h1,hb,by rw[aD];omega⟩⟩
theorem HS.jset{B:Bas}{S:Mem}{w w':World}{L:List Res}(H:HS B S w L)(hJ:NoJ B.S0){b n:Nat}{T:TypeId}(hb:S b=some (jm n T)){c:Array Value}{T':TypeId}(hc:c.size=n)(hw:w'.heap[b]? = some (.cells c T' (0,0)))(hsz:w.heap.size<=w'.heap.size)(hos:w'.os=w.os)(htp:w'.tape=w.tape)(hop:w'.output=w.output) (ho:∀i,i≠b->w'.heap[i]? = w.heap[i]?):HS B S w' L:=by
 refine⟨⟨hos.trans H.fr.os,htp.trans H.fr.tape,hop.trans H.fr.output,aY H.fr.size hsz,fun i hi hx=>?_⟩,fun i o e=>?_,H.keep,fun k r hk=>Res.holds_of (H.own k r hk) fun i hi=>ho i fun e=>?_,H.old,H.inj⟩
 ·rw[ho i (fun e=>?_)]
  ·exact H.fr.block i hi hx
  ·subst e;have:=hJ i _ ((H.keep i hi hx).symm.trans hb);cases this
 ·by_cases e2:i=b
  ·subst e2;rw[hb]at e;cases e;exact⟨c,T',hw,hc⟩
  ·rw[ho i e2];exact H.sub i o e
 ·subst e;have:=(H.old k r i hk hi).2;rw[hb]at this;cases this
def subN:Value->Nat->Nat->Nat->Value
 |.slice a _ c,sz,lo,hi=>.slice (if c=lo then a else a.map (·.add (lo*sz))) (hi-lo) (c-lo)|v,_,_,_=>v
theorem zpA(l:LV)(o n p m:Nat)(h:p+m<=n):piece (piece l o n) p m=piece l (o+p) m:=by simp only[zaS];rw[gK,List.take_take,eM];congr 1;omega
theorem SlS.sub{S:Mem}{v:Value}{n sz:Nat}{cs:LV}(h:SlS S v n sz cs){lo hi:Nat}(h1:lo<=hi)(h2:hi<=n):SlS S (subN v sz lo hi) (hi-lo) sz (piece cs (lo*sz) ((hi-lo)*sz)):=by
 rcases h with⟨⟨a,rfl⟩,rfl,rfl⟩|⟨b,o,c,ds,T,fz,rfl,h3,h4,h5,rfl⟩
 ·obtain rfl:hi=0:=by omega
  obtain rfl:lo=0:=by omega
  exact .inl ⟨⟨a,by simp[subN]⟩,rfl,by simp[piece]⟩
 ·have hm:lo*sz+(hi-lo)*sz<=n*sz:=by rw[<-bN];exact cJ sz (by omega)
  by_cases hc:c=lo
  ·obtain rfl:hi=lo:=by omega
   refine .inr ⟨b,o,c-hi,ds,T,fz,?_,by omega,h4,by simp;omega,?_⟩
   ·simp[subN,sl,hc]
   ·simp[piece]
  ·refine .inr ⟨b,o+lo*sz,c-lo,ds,T,fz,?_,by omega,h4,by omega,?_⟩
   ·simp[subN,sl,hc,zbY]
   ·rw[zpA _ _ _ _ _ hm]
def CellAt(S:Mem)(b o:Nat)(c:LV):Prop:=∃ds T fz,S b=some (.cells ds.toArray T fz)/\o+c.length<=ds.length/\piece ds o c.length=c
theorem CellAt.mono{S T:Mem}{b o:Nat}{c:LV}(h:CellAt S b o c)(hl:Mem.le S T):CellAt T b o c:=by obtain⟨ds,E,fz,h1,h2⟩:=h;exact⟨ds,E,fz,hl _ _ h1,h2⟩
theorem SlS.at{S:Mem}{v:Value}{n sz i:Nat}{cs:LV}(h:SlS S v n sz cs)(hi:i<n):∃b o c,v=sl b o n c/\CellAt S b (o+i*sz) (piece cs (i*sz) sz):=by
 rcases h with⟨_,rfl,rfl⟩|⟨b,o,c,ds,T,fz,rfl,h3,h4,h5,rfl⟩
 ·omega
 ·have hm:i*sz+sz<=n*sz:=by have:=cJ sz (show i+1<=n by omega);rw[bN,dR]at this;exact this
  have hl:(piece (piece ds o (n*sz)) (i*sz) sz).length=sz:=ziN (by rw[ziN h5];exact hm);refine⟨b,o,c,rfl,ds,T,fz,h4,by rw[hl];omega,?_⟩;rw[hl,zpA _ _ _ _ _ hm]
end
section
section
variable {α β γ σ:Type}
theorem bnd{o:Option α}{f:α->Option β}{r:β}(h:o.bind f=some r):∃x,o=some x/\f x=some r:=by
 cases o with
 |none=>cases h
 |some x=>exact⟨x,rfl,h⟩
theorem cnd_t{c:Bool}{a b r:α}(h:(bif c then a else b)=r)(hc:c=true):a=r:=by subst hc;exact h
theorem cnd_f{c:Bool}{a b r:α}(h:(bif c then a else b)=r)(hc:c=false):b=r:=by subst hc;exact h
def jnO(o:α⊕β)(f:α->Option γ)(g:β->Option γ):Option γ:=match o with
 |.inl a=>f a|.inr b=>g b
def jn(o:Option (α⊕β))(f:α->Option γ)(g:β->Option γ):Option γ:=o.bind fun o=>jnO o f g
theorem yyJ{o:Option (α⊕β)}{f:α->Option γ}{g:β->Option γ}{r:γ}(h:jn o f g=some r):∃x,o=some x/\jnO x f g=some r:=bnd h
def zrW(body:σ->Option (σ⊕β)):Nat->σ->Option β
 |0,_=>none|k+1,s=>jn (body s) (zrW body k) some
def FU:Nat:=1099511627776
def iter(body:σ->Option (σ⊕β))(s:σ):Option β:=zrW body FU s
theorem zdP{body:σ->Option (σ⊕β)}{k:Nat}{s s':σ}(h:body s=some (.inl s')):zrW body (k+1) s=zrW body k s':=by simp only[zrW,jn,h,dO,jnO]
theorem zeS{body:σ->Option (σ⊕β)}{k:Nat}{s:σ}{b:β}(h:body s=some (.inr b)):zrW body (k+1) s=some b:=by simp only[zrW,jn,h,dO,jnO]
theorem yoX{body:σ->Option (σ⊕β)}(I:σ->Prop)(m:σ->Nat)(G:β->Prop)(hr:∀s,I s->(∃s',body s=some (.inl s')/\I s'/\m s'<m s)∨∃b,body s=some (.inr b)/\G b):∀(k:Nat) (s:σ),I s->m s<k->∃b,zrW body k s=some b/\G b
 |0,_,_,h=>by omega
 |k+1,s,hI,hk=>by
  rcases hr s hI with⟨s',h1,h2,h3⟩|⟨b,h1,h2⟩
  ·rw[zdP h1];exact yoX I m G hr k s' h2 (by omega)
  ·exact⟨b,zeS h1,h2⟩
def idx(l:List α)(i:Int):Option α:=bif decide (i<0)then none else l[i.toNat]?
theorem zrO{l:List α}{i:Int}{x:α}(h:idx l i=some x):i=(i.toNat:Int)/\l[i.toNat]? = some x:=by
 unfold idx at h;by_cases hi:i<0
 ·simp[hi]at h
 ·simp only[hi,decide_false,zF]at h;exact⟨by omega,h⟩
theorem idx_nat{l:List α}(i:Nat):idx l (i:Int)=l[i]?:=by
 have h:¬((i:Int)<0):=by omega
 simp only[idx,h,decide_false,zF,Int.toNat_natCast]
def sub3(l:List α)(lo hi:Int):Option (List α):=bif decide (0<=lo)&&decide (lo<=hi)&&decide (hi<=(l.length:Int))then some ((l.take hi.toNat).drop lo.toNat)else none
theorem yiU{l r:List α}{lo hi:Int}(h:sub3 l lo hi=some r):lo=(lo.toNat:Int)/\hi=(hi.toNat:Int)/\lo.toNat<=hi.toNat/\hi.toNat<=l.length/\(l.take hi.toNat).drop lo.toNat=r:=by
 unfold sub3 at h;by_cases hc:decide (0<=lo)&&decide (lo<=hi)&&decide (hi<=(l.length:Int))
 ·rw[hc]at h;simp only[aH,zD]at hc;simp only[zE,Option.some.injEq]at h;exact⟨by omega,by omega,by omega,by omega,h⟩
 ·simp only[cB]at hc;rw[hc]at h;cases h
def subL(l:List α)(lo:Int):Option (List α):=bif decide (0<=lo)&&decide (lo<=(l.length:Int))then some (l.drop lo.toNat)else none
theorem ycL{l r:List α}{lo:Int}(h:subL l lo=some r):lo=(lo.toNat:Int)/\lo.toNat<=l.length/\l.drop lo.toNat=r:=by
 unfold subL at h;by_cases hc:decide (0<=lo)&&decide (lo<=(l.length:Int))
 ·rw[hc]at h;simp only[aH,zD]at hc;simp only[zE,Option.some.injEq]at h;exact⟨by omega,by omega,h⟩
 ·simp only[cB]at hc;rw[hc]at h;cases h
def subH(l:List α)(hi:Int):Option (List α):=bif decide (0<=hi)&&decide (hi<=(l.length:Int))then some (l.take hi.toNat)else none
theorem zvH{l r:List α}{hi:Int}(h:subH l hi=some r):hi=(hi.toNat:Int)/\hi.toNat<=l.length/\l.take hi.toNat=r:=by
 unfold subH at h;by_cases hc:decide (0<=hi)&&decide (hi<=(l.length:Int))
 ·rw[hc]at h;simp only[aH,zD]at hc;simp only[zE,Option.some.injEq]at h;exact⟨by omega,by omega,h⟩
 ·simp only[cB]at hc;rw[hc]at h;cases h
def LIM:Nat:=68719476736
def app(a b:List α):Option (List α):=bif decide (a.length+b.length<=LIM)then some (a++b)else none
theorem ziE{a b r:List α}(h:app a b=some r):a.length+b.length<=68719476736/\a++b=r:=by
 unfold app at h;by_cases hc:a.length+b.length<=LIM
 ·simp only[hc,decide_true,zE,Option.some.injEq]at h;exact⟨hc,h⟩
 ·simp only[hc,decide_false,zF]at h;cases h
theorem app_okO{a b:List α}(h:a.length+b.length<=68719476736):app a b=some (a++b):=by have h':a.length+b.length<=LIM:=h;simp only[app,h',decide_true,zE]
def mkL(n:Int)(z:α):Option (List α):=bif decide (0<=n)&&decide (n<=(LIM:Int))then some (bC n.toNat z)else none
theorem mkL_some{n:Int}{z:α}{r:List α}(h:mkL n z=some r):0<=n/\n<=68719476736/\bC n.toNat z=r:=by
 unfold mkL at h;by_cases hc:decide (0<=n)&&decide (n<=(LIM:Int))
 ·rw[hc]at h;simp only[aH,zD]at hc;simp only[zE,Option.some.injEq]at h;exact⟨hc.1,hc.2,h⟩
 ·simp only[cB]at hc;rw[hc]at h;cases h
def setL(l:List α)(i:Int)(x:α):Option (List α):=bif decide (0<=i)&&decide (i<(l.length:Int))then some (l.set i.toNat x)else none
theorem zyQ{l r:List α}{i:Int}{x:α}(h:setL l i x=some r):i=(i.toNat:Int)/\i.toNat<l.length/\l.set i.toNat x=r:=by
 unfold setL at h;by_cases hc:decide (0<=i)&&decide (i<(l.length:Int))
 ·rw[hc]at h;simp only[aH,zD]at hc;simp only[zE,Option.some.injEq]at h;exact⟨by omega,by omega,h⟩
 ·simp only[cB]at hc;rw[hc]at h;cases h
def chk(c:Bool):Option Unit:=bif c then some ()else none
theorem zjK{c:Bool}{u:Unit}(h:chk c=some u):c=true:=by cases c with
 |true=>rfl|false=>cases h
end
abbrev w64(x:Int):Int:=IntKind.i64.wrap x
def i8(x:Int):UInt8:=UInt8.ofNat (x%256).toNat
def i16(x:Int):UInt16:=UInt16.ofNat (x%65536).toNat
def i32(x:Int):UInt32:=UInt32.ofNat (x%4294967296).toNat
def i64(x:Int):UInt64:=UInt64.ofNat (x%18446744073709551616).toNat
theorem yzL(x:Int):IntKind.u8.wrap x=((i8 x).toNat:Int):=by
 have e:IntKind.u8.wrap x=x%256:=by simp[IntKind.wrap,IntKind.signed,IntKind.bits]
 rw[e];simp[i8];omega
theorem i16_wrap(x:Int):IntKind.u16.wrap x=((i16 x).toNat:Int):=by
 have e:IntKind.u16.wrap x=x%65536:=by simp[IntKind.wrap,IntKind.signed,IntKind.bits]
 rw[e];simp[i16];omega
theorem yvG(x:Int):IntKind.u32.wrap x=((i32 x).toNat:Int):=by
 have e:IntKind.u32.wrap x=x%4294967296:=by simp[IntKind.wrap,IntKind.signed,IntKind.bits]
 rw[e];simp[i32];omega
theorem ytM(x:Int):IntKind.u64.wrap x=((i64 x).toNat:Int):=by
 have e:IntKind.u64.wrap x=x%18446744073709551616:=by simp[IntKind.wrap,IntKind.signed,IntKind.bits]
 rw[e];simp[i64];omega
theorem i8_of{x:Int}(h:0<=x)(h2:x<256):((i8 x).toNat:Int)=x:=by simp[i8];omega
theorem yzU{x:Int}(h:0<=x)(h2:x<4294967296):((i32 x).toNat:Int)=x:=by simp[i32];omega
theorem ypM{x:Int}(h:0<=x)(h2:x<18446744073709551616):((i64 x).toNat:Int)=x:=by simp[i64];omega
theorem i8_nat(b:UInt8):i8 (b.toNat:Int)=b:=by apply UInt8.toNat.inj;have:=i8_of (x:=(b.toNat:Int)) (by omega) (by have:=b.toNat_lt;omega);omega
theorem i8_rem(a:UInt8)(b:Int)(h:0<=b):eD (a.toNat:Int) b=((i8 (eD (a.toNat:Int) b)).toNat:Int):=by
 have h1:=a.toNat_lt;have h2:0<=eD (a.toNat:Int) b:=Int.tmod_nonneg _ (by omega);have h3:eD (a.toNat:Int) b<=(a.toNat:Int):=by obtain⟨n,rfl⟩:=Int.eq_ofNat_of_zero_le h;rw[<-Int.ofNat_tmod];have:=Nat.mod_le a.toNat n;omega
 rw[i8_of h2 (by omega)]
theorem i8_and(a b:UInt8):bits .and .u8 (a.toNat:Int) (b.toNat:Int)=((a&&&b).toNat:Int):=andN rfl a.toNat_lt b.toNat_lt
theorem i8_or(a b:UInt8):bits .or .u8 (a.toNat:Int) (b.toNat:Int)=((a|||b).toNat:Int):=orN rfl a.toNat_lt b.toNat_lt
theorem i8_xor(a b:UInt8):bits .xor .u8 (a.toNat:Int) (b.toNat:Int)=((a^^^b).toNat:Int):=xorN rfl a.toNat_lt b.toNat_lt
theorem i32_and(a b:UInt32):bits .and .u32 (a.toNat:Int) (b.toNat:Int)=((a&&&b).toNat:Int):=andN rfl a.toNat_lt b.toNat_lt
theorem i32_or(a b:UInt32):bits .or .u32 (a.toNat:Int) (b.toNat:Int)=((a|||b).toNat:Int):=orN rfl a.toNat_lt b.toNat_lt
theorem i32_xor(a b:UInt32):bits .xor .u32 (a.toNat:Int) (b.toNat:Int)=((a^^^b).toNat:Int):=xorN rfl a.toNat_lt b.toNat_lt
theorem i64_and(a b:UInt64):bits .and .u64 (a.toNat:Int) (b.toNat:Int)=((a&&&b).toNat:Int):=andN rfl a.toNat_lt b.toNat_lt
theorem i64_or(a b:UInt64):bits .or .u64 (a.toNat:Int) (b.toNat:Int)=((a|||b).toNat:Int):=orN rfl a.toNat_lt b.toNat_lt
theorem i64_xor(a b:UInt64):bits .xor .u64 (a.toNat:Int) (b.toNat:Int)=((a^^^b).toNat:Int):=xorN rfl a.toNat_lt b.toNat_lt
def shlI(k:IntKind)(a b:Int):Int:=k.wrap (a*2^(min b.toNat k.bits))
def shrI(k:IntKind)(a b:Int):Int:=a.fdiv (2^(min b.toNat k.bits))
theorem ygN{a:Nat}(k:Nat):(a:Int).fdiv (2^k)=((a/2^k:Nat):Int):=by rw[show((2:Int)^k)=((2^k:Nat):Int) by rw[Int.natCast_pow];rfl];exact(Int.ofNat_fdiv a (2^k)).symm
theorem i8_shr(a:UInt8)(b:Int):Int.fdiv (a.toNat:Int) (2^(min b.toNat IntKind.u8.bits))=((i8 (shrI .u8 (a.toNat:Int) b)).toNat:Int):=by have h1:=a.toNat_lt;unfold shrI;rw[ygN,i8_of (gO _) (by have:=iB a.toNat (2^(min b.toNat IntKind.u8.bits));omega)]
theorem i8_shl(a:UInt8)(b:Int):IntKind.u8.wrap ((a.toNat:Int)*2^(min b.toNat IntKind.u8.bits))=((i8 (shlI .u8 (a.toNat:Int) b)).toNat:Int):=by have e:shlI .u8 (a.toNat:Int) b=IntKind.u8.wrap ((a.toNat:Int)*2^(min b.toNat IntKind.u8.bits)):=rfl;rw[<-e,e,yzL,i8_nat]
theorem i32_shr(a:UInt32)(b:Int):Int.fdiv (a.toNat:Int) (2^(min b.toNat IntKind.u32.bits))=((i32 (shrI .u32 (a.toNat:Int) b)).toNat:Int):=by have h1:=a.toNat_lt;unfold shrI;rw[ygN,yzU (gO _) (by have:=iB a.toNat (2^(min b.toNat IntKind.u32.bits));omega)]
theorem i64_shr(a:UInt64)(b:Int):Int.fdiv (a.toNat:Int) (2^(min b.toNat IntKind.u64.bits))=((i64 (shrI .u64 (a.toNat:Int) b)).toNat:Int):=by have h1:=a.toNat_lt;unfold shrI;rw[ygN,ypM (gO _) (by have:=iB a.toNat (2^(min b.toNat IntKind.u64.bits));omega)]
theorem i32_nat(b:UInt32):i32 (b.toNat:Int)=b:=by apply UInt32.toNat.inj;have:=yzU (x:=(b.toNat:Int)) (by omega) (by have:=b.toNat_lt;omega);omega
theorem i64_nat(b:UInt64):i64 (b.toNat:Int)=b:=by apply UInt64.toNat.inj;have:=ypM (x:=(b.toNat:Int)) (by omega) (by have:=b.toNat_lt;omega);omega
theorem i32_shl(a:UInt32)(b:Int):IntKind.u32.wrap ((a.toNat:Int)*2^(min b.toNat IntKind.u32.bits))=((i32 (shlI .u32 (a.toNat:Int) b)).toNat:Int):=by have e:shlI .u32 (a.toNat:Int) b=IntKind.u32.wrap ((a.toNat:Int)*2^(min b.toNat IntKind.u32.bits)):=rfl;rw[<-e,e,yvG,i32_nat]
theorem i64_shl(a:UInt64)(b:Int):IntKind.u64.wrap ((a.toNat:Int)*2^(min b.toNat IntKind.u64.bits))=((i64 (shlI .u64 (a.toNat:Int) b)).toNat:Int):=by have e:shlI .u64 (a.toNat:Int) b=IntKind.u64.wrap ((a.toNat:Int)*2^(min b.toNat IntKind.u64.bits)):=rfl;rw[<-e,e,ytM,i64_nat]
theorem not_true{b:Bool}(h:b=true):(!b)=false:=by rw[h];rfl
theorem not_false{b:Bool}(h:b=false):(!b)=true:=by rw[h];rfl
class Rp (α:Type) where
 sz:Nat
 rep:Mem->LV->α->Prop
 len:∀{S c x},rep S c x->c.length=sz
 mono:∀{S T c x},rep S c x->Mem.le S T->rep T c x
 one:∀{S c x},rep S c x->∀v∈c,v.oneCell'=true
def RL{α:Type}[Rp α](S:Mem):LV->List α->Prop
 |cs,[]=>cs=[]|cs,x::xs=>∃c d,cs=c++d/\Rp.rep S c x/\RL S d xs
section
variable {α β:Type}[Rp α][Rp β]{S T:Mem}
theorem RL.mono:∀{xs:List α} {cs:LV},RL S cs xs->Mem.le S T->RL T cs xs
 |[],_,h,_=>h|_::_,_,⟨c,d,e,h1,h2⟩,hl=>⟨c,d,e,Rp.mono h1 hl,RL.mono h2 hl⟩
theorem RL.len:∀{xs:List α} {cs:LV},RL S cs xs->cs.length=xs.length*Rp.sz α
 |[],_,h=>by rw[show _=[]from h];simp
 |x::xs,_,⟨c,d,e,h1,h2⟩=>by rw[e,aD,Rp.len h1,RL.len h2,aS,bN];omega
theorem RL.one:∀{xs:List α} {cs:LV},RL S cs xs->∀v∈cs,v.oneCell'=true
 |[],_,h,v,hv=>by rw[show _=[]from h]at hv;cases hv
 |x::xs,_,⟨c,d,e,h1,h2⟩,v,hv=>by
  rw[e]at hv;rcases bI.1 hv with h|h
  ·exact Rp.one h1 v h
  ·exact RL.one h2 v h
theorem RL.nil:RL S [] ([]:List α):=rfl
theorem RL.cons{c d:LV}{x:α}{xs:List α}(h1:Rp.rep S c x)(h2:RL S d xs):RL S (c++d) (x::xs):=⟨c,d,rfl,h1,h2⟩
theorem RL.single{c:LV}{x:α}(h1:Rp.rep S c x):RL S c [x]:=⟨c,[],by simp,h1,rfl⟩
theorem RL.append:∀{xs:List α} {cs ds:LV} {ys:List α},RL S cs xs->RL S ds ys->RL S (cs++ds) (xs++ys)
 |[],cs,_,_,h,k=>by rw[show cs=[]from h];exact k
 |x::xs,_,ds,ys,⟨c,d,e,h1,h2⟩,k=>by rw[e,List.append_assoc];exact⟨c,d++ds,rfl,h1,RL.append h2 k⟩
theorem RL.get:∀{xs:List α} {cs:LV} {i:Nat} {x:α},RL S cs xs->xs[i]? = some x->Rp.rep S (piece cs (i*Rp.sz α) (Rp.sz α)) x
 |[],_,_,_,_,h=>by simp at h
 |y::xs,_,0,x,⟨c,d,e,h1,h2⟩,h=>by simp at h;subst h;rw[e,zaS,gA,cO,<-Rp.len h1,List.take_left];exact h1
 |y::xs,_,i+1,x,⟨c,d,e,h1,h2⟩,h=>by have ih:=RL.get h2 (i:=i) (by simpa using h);rw[e,zaS,bN,dR,iP,<-Rp.len h1,<-eM,List.drop_left,Rp.len h1,<-zaS];exact ih
theorem RL.take:∀{xs:List α} {cs:LV} (n:Nat),RL S cs xs->RL S (cs.take (n*Rp.sz α)) (xs.take n)
 |[],cs,n,h=>by rw[show cs=[]from h];simp[RL]
 |x::xs,_,0,_=>by simp[RL]
 |x::xs,_,n+1,⟨c,d,e,h1,h2⟩=>by refine⟨c,d.take (n*Rp.sz α),?_,h1,RL.take n h2⟩;rw[e,bN,dR,iP,<-Rp.len h1,List.take_length_add_append]
theorem RL.drop:∀{xs:List α} {cs:LV} (n:Nat),RL S cs xs->RL S (cs.drop (n*Rp.sz α)) (xs.drop n)
 |[],cs,n,h=>by rw[show cs=[]from h];simp[RL]
 |x::xs,cs,0,h=>by simpa using h
 |x::xs,_,n+1,⟨c,d,e,h1,h2⟩=>by have ih:=RL.drop n h2;rw[e,bN,dR,iP,<-Rp.len h1,List.drop_length_add_append,Rp.len h1];exact ih
theorem RL.sub{xs:List α}{cs:LV}{lo hi:Nat}(h:RL S cs xs)(_h1:lo<=hi):RL S (piece cs (lo*Rp.sz α) ((hi-lo)*Rp.sz α)) ((xs.take hi).drop lo):=by have:=RL.drop lo (RL.take hi h);rw[gK]at this;rw[zaS,Nat.sub_mul];exact this
theorem RL.set:∀{xs:List α} {cs c:LV} {i:Nat} {x:α},RL S cs xs->Rp.rep S c x->i<xs.length->RL S (lay cs (i*Rp.sz α) c) (xs.set i x)
 |[],_,_,_,_,_,_,h=>by simp at h
 |y::xs,_,c',0,x,⟨c,d,e,h1,h2⟩,hx,_=>by
  refine⟨c',d,?_,hx,h2⟩;have hl:c.length=c'.length:=by rw[Rp.len h1,Rp.len hx]
  rw[e,gA];apply bD;intro j;rw[zcN];by_cases hj:j<c'.length
  ·rw[zI (by simp;omega),aE hj];simp
  ·rw[zH (by omega),aF (by omega),aF (by omega),hl]
 |y::xs,_,c',i+1,x,⟨c,d,e,h1,h2⟩,hx,hi=>by
  refine⟨c,lay d (i*Rp.sz α) c',?_,h1,RL.set h2 hx (by simpa using hi)⟩;rw[e];apply bD;intro j;have hs:(i+1)*Rp.sz α=c.length+i*Rp.sz α:=by rw[bN,dR,Rp.len h1];omega
  rw[zcN,hs];by_cases hj:j<c.length
  ·rw[zH (by omega),aE hj,aE hj]
  ·rw[aF (by omega),aF (by omega),zcN,aD];by_cases hc:i*Rp.sz α<=j-c.length/\j-c.length<i*Rp.sz α+c'.length/\j-c.length<d.length
   ·rw[zI (by omega),zI hc];congr 1;omega
   ·rw[zH (by omega),zH hc]
theorem RL.replicate{c:LV}{x:α}(h:Rp.rep S c x):∀n,RL S (bC n c).flatten (bC n x)
 |0=>rfl|n+1=>⟨c,_,by simp[List.replicate_succ],h,RL.replicate h n⟩
def RdS{α:Type}[Rp α](S:Mem)(v:Value)(xs:List α):Prop:=∃cs,SlS S v xs.length (Rp.sz α) cs/\RL S cs xs
theorem RdS.mono{v:Value}{xs:List α}(h:RdS S v xs)(hl:Mem.le S T):RdS T v xs:=by obtain⟨cs,h1,h2⟩:=h;exact⟨cs,h1.mono hl,h2.mono hl⟩
theorem RdS.nil:RdS S (.slice none 0 0) ([]:List α):=⟨[],SlS.nil S _,rfl⟩
theorem RdS.sub{v:Value}{xs:List α}(h:RdS S v xs){lo hi:Nat}(h1:lo<=hi)(h2:hi<=xs.length):RdS S (subN v (Rp.sz α) lo hi) ((xs.take hi).drop lo):=by
 obtain⟨cs,k1,k2⟩:=h;refine⟨_,?_,k2.sub h1⟩;have hl:((xs.take hi).drop lo).length=hi-lo:=by simp;omega
 rw[hl];exact k1.sub h1 h2
theorem RdS.subLH{v:Value}{xs r:List α}{lo hi:Int}{sz:Nat}(h:RdS S v xs)(e:sub3 xs lo hi=some r)(hs:Rp.sz α=sz:=by rfl):RdS S (subN v sz lo.toNat hi.toNat) r:=by obtain⟨_,_,h1,h2,h3⟩:=yiU e;subst hs;rw[<-h3];exact h.sub h1 h2
theorem RdS.subL{v:Value}{xs r:List α}{lo:Int}{sz:Nat}(h:RdS S v xs)(e:Go.Proofs.YtopanhneegpgcaaGreatDoor.subL xs lo=some r)(hs:Rp.sz α=sz:=by rfl):RdS S (subN v sz lo.toNat xs.length) r:=by obtain⟨_,h1,h3⟩:=ycL e;subst hs;have:=h.sub h1 (aK _);rw[List.take_length,h3]at this;exact this
theorem RdS.subH{v:Value}{xs r:List α}{hi:Int}{sz:Nat}(h:RdS S v xs)(e:Go.Proofs.YtopanhneegpgcaaGreatDoor.subH xs hi=some r)(hs:Rp.sz α=sz:=by rfl):RdS S (subN v sz 0 hi.toNat) r:=by obtain⟨_,h1,h3⟩:=zvH e;subst hs;have:=h.sub (Nat.zero_le _) h1;rw[cO,h3]at this;exact this
theorem xbX{cs c:LV}{xs r:List α}{i:Int}{x:α}{sz:Nat}(h:RL S cs xs)(hx:Rp.rep S c x)(e:setL xs i x=some r)(hs:Rp.sz α=sz:=by rfl):RL S (lay cs (i.toNat*sz) c) r:=by obtain⟨_,h1,h2⟩:=zyQ e;subst hs;rw[<-h2];exact h.set hx h1
theorem RdS.get{v:Value}{xs:List α}{i:Nat}{x:α}(h:RdS S v xs)(hx:xs[i]? = some x):∃b o n c cs,v=sl b o n c/\i<n/\CellAt S b (o+i*Rp.sz α) cs/\Rp.rep S cs x:=by obtain⟨ds,k1,k2⟩:=h;have hi:=(aC.1 hx).1;obtain⟨b,o,c,e,hc⟩:=k1.at hi;exact⟨b,o,_,c,_,e,hi,hc,k2.get hx⟩
theorem RdS.oneCell{v:Value}{xs:List α}(h:RdS S v xs):v.oneCell'=true:=by obtain⟨cs,k1,_⟩:=h;rcases k1 with⟨⟨_,rfl⟩,_⟩|⟨b,o,c,ds,T,fz,rfl,_⟩<;>rfl
theorem RdS.cells{v:Value}{xs:List α}(h:RdS S v xs):v.cells.toList=[v]:=by obtain⟨cs,k1,_⟩:=h;rcases k1 with⟨⟨_,rfl⟩,_⟩|⟨b,o,c,ds,T,fz,rfl,_⟩<;>rfl
end
section
variable {α β:Type}[Rp α][Rp β]{S:Mem}
instance (priority:=low) instRpList:Rp (List α) where
 sz:=1
 rep S c xs:=∃v,c=[v]/\RdS S v xs
 len:=fun⟨_,e,_⟩=>by rw[e];rfl
 mono:=fun⟨v,e,h⟩ hl=>⟨v,e,h.mono hl⟩
 one:=fun⟨v,e,h⟩ u hu=>by rw[e,aZ]at hu;rw[hu];exact h.oneCell
instance yzI:Rp Bs where
 sz:=1
 rep _ c x:=c=[str x]
 len:=fun e=>by rw[e];rfl
 mono:=fun e _=>e
 one:=fun e u hu=>by rw[e,aZ]at hu;rw[hu];rfl
instance instRpInt:Rp Int where
 sz:=1
 rep _ c x:=c=[.int .i64 x]
 len:=fun e=>by rw[e];rfl
 mono:=fun e _=>e
 one:=fun e u hu=>by rw[e,aZ]at hu;rw[hu];rfl
instance instRpU8:Rp UInt8 where
 sz:=1
 rep _ c x:=c=[.int .u8 (x.toNat:Int)]
 len:=fun e=>by rw[e];rfl
 mono:=fun e _=>e
 one:=fun e u hu=>by rw[e,aZ]at hu;rw[hu];rfl
instance instRpU32:Rp UInt32 where
 sz:=1
 rep _ c x:=c=[.int .u32 (x.toNat:Int)]
 len:=fun e=>by rw[e];rfl
 mono:=fun e _=>e
 one:=fun e u hu=>by rw[e,aZ]at hu;rw[hu];rfl
instance instRpU64:Rp UInt64 where
 sz:=1
 rep _ c x:=c=[.int .u64 (x.toNat:Int)]
 len:=fun e=>by rw[e];rfl
 mono:=fun e _=>e
 one:=fun e u hu=>by rw[e,aZ]at hu;rw[hu];rfl
instance yyD:Rp Bool where
 sz:=1
 rep _ c x:=c=[.bool x]
 len:=fun e=>by rw[e];rfl
 mono:=fun e _=>e
 one:=fun e u hu=>by rw[e,aZ]at hu;rw[hu];rfl
instance ywX:Rp Unit where
 sz:=0
 rep _ c _:=c=[]
 len:=fun e=>by rw[e];rfl
 mono:=fun e _=>e
 one:=fun e u hu=>by rw[e]at hu;cases hu
instance yxS:Rp (α×β) where
 sz:=Rp.sz α+Rp.sz β
 rep S c x:=∃c1 c2,c=c1++c2/\Rp.rep S c1 x.1/\Rp.rep S c2 x.2
 len:=fun⟨c1,c2,e,h1,h2⟩=>by rw[e,aD,Rp.len h1,Rp.len h2]
 mono:=fun⟨c1,c2,e,h1,h2⟩ hl=>⟨c1,c2,e,Rp.mono h1 hl,Rp.mono h2 hl⟩
 one:=fun⟨c1,c2,e,h1,h2⟩ u hu=>by
  rw[e]at hu;rcases bI.1 hu with h|h
  ·exact Rp.one h1 u h
  ·exact Rp.one h2 u h
theorem rpU8{x:UInt8}:Rp.rep S [.int .u8 (x.toNat:Int)] x:=rfl
theorem elU8{c:LV}{x:UInt8}(h:Rp.rep S c x):c=[.int .u8 (x.toNat:Int)]:=h
theorem elT{c:LV}{x:Bs}(h:Rp.rep S c x):c=[str x]:=h
theorem RL.is_u8s:∀{xs:Bs} {cs:LV},RL S cs xs->cs=u8s xs
 |[],_,h=>h|x::xs,_,⟨c,d,e,h1,h2⟩=>by rw[e,elU8 h1,RL.is_u8s h2];rfl
theorem RL.of_u8s:∀(xs:Bs),RL S (u8s xs) xs
 |[]=>rfl|x::xs=>⟨_,_,rfl,rpU8,RL.of_u8s xs⟩
end
end
section
variable {P:Program}{ops:Array Oper}{Q:Exit->Act->World->Prop}{rest:List Oper}{n:Nat}{m:FM}{w:World}{d:Nat}{ty:TypeId}{pos:String}{aft:Array Edge}{x:Operand}{nh:Nat}{Φ:zhT}{W:World}{vs:Nat->Gv}{Fin:Act->Prop}{i:Nat}
end
end Go.Proofs.YtopanhneegpgcaaGreatDoor
