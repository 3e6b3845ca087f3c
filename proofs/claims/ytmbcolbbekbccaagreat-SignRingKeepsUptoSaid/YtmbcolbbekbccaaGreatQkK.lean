/- Parts of one proof. Conditions: as each theorem says. -/
import Derived.Test.YtmbcolbbekbccaaGreatQkJ
open Bool renaming and_eq_true->aK,false_or->gR,not_true->dM,or_eq_false_iff->cY
open Int renaming tmod->eG
open List renaming all_cons->cO,getElem?_eq_some_iff->aC,length_drop->bO,length_map->bL,map_cons->bS,mem_cons_self->bC,mem_of_getElem?->bJ,take->gD
open Nat renaming add_assoc->dL,add_mul->bD,add_zero->cQ,beq->aG,eq_of_beq_eq_true->aB,le_of_ble_eq_true->aR,le_of_eq->dW,le_refl->aJ,mul_le_mul_right->cE,mul_one->bY,one_mul->cR,zero_add->aQ
open Option renaming bind->aA
namespace Go.Proofs.YtmbcolbbekbccaaGreat.Am
open Go Go.RowKit
def tdo:TypeDesc->TD
 |.int k=>.int k|.bool=>.b|.string=>.s|.slice E=>.sl E|.struct fs=>.st (fs.toList.map fun f=>(f.type,f.offset))|.pointer E=>.pt E|.array n E=>.ar n E|.map k v=>.map k v|.func _ _ _=>.fn|.interface _=>.ifc|_=>.ot
def zc:SV->Value
 |.v (.i k) x=>.int k (toI k x)|.v .b x=>.bool x|.v .s l=>str l|.nils=>.slice none 0 0|.nilp=>.pointer none|.nilm=>.map none|.nilf=>.nilFunc|.v .er _=>.nilIface|_=>undef
def zok:SV->Bool
 |.v (.i _) _=>true|.v .b _=>true|.v .s _=>true|.nils=>true|.nilp=>true|.nilm=>true|.nilf=>true|.v .er x=>!(show Bool from x)|_=>false
def zV(f:TI):Value:=bif f.agg then .agg (f.z.map zc).toArray else match f.z with
 |[x]=>zc x|_=>undef
def eqOk(P:Program)(T:TypeId):Bool:=match P.underlying T with
 | some (.struct fs) => !(P.stoodInHeld T) && fs.toList.all (fun f => f.name != "_") && !(P.eqGuardType P.depth T)|some (.array _ _)=>!(P.eqGuardType P.depth T)|_=>true
def incT:TD->Bool
 |.st fs=>incr fs|_=>true
structure TIok (P:Program) (T:TypeId) (f:TI):Prop where
 und:(P.underlying T).map tdo=some f.td
 info:(P.info? T).map (fun i=>(i.zero,i.size,i.bytes))=some (some (zV f),f.sz,f.nb)
 eqb:(!incT f.td||eqOk P T)=true
 z:f.z.all zok=true
 zl:f.z.length=f.sz
 one1:f.agg=false->f.sz=1
def TEok(P:Program)(τ:TE):Prop:=∀T f,tyAt τ T=some f->TIok P T f
theorem ypG{P:Program}:∀{τ:TE},τ.map (fun p=>((P.underlying p.1).map tdo,(P.info? p.1).map (fun i=>(i.zero,i.size,i.bytes)),!incT p.2.td||eqOk P p.1))=τ.map (fun p=>(some p.2.td,some (some (zV p.2),p.2.sz,p.2.nb),true)) ->
  τ.all (fun p=>p.2.z.all zok&&aG p.2.z.length p.2.sz&&(p.2.agg||aG p.2.sz 1))=true->TEok P τ
 |[],_,_=>fun T f h=>by cases h
 |(T',f')::τ,h,h2=>fun T f hf=>by
  simp only[bS,List.cons.injEq,Prod.mk.injEq]at h;simp only[cO,aK]at h2;unfold tyAt at hf;cases ht:aG T' T with
  |true=>
   rw[ht]at hf;cases hf;have:=aB ht;subst this;refine⟨h.1.1,h.1.2.1,h.1.2.2,h2.1.1.1,aB h2.1.1.2,fun ha=>?_⟩;have h3:=h2.1.2;simp only[Bool.or_eq_true]at h3;rcases h3 with h3|h3
   ·rw[ha]at h3;cases h3
   ·exact aB h3
  |false=>rw[ht]at hf;exact ypG h.2 h2.2 T f hf
section
variable {P:Program}{T:TypeId}{f:TI}
theorem TIok.i(h:TIok P T f):∃i,P.info? T=some i/\i.zero=some (zV f)/\i.size=f.sz/\i.bytes=f.nb:=by
 have:=h.info;cases hi:P.info? T with
 |none=>rw[hi]at this;cases this
 |some i=>rw[hi]at this;simp only[Option.map_some,Option.some.injEq,Prod.mk.injEq]at this;exact⟨i,rfl,this.1,this.2.1,this.2.2⟩
theorem TIok.d(h:TIok P T f):∃d,P.underlying T=some d/\tdo d=f.td:=by
 have:=h.und;cases hi:P.underlying T with
 |none=>rw[hi]at this;cases this
 |some i=>rw[hi]at this;exact⟨i,rfl,osi this⟩
theorem TIok.tsz(h:TIok P T f):TSz P T f.sz:=fun w=>by obtain⟨i,h1,_,h3,_⟩:=h.i;simp[sizeOf,typeInfo,h1,h3]
theorem TIok.zero(h:TIok P T f):zoQ P T (zV f):=fun w=>by obtain⟨i,h1,h2,_,_⟩:=h.i;simp[zeroValue,typeInfo,h1,h2]
theorem TIok.agg(h:TIok P T f):∀w,(isAgg T).run P w = .ok f.agg w:=fun w=>by obtain⟨d,h1,h2⟩:=h.d;unfold TI.agg;cases d<;>(rw[<-h2];simp[isAgg,Go.underlying,h1,tdo])
theorem TIok.tagg(h:TIok P T f)(ha:f.agg=true):TAgg P T f.sz:=⟨fun w=>by rw[h.agg w,ha],h.tsz⟩
theorem TIok.tone(h:TIok P T f)(ha:f.agg=false)(h1:f.sz=1):TOne P T:=⟨fun w=>by rw[h.agg w,ha],by have:=h.tsz;rw[h1]at this;exact this⟩
theorem TIok.int{k:IntKind}(h:TIok P T f)(e:f.td = .int k):P.underlying T=some (.int k):=by obtain⟨d,h1,h2⟩:=h.d;rw[e]at h2;rw[h1];cases d<;>cases h2;rfl
theorem TIok.str(h:TIok P T f)(e:f.td = .s):P.underlying T=some .string:=by obtain⟨d,h1,h2⟩:=h.d;rw[e]at h2;rw[h1];cases d<;>cases h2;rfl
theorem TIok.sl{E:TypeId}(h:TIok P T f)(e:f.td = .sl E):P.underlying T=some (.slice E):=by obtain⟨d,h1,h2⟩:=h.d;rw[e]at h2;rw[h1];cases d<;>cases h2;rfl
theorem TIok.map{K V:TypeId}(h:TIok P T f)(e:f.td = .map K V):P.underlying T=some (.map K V):=by obtain⟨d,h1,h2⟩:=h.d;rw[e]at h2;rw[h1];cases d<;>cases h2;rfl
theorem TIok.arr{N:Nat}{E:TypeId}(h:TIok P T f)(e:f.td = .ar N E):P.underlying T=some (.array N E):=by obtain⟨d,h1,h2⟩:=h.d;rw[e]at h2;cases d<;>first|(cases h2;done)|(injection h2 with a b;subst a;subst b;exact h1)
theorem TIok.ifc(h:TIok P T f)(e:f.td = .ifc):∃ms,P.underlying T=some (.interface ms):=by obtain⟨d,h1,h2⟩:=h.d;rw[e]at h2;rw[h1];cases d<;>cases h2;exact⟨_,rfl⟩
theorem TIok.ptr{E:TypeId}(h:TIok P T f)(e:f.td = .pt E):P.underlying T=some (.pointer E):=by obtain⟨d,h1,h2⟩:=h.d;rw[e]at h2;rw[h1];cases d<;>cases h2;rfl
theorem TIok.bool(h:TIok P T f)(e:f.td = .b):P.underlying T=some .bool:=by obtain⟨d,h1,h2⟩:=h.d;rw[e]at h2;rw[h1];cases d<;>cases h2;rfl
theorem TIok.st{fs:List (TypeId×Nat)}(h:TIok P T f)(e:f.td = .st fs):∃a,P.underlying T=some (.struct a)/\a.toList.map (fun f=>(f.type,f.offset))=fs:=by obtain⟨d,h1,h2⟩:=h.d;rw[e]at h2;cases d<;>cases h2;exact⟨_,h1,rfl⟩
theorem TIok.eqs {fs : List (TypeId × Nat)} {a : Array Field} (h : TIok P T f) (ht : f.td = .st fs) (hi : incr fs = true) (ha : P.underlying T = some (.struct a)) : P.stoodInHeld T = false /\ a.toList.all (fun f => f.name != "_") = true /\ P.eqGuardType P.depth T = false := by have:=h.eqb;rw[ht,show incT (.st fs)=true from hi,dM,gR]at this;unfold eqOk at this;rw[ha]at this;simp only[aK,Bool.not_eq_true']at this;exact⟨this.1.1,this.1.2,this.2⟩
theorem TIok.eqa{N:Nat}{E:TypeId}(h:TIok P T f)(ht:f.td = .ar N E):P.eqGuardType P.depth T=false:=by have:=h.eqb;rw[ht,show incT (.ar N E)=true from rfl,dM,gR]at this;unfold eqOk at this;rw[h.arr ht]at this;simpa using this
theorem zc_ok{S:Mem}{E:List EI}{x:SV}(h:zok x=true):VC S E x (zc x):=by
 unfold zok at h;split at h
 ·exact(rfl:[_]=[_])
 ·exact(rfl:[_]=[_])
 ·exact(rfl:[_]=[_])
 ·rfl
 ·rfl
 ·rfl
 ·rfl
 ·rename_i x;cases x with
  |false=>exact⟨_,rfl,.inl ⟨rfl,rfl⟩⟩|true=>cases h
 ·cases h
theorem zvF{S:Mem}{E:List EI}:∀{l:List SV},l.all zok=true->A2 (VC S E) l (l.map zc)
 |[],_=>.nil|x::l,h=>by simp only[cO,aK]at h;exact .cons (zc_ok h.1) (zvF h.2)
end
section
variable {S:Mem}{E:List EI}
theorem zgL:∀(t:Ty) {c:LV} {x:den t},rep t S c x->A2 (VC S E) (cellsOf t x) c
 |.i _,c,x,h=>by have h:c=[_]:=h;subst h;exact .cons (rfl:[_]=[_]) .nil
 |.b,c,x,h=>by have h:c=[_]:=h;subst h;exact .cons (rfl:[_]=[_]) .nil
 |.s,c,x,h=>by have h:c=[_]:=h;subst h;exact .cons (rfl:[_]=[_]) .nil
 |.er,c,x,h=>by obtain⟨u,rfl,h⟩:=h;exact .cons ⟨u,rfl,h⟩ .nil
 |.mp a _,c,x,h=>by have h:c=[_]:=h;subst h;exact .cons (rfl:[_]=[_]) .nil
 |.sl e,c,x,h=>by obtain⟨v,rfl,h⟩:=h;exact .cons ⟨v,rfl,h⟩ .nil
 |.jk T,c,x,h=>by obtain⟨v,rfl,h⟩:=h;exact .cons ⟨v,rfl,h⟩ .nil
 |.pt t,c,x,h=>by obtain⟨v,b,us,rfl,h⟩:=h;exact .cons (show VB S E (.v (.pt t) x) v from⟨v,b,us,rfl,h⟩) .nil
 |.pm T0 t g,l,x,h=>by obtain⟨v,b,p,a,c,T,rfl,h⟩:=h;exact .cons (show VB S E (.v (.pm T0 t g) x) v from⟨v,b,p,a,c,T,rfl,h⟩) .nil
 |.pr a c,_,x,h=>by obtain⟨c1,c2,rfl,h1,h2⟩:=h;exact(zgL a h1).app (zgL c h2)
 |.un,c,x,h=>by have h:c=[]:=h;subst h;exact .nil
theorem zqM{x:SV}{u:Value}(h:VA (VC S E) x u):A2 (VC S E) (cellL x) u.cells.toList/\zmN u u.cells.toList:=by
 refine⟨?_,by simp[zmN]⟩;by_cases hx:noag x=true
 ·have h1:VC S E x u:=h.b hx;have e1:cellL x=[x]:=by cases x<;>first|rfl|cases hx
  have e2:u.cells=[u].toArray:=cells_one h1.one;rw[e1,e2];exact .cons h1 .nil
 ·cases x with
  |ag l=>obtain⟨us,rfl,h⟩:=h;simpa[cellL,Value.cells]using h
  |_=>exact absurd rfl hx
theorem zuP{R:SV->Value->Prop}:∀{l:List SV} {m:LV} (o:Nat) {x:List SV} {y:LV},A2 R l m->A2 R x y->A2 R (layS l o x) (lay m o y)
 |l,m,o,[],[],h,.nil=>by
  cases l with
  |nil=>cases h;exact .nil
  |cons=>cases h with|cons h t=>simpa[layS,lay]using A2.cons h t
 |[],_,o,_::_,_::_,.nil,.cons _ _=>by simp[layS,lay];exact .nil
 |_::l,_::m,0,_::x,_::y,.cons a t,.cons b s=>by simp only[layS,lay];exact .cons b (zuP 0 t s)
 |_::l,_::m,o+1,_::x,_::y,.cons a t,.cons b s=>by simp only[layS,lay];exact .cons a (zuP o t (.cons b s))
theorem zzH{R:SV->Value->Prop}{l:List SV}{m:LV}(o n:Nat)(h:A2 R l m):A2 R (pc l o n) (piece m o n):=by rw[zaL];exact(h.drop o).take n
theorem yhC{f:TI}{l:List SV}{us:LV}{x:SV}(h:svAt f l=some x)(hl:A2 (VC S E) l us):
  us.length=f.sz/\((f.agg=true/\VA (VC S E) x (.agg us.toArray))∨(f.agg=false/\f.sz=1/\∃u,us=[u]/\VA (VC S E) x u)):=by
 unfold svAt at h;cases hc:aG l.length f.sz&&(Nat.blt 0 f.sz||f.agg) with
 |false=>rw[hc]at h;cases h
 |true=>
  rw[hc]at h;have h1:=aB (zaT hc);refine⟨by rw[<-hl.len,h1],?_⟩;cases ha:f.agg with
  |true=>rw[ha]at h;cases h;exact .inl ⟨rfl,us,rfl,hl⟩
  |false=>
   rw[ha]at h;cases hl with
   |nil=>cases h
   |cons p t=>
    cases t with
    |nil=>
     cases h;refine .inr ⟨rfl,by simpa using h1.symm,_,rfl,?_⟩;cases x with
     |ag=>exact p.elim|_=>exact p
    |cons _ _=>cases h
end
section
variable {P:Program}{w:World}{S:Mem}{E:List EI}{e:Operand->Value}{dst:Option Tmp}{g:Option (Nat×Bool)}{ty:TypeId}{pos:String}{aft:Array Edge}{x:Operand}
theorem xeY{f:TI}{T T':TypeId}{b o:Nat}{ds us:LV}{fz:Nat×Nat}{l:List SV}{a:SV}(hT:TIok P T f)(h:svAt f l=some a)(hl:A2 (VC S E) l us):∃u,VA (VC S E) a u/\∀(w:World) (T':TypeId) (b o:Nat) (ds:LV) (fz:Nat×Nat),w.heap[b]? = some (.cells ds.toArray T' fz)->e x = .pointer (some ⟨b,o,none⟩)->piece ds o f.sz=us ->(execOp e ⟨dst,.load T x,ty,pos,aft,g⟩).run P w = .ok (.value u) w:=by
 obtain⟨h1,h3⟩:=yhC h hl;have hb:∀(ds:LV) (o:Nat),piece ds o f.sz=us->f.sz≠0->o+f.sz<=ds.length:=fun ds o e h0=>by rw[zaL]at e;have:=congrArg List.length e;simp only[List.length_take,bO]at this;omega
 rcases h3 with⟨ha,hv⟩|⟨ha,h4,u,rfl,hv⟩
 ·refine⟨_,hv,fun w T' b o ds fz hh hp hd=>?_⟩;simp only[execOp,hp,Sem.run_bind,zpW (hT.tagg ha) hh hd (hb _ _ hd),Result.andThen,Sem.run_pure]
 ·refine⟨_,hv,fun w T' b o ds fz hh hp hd=>?_⟩;rw[h4]at hd;simp only[execOp,hp,Sem.run_bind,zmE (hT.tone ha h4) hh hd,Result.andThen,Sem.run_pure]
end
section
variable {S:Mem}{E:List EI}
theorem vI{q:IntKind}{a:den (.i q)}{u:Value}(h:VR S E (.v (.i q) a) u):u = .int q (toI q a):=by have h:[u]=[Value.int q (toI q a)]:=h;injection h
theorem vB{a:Bool}{u:Value}(h:VR S E (.v .b a) u):u = .bool a:=by have h:[u]=[Value.bool a]:=h;injection h
theorem vS{a:Bs}{u:Value}(h:VR S E (.v .s a) u):u=str a:=by have h:[u]=[str a]:=h;injection h
theorem iV{q:IntKind}(x:Int):VR S E (.v (.i q) (ofI q x)) (.int q (q.wrap x)):=by show [_]=[_];rw[yvE]
theorem bV(x:Bool):VR S E (.v .b x) (.bool x):=(rfl:[_]=[_])
theorem sV(x:Bs):VR S E (.v .s x) (str x):=(rfl:[_]=[_])
end
section
variable {β:Type}{τ:TE}{P:Program}{S:Mem}{E:List EI}{e:Operand->Value}{dst:Option Tmp}{g:Option (Nat×Bool)}{ty:TypeId}{pos:String}{aft:Array Edge}{a b:Operand}{T T':TypeId}{k:SV->Option β}{r:β}
def Ok1(P:Program)(S:Mem)(E:List EI)(e:Operand->Value)(o:Oper)(k:SV->Option β)(r:β)(C:World->Prop):Prop:=
 ∃z u,k z=some r/\VR S E z u/\∀w,C w->(execOp e o).run P w = .ok (.value u) w
theorem shr_ex{q:IntKind}(h:ycR q=false)(x:den (.i q))(c:Int):toI q (exI q (shrI q (toI q x) c))=shrI q (toI q x) c:=by
 cases q with
 |u8=>exact(i8_shr x c).symm|u16=>cases h
 |u32=>exact(ydE x c).symm|u64=>exact(zsE x c).symm|_=>rfl
theorem shl_ex{q:IntKind}(h:ycR q=false)(x:den (.i q))(c:Int):toI q (exI q (shlI q (toI q x) c))=shlI q (toI q x) c:=by
 cases q with
 |u8=>exact(i8_shl x c).symm|u16=>cases h
 |u32=>exact(ysJ x c).symm|u64=>exact(yoW x c).symm|_=>rfl
theorem rem_ex{q:IntKind}(h:ycR q=false)(x:den (.i q))(c:Int)(hc:0<=c):toI q (exI q (eG (toI q x) c))=eG (toI q x) c:=by
 cases q with
 |u8=>exact(i8_rem x c hc).symm|u16=>cases h
 |u32=>exact(i32_rem x c hc).symm|u64=>exact(i64_rem x c hc).symm|_=>rfl
theorem xV{q:IntKind}{x:den (.i q)}{c:Int}(h:toI q x=c):VR S E (.v (.i q) x) (.int q c):=by show [_]=[_];rw[h]
theorem yyD{op:BinOp}{q:IntKind}{x y c:Int}{w:World}(hx:e a = .int q x)(hy:e b = .int q y)(h:arith op x y=some c):(execOp e ⟨dst,.binOp op T a b T',ty,pos,aft,g⟩).run P w = .ok (.value (.int q (q.wrap c))) w:=by cases op<;>first|(cases h;done)|(cases h;first|exact zdD hx hy rfl|exact zgR hx hy rfl|exact zhH hx hy rfl)
theorem cmp_ok{op:BinOp}{q:IntKind}{x y:Int}{t:Bool}{w:World}(hx:e a = .int q x)(hy:e b = .int q y)(h:cmpI op x y=some t):(execOp e ⟨dst,.binOp op T a b T',ty,pos,aft,g⟩).run P w = .ok (.value (.bool t)) w:=by cases op<;>first|(cases h;done)|(cases h;first|exact yhF hx hy rfl|exact ymX hx hy rfl|exact zeT hx hy rfl|exact r_leq hx hy rfl|exact r_gtr hx hy rfl|exact zlI hx hy rfl)
theorem ycB{op:BinOp}{q:IntKind}{x y c:Int}(h:bitD.bits? op q x y=some c):(op = .and∨op = .or∨op = .xor∨op = .andNot)/\bits op q x y=c:=by
 cases op with
 |and=>cases h;exact⟨.inl rfl,rfl⟩
 |or=>cases h;exact⟨.inr (.inl rfl),rfl⟩
 |xor=>cases h;exact⟨.inr (.inr (.inl rfl)),rfl⟩
 |andNot=>cases h;exact⟨.inr (.inr (.inr rfl)),rfl⟩
 |_=>cases h
theorem xdU{op:BinOp}{q:IntKind}{x y c:den (.i q)}(h:bitD op q x y=some c):(op = .and∨op = .or∨op = .xor∨op = .andNot)/\bits op q (toI q x) (toI q y)=toI q c:=by
 cases q with
 |u8=>cases op with
  |and=>cases h;exact⟨.inl rfl,i8_and x y⟩
  |or=>cases h;exact⟨.inr (.inl rfl),i8_or x y⟩
  |xor=>cases h;exact⟨.inr (.inr (.inl rfl)),ykQ x y⟩
  |_=>cases h
 |u16=>cases h
 |u32=>cases op with
  |and=>cases h;exact⟨.inl rfl,ztU x y⟩
  |or=>cases h;exact⟨.inr (.inl rfl),xcF x y⟩
  |xor=>cases h;exact⟨.inr (.inr (.inl rfl)),zjC x y⟩
  |_=>cases h
 |u64=>cases op with
  |and=>cases h;exact⟨.inl rfl,zwU x y⟩
  |or=>cases h;exact⟨.inr (.inl rfl),xbG x y⟩
  |xor=>cases h;exact⟨.inr (.inr (.inl rfl)),xfD x y⟩
  |_=>cases h
 |i8=>exact ycB h|i16=>exact ycB h|i32=>exact ycB h|i64=>exact ycB h
theorem xfL{op:BinOp}{q q':IntKind}{x:den (.i q)}{y:den (.i q')}{C:World->Prop}(hx:e a = .int q (toI q x))(hy:e b = .int q' (toI q' y))(h:bin τ T op (.v (.i q) x) (.v (.i q') y) k=some r):
  Ok1 P S E e ⟨dst,.binOp op T a b T',ty,pos,aft,g⟩ k r C:=by
 by_cases hs:op = .shl
 ·subst hs;simp only[bin]at h;cases hu:ycR q with
  |true=>rw[hu]at h;cases h
  |false=>rw[hu]at h;obtain⟨_,h1,h2⟩:=bnd h;exact⟨_,_,h2,xV (shl_ex hu _ _),fun w _=>yiO hx hy (by have:=zC (zcP h1);omega) rfl⟩
 by_cases hs2:op = .shr
 ·subst hs2;simp only[bin]at h;cases hu:ycR q with
  |true=>rw[hu]at h;cases h
  |false=>rw[hu]at h;obtain⟨_,h1,h2⟩:=bnd h;exact⟨_,_,h2,xV (shr_ex hu _ _),fun w _=>ziB hx hy (by have:=zC (zcP h1);omega) rfl⟩
 cases hq:ikEq q' q with
 |none=>cases op<;>first|exact absurd rfl hs|exact absurd rfl hs2|(simp only[bin,hq]at h;cases h)
 |some p=>
  obtain⟨rfl⟩:=p;by_cases hq':op = .quo
  ·subst hq';simp only[bin,hq]at h;obtain⟨_,h1,h2⟩:=bnd h;have h3:=zcP h1;exact⟨_,_,h2,iV _,fun w _=>ywG hx hy (by simpa using h3) rfl⟩
  by_cases hr':op = .rem
  ·subst hr';simp only[bin,hq]at h;cases hu:ycR q' with
   |true=>rw[hu]at h;cases h
   |false=>rw[hu]at h;obtain⟨_,h1,h2⟩:=bnd h;have h3:=zC (zcP h1);exact⟨_,_,h2,xV (rem_ex hu _ _ (Int.le_of_lt h3)),fun w _=>yqO hx hy (by omega) rfl⟩
  have h' : (match arith op (toI q' x) (toI q' y) with
        |some r=>k (.v (.i q') (ofI q' r))|none=>match cmpI op (toI q' x) (toI q' y) with
         |some t=>k (.v .b t)|none=>match bitD op q' x y with
          |some r=>k (.v (.i q') r)|none=>none)=some r:=by
   cases op<;>first|exact absurd rfl hs|exact absurd rfl hs2|exact absurd rfl hq'|exact absurd rfl hr'|(simp only[bin,hq]at h;exact h)
  split at h'
  ·rename_i c hc;exact⟨_,_,h',iV _,fun w _=>yyD hx hy hc⟩
  ·split at h'
   ·rename_i c hc;exact⟨_,_,h',bV _,fun w _=>cmp_ok hx hy hc⟩
   ·split at h'
    ·rename_i c hc;obtain⟨h1,h2⟩:=xdU hc;exact⟨_,_,h',xV rfl,fun w _=>zcU h1 hx hy h2⟩
    ·cases h'
theorem bin_str{op:BinOp}{x y:Bs}{C:World->Prop}(hx:e a=str x)(hy:e b=str y)(h:bin τ T op (.v .s x) (.v .s y) k=some r):
  Ok1 P S E e ⟨dst,.binOp op T a b T',ty,pos,aft,g⟩ k r C:=by
 cases op with
 |add=>obtain⟨l,h1,h2⟩:=bnd h;obtain⟨h3,rfl⟩:=zcQ h1;exact⟨_,_,h2,sV _,fun w _=>yaN hx hy (by omega) rfl⟩
 |eql=>exact⟨_,_,h,bV _,fun w _=>r_eqT hx hy rfl⟩|neq=>exact⟨_,_,h,bV _,fun w _=>r_neT hx hy rfl⟩|lss=>exact⟨_,_,h,bV _,fun w _=>by simp[execOp,eqGuard,binOp,hx,hy,Op.stringOp]⟩|leq=>exact⟨_,_,h,bV _,fun w _=>by simp[execOp,eqGuard,binOp,hx,hy,Op.stringOp]⟩|gtr=>exact⟨_,_,h,bV _,fun w _=>by simp[execOp,eqGuard,binOp,hx,hy,Op.stringOp]⟩|geq=>exact⟨_,_,h,bV _,fun w _=>by simp[execOp,eqGuard,binOp,hx,hy,Op.stringOp]⟩|_=>cases h
theorem ywY{op:BinOp}{x y:Bool}{C:World->Prop}(hτ:TEok P τ)(hx:e a = .bool x)(hy:e b = .bool y)(h:bin τ T op (.v .b x) (.v .b y) k=some r):
  Ok1 P S E e ⟨dst,.binOp op T a b T',ty,pos,aft,g⟩ k r C:=by
 simp only[bin]at h;split at h
 ·rename_i z1 z2 z3 z4 hT;have hu:=(hτ T _ hT).und;have hd:P.underlying T=some .bool:=by obtain⟨d,h1,h2⟩:=(hτ T _ hT).d;rw[h1];cases d<;>cases h2;rfl
  have key:∀w,(Op.equal T (.bool x) (.bool y)).run P w = .ok (x==y) w:=fun w=>(eqB (a:=x) (b:=y) hd).le 10000 (by decide) 0 w;cases op with
  |eql=>exact⟨_,_,h,bV _,fun w _=>by simp[execOp,eqGuard,binOp,hx,hy,key]⟩|neq=>exact⟨_,_,h,bV _,fun w _=>by simp[execOp,eqGuard,binOp,hx,hy,key,bne]⟩|_=>cases h
 ·cases h
theorem xeF{c:Bool}{o:Option β}(h:(bif c then o else none)=some r):c=true/\o=some r:=by
 cases c with
 |true=>exact⟨rfl,h⟩|false=>cases h
theorem ysF{p:Option Addr}{E':TypeId}{w:World}(hu:P.underlying T=some (.pointer E')):(Op.equal T (.pointer p) (.pointer none)).run P w = .ok p.isNone w:=by
 have key:∀d,(Op.equalIn (d+1) T (.pointer p) (.pointer none)).run P w = .ok p.isNone w:=fun d=>by cases p<;>simp[Op.equalIn,Go.underlying,hu]
 exact key 9999
theorem yfU{op:BinOp}{p:Option Addr}{t:Bool}{C:World->Prop}(hτ:TEok P τ)(hx:e a = .pointer p)(hy:e b = .pointer none)(ht:p.isNone=t)(h:eqK τ T op t k=some r):
  Ok1 P S E e ⟨dst,.binOp op T a b T',ty,pos,aft,g⟩ k r C:=by
 subst ht;unfold eqK at h;split at h
 ·rename_i E' z1 z2 z3 z4 hT;have hu:=(hτ T _ hT).ptr rfl;split at h
  ·exact⟨_,_,h,bV _,fun w _=>by simp[execOp,eqGuard,binOp,hx,hy,ysF hu]⟩
  ·exact⟨_,_,h,bV _,fun w _=>by simp[execOp,eqGuard,binOp,hx,hy,ysF hu]⟩
  ·cases h
 ·cases h
def uAt(f:TI)(us:LV):Value:=bif f.agg then .agg us.toArray else match us with
 |[u]=>u|_=>undef
theorem eqI_ok{T:TypeId}{k0:IntKind}{l l':List SV}{us vs:LV}{t:Bool}(hu:P.underlying T=some (.int k0))(h:eqI l l'=some t)(hl:A2 (VC S E) l us)(hl':A2 (VC S E) l' vs):∃u v,us=[u]/\vs=[v]/\EqR P 1 T u v t:=by
 unfold eqI at h;split at h
 ·rename_i q a q' c;obtain⟨u,rfl,h1⟩:=hl.one;obtain⟨v,rfl,h2⟩:=hl'.one;split at h
  ·rename_i hh _;cases h;subst hh;have h1:=vI (VR.ofC h1);have h2:=vI (VR.ofC h2);subst h1;subst h2;refine⟨_,_,rfl,rfl,fun d w=>?_⟩;simp only[Op.equalIn,Go.underlying,hu,Sem.run_bind,run_program,Result.andThen_ok,Sem.run_pure,if_true];congr 1
  ·cases h
 ·cases h
theorem xfQ{T:TypeId}{l l':List SV}{us vs:LV}{t:Bool}(hu:P.underlying T=some .bool)(h:eqBo l l'=some t)(hl:A2 (VC S E) l us)(hl':A2 (VC S E) l' vs):∃u v,us=[u]/\vs=[v]/\EqR P 1 T u v t:=by
 unfold eqBo at h;split at h
 ·obtain⟨u,rfl,h1⟩:=hl.one;obtain⟨v,rfl,h2⟩:=hl'.one;cases h;have h1:=vB (VR.ofC h1);have h2:=vB (VR.ofC h2);subst h1;subst h2;exact⟨_,_,rfl,rfl,eqB hu⟩
 ·cases h
theorem eqSt_ok{T:TypeId}{l l':List SV}{us vs:LV}{t:Bool}(hu:P.underlying T=some .string)(h:eqSt l l'=some t)(hl:A2 (VC S E) l us)(hl':A2 (VC S E) l' vs):∃u v,us=[u]/\vs=[v]/\EqR P 1 T u v t:=by
 unfold eqSt at h;split at h
 ·obtain⟨u,rfl,h1⟩:=hl.one;obtain⟨v,rfl,h2⟩:=hl'.one;cases h;have h1:=vS (VR.ofC h1);have h2:=vS (VR.ofC h2);subst h1;subst h2;exact⟨_,_,rfl,rfl,eqS hu⟩
 ·cases h
theorem yoO(hτ:TEok P τ){n:Nat}{q:TypeId->List SV->List SV->Option Bool}(hq:∀F f l l' us vs t,tyAt τ F=some f->q F l l'=some t->A2 (VC S E) l us->A2 (VC S E) l' vs->us.length=f.sz/\vs.length=f.sz/\EqR P n F (uAt f us) (uAt f vs) t):∀{fs:List (TypeId×Nat)} {l l':List SV} {us vs:LV} {t:Bool},eqF τ q fs l l'=some t->A2 (VC S E) l us->A2 (VC S E) l' vs->EqL P n us.toArray vs.toArray fs t
 |[],_,_,_,_,_,h,_,_=>by cases h;exact .nil
 |(F,o)::fs,l,l',us,vs,t,h,hl,hl'=>by
  have one:∀{f:TI} {t:Bool},tyAt τ F=some f->q F (pc l o f.sz) (pc l' o f.sz)=some t->(∀w,(part F us.toArray o).run P w = .ok (uAt f (piece us o f.sz)) w)/\(∀w,(part F vs.toArray o).run P w = .ok (uAt f (piece vs o f.sz)) w)/\EqR P n F (uAt f (piece us o f.sz)) (uAt f (piece vs o f.sz)) t:=fun {f t} hf h=>by
   obtain⟨h1,h2,h3⟩:=hq F f _ _ _ _ _ hf h (zzH o f.sz hl) (zzH o f.sz hl');have hF:=hτ _ _ hf
   have pp:∀{us:LV},(piece us o f.sz).length=f.sz->∀w,(part F us.toArray o).run P w = .ok (uAt f (piece us o f.sz)) w:=fun {us} hp=>by
    cases ha:f.agg with
    |true=>unfold uAt;rw[ha];exact yeA (hF.tagg ha) rfl|false=>
     have hs:f.sz=1:=hF.one1 ha;rw[hs]at hp ⊢
     match hpc:piece us o 1,hp with
     |[u],_=>unfold uAt;rw[ha];refine zmQ (hF.tone ha hs) ?_;rw[zaL]at hpc;have:=congrArg (·[0]?) hpc;simpa using this
   exact⟨pp h1,pp h2,h3⟩
  cases fs with
  |nil=>
   simp only[eqF]at h;split at h
   ·rename_i f hf;obtain⟨h1,h2,h3⟩:=one hf h;exact EqL.last h1 h2 h3
   ·cases h
  |cons p fs=>
   simp only[eqF]at h;split at h
   ·rename_i f hf;split at h
    ·rename_i a b h4 h5;cases h;obtain⟨h1,h2,h3⟩:=one hf h4;exact .cons h1 h2 h3 (yoO hτ hq h5 hl hl')
    ·cases h
   ·cases h
theorem yoZ(hτ:TEok P τ):∀(n:Nat) (T:TypeId) (f:TI) (l l':List SV) (us vs:LV) (t:Bool),tyAt τ T=some f->eqT τ n T l l'=some t->A2 (VC S E) l us->A2 (VC S E) l' vs->us.length=f.sz/\vs.length=f.sz/\EqR P n T (uAt f us) (uAt f vs) t
 |0,_,_,_,_,_,_,_,_,h,_,_=>by cases h
 |n+1,T,f,l,l',us,vs,t,hT,h,hl,hl'=>by
  unfold eqT at h;rw[hT]at h;simp only[]at h;cases hb:aG l.length f.sz&&aG l'.length f.sz with
  |false=>rw[hb]at h;cases h
  |true=>
   rw[hb]at h;simp only[zE]at h;have h1:=aB (zaT hb);have h2:=aB (zaW hb);have hF:=hτ _ _ hT;refine⟨by rw[<-hl.len,h1],by rw[<-hl'.len,h2],?_⟩;have leaf:∀{u v:Value},f.agg=false->us=[u]->vs=[v]->EqR P 1 T u v t->EqR P (n+1) T (uAt f us) (uAt f vs) t:=fun {u v} ha e1 e2 h=>by subst e1;subst e2;unfold uAt;rw[ha];exact h.le _ (by omega)
   split at h
   ·rename_i fs htd;obtain⟨hi,h⟩:=xeF h;obtain⟨a,k1,k2⟩:=hF.st htd;obtain⟨k3,k4,_⟩:=hF.eqs htd hi k1;have ha:f.agg=true:=by unfold TI.agg;rw[htd]
    have:=yoO hτ (fun F f' l l' us vs t hf h hl hl'=>yoZ hτ n F f' l l' us vs t hf h hl hl') h hl hl';unfold uAt;rw[ha];exact EqR.str k1 k3 k4 k2 this
   ·rename_i N0 E0 htd;split at h
    ·rename_i g hg;have ha:f.agg=true:=by unfold TI.agg;rw[htd]
     have:=yoO hτ (fun F f' l l' us vs t hf h hl hl'=>yoZ hτ n F f' l l' us vs t hf h hl hl') h hl hl';unfold uAt;rw[ha];exact EqR.arr (hF.arr htd) (hτ _ _ hg).tsz rfl this
    ·cases h
   ·rename_i k0 htd;obtain⟨u,v,e1,e2,h3⟩:=eqI_ok (hF.int htd) h hl hl';exact leaf (by unfold TI.agg;rw[htd]) e1 e2 h3
   ·rename_i htd;obtain⟨u,v,e1,e2,h3⟩:=xfQ (hF.bool htd) h hl hl';exact leaf (by unfold TI.agg;rw[htd]) e1 e2 h3
   ·rename_i htd;obtain⟨u,v,e1,e2,h3⟩:=eqSt_ok (hF.str htd) h hl hl';exact leaf (by unfold TI.agg;rw[htd]) e1 e2 h3
   ·cases h
theorem bin_ag{op:BinOp}{l l':List SV}{C:World->Prop}(hτ:TEok P τ)(hx:VR S E (.ag l) (e a))(hy:VR S E (.ag l') (e b))(h:bin τ T op (.ag l) (.ag l') k=some r):
  Ok1 P S E e ⟨dst,.binOp op T a b T',ty,pos,aft,g⟩ k r C:=by
 have h:binAg τ T op l l' k=some r:=h;unfold binAg at h;split at h
 ·rename_i f hT;obtain⟨ha,h⟩:=xeF h;split at h
  ·rename_i t ht;obtain⟨us,hu,h1⟩:=hx;obtain⟨vs,hv,h2⟩:=hy;obtain⟨_,_,h3⟩:=yoZ hτ 8 T f l l' us vs t hT ht h1 h2;have hF:=hτ _ _ hT;have hg:P.eqGuardType P.depth T=false:=by
    unfold eqT at ht;rw[hT]at ht;simp only[]at ht;cases hb:aG l.length f.sz&&aG l'.length f.sz with
    |false=>rw[hb]at ht;cases ht
    |true=>
     rw[hb]at ht;simp only[zE]at ht;unfold TI.agg at ha;split at ht
     ·rename_i fs htd;obtain⟨sa,k1,k2⟩:=hF.st htd;exact(hF.eqs htd (xeF ht).1 k1).2.2
     ·rename_i htd;exact hF.eqa htd
     all_goals first|(rename_i htd;rw[htd]at ha;cases ha;done)|cases ht
   unfold uAt at h3;rw[ha]at h3;split at h
   ·exact⟨_,_,h,bV _,fun w _=>zwL hg (by decide) h3 hu hv⟩
   ·exact⟨_,_,h,bV _,fun w _=>yhM hg (by decide) h3 hu hv⟩
   ·cases h
  ·cases h
 ·cases h
theorem yuL{op:BinOp}{p:Option Addr}{i j:Nat}{t:Bool}{C:World->Prop}(hτ:TEok P τ)(hx:e a = .slice p i j)(hy:e b = .slice none 0 0)(ht:p.isNone=t)(h:eqN τ T op t k=some r):
  Ok1 P S E e ⟨dst,.binOp op T a b T',ty,pos,aft,g⟩ k r C:=by
 subst ht;unfold eqN at h;split at h
 ·rename_i E' z1 z2 z3 z4 hT;have hu:=(hτ T _ hT).sl rfl;have key:∀d w,(Op.equalIn (d+1) T (.slice p i j) (.slice none 0 0)).run P w = .ok p.isNone w:=fun d w=>by cases p<;>simp[Op.equalIn,Go.underlying,hu]
  have key2:∀w,(Op.equal T (.slice p i j) (.slice none 0 0)).run P w = .ok p.isNone w:=fun w=>key 9999 w;split at h
  ·exact⟨_,_,h,bV _,fun w _=>by simp[execOp,eqGuard,binOp,hx,hy,key2]⟩
  ·exact⟨_,_,h,bV _,fun w _=>by simp[execOp,eqGuard,binOp,hx,hy,key2]⟩
  ·cases h
 ·cases h
theorem eqM_ok{op:BinOp}{p:Option Nat}{t:Bool}{C:World->Prop}(hτ:TEok P τ)(hx:e a = .map p)(hy:e b = .map none)(ht:p.isNone=t)(h:eqM τ T op t k=some r):
  Ok1 P S E e ⟨dst,.binOp op T a b T',ty,pos,aft,g⟩ k r C:=by
 subst ht;unfold eqM at h;split at h
 ·rename_i K' V' z1 z2 z3 z4 hT;have hu:=(hτ T _ hT).map rfl;have key:∀d w,(Op.equalIn (d+1) T (.map p) (.map none)).run P w = .ok p.isNone w:=fun d w=>by cases p<;>simp[Op.equalIn,Go.underlying,hu]
  have key2:∀w,(Op.equal T (.map p) (.map none)).run P w = .ok p.isNone w:=fun w=>key 9999 w;split at h
  ·exact⟨_,_,h,bV _,fun w _=>by simp[execOp,eqGuard,binOp,hx,hy,key2]⟩
  ·exact⟨_,_,h,bV _,fun w _=>by simp[execOp,eqGuard,binOp,hx,hy,key2]⟩
  ·cases h
 ·cases h
theorem xdC{op:BinOp}{x y:SV}{C:World->Prop}(hτ:TEok P τ)(hx:VR S E x (e a))(hy:VR S E y (e b))(h:bin τ T op x y k=some r):
  Ok1 P S E e ⟨dst,.binOp op T a b T',ty,pos,aft,g⟩ k r C:=by
 cases x with
 |v t x=>
  cases y with
  |v t' y=>
   cases t with
   |i q=>
    cases t' with
    |i q'=>exact xfL (vI hx) (vI hy) h|_=>cases h
   |b=>
    cases t' with
    |b=>exact ywY hτ (vB hx) (vB hy) h|_=>cases h
   |s=>
    cases t' with
    |s=>exact bin_str (vS hx) (vS hy) h|_=>cases h
   |_=>cases h
  |nilp=>
   cases t with
   |pt t=>obtain⟨_,b',us,e,hu,_⟩:=(show VB S E (.v (.pt t) x) (e a)from hx);cases e;exact yfU hτ hu hy rfl h
   |pm T0 t g=>obtain⟨_,b',p,a',c,T',e,hu,_⟩:=(show VB S E (.v (.pm T0 t g) x) (e a)from hx);cases e;exact yfU hτ hu hy rfl h
   |_=>cases h
  |_=>cases t<;>cases h
 |nils=>
  cases y with
  |nils=>exact yuL hτ hx hy rfl h|_=>cases h
 |nn t xs=>
  cases y with
  |nils=>
   have hx:VB S E (.nn t xs) (e a):=hx;obtain⟨⟨cs,h1,_⟩,h2⟩:=hx;rcases h1 with⟨⟨a0,h1⟩,_⟩|⟨b',o,c,ds,T2,fz,h1,_⟩
   ·cases a0 with
    |none=>exact absurd h1 (h2 _ _)|some a0=>exact yuL hτ h1 hy rfl h
   ·exact yuL hτ h1 hy rfl h
  |_=>cases h
 |nilm=>
  cases y with
  |nilm=>exact eqM_ok hτ hx hy rfl h|_=>cases h
 |nilp=>
  cases y with
  |nilp=>exact yfU hτ hx hy rfl h|_=>cases h
 |ptr id off=>
  cases y with
  |nilp=>obtain⟨b',hu,_⟩:=hx;exact yfU hτ hu hy rfl h
  |_=>cases h
 |rp t x off=>
  cases y with
  |nilp=>obtain⟨b',o,us,hu,_⟩:=hx;exact yfU hτ hu hy rfl h
  |_=>cases h
 |ag l=>
  cases y with
  |ag l'=>exact bin_ag hτ hx hy h|_=>cases h
 |_=>cases h
theorem un_ok{op:UnOp}{x:SV}{C:World->Prop}(hx:VR S E x (e a))(h:un op x k=some r):Ok1 P S E e ⟨dst,.unOp op T a,ty,pos,aft,g⟩ k r C:=by
 unfold un at h;split at h
 ·exact⟨_,_,h,bV _,fun w _=>zrF (vB hx) rfl⟩
 ·exact⟨_,_,h,iV _,fun w _=>r_neg (vI hx) rfl⟩
 ·cases h
theorem zwV{z x y:Operand}{t:Bool}{w:World}(hz:e z = .bool t):(execOp e ⟨dst,.pick z x y,ty,pos,aft,g⟩).run P w = .ok (.value (bif t then e x else e y)) w:=by
 cases t with
 |true=>exact zbV hz rfl rfl|false=>exact zaU hz rfl rfl
theorem castD_v{t t':Ty}(h:t=t'){y:den t}{u:Value}(k:VR S E (.v t y) u):VR S E (.v t' (ziC h y)) u:=by subst h;exact k
theorem yvM{z x y:Operand}{t:Bool}{a b:SV}{C:World->Prop}(hz:e z = .bool t)(hx:VR S E a (e x))(hy:VR S E b (e y))(h:ypX t a b k=some r):Ok1 P S E e ⟨dst,.pick z x y,ty,pos,aft,g⟩ k r C:=by
 have dflt:(bif t then k a else k b)=some r->Ok1 P S E e ⟨dst,.pick z x y,ty,pos,aft,g⟩ k r C:=fun h=>by
  cases t with
  |true=>exact⟨_,_,h,hx,fun w _=>zwV hz⟩|false=>exact⟨_,_,h,hy,fun w _=>zwV hz⟩
 unfold ypX at h;split at h
 ·rename_i a x c y;split at h
  ·rename_i hh _;refine⟨_,bif t then _ else _,h,?_,fun w _=>zwV hz⟩;cases t with
   |true=>exact hx|false=>exact castD_v hh hy
  ·cases h
 ·exact dflt h
end
def repA(S:Mem):(l:List Ty)->LV->zcM l->Prop
 |[],us,_=>us=[]|[t],us,x=>∃u,us=[u]/\rep1 t S u x|t::t'::l,us,x=>∃u us',us=u::us'/\rep1 t S u x.1/\repA S (t'::l) us' x.2
def repR(S:Mem)(l:List Ty)(u:Value)(x:zcM l):Prop:=match l,x with
 |[t],x=>rep1 t S u x|l,x=>∃us:LV,u = .tuple us.toArray/\repA S l us x
section
variable {S S2:Mem}{E:List EI}{hp:List AO}
theorem yeQ{t t':Ty}(h:t=t'){us:LV}{x:den t}(k:rep t S us x):rep t' S us (ziC h x):=by subst h;exact k
structure ztP (S S2:Mem) (E:List EI) (hp:List AO):Prop where
 own:∀id ver e T (xs:List (den e)) u,atN hp id=some (.osl ver e T xs)->VB S E (.own id ver) u->rep (.sl e) S2 [u] xs
 blk:∀id T cs u,atN hp id=some (.blk T cs)->VB S E (.ptr id 0) u->∃b us,u = .pointer (some ⟨b,0,none⟩)/\CellAt S2 b 0 us/\A2 (VC S E) cs us
theorem zeH:ztP S S2 E []:=⟨fun id ver e T xs u h=>(by cases id<;>cases h),fun id T cs u h=>(by cases id<;>cases h)⟩
theorem zgO(hS:Mem.le S S2)(hO:ztP S S2 E hp){t:Ty}{x:SV}{u:Value}{y:den t}(h:zhC hp t x=some y)(hx:VC S E x u):rep t S2 [u] y:=by
 unfold zhC at h;split at h
 ·rename_i t' x;split at h
  ·rename_i hh _;cases h;exact yeQ hh ((rpD t').mono hx hS)
  ·cases h
 ·cases h;have:u = .slice none 0 0:=hx;subst this;exact⟨_,rfl,.inl ⟨none,rfl,rfl⟩⟩
 ·cases h;obtain⟨_,a,rfl⟩:=hx;exact⟨_,rfl,.inl ⟨a,rfl,rfl⟩⟩
 ·cases h;have:u = .slice none 0 0:=hx;subst this;exact⟨_,rfl,RdS.nil⟩
 ·cases h;obtain⟨h1,_⟩:=hx;refine⟨_,rfl,[],?_,rfl⟩;rcases h1 with h1|⟨b,o,c,ds,T,fz,h1,h2,h3,h4,_⟩
  ·exact .inl h1
  ·exact .inr ⟨b,o,c,ds,T,fz,h1,h2,hS _ _ h3,by simp only[List.length_nil];omega,by simp[piece]⟩
 ·rename_i e e' xs;split at h
  ·rename_i hh _;cases h;subst hh;exact⟨_,rfl,RdS.mono hx.1 hS⟩
  ·cases h
 ·rename_i e e' xs;split at h
  ·rename_i hh _;cases h;subst hh;exact⟨_,rfl,RdS.mono hx.1 hS⟩
  ·cases h
 ·rename_i e e' n xs;split at h
  ·rename_i hh _;cases h;subst hh;obtain⟨v,h1,h2,rfl⟩:=hx;exact⟨_,rfl,RdS.mono (ymW h1 h2) hS⟩
  ·cases h
 ·rename_i e id ver;split at h
  ·rename_i ver' e' T xs hc;cases hb:aG ver ver' with
   |false=>rw[hb]at h;cases h
   |true=>
    rw[hb]at h;have hv:=aB hb;subst hv;simp only[zE]at h;split at h
    ·rename_i hh _;cases h;exact yeQ _ (hO.own id ver e' T xs u hc hx.b)
    ·cases h
  ·cases h
 ·cases h
theorem zjA(hS:Mem.le S S2)(hO:ztP S S2 E hp):∀(t:Ty) {l:List SV} {us:LV} {y:den t},zdR hp t l=some y->A2 (VC S E) l us->rep t S2 us y
 |.pr a c,l,us,y,h,hl=>by
  simp only[zdR]at h;split at h
  ·rename_i x1 x2 h1 h2;cases h;exact⟨_,_,(List.take_append_drop (tsz a) us).symm,zjA hS hO a h1 (hl.take _),zjA hS hO c h2 (hl.drop _)⟩
  ·cases h
 |.un,l,us,y,h,hl=>by
  simp only[zdR]at h;split at h
  ·cases hl;exact(rfl:[]=[])
  ·cases h
 |.i k,l,us,y,h,hl=>by
  simp only[zdR]at h;split at h
  ·obtain⟨u,rfl,hx⟩:=hl.one;exact zgO hS hO h hx
  ·cases h
 |.b,l,us,y,h,hl=>by
  simp only[zdR]at h;split at h
  ·obtain⟨u,rfl,hx⟩:=hl.one;exact zgO hS hO h hx
  ·cases h
 |.s,l,us,y,h,hl=>by
  simp only[zdR]at h;split at h
  ·obtain⟨u,rfl,hx⟩:=hl.one;exact zgO hS hO h hx
  ·cases h
 |.er,l,us,y,h,hl=>by
  simp only[zdR]at h;split at h
  ·obtain⟨u,rfl,hx⟩:=hl.one;exact zgO hS hO h hx
  ·cases h
 |.mp a _,l,us,y,h,hl=>by
  simp only[zdR]at h;split at h
  ·obtain⟨u,rfl,hx⟩:=hl.one;exact zgO hS hO h hx
  ·cases h
 |.sl e,l,us,y,h,hl=>by
  simp only[zdR]at h;split at h
  ·obtain⟨u,rfl,hx⟩:=hl.one;exact zgO hS hO h hx
  ·cases h
 |.jk T,l,us,y,h,hl=>by
  simp only[zdR]at h;split at h
  ·obtain⟨u,rfl,hx⟩:=hl.one;exact zgO hS hO h hx
  ·cases h
 |.pt T,l,us,y,h,hl=>by
  simp only[zdR]at h;split at h
  ·obtain⟨u,rfl,hx⟩:=hl.one;exact zgO hS hO h hx
  ·cases h
 |.pm _ _ _,l,us,y,h,hl=>by
  simp only[zdR]at h;split at h
  ·obtain⟨u,rfl,hx⟩:=hl.one;exact zgO hS hO h hx
  ·cases h
theorem znL(hS:Mem.le S S2)(hO:ztP S S2 E hp){t:Ty}{x:SV}{u:Value}{y:den t}(h:ofSV hp t x=some y)(hx:VR S E x u):rep1 t S2 u y:=by
 unfold ofSV at h;unfold rep1;split at h
 ·cases ho:one t with
  |true=>rw[ho]at h;cases h
  |false=>rw[ho]at h;rw[zG (by simp)];obtain⟨us,hu,hl⟩:=hx;exact⟨us,hu,zjA hS hO t h hl⟩
 ·rename_i hn;cases ho:one t with
  |false=>rw[ho]at h;cases h
  |true=>
   rw[ho]at h;rw[zH rfl];have hna:noag x=true:=by cases x<;>first|rfl|exact absurd rfl (hn _)
   by_cases hu:notu x=true
   ·exact zgO hS hO h ((hx.b hu).b hna)
   ·cases x<;>first|exact absurd rfl hu|(cases t<;>cases h)
theorem ylZ(hS:Mem.le S S2)(hO:ztP S S2 E hp):∀(l:List Ty) {xs:List SV} {us:LV} {y:zcM l},ybT hp l xs=some y->A2 (VR S E) xs us->repA S2 l us y
 |[],xs,us,y,h,hl=>by
  cases hl with
  |nil=>rfl|cons=>cases h
 |[t],xs,us,y,h,hl=>by
  cases hl with
  |nil=>cases h
  |cons a r=>
   cases r with
   |nil=>exact⟨_,rfl,znL hS hO h a⟩|cons=>cases h
 |t::t'::l,xs,us,y,h,hl=>by
  cases hl with
  |nil=>cases h
  |cons a r=>
   simp only[ybT]at h;split at h
   ·rename_i x1 x2 h1 h2;cases h;exact⟨_,_,rfl,znL hS hO h1 a,ylZ hS hO (t'::l) h2 r⟩
   ·cases h
theorem zmP{t:Ty}{u:Value}{y:den t}(h:rep1 t S u y):VA (VC S E) (svOf t y) u:=by
 unfold rep1 at h;unfold svOf;cases ho:one t with
 |true=>rw[zH ho]at h;exact h|false=>rw[ho,zG (by simp)]at h;obtain⟨cs,hu,h⟩:=h;exact⟨cs,hu,zgL t h⟩
theorem ygW:∀(l:List Ty) {us:LV} {y:zcM l},repA S l us y->A2 (VA (VC S E)) (zhN l y) us
 |[],_,_,h=>by rw[show _=[]from h];exact .nil
 |[t],_,_,⟨u,e,h⟩=>by rw[e];exact .cons (zmP h) .nil
 |t::t'::l,_,_,⟨u,us',e,h1,h2⟩=>by rw[e];exact .cons (zmP h1) (ygW (t'::l) h2)
theorem yeJ:∀(l:List Ty) (y:zcM l),(zhN l y).length=l.length
 |[],_=>rfl|[_],_=>rfl|_::t'::l,y=>by simp[zhN,yeJ (t'::l) y.2]
theorem yqA{l:List Ty}{u:Value}{y:zcM l}(h:repR S l u y):VR S E (yvW l y) u:=by
 match l,y,h with
 |[],y,⟨us,hu,h⟩=>exact⟨us,hu,ygW [] h⟩|[t],y,h=>exact VR.of (zmP h)|t::t'::l,y,⟨us,hu,h⟩=>
  have h1:=ygW (E:=E) (t::t'::l) h;have e1:yvW (t::t'::l) y = .tup (zhN (t::t'::l) y):=by
   unfold yvW;have:=yeJ (t::t'::l) y;split
   ·rename_i hh;rw[hh]at this;simp at this
   ·rfl
  rw[e1];exact⟨us,hu,h1⟩
theorem zqL:∀(t:Ty) {us:LV} {x:den t},zqV t=false->rep t S us x->rep t S2 us x
 |.i _,_,_,_,h=>h|.b,_,_,_,h=>h|.s,_,_,_,h=>h|.er,_,_,_,h=>h|.un,_,_,_,h=>h|.pr a c,_,_,hs,⟨c1,c2,e,h1,h2⟩=>by simp only[zqV,cY]at hs;exact⟨c1,c2,e,zqL a hs.1 h1,zqL c hs.2 h2⟩
theorem zwH{t:Ty}{u:Value}{x:den t}(hs:zqV t=false)(h:rep1 t S u x):rep1 t S2 u x:=by
 unfold rep1 at h ⊢;split at h
 ·rename_i ho;rw[zH ho];exact zqL t hs h
 ·rename_i ho;rw[zG ho];obtain⟨cs,e,h⟩:=h;exact⟨cs,e,zqL t hs h⟩
theorem yfR:∀(l:List Ty) {us:LV} {x:zcM l},l.any zqV=false->repA S l us x->repA S2 l us x
 |[],_,_,_,h=>h|[t],_,_,hs,⟨u,e,h⟩=>⟨u,e,zwH (by simpa using hs) h⟩|t::t'::l,_,_,hs,⟨u,us',e,h1,h2⟩=>by rw[List.any_cons,cY]at hs;exact⟨u,us',e,zwH hs.1 h1,yfR (t'::l) hs.2 h2⟩
theorem ylN{t:Ty}{u:Value}{x:den t}(hj:noJk t=true)(h:rep1 t S u x):rep1 t (cut S) u x:=by
 unfold rep1 at h ⊢;split at h
 ·rename_i ho;rw[zH ho];exact zlQ t hj _ _ h
 ·rename_i ho;rw[zG ho];obtain⟨cs,e,h⟩:=h;exact⟨cs,e,zlQ t hj _ _ h⟩
theorem ykF:∀(l:List Ty) {us:LV} {x:zcM l},l.all noJk=true->repA S l us x->repA (cut S) l us x
 |[],_,_,_,h=>h|[t],_,_,hj,⟨u,e,h⟩=>⟨u,e,ylN (by simpa using hj) h⟩|t::t'::l,_,_,hj,h=>by simp only[cO]at hj;obtain⟨u,us,e,h1,h2⟩:=h;exact⟨u,us,e,ylN (zaT hj) h1,ykF (t'::l) (zaW hj) h2⟩
theorem zwR(hS:Mem.le S S2):∀(l:List Ty) {us:LV} {x:zcM l},repA S l us x->repA S2 l us x
 |[],_,_,h=>h|[t],_,_,⟨u,e,h⟩=>⟨u,e,h.mono hS⟩|t::t'::l,_,_,⟨u,us,e,h1,h2⟩=>⟨u,us,e,h1.mono hS,zwR hS (t'::l) h2⟩
theorem yeO{l:List Ty}{u:Value}{x:zcM l}(hs:l.any zqV=false)(h:repR S l u x):repR S2 l u x:=by
 match l,x,h with
 |[],_,⟨us,hu,h⟩=>exact⟨us,hu,h⟩|[t],_,h=>exact zwH (by simpa using hs) h|t::t'::l,_,⟨us,hu,h⟩=>exact⟨us,hu,yfR _ hs h⟩
end
section
variable {β:Type}{τ:TE}{n:Nat}{P:Program}{B:Bas}{S:Mem}{E:List EI}{L:List Res}{σ:St}{m:FM}{w:World}{dst:Option Tmp}{g:Option (Nat×Bool)}{ty:TypeId}{pos:String}{aft:Array Edge}{a b x y:Operand}{T T':TypeId}{k:SV->Option β}{r:β}
theorem zbJ{o:Option SV}(h:bindS o k=some r):∃x,o=some x/\k x=some r:=by
 cases o with
 |none=>cases h
 |some x=>exact⟨x,rfl,h⟩
theorem zaJ{c:Bool}{o:Option β}(h:(bif c then o else none)=some r):c=true/\o=some r:=by
 cases c with
 |true=>exact⟨rfl,h⟩|false=>cases h
theorem Rel.objN(R:Rel n B S E L σ m w){i:Nat}{o:AO}(h:atN σ.hp i=some o):∃r e,lkR L i=some r/\E[i]? = some e/\OR S E o r e:=by rw[zcT]at h;obtain⟨r,e,h1,h2,h3⟩:=R.obj i o h;exact⟨r,e,by rw[zaX];exact h1,h2,h3⟩
theorem zxE{l l2:LV}{o k:Nat}(h:o+k<=l.length):piece (l++l2) o k=piece l o k:=by rw[zaL,zaL,List.drop_append_of_le_length (by omega),List.take_append_of_le_length (by rw[bO];omega)]
theorem Same.eq{v v':Value}{n i:Nat}(h:Same S v v' n)(hi:i<n):v'=v:=by
 rcases h with h|⟨_,h,_⟩
 ·exact h
 ·omega
theorem Same.slW{w:World}{v v':Value}{n sz:Nat}{cs:LV}(h:Same S v v' n)(hS:Sub S w)(hw:SlW w v n sz cs):SlW w v' n sz cs:=by
 rcases h with rfl|⟨rfl,rfl,h,a,rfl⟩
 ·exact hw
 ·have hl:=hw.len;have:cs=[]:=List.eq_nil_of_length_eq_zero (by omega);subst this;rcases h with⟨h,_,_⟩|⟨b,o,c,ds,T,fz,h1,h2,h3,h4,_⟩
  ·exact .inl ⟨h,rfl,rfl⟩
  ·exact .inr ⟨b,o,c,ds,T,fz,h1,h2,hS _ _ h3,by omega,by simp[piece]⟩
theorem Same.one{v v':Value}{n:Nat}(h:Same S v v' n)(hv:v.oneCell'=true):v'.oneCell'=true:=by
 rcases h with rfl|⟨_,_,_,a,rfl⟩
 ·exact hv
 ·rfl
theorem MR.len{K V:Ty}{es:List (den K×den V)}{ents:List MapEntry}(h:MR S K V es ents):ents.length=es.length:=by obtain⟨l,h1,h2⟩:=h.perm;rw[<-h2.len,h1.length_eq]
theorem zqD{b ck:Nat}{ents:Array MapEntry}(h:w.heap[b]? = some (.map ents ck)):(getObj b).run P w = .ok (.map ents ck) w:=by simp[getObj,Sem.run,h]
theorem r_lenM{e:Operand->Value}{K V:TypeId}{b ck N:Nat}{ents:List MapEntry}(hu:P.underlying T=some (.map K V))(hx:e x = .map (some b))(hh:w.heap[b]? = some (.map ents.toArray ck))(hN:ents.length=N):(execOp e ⟨dst,.call ⟨.builtin .len,#[x],#[T]⟩,ty,pos,aft,g⟩).run P w = .ok (.value (.int .i64 (N:Int))) w:=by subst hN;have hg:(getObj b).run P w = .ok (.map ents.toArray ck) w:=zqD hh;simp[execOp,resolve,invoke,builtin,hx,Builtin.len_,Go.underlying,hu,hg,goInt]
theorem zzW{L:List Res}{w:World}(H:HS B S w L){id N s:Nat}{v:Value}{cs rs:LV}(hk:lkR L id=some (.osl v N s cs rs T)){i:Nat}(hi:i<N):∃b c fz,v=sl b 0 N c/\cs.length=N*s/\w.heap[b]? = some (.cells (cs++rs).toArray T fz):=by
 rcases H.own id _ hk with⟨_,h,_⟩|⟨b,c,fz,h1,_,h3,_,h4,_⟩
 ·omega
 ·exact⟨b,c,fz,h1,h3,h4⟩
theorem xbR{L:List Res}{w:World}(H:HS B S w L){id N s:Nat}{v:Value}{cs rs:LV}{ms:List R0}(hk:lkR L id=some (.many (.osl v N s cs rs T::ms))){i:Nat}(hi:i<N):∃b c fz,v=sl b 0 N c/\cs.length=N*s/\w.heap[b]? = some (.cells (cs++rs).toArray T fz):=by
 rcases(H.own id _ hk).1 _ bC with⟨_,h,_⟩|⟨b,c,fz,h1,_,h3,_,h4,_⟩
 ·omega
 ·exact⟨b,c,fz,h1,h3,h4⟩
theorem yzA{E':List EI}{x:SV}{u:Value}(hp:zuT x=true)(h:VB S E x u):VB S E' x u:=by cases x<;>first|exact h|cases hp
theorem ymE{x:SV}(hp:zuT x=true):nofn x=true:=by cases x<;>first|rfl|cases hp
theorem yfJ{E':List EI}:∀{l:List SV} {us:LV},l.all zuT=true->A2 (VC S E) l us->A2 (VC S E') l us
 |[],_,_,.nil=>.nil|x::l,_,h,.cons a t=>by simp only[cO,aK]at h;exact .cons (yzA h.1 (a.b (ymE h.1))).c (yfJ h.2 t)
theorem Mem1.root{f:List FSh}{x:den (fT f)}{rs:List R0}{b:Nat}(h:Mem1 S f x rs b)(h0:0<(ynL f x).length):∃T0 us Ei,R0.blk b us T0∈rs/\A2 (VC S Ei) (ynL f x) us:=by
 obtain⟨Ei,h1,h2,h3,h4⟩:=h;unfold ynL at h0 ⊢;split at h0
 ·rename_i T0 cs os hp;obtain⟨r,e,k1,k2,k3⟩:=h4 0 _ (by rw[hp];rfl);obtain⟨b',us,k4,rfl,k6⟩:=k3;have hbb:=h1 _ k2;rw[hbb]at k4;refine⟨T0,us,Ei,?_,k6⟩;have:r = .blk b us T0:=by cases r<;>simp only[R0.up,Res.blk.injEq,reduceCtorEq]at k4;obtain⟨rfl,rfl,rfl⟩:=k4;rfl
  rw[<-this];exact bJ k1
 ·cases h0
theorem yzP{sz:Nat}{p:SV}{k:List SV->Option β}(R:Rel n B S E L σ m w){u:Value}(hp:VR S E p u)(h:deref σ.hp p sz k=some r):∃l us,k l=some r/\A2 (VC S E) l us/\∀w',HS B S w' L->∃b o ds T' fz,u = .pointer (some ⟨b,o,none⟩)/\w'.heap[b]? = some (.cells (List.toArray ds) T' fz)/\piece ds o sz=us:=by
 unfold deref at h;split at h
 ·rename_i id off;split at h
  ·rename_i T0 cs hc;obtain⟨r0,e0,h1,h2,b,us,rfl,rfl,h3⟩:=R.objN hc;obtain⟨b1,hu,e1,h4,h5⟩:=hp;rw[h2]at h4;cases h4;cases h5 _ rfl;exact⟨_,_,h,zzH off sz h3,fun w' H=>⟨b,off,us,T0,(0,0),hu,H.own id _ h1,rfl⟩⟩
  ·cases h
 ·rename_i t x off;obtain⟨hb,h⟩:=zaJ h;obtain⟨b,o,us,rfl,hc,h4⟩:=hp;have hl:us.length=tsz t:=by rw[(rpD t).len h4,zgX]
  have hb:=aR hb;refine⟨_,_,h,zzH off sz (zgL t h4),fun w' H=>?_⟩;obtain⟨ds,T0,fz,h1,h2,h3⟩:=hc.w H.sub;exact⟨b,o+off,ds,T0,fz,rfl,h1,by rw[<-zgM ds o us.length off sz (by omega),h3]⟩
 ·rename_i id ver i off;split at h
  ·rename_i ver' e T0 xs hc;obtain⟨hb0,hq⟩:=zaJ h;have hv:=aB (zaT hb0);have hb:=aR (zaW hb0);clear h;obtain⟨x,hx,h⟩:=bnd hq;clear hq;subst hv;obtain⟨r0,e0,h1,h2,v,v',cs,rs,rfl,rfl,h3,hsm⟩:=R.objN hc;obtain⟨hi,hx2⟩:=zaP hx;have hi2:=(aC.1 hx2).1;obtain rfl:=hsm.eq hi2;have hr:=RL.get h3 hx2;rw[zgX]at hr;obtain⟨_,e1,h4,h5⟩:=hp;rw[h2]at h4;cases h4;obtain⟨b,o,n',c,h6,h7⟩:=(h5 _ _ _ rfl).2 rfl;refine⟨_,_,h,zzH off sz (zgL e hr),fun w' H=>?_⟩;obtain⟨b',c',fz,k1,k2,k3⟩:=zzW H h1 hi2;rw[h6]at k1;obtain⟨rfl,rfl⟩:b=b'/\o=0:=by injection k1 with k1;injection k1 with k1;injection k1 with k1 k2;exact⟨k1,k2⟩
   refine⟨b,_,cs++rs,T0,fz,h7,k3,?_⟩;have hm:i.toNat*tsz e+tsz e<=cs.length:=by have:=cE (tsz e) (show i.toNat+1<=xs.length by omega);rw[bD,cR]at this;omega
   rw[zxE (by omega),aQ,<-zgM cs (i.toNat*tsz e) (tsz e) off sz hb]
  ·rename_i ver' e T0 xs hc;obtain⟨hb0,hq⟩:=zaJ h;have hv:=aB (zaT hb0);have hb:=aR (zaW hb0);clear h;obtain⟨x,hx,h⟩:=bnd hq;clear hq;subst hv;obtain⟨r0,e0,h1,h2,b,c,p,ps,cs,rs,q,c',rfl,rfl,g1,g2,g3,g4⟩:=R.objN hc;obtain⟨hi,hx2⟩:=zaP hx;have hi2:=(aC.1 hx2).1;have hr:=RL.get g2 hx2;rw[zgX]at hr;obtain⟨_,e1,h4,h5⟩:=hp;rw[h2]at h4;cases h4;obtain⟨b',o,n',c2,h6,h7⟩:=(h5 _ _ _ rfl).2 rfl;obtain⟨rfl,rfl⟩:b=b'/\q=o:=by injection h6 with k1;injection k1 with k1;injection k1 with k1 k2;exact⟨k1,k2⟩
   obtain⟨rfl,rfl⟩:q=p*tsz e/\c=p+c':=by
    rcases g4 with g4|g4
    ·exact g4
    ·omega
   refine⟨_,_,h,zzH off sz (zgL e hr),fun w' H=>?_⟩;obtain⟨b2,c3,fz,k1,k2,k3⟩:=zzW H h1 (i:=p+i.toNat) (by omega);have hbb:b=b2:=by injection k1 with k1;injection k1 with k1;injection k1
   subst hbb;refine⟨b,_,ps++cs++rs,T0,fz,h7,k3,?_⟩;have hcl:cs.length=xs.length*tsz e:=by have:=g2.len;rw[zgX]at this;exact this
   have hm:i.toNat*tsz e+tsz e<=cs.length:=by have:=cE (tsz e) (show i.toNat+1<=xs.length by omega);rw[bD,cR]at this;omega
   rw[zxE (by rw[List.length_append];omega),zgM cs (i.toNat*tsz e) (tsz e) off sz hb,zaL,zaL,<-g1,dL,List.drop_append,List.drop_eq_nil_of_le (by omega),List.nil_append];congr 2;omega
  ·cases h
 ·rename_i id ver i;split at h
  ·rename_i ver' T0 f ks hc;obtain⟨hb0,hq⟩:=zaJ h;have hv:=aB (zaT hb0);have hb:=aB (zaW hb0);clear h;obtain⟨_,hk,h⟩:=bnd hq;have hk:=zcP hk;have h3:=zC (zaT hk);have h4:=zC (zaW hk);subst hb;subst hv;obtain⟨r0,e0,g1,g2,v,rs,ms,bs,rfl,rfl,g3⟩:=R.objN hc;obtain⟨_,e1,h5,h6⟩:=hp;rw[g2]at h5;cases h5;obtain⟨b,n',c,h7,h8⟩:=(h6 _ _ _ rfl).2 rfl;have hib:i.toNat<bs.length:=by rw[g3.l2];omega
   refine⟨_,[ptrV bs[i.toNat]],h,.cons (VB.c ⟨rfl,_,g2,fun r1 v1 s1 hq=>by cases hq;exact⟨h3,_,List.getElem?_eq_getElem hib,rfl⟩⟩) .nil,fun w' H=>?_⟩;obtain⟨b',c',fz,k1,k2,k3⟩:=xbR H g1 (i:=i.toNat) (by omega);rw[h7]at k1;have hbb:b=b':=by injection k1 with k1;injection k1 with k1;injection k1
   subst hbb;refine⟨b,_,bs.map ptrV++rs,T0,fz,h8,k3,?_⟩;rw[zxE (by rw[bL];omega),zaL,List.drop_eq_getElem_cons (by rw[bL];exact hib)];simp
  ·cases h
 ·rename_i id i off;split at h
  ·rename_i ver' T0 f ks hc;obtain⟨x,hx,h⟩:=bnd h;obtain⟨hb0,hq⟩:=zaJ h;clear h;have ha:=zaW hb0;have hs:=zC (by rw[<-zhR];exact zaT (zaT hb0));have hle:=aR (zaW (zaT hb0));obtain⟨hi,hx2⟩:=zaP hx;obtain⟨r0,e0,g1,g2,v,rs,ms,bs,rfl,rfl,g3⟩:=R.objN hc;obtain⟨_,e1,h5,h6⟩:=hp;rw[g2]at h5;cases h5;obtain⟨_,b,h7,h8⟩:=h6 _ _ _ rfl;obtain⟨rs1,b1,k1,k2,k3⟩:=g3.mem _ _ hx2 (by simp);rw[h7]at k2;cases k2;obtain⟨T1,us,Ei,k4,k5⟩:=k3.root (by omega);refine⟨_,_,hq,yfJ ha (zzH off sz k5),fun w' H=>⟨b,off,us,T1,(0,0),h8,?_,rfl⟩⟩;exact(H.own id _ g1).1 (.blk b us T1) (List.mem_cons_of_mem _ (List.mem_flatten.2 ⟨rs1,bJ k1,k4⟩))
  ·cases h
 ·rename_i t x;obtain⟨hb,h⟩:=zaJ h;obtain⟨_,b,us,e,rfl,⟨ds,T0,fz,h1,h2,h3⟩,h4⟩:=(show VB S E (.v (.pt t) x) u from hp);cases e;have hl:us.length=tsz t:=by rw[(rpD t).len h4,zgX]
  have hb:=aR hb;exact⟨_,_,h,zzH 0 sz (zgL t h4),fun w' H=>⟨b,0,ds,T0,fz,rfl,H.sub _ _ h1,by rw[<-zgM ds 0 us.length 0 sz (by omega),h3]⟩⟩
 ·cases h
theorem yaB(hτ:TEok P τ){i o:Nat}{f:TI}(h:fieldAt τ T i=some (o,f)):∃a fd,P.underlying T=some (.struct a)/\a[i]? = some fd/\fd.offset=o/\TIok P fd.type f:=by
 unfold fieldAt at h;split at h
 ·rename_i fs z1 z2 z3 z4 hT;split at h
  ·rename_i F o' hi;split at h
   ·rename_i f' hF;cases h;obtain⟨a,h1,h2⟩:=(hτ T _ hT).st rfl;rw[zcT,<-h2,List.getElem?_map]at hi;cases hfd:a.toList[i]? with
    |none=>rw[hfd]at hi;cases hi
    |some fd=>rw[hfd]at hi;cases hi;exact⟨a,fd,h1,by simpa using hfd,rfl,hτ _ _ hF⟩
   ·cases h
  ·cases h
 ·cases h
theorem zpR(hτ:TEok P τ){f:TI}(h:elemAt τ T=some f):∃E,P.underlying T=some (.slice E)/\TIok P E f:=by
 unfold elemAt at h;split at h
 ·rename_i E' z1 z2 z3 z4 hT;exact⟨E',(hτ T _ hT).sl rfl,hτ _ _ h⟩
 ·cases h
theorem ypU{p:SV}{f:TI}{k:SV->Option β}(R:Rel n B S E L σ m w)(hT:TIok P T f)(hp:VR S E p (evO n m a))(h:deref σ.hp p f.sz (fun l=>bindS (svAt f l) k)=some r):
  Ok1 P S E (evO n m) ⟨dst,.load T a,ty,pos,aft,g⟩ k r (fun w'=>HS B S w' L):=by
 obtain⟨l,us,h1,h2,h3⟩:=yzP R hp h;obtain⟨z,h4,h5⟩:=zbJ h1;obtain⟨u,h6,h7⟩:=xeY (dst:=dst) (g:=g) (ty:=ty) (pos:=pos) (aft:=aft) (x:=a) (e:=evO n m) (T':=0) (b:=0) (o:=0) (ds:=[]) (fz:=(0,0)) hT h4 h2;exact⟨z,u,h5,VR.of h6,fun w' H=>by obtain⟨b,o,ds,T',fz,k1,k2,k3⟩:=h3 w' H;exact h7 w' T' b o ds fz k2 k1 k3⟩
theorem yeU{l:LV}{o:Nat}{u:Value}(h:piece l o 1=[u]):l[o]? = some u:=by rw[zaL]at h;have:=congrArg (·[0]?) h;simpa using this
theorem ykP{i o:Nat}{f:TI}{l:List SV}{k:SV->Option β}{C:World->Prop}(hτ:TEok P τ)(hf:fieldAt τ T i=some (o,f))(hx:VR S E (.ag l) (evO n m a))(h:bindS (svAt f (pc l o f.sz)) k=some r):
  Ok1 P S E (evO n m) ⟨dst,.field T a i,ty,pos,aft,g⟩ k r C:=by
 obtain⟨fs,fd,h1,h2,rfl,h4⟩:=yaB hτ hf;obtain⟨z,h5,h6⟩:=zbJ h;obtain⟨us,hu,h7⟩:=hx;obtain⟨h8,h10⟩:=yhC h5 (zzH fd.offset f.sz h7);rcases h10 with⟨ha,hv⟩|⟨ha,hs,u,hu1,hv⟩
 ·refine⟨z,_,h6,VR.of hv,fun w' _=>?_⟩;have key:(part fd.type us.toArray fd.offset).run P w' = .ok (.agg (piece us fd.offset f.sz).toArray) w':=yeA (h4.tagg ha) rfl w';simp[execOp,Instr.field,Go.underlying,h1,h2,hu,asAgg,key]
 ·refine⟨z,u,h6,VR.of hv,fun w' _=>?_⟩;rw[hs]at hu1;have key:(part fd.type us.toArray fd.offset).run P w' = .ok u w':=zmQ (h4.tone ha hs) (yeU hu1) w';simp[execOp,Instr.field,Go.underlying,h1,h2,hu,asAgg,key]
theorem zxL{x z:SV}{o:Nat}{u:Value}(R:Rel n B S E L σ m w)(hx:VR S E x u)(h:zuR σ.hp x o=some z):∃b o',u = .pointer (some ⟨b,o',none⟩)/\VR S E z (.pointer (some ⟨b,o'+o,none⟩)):=by
 cases x with
 |rp t y off=>cases h;obtain⟨b,o1,us,hu,h7,h8⟩:=hx;exact⟨b,_,hu,⟨b,o1,us,by rw[dL],h7,h8⟩⟩
 |ptr id off=>
  simp only[zuR]at h;split at h
  ·rename_i T0 cs hc;cases h;obtain⟨b1,hu,e0,h8,h9⟩:=hx;exact⟨b1,off,hu,⟨b1,rfl,e0,h8,h9⟩⟩
  ·cases h
 |ep id ver i off=>
  simp only[zuR]at h;split at h
  ·rename_i ver' e T0 xs hc;obtain⟨hv,h⟩:aG ver ver'=true/\some (SV.ep id ver i (off+o))=some z:=by
    cases hb:aG ver ver' with
    |true=>rw[hb]at h;exact⟨rfl,h⟩|false=>rw[hb]at h;cases h
   have hv:=aB hv;cases h;subst hv;obtain⟨r0,e0,h1,h2,v,v',cs,rs,rfl,rfl,h3,hsm⟩:=R.objN hc;obtain⟨h7,e0,h8,h9⟩:=hx;rw[h2]at h8;cases h8;obtain⟨h10,h11⟩:=h9 _ _ _ rfl;obtain⟨b,oo,n',c,h12,h13⟩:=h11 rfl;exact⟨b,_,h13,⟨rfl,_,h2,fun r v' s hb=>by cases hb;exact⟨aJ _,fun _=>⟨b,oo,n',c,h12,by rw[dL]⟩⟩⟩⟩
  ·rename_i ver' e T0 xs hc;obtain⟨hv,h⟩:aG ver ver'=true/\some (SV.ep id ver i (off+o))=some z:=by
    cases hb:aG ver ver' with
    |true=>rw[hb]at h;exact⟨rfl,h⟩|false=>rw[hb]at h;cases h
   have hv:=aB hv;cases h;subst hv;obtain⟨r0,e0,h1,h2,b0,c0,p0,ps,cs,rs,q0,c',rfl,rfl,h3,hsm⟩:=R.objN hc;obtain⟨h7,e0,h8,h9⟩:=hx;rw[h2]at h8;cases h8;obtain⟨h10,h11⟩:=h9 _ _ _ rfl;obtain⟨b,oo,n',c,h12,h13⟩:=h11 rfl;exact⟨b,_,h13,⟨rfl,_,h2,fun r v' s hb=>by cases hb;exact⟨aJ _,fun _=>⟨b,oo,n',c,h12,by rw[dL]⟩⟩⟩⟩
  ·cases h
 |fp id i off=>
  simp only[zuR]at h;split at h
  ·rename_i ver' T0 f ks hc;cases h;obtain⟨r0,e0,g1,g2,v,rs,ms,bs,rfl,rfl,g3⟩:=R.objN hc;obtain⟨_,e1,h5,h6⟩:=hx;rw[g2]at h5;cases h5;obtain⟨h9,b,h7,h8⟩:=h6 _ _ _ rfl;exact⟨b,off,h8,⟨rfl,_,g2,fun r v' s hb=>by cases hb;exact⟨h9,b,h7,rfl⟩⟩⟩
  ·cases h
 |v t y=>
  cases t with
  |pt t=>cases h;obtain⟨_,b,us,e,h1,h2,h3⟩:=(show VB S E (.v (.pt t) y) u from hx);cases e;exact⟨b,0,h1,⟨b,0,us,rfl,.inl h2,h3⟩⟩
  |pm T0 t g=>cases h;obtain⟨_,b,p,a,c,T,e,h1,h2,h3,h4,_⟩:=(show VB S E (.v (.pm T0 t g) y) u from hx);cases e;exact⟨b,0,h1,⟨b,0,p,rfl,.inr ⟨p,a,c,T,h2,h3,by omega,by rw[zaL];simp⟩,h4⟩⟩
  |_=>cases h
 |_=>cases h
theorem yfH{i o:Nat}{f:TI}{x:SV}{k:SV->Option β}(hτ:TEok P τ)(hf:fieldAt τ T i=some (o,f))(h0:Nat.blt 0 f.sz=true)(hR:Rel n B S E L σ m w)(hx:VR S E x (evO n m a))(h:bindS (zuR σ.hp x o) k=some r):
  Ok1 P S E (evO n m) ⟨dst,.fieldAddr T a i,ty,pos,aft,g⟩ k r (fun w'=>HS B S w' L):=by
 obtain⟨fs,fd,h1,h2,rfl,h4⟩:=yaB hτ hf;obtain⟨z,h5,h6⟩:=zbJ h;rw[zhR]at h0;have hz:∀w,(sizeOf fd.type).run P w = .ok (f.sz-1+1) w:=fun w=>by rw[Nat.sub_add_cancel (zC h0)];exact h4.tsz w
 obtain⟨b,o',h7,h8⟩:=zxL hR hx h5;exact⟨_,_,h6,h8,fun w' _=>r_addrF h1 h2 hz h7⟩
theorem xeK{q:IntKind}{i:Int}{f:TI}{E' T0:TypeId}{N0:Nat}{k:SV->Option β}(h1:P.underlying T=some (.slice E'))(h2:TIok P E' f)(hx:VR S E (.v (.jk T0) N0) (evO n m a))(hi:evO n m b = .int q i) (h:(bif aG f.sz 1 then aA (chk (decide (0<=i)&&decide (i<Int.ofNat N0))) fun _=>k .jp else none)=some r):
  Ok1 P S E (evO n m) ⟨dst,.indexAddr T a b,ty,pos,aft,g⟩ k r (fun w'=>HS B S w' L):=by
 obtain⟨hs,h⟩:=zaJ h;obtain⟨_,hk,h⟩:=bnd h;have hk:=zcP hk;have h3:=zC (zaT hk);have h4:i<(N0:Int):=zC (zaW hk);obtain⟨v,hv,hd⟩:=hx;injection hv with hv;rcases hd with⟨_,_,hd⟩|⟨b0,c0,m0,hu,_,h5,h6⟩
 ·have hd:N0=0:=hd;omega
 ·have hts:TSz P E' 1:=by rw[<-aB hs];exact h2.tsz
  exact⟨_,_,h,⟨b0,i.toNat,m0,T0,rfl,h5,by omega⟩,fun w' _=>by
   have:=ziW (g:=g) (dst:=dst) (ty:=ty) (pos:=pos) (aft:=aft) (P:=P) (w:=w') h1 hts (hv.trans hu) rfl hi (show i=(i.toNat:Int) by omega) (by omega)
   rw[bY,aQ]at this;exact this⟩
theorem yfW{q:IntKind}{i:Int}{f:TI}{x:SV}{k:SV->Option β}(hτ:TEok P τ)(hf:elemAt τ T=some f)(hR:Rel n B S E L σ m w)(hx:VR S E x (evO n m a))(hi:evO n m b = .int q i) (h:idxA σ.hp f x i k=some r):
  Ok1 P S E (evO n m) ⟨dst,.indexAddr T a b,ty,pos,aft,g⟩ k r (fun w'=>HS B S w' L):=by
 obtain⟨E',h1,h2⟩:=zpR hτ hf
 have key:∀{e:Ty} {xs:List (den e)},@RdS (den e) (rpD e) S (evO n m a) xs->(bif aG f.sz (tsz e)then aA (idx xs i) fun x=>k (.rp e x 0)else none)=some r->Ok1 P S E (evO n m) ⟨dst,.indexAddr T a b,ty,pos,aft,g⟩ k r (fun w'=>HS B S w' L):=fun {e xs} hrd h=>by
  obtain⟨hs,h⟩:=zaJ h;have hs:=aB hs;obtain⟨y,hy,h⟩:=bnd h;obtain⟨h3,h4⟩:=zaP hy;obtain⟨b',o,n',c,cs,h5,h6,h7,h8⟩:=hrd.get h4;rw[zgX]at h7;have hts:TSz P E' (tsz e):=by rw[<-hs];exact h2.tsz
  exact⟨_,_,h,⟨b',o+i.toNat*tsz e,cs,rfl,.inl h7,h8⟩,fun w' _=>ziW h1 hts rfl h5 hi h3 h6⟩
 cases x with
 |v t xs=>
  cases t with
  |sl e=>obtain⟨v,hv,hrd⟩:=hx;injection hv with hv;exact key (by rw[hv];exact hrd) h
  |jk T0=>exact xeK (N0:=xs) h1 h2 hx hi h|_=>cases h
 |cl e xs=>exact key hx.1 h|rm e n xs=>obtain⟨v,h1,h2,h3⟩:=hx;exact key (xs:=gD n xs) (by rw[h3];exact ymW h1 h2) h
 |own id ver=>
  simp only[idxA]at h;split at h
  ·rename_i ver' e T0 xs hc;obtain⟨hb,h⟩:=zaJ h;have hv:=aB (zaT hb);have hs:=aB (zaW hb);obtain⟨_,hk,h⟩:=bnd h;have hk:=zcP hk;have h3:=zC (zaT hk);have h4:=zC (zaW hk);obtain⟨r0,e0,g1,g2,v,v',cs,rs,rfl,rfl,g3,hsm⟩:=hR.objN hc;obtain⟨h7,e0,h8,h9⟩:=hx;rw[g2]at h8;cases h8;have hu:=(h9 _ _ _ rfl).2 hv;obtain rfl:=hsm.eq (i:=i.toNat) (by omega);obtain⟨b',c',fz,k1,k2,k3⟩:=zzW hR.hs g1 (i:=i.toNat) (by omega);have hts:TSz P E' (tsz e):=by rw[<-hs];exact h2.tsz
   refine⟨_,_,h,⟨rfl,_,g2,fun r1 v1 s1 hq=>?_⟩,fun w' _=>ziW h1 hts hu k1 hi (show i=(i.toNat:Int) by omega) (by omega)⟩;cases hq;exact⟨dW hv,fun _=>⟨b',0,_,c',k1,by rw[cQ]⟩⟩
  ·rename_i ver' e T0 xs hc;obtain⟨hb,h⟩:=zaJ h;have hv:=aB (zaT hb);have hs:=aB (zaW hb);obtain⟨_,hk,h⟩:=bnd h;have hk:=zcP hk;have h3:=zC (zaT hk);have h4:=zC (zaW hk);obtain⟨r0,e0,g1,g2,b',c,p,ps,cs,rs,q,c',rfl,rfl,g3⟩:=hR.objN hc;obtain⟨h7,e0,h8,h9⟩:=hx;rw[g2]at h8;cases h8;have hu:=(h9 _ _ _ rfl).2 hv;have hts:TSz P E' (tsz e):=by rw[<-hs];exact h2.tsz
   refine⟨_,_,h,⟨rfl,_,g2,fun r1 v1 s1 hq=>?_⟩,fun w' _=>ziW h1 hts hu rfl hi (show i=(i.toNat:Int) by omega) (by omega)⟩;cases hq;exact⟨dW hv,fun _=>⟨b',q,_,c',rfl,by rw[cQ]⟩⟩
  ·cases h
 |fs id ver=>
  simp only[idxA]at h;split at h
  ·rename_i ver' T0 f' ks hc;obtain⟨hb,h⟩:=zaJ h;have hv:=aB (zaT hb);have hs:=aB (zaW hb);obtain⟨_,hk,h⟩:=bnd h;have hk:=zcP hk;have h3:=zC (zaT hk);have h4:=zC (zaW hk);obtain⟨r0,e0,g1,g2,v,rs,ms,bs,rfl,rfl,g3⟩:=hR.objN hc;obtain⟨h7,e0,h8,h9⟩:=hx;rw[g2]at h8;cases h8;have hu:=(h9 _ _ _ rfl).2 hv;obtain⟨b',c',fz,k1,k2,k3⟩:=xbR hR.hs g1 (i:=i.toNat) (by omega);have hts:TSz P E' 1:=by rw[<-hs];exact h2.tsz
   refine⟨_,_,h,⟨rfl,_,g2,fun r1 v1 s1 hq=>?_⟩,fun w' _=>ziW h1 hts hu k1 hi (show i=(i.toNat:Int) by omega) (by omega)⟩;cases hq;exact⟨dW hv,fun _=>⟨b',_,c',k1,by rw[aQ,bY]⟩⟩
  ·cases h
 |_=>cases h
theorem yxZ{q:IntKind}{i:Int}{l:Bs}{k:SV->Option β}(hu:P.underlying T=some .string)(hx:evO n m a=str l)(hi:evO n m b = .int q i)(h:(aA (idx l i) fun c=>k (.v (.i .u8) (show UInt8 from c)))=some r):
  Ok1 P S E (evO n m) ⟨dst,.index T a b,ty,pos,aft,g⟩ k r (fun w'=>HS B S w' L):=by
 obtain⟨y,hy,h⟩:=bnd h;obtain⟨h3,h4⟩:=zaP hy;exact⟨_,_,h,(rfl:[_]=[_]),fun w' _=>zsG hu hx hi h3 h4⟩
theorem len_is{x:SV}{k:SV->Option β}(hτ:TEok P τ)(hR:Rel n B S E L σ m w)(hx:VR S E x (evO n m a))(h:(xdX τ T σ.hp x fun n=>k (.v (.i .i64) n))=some r):
  Ok1 P S E (evO n m) ⟨dst,.call ⟨.builtin .len,#[a],#[T]⟩,ty,pos,aft,g⟩ k r (fun w'=>HS B S w' L):=by
 unfold xdX at h;split at h
 ·rename_i z1 z2 z3 z4 hT;cases x with
  |v t l=>
   cases t with
   |s=>exact⟨_,_,h,(rfl:[_]=[_]),fun w' _=>zmX ((hτ T _ hT).str rfl) (vS hx) rfl⟩|_=>cases h
  |_=>cases h
 ·rename_i E' z1 z2 z3 z4 hT;have hu:=(hτ T _ hT).sl rfl;cases x with
  |v t l=>
   cases t with
   |sl e=>obtain⟨v,hv,hrd⟩:=hx;injection hv with hv;exact⟨_,_,h,(rfl:[_]=[_]),fun w' H=>r_lenR' (xs:=l) hu hv hrd H.sub⟩
   |jk T0=>obtain⟨v,hv,hd⟩:=hx;injection hv with hv;obtain⟨a0,c0,hu2⟩:=JkR.is hd;exact⟨_,_,h,(rfl:[_]=[_]),fun w' _=>yjG hu (hv.trans hu2)⟩
   |_=>cases h
  |nils=>have hx:evO n m a = .slice none 0 0:=hx;exact⟨_,_,h,(rfl:[_]=[_]),fun w' _=>yjG hu hx⟩|own id ver=>
   simp only[]at h;split at h
   ·rename_i ver' e T0 xs hc;obtain⟨hb,h⟩:=zaJ h;have hv:=aB hb;obtain⟨r0,e0,g1,g2,v,v',cs,rs,rfl,rfl,g3,hsm⟩:=hR.objN hc;obtain⟨h7,e0,h8,h9⟩:=hx;rw[g2]at h8;cases h8;have hu2:=(h9 _ _ _ rfl).2 hv;exact⟨_,_,h,(rfl:[_]=[_]),fun w' H=>ykI hu hu2 (hsm.slW H.sub (H.slW g1))⟩
   ·rename_i ver' e T0 xs hc;obtain⟨hb,h⟩:=zaJ h;have hv:=aB hb;obtain⟨r0,e0,g1,g2,b',c,p,ps,cs,rs,q,c',rfl,rfl,g3⟩:=hR.objN hc;obtain⟨h7,e0,h8,h9⟩:=hx;rw[g2]at h8;cases h8;have hu2:=(h9 _ _ _ rfl).2 hv;exact⟨_,_,h,(rfl:[_]=[_]),fun w' H=>yjG hu hu2⟩
   ·cases h
  |fs id ver=>
   simp only[]at h;split at h
   ·rename_i ver' T0 f' ks hc;obtain⟨hb,h⟩:=zaJ h;have hv:=aB hb;obtain⟨r0,e0,g1,g2,v,rs,ms,bs,rfl,rfl,g3⟩:=hR.objN hc;obtain⟨h7,e0,h8,h9⟩:=hx;rw[g2]at h8;cases h8;have hu2:=(h9 _ _ _ rfl).2 hv;exact⟨_,_,h,(rfl:[_]=[_]),fun w' H=>ykI hu hu2 (Res.slW (v:=v) (n:=ks.length) (sz:=1) (cs:=bs.map ptrV) (rs:=rs) (T:=T0) ((H.own id _ g1).1 _ bC))⟩
   ·cases h
  |cl e l=>exact⟨_,_,h,(rfl:[_]=[_]),fun w' H=>r_lenR' (xs:=l) hu rfl hx.1 H.sub⟩|rm e n l=>obtain⟨v,h1,h2,h3⟩:=hx;exact⟨_,_,h,(rfl:[_]=[_]),fun w' H=>r_lenR' (xs:=gD n l) hu h3 (ymW h1 h2) H.sub⟩
  |_=>cases h
 ·rename_i K V z1 z2 z3 z4 hT;have hu:=(hτ T _ hT).map rfl;cases x with
  |mpr id=>
   simp only[]at h;split at h
   ·rename_i g K' V' es hc;obtain⟨r0,e0,g1,g2,b,ents,ck,rfl,rfl,g3,g4⟩:=hR.objN hc;obtain⟨h7,e0,h8,h9⟩:=hx;rw[g2]at h8;cases h8;have hm:=h9 _ _ _ _ rfl;refine⟨_,_,h,(rfl:[_]=[_]),fun w' H=>?_⟩;have hh:w'.heap[b]? = some (.map ents.toArray ck):=H.own id _ g1;exact r_lenM hu hm hh g3.len
   ·cases h
  |_=>cases h
 ·cases h
theorem ysN{q q':IntKind}{x:den (.i q)}{D:TypeId}{f:TI}{k:SV->Option β}{C:World->Prop}(h1:TIok P T f)(h2:P.underlying D=some (.int q'))(hx:evO n m a = .int q (toI q x))(h:k (.v (.i q') (ofI q' (toI q x)))=some r):
  Ok1 P S E (evO n m) ⟨dst,.convert T D a,ty,pos,aft,g⟩ k r C:=by
 obtain⟨d,h3,_⟩:=h1.d;exact⟨_,_,h,iV _,fun w' _=>zeJ h3 h2 hx rfl⟩
theorem yaC{i:Nat}{l:List SV}{k:SV->Option β}{C:World->Prop}(hx:VR S E (.tup l) (evO n m a))(h:bindS (atN l i) k=some r):
  Ok1 P S E (evO n m) ⟨dst,.extract a i,ty,pos,aft,g⟩ k r C:=by
 obtain⟨z,h1,h2⟩:=zbJ h;obtain⟨us,hu,h3⟩:=hx;obtain⟨u,h4,h5⟩:=h3.at h1;exact⟨z,u,h2,VR.of h5,fun w' _=>zaG hu h4⟩
theorem yjD(R:Rel n B S E L σ m w):∀{l:List Operand} {xs:List SV},evs σ l=some xs->A2 (VR S E) xs (l.map (evO n m))
 |[],_,h=>by cases h;exact .nil
 |x::l,xs,h=>by
  unfold evs at h;split at h
  ·rename_i a r' h1 h2;cases h;exact .cons (zbM R h1) (yjD R h2)
  ·cases h
theorem yjQ(hτ:TEok P τ){w:World}:∀{fl:List Field} {pl:List (Nat×Nat)},yoM τ (fl.map fun f=>(f.type,f.offset))=some pl->(fl.mapM fun f=>do pure (f.offset,<-sizeOf f.type):Sem (List (Nat×Nat))).run P w = .ok pl w
 |[],_,h=>by cases h;simp
 |fd::fl,pl,h=>by
  simp only[bS,yoM]at h;split at h
  ·rename_i f' r' h1 h2;cases h;have h3:=(hτ _ _ h1).tsz w;have h4:=yjQ hτ (w:=w) h2;simp only[List.mapM_cons,Sem.run_bind,h3,Result.andThen_ok,Sem.run_pure,h4]
  ·cases h
theorem ycE(R:Rel n B S E L σ m w){pl:List (Nat×Nat)}:∀{ps:List (Nat×Operand)} {l l':List SV} {us:LV},znT pl σ ps l=some l'->A2 (VC S E) l us ->∃us',znA pl us (zmB (evO n m) ps)=some us'/\A2 (VC S E) l' us'
 |[],l,l',us,h,hl=>by cases h;exact⟨us,rfl,hl⟩
 |(i,x)::ps,l,l',us,h,hl=>by
  unfold znT at h;split at h
  ·rename_i sv o z h1 h2;obtain⟨hb,h⟩:=zaJ h;have h3:=VR.b (zbM R h1) (zaW hb);have h4:=aB (zaT (zaT hb));have h5:=aR (zaW (zaT hb));obtain⟨h6,_⟩:=zqM h3;obtain⟨us',h7,h8⟩:=ycE R h (zuP o hl h6);refine⟨us',?_,h8⟩
   have hlk:∀(pl:List (Nat×Nat)) (i:Nat),lkp pl i=atN pl i:=fun pl=>by
    induction pl with
    |nil=>intro i;cases i<;>rfl
    |cons p pl ih=>intro i;cases i with
     |zero=>rfl|succ i=>exact ih i
   simp only[zmB,znA,hlk,h2];have e1:aG (evO n m x).cells.toList.length z=true:=by rw[<-h6.len];rw[h4];simp
   have e2:Nat.ble (o+z) us.length=true:=by rw[<-hl.len];rw[Nat.ble_eq];exact h5
   rw[e1,e2];exact h7
  ·cases h
theorem yxP{fs:List (TypeId×Nat)}{f:TI}{pl:List (Nat×Nat)}{ps:List (Nat×Operand)}{l:List SV}{k:SV->Option β}(hτ:TEok P τ)(R:Rel n B S E L σ m w)(hT:TIok P T f)(hf:f.td = .st fs)(hp:yoM τ fs=some pl)(hq:znT pl σ ps f.z=some l) (h:k (.ag l)=some r):Ok1 P S E (evO n m) ⟨dst,.build T ps.toArray,ty,pos,aft,g⟩ k r (fun w'=>HS B S w' L):=by
 obtain⟨a,h1,h2⟩:=hT.st hf;have hag:f.agg=true:=by unfold TI.agg;rw[hf]
 have hz:zV f = .agg (f.z.map zc).toArray:=by unfold zV;rw[hag];rfl
 have htb:zmS P T (zV f) pl:=zuN h1 hT.zero fun w=>by rw[<-h2]at hp;have:=yjQ hτ (w:=w) hp;rw[Array.mapM_eq_mapM_toList];simp only[Sem.run_map,this];rfl
 obtain⟨us,h3,h4⟩:=ycE R (pl:=pl) hq (zvF hT.z);refine⟨_,_,h,⟨us,rfl,h4⟩,fun w' _=>zbD htb rfl ?_⟩;rw[hz];simpa[Value.cells]using h3
theorem ytI(z:Nat):∀(n j:Nat),arrP z n j=(List.range' j n).map fun i=>(i*z,z)
 |0,_=>rfl|n+1,j=>by rw[arrP,ytI z n (j+1),List.range'_succ];rfl
theorem ypI{N:Nat}{E':TypeId}{f fe:TI}{ps:List (Nat×Operand)}{l:List SV}{k:SV->Option β}(R:Rel n B S E L σ m w)(hT:TIok P T f)(hf:f.td = .ar N E')(hE:TIok P E' fe)(hq:znT (arrP fe.sz N 0) σ ps f.z=some l) (h:k (.ag l)=some r):Ok1 P S E (evO n m) ⟨dst,.build T ps.toArray,ty,pos,aft,g⟩ k r (fun w'=>HS B S w' L):=by
 have hag:f.agg=true:=by unfold TI.agg;rw[hf]
 have hz:zV f = .agg (f.z.map zc).toArray:=by unfold zV;rw[hag];rfl
 have htb:zmS P T (zV f) (arrP fe.sz N 0):=ybL (hT.arr hf) hT.zero hE.tsz (ytI fe.sz N 0).symm;obtain⟨us,h3,h4⟩:=ycE R (pl:=arrP fe.sz N 0) hq (zvF hT.z);refine⟨_,_,h,⟨us,rfl,h4⟩,fun w' _=>zbD htb rfl ?_⟩;rw[hz];simpa[Value.cells]using h3
theorem ygT{γ:Type}{i:Int}{k:Nat->Option γ}{r:γ}:∀{n j:Nat},idxC n j i k=some r->∃j',j'<j+n/\i=(j':Int)/\k j'=some r
 |0,_,h=>by cases h
 |n+1,j,h=>by
  unfold idxC at h;cases hb:decide (i=(j:Int)) with
  |true=>rw[hb]at h;exact⟨j,by omega,zC hb,h⟩|false=>rw[hb]at h;obtain⟨j',h1,h2,h3⟩:=ygT (n:=n) (j:=j+1) h;exact⟨j',by omega,h2,h3⟩
theorem yzB{x b:Operand}{k:SV->Option β}(hτ:TEok P τ)(R:Rel n B S E L σ m w)(h:idxAr τ σ T x b k=some r):
  Ok1 P S E (evO n m) ⟨dst,.indexAddr T x b,ty,pos,aft,g⟩ k r (fun w'=>HS B S w' L):=by
 unfold idxAr at h;split at h
 ·rename_i N E' z1 z2 z3 z4 hT;split at h
  ·rename_i f hf;obtain⟨sx,h1,h⟩:=zbJ h;obtain⟨si,h2,h⟩:=zbJ h;split at h
   ·rename_i q i;obtain⟨j,hj,hij,h⟩:=ygT h;rw[aQ]at hj;obtain⟨z,h3,h4⟩:=zbJ h;obtain⟨bl,o',h5,h6⟩:=zxL R (zbM R h1) h3;have hi:=vI (zbM R h2);exact⟨z,_,h4,h6,fun w' _=>zaK ((hτ _ _ hT).arr rfl) (hτ _ _ hf).tsz h5 hi (show(toI q i).toNat=j by omega) (by omega) (by omega)⟩
   ·cases h
  ·cases h
 ·cases h
theorem ytV{q:IntKind}{i:den (.i q)}{N:Nat}{E':TypeId}{f fe:TI}{b:Operand}{l:List SV}{k:SV->Option β}{C:World->Prop}(hT:TIok P T f)(hf:f.td = .ar N E')(hE:TIok P E' fe)(hx:VR S E (.ag l) (evO n m a))(hi:evO n m b = .int q (toI q i)) (h:(idxC N 0 (toI q i) fun j=>bindS (svAt fe (pc l (j*fe.sz) fe.sz)) k)=some r):
  Ok1 P S E (evO n m) ⟨dst,.index T a b,ty,pos,aft,g⟩ k r C:=by
 obtain⟨j,hj,hij,h⟩:=ygT h;rw[aQ]at hj;obtain⟨z,h5,h6⟩:=zbJ h;obtain⟨us,hu,h7⟩:=hx;obtain⟨h8,h10⟩:=yhC h5 (zzH (j*fe.sz) fe.sz h7);have hu':=hT.arr hf;have hsz:=hE.tsz;rcases h10 with⟨ha,hv⟩|⟨ha,hs,u,hu1,hv⟩
 ·refine⟨z,_,h6,VR.of hv,fun w' _=>?_⟩;have key:(part E' us.toArray (j*fe.sz)).run P w' = .ok (.agg (piece us (j*fe.sz) fe.sz).toArray) w':=yeA (hE.tagg ha) rfl w';simp[execOp,Instr.index,asIntOf,Go.underlying,hu',hu,hi,hij,hj,hsz w',key]
 ·refine⟨z,u,h6,VR.of hv,fun w' _=>?_⟩;have hu2:=hu1;rw[hs]at hu2;have key:(part E' us.toArray (j*fe.sz)).run P w' = .ok u w':=zmQ (hE.tone ha hs) (yeU (by rw[hs];exact hu2)) w';simp[execOp,Instr.index,asIntOf,Go.underlying,hu',hu,hi,hij,hj,hsz w',key]
end
end Go.Proofs.YtmbcolbbekbccaaGreat.Am
