/- Parts of one proof. Conditions: as each theorem says. -/
import Derived.Maps.RangeRun
import Derived.Test.YtopanhneegpgcaaGreatDoorQlD
open Bool renaming and_eq_true->aF,not_eq_true->dX,or_eq_false_iff->cW,or_eq_true->bY
open Int renaming tmod->eW
open List renaming all_cons->cI,eq_nil_of_length_eq_zero->aS,getElem?_eq_getElem->aO,getElem?_eq_some_iff->aD,length->dO,length_drop->bH,length_map->aE,length_nil->cC,length_take->bA,map_cons->bF,mem_cons->aK,mem_cons_of_mem->aL,mem_cons_self->aM,mem_of_getElem?->cA,pairwise_cons->aW,take->fK,toArray->gG
open Nat renaming add_assoc->dB,add_mul->cB,add_zero->fZ,beq->aG,eq_of_beq_eq_true->aB,le_of_ble_eq_true->bJ,le_of_eq->dZ,le_refl->aI,mul_le_mul_right->cP,one_mul->eZ,zero_add->aV,zero_le->aZ
open Option renaming bind->aQ
namespace Go.Proofs.YtopanhneegpgcaaGreatDoor.Am
open Go Go.RowKit
def tdo:TypeDesc->TD
 |.int k=>.int k|.bool=>.b|.string=>.s|.slice E=>.sl E|.struct fs=>.st (fs.toList.map fun f=>(f.type,f.offset))|.pointer E=>.pt E|.array n E=>.ar n E|.map k v=>.map k v|.func _ _ _=>.fn|.interface _=>.ifc|_=>.ot
def zc:SV->Value
 |.v (.i k) x=>.int k (toI k x)|.v .b x=>.bool x|.v .s l=>str l|.nils=>.slice none 0 0|.nilp=>.pointer none|.nilm=>.map none|.nilf=>.nilFunc|.v .er _=>.nilIface|_=>undef
def zok:SV->Bool
 |.v (.i _) _=>true|.v .b _=>true|.v .s _=>true|.nils=>true|.nilp=>true|.nilm=>true|.nilf=>true|.v .er x=>!(show Bool from x)|_=>false
def zV(f:TI):Value:=bif f.agg then .agg (f.z.map zc).toArray else match f.z with
 |[x]=>zc x|_=>undef
def eqOk(P:Program)(T:TypeId):Bool:=match P.underlying T with
 | some (.struct fs) => !(P.stoodInHeld T) && fs.toList.all (fun f => f.name != "_") && !(P.eqGuardType P.depth T)|_=>true
structure TIok (P:Program) (T:TypeId) (f:TI):Prop where
 und:(P.underlying T).map tdo=some f.td
 info:(P.info? T).map (fun i=>(i.zero,i.size,i.bytes))=some (some (zV f),f.sz,f.nb)
 eqb:eqOk P T=true
 z:f.z.all zok=true
 zl:f.z.length=f.sz
 one1:f.agg=false->f.sz=1
def TEok(P:Program)(τ:TE):Prop:=∀T f,tyAt τ T=some f->TIok P T f
theorem yrP{P:Program}:∀{τ:TE},τ.map (fun p=>((P.underlying p.1).map tdo,(P.info? p.1).map (fun i=>(i.zero,i.size,i.bytes)),eqOk P p.1))=τ.map (fun p=>(some p.2.td,some (some (zV p.2),p.2.sz,p.2.nb),true)) ->
  τ.all (fun p=>p.2.z.all zok&&aG p.2.z.length p.2.sz&&(p.2.agg||aG p.2.sz 1))=true->TEok P τ
 |[],_,_=>fun T f h=>by cases h
 |(T',f')::τ,h,h2=>fun T f hf=>by
  simp only[bF,List.cons.injEq,Prod.mk.injEq]at h;simp only[cI,aF]at h2;unfold tyAt at hf;cases ht:aG T' T with
  |true=>
   rw[ht]at hf;cases hf;have:=aB ht;subst this;refine⟨h.1.1,h.1.2.1,h.1.2.2,h2.1.1.1,aB h2.1.1.2,fun ha=>?_⟩;have h3:=h2.1.2;simp only[bY]at h3;rcases h3 with h3|h3
   ·rw[ha]at h3;cases h3
   ·exact aB h3
  |false=>rw[ht]at hf;exact yrP h.2 h2.2 T f hf
section
variable {P:Program}{T:TypeId}{f:TI}
theorem TIok.i(h:TIok P T f):∃i,P.info? T=some i/\i.zero=some (zV f)/\i.size=f.sz/\i.bytes=f.nb:=by
 have:=h.info;cases hi:P.info? T with
 |none=>rw[hi]at this;cases this
 |some i=>rw[hi]at this;simp only[Option.map_some,Option.some.injEq,Prod.mk.injEq]at this;exact⟨i,rfl,this.1,this.2.1,this.2.2⟩
theorem TIok.d(h:TIok P T f):∃d,P.underlying T=some d/\tdo d=f.td:=by
 have:=h.und;cases hi:P.underlying T with
 |none=>rw[hi]at this;cases this
 |some i=>rw[hi]at this;exact⟨i,rfl,osi this⟩
theorem TIok.tsz(h:TIok P T f):TSz P T f.sz:=fun w=>by obtain⟨i,h1,_,h3,_⟩:=h.i;simp[sizeOf,typeInfo,h1,h3]
theorem TIok.zero(h:TIok P T f):yrX P T (zV f):=fun w=>by obtain⟨i,h1,h2,_,_⟩:=h.i;simp[zeroValue,typeInfo,h1,h2]
theorem TIok.agg(h:TIok P T f):∀w,(isAgg T).run P w = .ok f.agg w:=fun w=>by obtain⟨d,h1,h2⟩:=h.d;unfold TI.agg;cases d<;>(rw[<-h2];simp[isAgg,Go.underlying,h1,tdo])
theorem TIok.tagg(h:TIok P T f)(ha:f.agg=true):TAgg P T f.sz:=⟨fun w=>by rw[h.agg w,ha],h.tsz⟩
theorem TIok.tone(h:TIok P T f)(ha:f.agg=false)(h1:f.sz=1):TOne P T:=⟨fun w=>by rw[h.agg w,ha],by have:=h.tsz;rw[h1]at this;exact this⟩
theorem TIok.int{k:IntKind}(h:TIok P T f)(e:f.td = .int k):P.underlying T=some (.int k):=by obtain⟨d,h1,h2⟩:=h.d;rw[e]at h2;rw[h1];cases d<;>cases h2;rfl
theorem TIok.str(h:TIok P T f)(e:f.td = .s):P.underlying T=some .string:=by obtain⟨d,h1,h2⟩:=h.d;rw[e]at h2;rw[h1];cases d<;>cases h2;rfl
theorem TIok.sl{E:TypeId}(h:TIok P T f)(e:f.td = .sl E):P.underlying T=some (.slice E):=by obtain⟨d,h1,h2⟩:=h.d;rw[e]at h2;rw[h1];cases d<;>cases h2;rfl
theorem TIok.map{K V:TypeId}(h:TIok P T f)(e:f.td = .map K V):P.underlying T=some (.map K V):=by obtain⟨d,h1,h2⟩:=h.d;rw[e]at h2;rw[h1];cases d<;>cases h2;rfl
theorem TIok.arr{N:Nat}{E:TypeId}(h:TIok P T f)(e:f.td = .ar N E):P.underlying T=some (.array N E):=by obtain⟨d,h1,h2⟩:=h.d;rw[e]at h2;cases d<;>first|(cases h2;done)|(injection h2 with a b;subst a;subst b;exact h1)
theorem TIok.ifc(h:TIok P T f)(e:f.td = .ifc):∃ms,P.underlying T=some (.interface ms):=by obtain⟨d,h1,h2⟩:=h.d;rw[e]at h2;rw[h1];cases d<;>cases h2;exact⟨_,rfl⟩
theorem TIok.ptr{E:TypeId}(h:TIok P T f)(e:f.td = .pt E):P.underlying T=some (.pointer E):=by obtain⟨d,h1,h2⟩:=h.d;rw[e]at h2;rw[h1];cases d<;>cases h2;rfl
theorem TIok.bool(h:TIok P T f)(e:f.td = .b):P.underlying T=some .bool:=by obtain⟨d,h1,h2⟩:=h.d;rw[e]at h2;rw[h1];cases d<;>cases h2;rfl
theorem TIok.st{fs:List (TypeId×Nat)}(h:TIok P T f)(e:f.td = .st fs):∃a,P.underlying T=some (.struct a)/\a.toList.map (fun f=>(f.type,f.offset))=fs:=by obtain⟨d,h1,h2⟩:=h.d;rw[e]at h2;cases d<;>cases h2;exact⟨_,h1,rfl⟩
theorem TIok.eqs {fs : List (TypeId × Nat)} {a : Array Field} (h : TIok P T f) (_ : f.td = .st fs) (ha : P.underlying T = some (.struct a)) : P.stoodInHeld T = false /\ a.toList.all (fun f => f.name != "_") = true /\ P.eqGuardType P.depth T = false := by have:=h.eqb;unfold eqOk at this;rw[ha]at this;simp only[aF,Bool.not_eq_true']at this;exact⟨this.1.1,this.1.2,this.2⟩
theorem zc_ok{S:Mem}{E:List EI}{x:SV}(h:zok x=true):VC S E x (zc x):=by
 unfold zok at h;split at h
 ·exact(rfl:[_]=[_])
 ·exact(rfl:[_]=[_])
 ·exact(rfl:[_]=[_])
 ·rfl
 ·rfl
 ·rfl
 ·rfl
 ·rename_i x;cases x with
  |false=>exact⟨_,rfl,.inl ⟨rfl,rfl⟩⟩|true=>cases h
 ·cases h
theorem yeU{S:Mem}{E:List EI}:∀{l:List SV},l.all zok=true->A2 (VC S E) l (l.map zc)
 |[],_=>.nil|x::l,h=>by simp only[cI,aF]at h;exact .cons (zc_ok h.1) (yeU h.2)
end
section
variable {S:Mem}{E:List EI}
theorem zwD:∀(t:Ty) {c:LV} {x:den t},rep t S c x->A2 (VC S E) (cellsOf t x) c
 |.i _,c,x,h=>by have h:c=[_]:=h;subst h;exact .cons (rfl:[_]=[_]) .nil
 |.b,c,x,h=>by have h:c=[_]:=h;subst h;exact .cons (rfl:[_]=[_]) .nil
 |.s,c,x,h=>by have h:c=[_]:=h;subst h;exact .cons (rfl:[_]=[_]) .nil
 |.er,c,x,h=>by obtain⟨u,rfl,h⟩:=h;exact .cons ⟨u,rfl,h⟩ .nil
 |.mp a _,c,x,h=>by have h:c=[_]:=h;subst h;exact .cons (rfl:[_]=[_]) .nil
 |.sl e,c,x,h=>by obtain⟨v,rfl,h⟩:=h;exact .cons ⟨v,rfl,h⟩ .nil
 |.pr a c,_,x,h=>by obtain⟨c1,c2,rfl,h1,h2⟩:=h;exact(zwD a h1).app (zwD c h2)
 |.un,c,x,h=>by have h:c=[]:=h;subst h;exact .nil
theorem ygM{x:SV}{u:Value}(h:VA (VC S E) x u):A2 (VC S E) (cellL x) u.cells.toList/\yiL u u.cells.toList:=by
 refine⟨?_,by simp[yiL]⟩;by_cases hx:noag x=true
 ·have h1:VC S E x u:=h.b hx;have e1:cellL x=[x]:=by cases x<;>first|rfl|cases hx
  have e2:u.cells=[u].toArray:=cells_one h1.one;rw[e1,e2];exact .cons h1 .nil
 ·cases x with
  |ag l=>obtain⟨us,rfl,h⟩:=h;simpa[cellL,Value.cells]using h
  |_=>exact absurd rfl hx
theorem yhP{R:SV->Value->Prop}:∀{l:List SV} {m:LV} (o:Nat) {x:List SV} {y:LV},A2 R l m->A2 R x y->A2 R (layS l o x) (lay m o y)
 |l,m,o,[],[],h,.nil=>by
  cases l with
  |nil=>cases h;exact .nil
  |cons=>cases h with|cons h t=>simpa[layS,lay]using A2.cons h t
 |[],_,o,_::_,_::_,.nil,.cons _ _=>by simp[layS,lay];exact .nil
 |_::l,_::m,0,_::x,_::y,.cons a t,.cons b s=>by simp only[layS,lay];exact .cons b (yhP 0 t s)
 |_::l,_::m,o+1,_::x,_::y,.cons a t,.cons b s=>by simp only[layS,lay];exact .cons a (yhP o t (.cons b s))
theorem ylU{R:SV->Value->Prop}{l:List SV}{m:LV}(o n:Nat)(h:A2 R l m):A2 R (pc l o n) (piece m o n):=by rw[zbB];exact(h.drop o).take n
theorem ysI{f:TI}{l:List SV}{us:LV}{x:SV}(h:svAt f l=some x)(hl:A2 (VC S E) l us):
  us.length=f.sz/\((f.agg=true/\VA (VC S E) x (.agg us.toArray))∨(f.agg=false/\f.sz=1/\∃u,us=[u]/\VA (VC S E) x u)):=by
 unfold svAt at h;cases hc:aG l.length f.sz&&(Nat.blt 0 f.sz||f.agg) with
 |false=>rw[hc]at h;cases h
 |true=>
  rw[hc]at h;have h1:=aB (zbH hc);refine⟨by rw[<-hl.len,h1],?_⟩;cases ha:f.agg with
  |true=>rw[ha]at h;cases h;exact .inl ⟨rfl,us,rfl,hl⟩
  |false=>
   rw[ha]at h;cases hl with
   |nil=>cases h
   |cons p t=>
    cases t with
    |nil=>
     cases h;refine .inr ⟨rfl,by simpa using h1.symm,_,rfl,?_⟩;cases x with
     |ag=>exact p.elim|_=>exact p
    |cons _ _=>cases h
end
section
variable {P:Program}{w:World}{S:Mem}{E:List EI}{e:Operand->Value}{dst:Option Tmp}{g:Option (Nat×Bool)}{ty:TypeId}{pos:String}{aft:Array Edge}{x:Operand}
theorem load_ok{f:TI}{T T':TypeId}{b o:Nat}{ds us:LV}{fz:Nat×Nat}{l:List SV}{a:SV}(hT:TIok P T f)(h:svAt f l=some a)(hl:A2 (VC S E) l us):∃u,VA (VC S E) a u/\∀(w:World) (T':TypeId) (b o:Nat) (ds:LV) (fz:Nat×Nat),w.heap[b]? = some (.cells ds.toArray T' fz)->e x = .pointer (some ⟨b,o,none⟩)->piece ds o f.sz=us ->(execOp e ⟨dst,.load T x,ty,pos,aft,g⟩).run P w = .ok (.value u) w:=by
 obtain⟨h1,h3⟩:=ysI h hl;have hb:∀(ds:LV) (o:Nat),piece ds o f.sz=us->f.sz≠0->o+f.sz<=ds.length:=fun ds o e h0=>by rw[zbB]at e;have:=congrArg dO e;simp only[bA,bH]at this;omega
 rcases h3 with⟨ha,hv⟩|⟨ha,h4,u,rfl,hv⟩
 ·refine⟨_,hv,fun w T' b o ds fz hh hp hd=>?_⟩;simp only[execOp,hp,Sem.run_bind,yqQ (hT.tagg ha) hh hd (hb _ _ hd),Result.andThen,Sem.run_pure]
 ·refine⟨_,hv,fun w T' b o ds fz hh hp hd=>?_⟩;rw[h4]at hd;simp only[execOp,hp,Sem.run_bind,zzM (hT.tone ha h4) hh hd,Result.andThen,Sem.run_pure]
end
section
variable {S:Mem}{E:List EI}
theorem vI{q:IntKind}{a:den (.i q)}{u:Value}(h:VR S E (.v (.i q) a) u):u = .int q (toI q a):=by have h:[u]=[Value.int q (toI q a)]:=h;injection h
theorem vB{a:Bool}{u:Value}(h:VR S E (.v .b a) u):u = .bool a:=by have h:[u]=[Value.bool a]:=h;injection h
theorem vS{a:Bs}{u:Value}(h:VR S E (.v .s a) u):u=str a:=by have h:[u]=[str a]:=h;injection h
theorem iV{q:IntKind}(x:Int):VR S E (.v (.i q) (ofI q x)) (.int q (q.wrap x)):=by show [_]=[_];rw[xaK]
theorem bV(x:Bool):VR S E (.v .b x) (.bool x):=(rfl:[_]=[_])
theorem sV(x:Bs):VR S E (.v .s x) (str x):=(rfl:[_]=[_])
end
section
variable {β:Type}{τ:TE}{P:Program}{S:Mem}{E:List EI}{e:Operand->Value}{dst:Option Tmp}{g:Option (Nat×Bool)}{ty:TypeId}{pos:String}{aft:Array Edge}{a b:Operand}{T T':TypeId}{k:SV->Option β}{r:β}
def Ok1(P:Program)(S:Mem)(E:List EI)(e:Operand->Value)(o:Oper)(k:SV->Option β)(r:β)(C:World->Prop):Prop:=
 ∃z u,k z=some r/\VR S E z u/\∀w,C w->(execOp e o).run P w = .ok (.value u) w
theorem shr_ex{q:IntKind}(h:ylL q=false)(x:den (.i q))(c:Int):toI q (exI q (shrI q (toI q x) c))=shrI q (toI q x) c:=by
 cases q with
 |u8=>exact(i8_shr x c).symm|u16=>cases h
 |u32=>exact(i32_shr x c).symm|u64=>exact(i64_shr x c).symm|_=>rfl
theorem shl_ex{q:IntKind}(h:ylL q=false)(x:den (.i q))(c:Int):toI q (exI q (shlI q (toI q x) c))=shlI q (toI q x) c:=by
 cases q with
 |u8=>exact(i8_shl x c).symm|u16=>cases h
 |u32=>exact(i32_shl x c).symm|u64=>exact(i64_shl x c).symm|_=>rfl
theorem rem_ex{q:IntKind}(h:ylL q=false)(x:den (.i q))(c:Int)(hc:0<=c):toI q (exI q (eW (toI q x) c))=eW (toI q x) c:=by
 cases q with
 |u8=>exact(i8_rem x c hc).symm|u16=>cases h
 |u32=>exact(i32_rem x c hc).symm|u64=>exact(i64_rem x c hc).symm|_=>rfl
theorem xV{q:IntKind}{x:den (.i q)}{c:Int}(h:toI q x=c):VR S E (.v (.i q) x) (.int q c):=by show [_]=[_];rw[h]
theorem arith_ok{op:BinOp}{q:IntKind}{x y c:Int}{w:World}(hx:e a = .int q x)(hy:e b = .int q y)(h:arith op x y=some c):(execOp e ⟨dst,.binOp op T a b T',ty,pos,aft,g⟩).run P w = .ok (.value (.int q (q.wrap c))) w:=by cases op<;>first|(cases h;done)|(cases h;first|exact r_add hx hy rfl|exact r_sub hx hy rfl|exact r_mul hx hy rfl)
theorem cmp_ok{op:BinOp}{q:IntKind}{x y:Int}{t:Bool}{w:World}(hx:e a = .int q x)(hy:e b = .int q y)(h:cmpI op x y=some t):(execOp e ⟨dst,.binOp op T a b T',ty,pos,aft,g⟩).run P w = .ok (.value (.bool t)) w:=by cases op<;>first|(cases h;done)|(cases h;first|exact r_eql hx hy rfl|exact r_neq hx hy rfl|exact r_lss hx hy rfl|exact r_leq hx hy rfl|exact r_gtr hx hy rfl|exact r_geq hx hy rfl)
theorem ymX{op:BinOp}{q:IntKind}{x y c:Int}(h:bitD.bits? op q x y=some c):(op = .and∨op = .or∨op = .xor∨op = .andNot)/\bits op q x y=c:=by
 cases op with
 |and=>cases h;exact⟨.inl rfl,rfl⟩
 |or=>cases h;exact⟨.inr (.inl rfl),rfl⟩
 |xor=>cases h;exact⟨.inr (.inr (.inl rfl)),rfl⟩
 |andNot=>cases h;exact⟨.inr (.inr (.inr rfl)),rfl⟩
 |_=>cases h
theorem bitD_is{op:BinOp}{q:IntKind}{x y c:den (.i q)}(h:bitD op q x y=some c):(op = .and∨op = .or∨op = .xor∨op = .andNot)/\bits op q (toI q x) (toI q y)=toI q c:=by
 cases q with
 |u8=>cases op with
  |and=>cases h;exact⟨.inl rfl,i8_and x y⟩
  |or=>cases h;exact⟨.inr (.inl rfl),i8_or x y⟩
  |xor=>cases h;exact⟨.inr (.inr (.inl rfl)),i8_xor x y⟩
  |_=>cases h
 |u16=>cases h
 |u32=>cases op with
  |and=>cases h;exact⟨.inl rfl,i32_and x y⟩
  |or=>cases h;exact⟨.inr (.inl rfl),i32_or x y⟩
  |xor=>cases h;exact⟨.inr (.inr (.inl rfl)),i32_xor x y⟩
  |_=>cases h
 |u64=>cases op with
  |and=>cases h;exact⟨.inl rfl,i64_and x y⟩
  |or=>cases h;exact⟨.inr (.inl rfl),i64_or x y⟩
  |xor=>cases h;exact⟨.inr (.inr (.inl rfl)),i64_xor x y⟩
  |_=>cases h
 |i8=>exact ymX h|i16=>exact ymX h|i32=>exact ymX h|i64=>exact ymX h
theorem bin_int{op:BinOp}{q q':IntKind}{x:den (.i q)}{y:den (.i q')}{C:World->Prop}(hx:e a = .int q (toI q x))(hy:e b = .int q' (toI q' y))(h:bin τ T op (.v (.i q) x) (.v (.i q') y) k=some r):
  Ok1 P S E e ⟨dst,.binOp op T a b T',ty,pos,aft,g⟩ k r C:=by
 by_cases hs:op = .shl
 ·subst hs;simp only[bin]at h;cases hu:ylL q with
  |true=>rw[hu]at h;cases h
  |false=>rw[hu]at h;obtain⟨_,h1,h2⟩:=bnd h;exact⟨_,_,h2,xV (shl_ex hu _ _),fun w _=>r_shl hx hy (by have:=zC (zpA h1);omega) rfl⟩
 by_cases hs2:op = .shr
 ·subst hs2;simp only[bin]at h;cases hu:ylL q with
  |true=>rw[hu]at h;cases h
  |false=>rw[hu]at h;obtain⟨_,h1,h2⟩:=bnd h;exact⟨_,_,h2,xV (shr_ex hu _ _),fun w _=>r_shr hx hy (by have:=zC (zpA h1);omega) rfl⟩
 cases hq:ikEq q' q with
 |none=>cases op<;>first|exact absurd rfl hs|exact absurd rfl hs2|(simp only[bin,hq]at h;cases h)
 |some p=>
  obtain⟨rfl⟩:=p;by_cases hq':op = .quo
  ·subst hq';simp only[bin,hq]at h;obtain⟨_,h1,h2⟩:=bnd h;have h3:=zpA h1;exact⟨_,_,h2,iV _,fun w _=>r_quo hx hy (by simpa using h3) rfl⟩
  by_cases hr':op = .rem
  ·subst hr';simp only[bin,hq]at h;cases hu:ylL q' with
   |true=>rw[hu]at h;cases h
   |false=>rw[hu]at h;obtain⟨_,h1,h2⟩:=bnd h;have h3:=zC (zpA h1);exact⟨_,_,h2,xV (rem_ex hu _ _ (Int.le_of_lt h3)),fun w _=>r_rem hx hy (by omega) rfl⟩
  have h' : (match arith op (toI q' x) (toI q' y) with
        |some r=>k (.v (.i q') (ofI q' r))|none=>match cmpI op (toI q' x) (toI q' y) with
         |some t=>k (.v .b t)|none=>match bitD op q' x y with
          |some r=>k (.v (.i q') r)|none=>none)=some r:=by
   cases op<;>first|exact absurd rfl hs|exact absurd rfl hs2|exact absurd rfl hq'|exact absurd rfl hr'|(simp only[bin,hq]at h;exact h)
  split at h'
  ·rename_i c hc;exact⟨_,_,h',iV _,fun w _=>arith_ok hx hy hc⟩
  ·split at h'
   ·rename_i c hc;exact⟨_,_,h',bV _,fun w _=>cmp_ok hx hy hc⟩
   ·split at h'
    ·rename_i c hc;obtain⟨h1,h2⟩:=bitD_is hc;exact⟨_,_,h',xV rfl,fun w _=>r_bits h1 hx hy h2⟩
    ·cases h'
theorem bin_str{op:BinOp}{x y:Bs}{C:World->Prop}(hx:e a=str x)(hy:e b=str y)(h:bin τ T op (.v .s x) (.v .s y) k=some r):
  Ok1 P S E e ⟨dst,.binOp op T a b T',ty,pos,aft,g⟩ k r C:=by
 cases op with
 |add=>obtain⟨l,h1,h2⟩:=bnd h;obtain⟨h3,rfl⟩:=znB h1;exact⟨_,_,h2,sV _,fun w _=>r_cat hx hy (by omega) rfl⟩
 |eql=>exact⟨_,_,h,bV _,fun w _=>r_eqT hx hy rfl⟩|neq=>exact⟨_,_,h,bV _,fun w _=>r_neT hx hy rfl⟩|lss=>exact⟨_,_,h,bV _,fun w _=>by simp[execOp,eqGuard,binOp,hx,hy,Op.stringOp]⟩|leq=>exact⟨_,_,h,bV _,fun w _=>by simp[execOp,eqGuard,binOp,hx,hy,Op.stringOp]⟩|gtr=>exact⟨_,_,h,bV _,fun w _=>by simp[execOp,eqGuard,binOp,hx,hy,Op.stringOp]⟩|geq=>exact⟨_,_,h,bV _,fun w _=>by simp[execOp,eqGuard,binOp,hx,hy,Op.stringOp]⟩|_=>cases h
theorem bin_bool{op:BinOp}{x y:Bool}{C:World->Prop}(hτ:TEok P τ)(hx:e a = .bool x)(hy:e b = .bool y)(h:bin τ T op (.v .b x) (.v .b y) k=some r):
  Ok1 P S E e ⟨dst,.binOp op T a b T',ty,pos,aft,g⟩ k r C:=by
 simp only[bin]at h;split at h
 ·rename_i z1 z2 z3 z4 hT;have hu:=(hτ T _ hT).und;have hd:P.underlying T=some .bool:=by obtain⟨d,h1,h2⟩:=(hτ T _ hT).d;rw[h1];cases d<;>cases h2;rfl
  have key:∀w,(Op.equal T (.bool x) (.bool y)).run P w = .ok (x==y) w:=fun w=>(eqB (a:=x) (b:=y) hd).le 10000 (by decide) 0 w;cases op with
  |eql=>exact⟨_,_,h,bV _,fun w _=>by simp[execOp,eqGuard,binOp,hx,hy,key]⟩|neq=>exact⟨_,_,h,bV _,fun w _=>by simp[execOp,eqGuard,binOp,hx,hy,key,bne]⟩|_=>cases h
 ·cases h
theorem bif_n{c:Bool}{o:Option β}(h:(bif c then o else none)=some r):c=true/\o=some r:=by
 cases c with
 |true=>exact⟨rfl,h⟩|false=>cases h
theorem xaX{p:Option Addr}{E':TypeId}{w:World}(hu:P.underlying T=some (.pointer E')):(Op.equal T (.pointer p) (.pointer none)).run P w = .ok p.isNone w:=by
 have key:∀d,(Op.equalIn (d+1) T (.pointer p) (.pointer none)).run P w = .ok p.isNone w:=fun d=>by cases p<;>simp[Op.equalIn,Go.underlying,hu]
 exact key 9999
theorem yzV{op:BinOp}{p:Option Addr}{t:Bool}{C:World->Prop}(hτ:TEok P τ)(hx:e a = .pointer p)(hy:e b = .pointer none)(ht:p.isNone=t)(h:eqK τ T op t k=some r):
  Ok1 P S E e ⟨dst,.binOp op T a b T',ty,pos,aft,g⟩ k r C:=by
 subst ht;unfold eqK at h;split at h
 ·rename_i E' z1 z2 z3 z4 hT;have hu:=(hτ T _ hT).ptr rfl;split at h
  ·exact⟨_,_,h,bV _,fun w _=>by simp[execOp,eqGuard,binOp,hx,hy,xaX hu]⟩
  ·exact⟨_,_,h,bV _,fun w _=>by simp[execOp,eqGuard,binOp,hx,hy,xaX hu]⟩
  ·cases h
 ·cases h
def uAt(f:TI)(us:LV):Value:=bif f.agg then .agg us.toArray else match us with
 |[u]=>u|_=>undef
theorem eqI_ok{T:TypeId}{k0:IntKind}{l l':List SV}{us vs:LV}{t:Bool}(hu:P.underlying T=some (.int k0))(h:eqI l l'=some t)(hl:A2 (VC S E) l us)(hl':A2 (VC S E) l' vs):∃u v,us=[u]/\vs=[v]/\EqR P 1 T u v t:=by
 unfold eqI at h;split at h
 ·rename_i q a q' c;obtain⟨u,rfl,h1⟩:=hl.one;obtain⟨v,rfl,h2⟩:=hl'.one;split at h
  ·rename_i hh _;cases h;subst hh;have h1:=vI (VR.ofC h1);have h2:=vI (VR.ofC h2);subst h1;subst h2;refine⟨_,_,rfl,rfl,fun d w=>?_⟩;simp only[Op.equalIn,Go.underlying,hu,Sem.run_bind,run_program,Result.andThen_ok,Sem.run_pure,if_true];congr 1
  ·cases h
 ·cases h
theorem eqBo_ok{T:TypeId}{l l':List SV}{us vs:LV}{t:Bool}(hu:P.underlying T=some .bool)(h:eqBo l l'=some t)(hl:A2 (VC S E) l us)(hl':A2 (VC S E) l' vs):∃u v,us=[u]/\vs=[v]/\EqR P 1 T u v t:=by
 unfold eqBo at h;split at h
 ·obtain⟨u,rfl,h1⟩:=hl.one;obtain⟨v,rfl,h2⟩:=hl'.one;cases h;have h1:=vB (VR.ofC h1);have h2:=vB (VR.ofC h2);subst h1;subst h2;exact⟨_,_,rfl,rfl,eqB hu⟩
 ·cases h
theorem eqSt_ok{T:TypeId}{l l':List SV}{us vs:LV}{t:Bool}(hu:P.underlying T=some .string)(h:eqSt l l'=some t)(hl:A2 (VC S E) l us)(hl':A2 (VC S E) l' vs):∃u v,us=[u]/\vs=[v]/\EqR P 1 T u v t:=by
 unfold eqSt at h;split at h
 ·obtain⟨u,rfl,h1⟩:=hl.one;obtain⟨v,rfl,h2⟩:=hl'.one;cases h;have h1:=vS (VR.ofC h1);have h2:=vS (VR.ofC h2);subst h1;subst h2;exact⟨_,_,rfl,rfl,eqS hu⟩
 ·cases h
theorem eqF_ok(hτ:TEok P τ){n:Nat}{q:TypeId->List SV->List SV->Option Bool}(hq:∀F f l l' us vs t,tyAt τ F=some f->q F l l'=some t->A2 (VC S E) l us->A2 (VC S E) l' vs->us.length=f.sz/\vs.length=f.sz/\EqR P n F (uAt f us) (uAt f vs) t):∀{fs:List (TypeId×Nat)} {l l':List SV} {us vs:LV} {t:Bool},eqF τ q fs l l'=some t->A2 (VC S E) l us->A2 (VC S E) l' vs->EqL P n us.toArray vs.toArray fs t
 |[],_,_,_,_,_,h,_,_=>by cases h;exact .nil
 |(F,o)::fs,l,l',us,vs,t,h,hl,hl'=>by
  have one:∀{f:TI} {t:Bool},tyAt τ F=some f->q F (pc l o f.sz) (pc l' o f.sz)=some t->(∀w,(part F us.toArray o).run P w = .ok (uAt f (piece us o f.sz)) w)/\(∀w,(part F vs.toArray o).run P w = .ok (uAt f (piece vs o f.sz)) w)/\EqR P n F (uAt f (piece us o f.sz)) (uAt f (piece vs o f.sz)) t:=fun {f t} hf h=>by
   obtain⟨h1,h2,h3⟩:=hq F f _ _ _ _ _ hf h (ylU o f.sz hl) (ylU o f.sz hl');have hF:=hτ _ _ hf
   have pp:∀{us:LV},(piece us o f.sz).length=f.sz->∀w,(part F us.toArray o).run P w = .ok (uAt f (piece us o f.sz)) w:=fun {us} hp=>by
    cases ha:f.agg with
    |true=>unfold uAt;rw[ha];exact partA (hF.tagg ha) rfl|false=>
     have hs:f.sz=1:=hF.one1 ha;rw[hs]at hp ⊢
     match hpc:piece us o 1,hp with
     |[u],_=>unfold uAt;rw[ha];refine ynE (hF.tone ha hs) ?_;rw[zbB]at hpc;have:=congrArg (·[0]?) hpc;simpa using this
   exact⟨pp h1,pp h2,h3⟩
  cases fs with
  |nil=>
   simp only[eqF]at h;split at h
   ·rename_i f hf;obtain⟨h1,h2,h3⟩:=one hf h;exact EqL.last h1 h2 h3
   ·cases h
  |cons p fs=>
   simp only[eqF]at h;split at h
   ·rename_i f hf;split at h
    ·rename_i a b h4 h5;cases h;obtain⟨h1,h2,h3⟩:=one hf h4;exact .cons h1 h2 h3 (eqF_ok hτ hq h5 hl hl')
    ·cases h
   ·cases h
theorem eqT_ok(hτ:TEok P τ):∀(n:Nat) (T:TypeId) (f:TI) (l l':List SV) (us vs:LV) (t:Bool),tyAt τ T=some f->eqT τ n T l l'=some t->A2 (VC S E) l us->A2 (VC S E) l' vs->us.length=f.sz/\vs.length=f.sz/\EqR P n T (uAt f us) (uAt f vs) t
 |0,_,_,_,_,_,_,_,_,h,_,_=>by cases h
 |n+1,T,f,l,l',us,vs,t,hT,h,hl,hl'=>by
  unfold eqT at h;rw[hT]at h;simp only[]at h;cases hb:aG l.length f.sz&&aG l'.length f.sz with
  |false=>rw[hb]at h;cases h
  |true=>
   rw[hb]at h;simp only[zE]at h;have h1:=aB (zbH hb);have h2:=aB (zbR hb);have hF:=hτ _ _ hT;refine⟨by rw[<-hl.len,h1],by rw[<-hl'.len,h2],?_⟩;have leaf:∀{u v:Value},f.agg=false->us=[u]->vs=[v]->EqR P 1 T u v t->EqR P (n+1) T (uAt f us) (uAt f vs) t:=fun {u v} ha e1 e2 h=>by subst e1;subst e2;unfold uAt;rw[ha];exact h.le _ (by omega)
   split at h
   ·rename_i fs htd;obtain⟨a,k1,k2⟩:=hF.st htd;obtain⟨k3,k4,_⟩:=hF.eqs htd k1;have ha:f.agg=true:=by unfold TI.agg;rw[htd]
    have:=eqF_ok hτ (fun F f' l l' us vs t hf h hl hl'=>eqT_ok hτ n F f' l l' us vs t hf h hl hl') h hl hl';unfold uAt;rw[ha];exact EqR.str k1 k3 k4 k2 this
   ·rename_i k0 htd;obtain⟨u,v,e1,e2,h3⟩:=eqI_ok (hF.int htd) h hl hl';exact leaf (by unfold TI.agg;rw[htd]) e1 e2 h3
   ·rename_i htd;obtain⟨u,v,e1,e2,h3⟩:=eqBo_ok (hF.bool htd) h hl hl';exact leaf (by unfold TI.agg;rw[htd]) e1 e2 h3
   ·rename_i htd;obtain⟨u,v,e1,e2,h3⟩:=eqSt_ok (hF.str htd) h hl hl';exact leaf (by unfold TI.agg;rw[htd]) e1 e2 h3
   ·cases h
theorem bin_ag{op:BinOp}{l l':List SV}{C:World->Prop}(hτ:TEok P τ)(hx:VR S E (.ag l) (e a))(hy:VR S E (.ag l') (e b))(h:bin τ T op (.ag l) (.ag l') k=some r):
  Ok1 P S E e ⟨dst,.binOp op T a b T',ty,pos,aft,g⟩ k r C:=by
 have h:binAg τ T op l l' k=some r:=h;unfold binAg at h;split at h
 ·rename_i f hT;obtain⟨ha,h⟩:=bif_n h;split at h
  ·rename_i t ht;obtain⟨us,hu,h1⟩:=hx;obtain⟨vs,hv,h2⟩:=hy;obtain⟨_,_,h3⟩:=eqT_ok hτ 8 T f l l' us vs t hT ht h1 h2;have hF:=hτ _ _ hT;have hst:∃fs,f.td = .st fs:=by
    unfold eqT at ht;rw[hT]at ht;simp only[]at ht;cases hb:aG l.length f.sz&&aG l'.length f.sz with
    |false=>rw[hb]at ht;cases ht
    |true=>
     rw[hb]at ht;simp only[zE]at ht;unfold TI.agg at ha;split at ht
     ·exact⟨_,by assumption⟩
     all_goals first|(rename_i htd;rw[htd]at ha;cases ha;done)|cases ht
   obtain⟨fs,htd⟩:=hst;obtain⟨sa,k1,k2⟩:=hF.st htd;obtain⟨_,_,hg⟩:=hF.eqs htd k1;unfold uAt at h3;rw[ha]at h3;split at h
   ·exact⟨_,_,h,bV _,fun w _=>r_eqR hg (by decide) h3 hu hv⟩
   ·exact⟨_,_,h,bV _,fun w _=>r_neR hg (by decide) h3 hu hv⟩
   ·cases h
  ·cases h
 ·cases h
theorem xdE{op:BinOp}{p:Option Addr}{i j:Nat}{t:Bool}{C:World->Prop}(hτ:TEok P τ)(hx:e a = .slice p i j)(hy:e b = .slice none 0 0)(ht:p.isNone=t)(h:eqN τ T op t k=some r):
  Ok1 P S E e ⟨dst,.binOp op T a b T',ty,pos,aft,g⟩ k r C:=by
 subst ht;unfold eqN at h;split at h
 ·rename_i E' z1 z2 z3 z4 hT;have hu:=(hτ T _ hT).sl rfl;have key:∀d w,(Op.equalIn (d+1) T (.slice p i j) (.slice none 0 0)).run P w = .ok p.isNone w:=fun d w=>by cases p<;>simp[Op.equalIn,Go.underlying,hu]
  have key2:∀w,(Op.equal T (.slice p i j) (.slice none 0 0)).run P w = .ok p.isNone w:=fun w=>key 9999 w;split at h
  ·exact⟨_,_,h,bV _,fun w _=>by simp[execOp,eqGuard,binOp,hx,hy,key2]⟩
  ·exact⟨_,_,h,bV _,fun w _=>by simp[execOp,eqGuard,binOp,hx,hy,key2]⟩
  ·cases h
 ·cases h
theorem eqM_ok{op:BinOp}{p:Option Nat}{t:Bool}{C:World->Prop}(hτ:TEok P τ)(hx:e a = .map p)(hy:e b = .map none)(ht:p.isNone=t)(h:eqM τ T op t k=some r):
  Ok1 P S E e ⟨dst,.binOp op T a b T',ty,pos,aft,g⟩ k r C:=by
 subst ht;unfold eqM at h;split at h
 ·rename_i K' V' z1 z2 z3 z4 hT;have hu:=(hτ T _ hT).map rfl;have key:∀d w,(Op.equalIn (d+1) T (.map p) (.map none)).run P w = .ok p.isNone w:=fun d w=>by cases p<;>simp[Op.equalIn,Go.underlying,hu]
  have key2:∀w,(Op.equal T (.map p) (.map none)).run P w = .ok p.isNone w:=fun w=>key 9999 w;split at h
  ·exact⟨_,_,h,bV _,fun w _=>by simp[execOp,eqGuard,binOp,hx,hy,key2]⟩
  ·exact⟨_,_,h,bV _,fun w _=>by simp[execOp,eqGuard,binOp,hx,hy,key2]⟩
  ·cases h
 ·cases h
theorem bin_ok{op:BinOp}{x y:SV}{C:World->Prop}(hτ:TEok P τ)(hx:VR S E x (e a))(hy:VR S E y (e b))(h:bin τ T op x y k=some r):
  Ok1 P S E e ⟨dst,.binOp op T a b T',ty,pos,aft,g⟩ k r C:=by
 cases x with
 |v t x=>
  cases y with
  |v t' y=>
   cases t with
   |i q=>
    cases t' with
    |i q'=>exact bin_int (vI hx) (vI hy) h|_=>cases h
   |b=>
    cases t' with
    |b=>exact bin_bool hτ (vB hx) (vB hy) h|_=>cases h
   |s=>
    cases t' with
    |s=>exact bin_str (vS hx) (vS hy) h|_=>cases h
   |_=>cases h
  |_=>cases t<;>cases h
 |nils=>
  cases y with
  |nils=>exact xdE hτ hx hy rfl h|_=>cases h
 |nn t xs=>
  cases y with
  |nils=>
   have hx:VB S E (.nn t xs) (e a):=hx;obtain⟨⟨cs,h1,_⟩,h2⟩:=hx;rcases h1 with⟨⟨a0,h1⟩,_⟩|⟨b',o,c,ds,T2,fz,h1,_⟩
   ·cases a0 with
    |none=>exact absurd h1 (h2 _ _)|some a0=>exact xdE hτ h1 hy rfl h
   ·exact xdE hτ h1 hy rfl h
  |_=>cases h
 |nilm=>
  cases y with
  |nilm=>exact eqM_ok hτ hx hy rfl h|_=>cases h
 |nilp=>
  cases y with
  |nilp=>exact yzV hτ hx hy rfl h|_=>cases h
 |ptr id off=>
  cases y with
  |nilp=>obtain⟨b',hu,_⟩:=hx;exact yzV hτ hu hy rfl h
  |_=>cases h
 |rp t x off=>
  cases y with
  |nilp=>obtain⟨b',o,us,hu,_⟩:=hx;exact yzV hτ hu hy rfl h
  |_=>cases h
 |ag l=>
  cases y with
  |ag l'=>exact bin_ag hτ hx hy h|_=>cases h
 |_=>cases h
theorem un_ok{op:UnOp}{x:SV}{C:World->Prop}(hx:VR S E x (e a))(h:un op x k=some r):Ok1 P S E e ⟨dst,.unOp op T a,ty,pos,aft,g⟩ k r C:=by
 unfold un at h;split at h
 ·exact⟨_,_,h,bV _,fun w _=>r_not (vB hx) rfl⟩
 ·exact⟨_,_,h,iV _,fun w _=>r_neg (vI hx) rfl⟩
 ·cases h
theorem yiV{z x y:Operand}{t:Bool}{w:World}(hz:e z = .bool t):(execOp e ⟨dst,.pick z x y,ty,pos,aft,g⟩).run P w = .ok (.value (bif t then e x else e y)) w:=by
 cases t with
 |true=>exact r_pickt hz rfl rfl|false=>exact r_pickf hz rfl rfl
theorem castD_v{t t':Ty}(h:t=t'){y:den t}{u:Value}(k:VR S E (.v t y) u):VR S E (.v t' (zmW h y)) u:=by subst h;exact k
theorem yzL{z x y:Operand}{t:Bool}{a b:SV}{C:World->Prop}(hz:e z = .bool t)(hx:VR S E a (e x))(hy:VR S E b (e y))(h:pickSV t a b k=some r):Ok1 P S E e ⟨dst,.pick z x y,ty,pos,aft,g⟩ k r C:=by
 have dflt:(bif t then k a else k b)=some r->Ok1 P S E e ⟨dst,.pick z x y,ty,pos,aft,g⟩ k r C:=fun h=>by
  cases t with
  |true=>exact⟨_,_,h,hx,fun w _=>yiV hz⟩|false=>exact⟨_,_,h,hy,fun w _=>yiV hz⟩
 unfold pickSV at h;split at h
 ·rename_i a x c y;split at h
  ·rename_i hh _;refine⟨_,bif t then _ else _,h,?_,fun w _=>yiV hz⟩;cases t with
   |true=>exact hx|false=>exact castD_v hh hy
  ·cases h
 ·exact dflt h
end
def repA(S:Mem):(l:List Ty)->LV->zfB l->Prop
 |[],us,_=>us=[]|[t],us,x=>∃u,us=[u]/\rep1 t S u x|t::t'::l,us,x=>∃u us',us=u::us'/\rep1 t S u x.1/\repA S (t'::l) us' x.2
def repR(S:Mem)(l:List Ty)(u:Value)(x:zfB l):Prop:=match l,x with
 |[t],x=>rep1 t S u x|l,x=>∃us:LV,u = .tuple us.toArray/\repA S l us x
section
variable {S S2:Mem}{E:List EI}{hp:List AO}
theorem yoL{t t':Ty}(h:t=t'){us:LV}{x:den t}(k:rep t S us x):rep t' S us (zmW h x):=by subst h;exact k
structure yeF (S S2:Mem) (E:List EI) (hp:List AO):Prop where
 own:∀id ver e T (xs:List (den e)) u,atN hp id=some (.osl ver e T xs)->VB S E (.own id ver) u->rep (.sl e) S2 [u] xs
 blk:∀id T cs u,atN hp id=some (.blk T cs)->VB S E (.ptr id 0) u->∃b us,u = .pointer (some ⟨b,0,none⟩)/\CellAt S2 b 0 us/\A2 (VC S E) cs us
theorem zkG:yeF S S2 E []:=⟨fun id ver e T xs u h=>(by cases id<;>cases h),fun id T cs u h=>(by cases id<;>cases h)⟩
theorem zrM(hS:Mem.le S S2)(hO:yeF S S2 E hp){t:Ty}{x:SV}{u:Value}{y:den t}(h:znV hp t x=some y)(hx:VC S E x u):rep t S2 [u] y:=by
 unfold znV at h;split at h
 ·rename_i t' x;split at h
  ·rename_i hh _;cases h;exact yoL hh ((rpD t').mono hx hS)
  ·cases h
 ·cases h;have:u = .slice none 0 0:=hx;subst this;exact⟨_,rfl,RdS.nil⟩
 ·cases h;obtain⟨h1,_⟩:=hx;refine⟨_,rfl,[],?_,rfl⟩;rcases h1 with h1|⟨b,o,c,ds,T,fz,h1,h2,h3,h4,_⟩
  ·exact .inl h1
  ·exact .inr ⟨b,o,c,ds,T,fz,h1,h2,hS _ _ h3,by simp only[cC];omega,by simp[piece]⟩
 ·rename_i e e' xs;split at h
  ·rename_i hh _;cases h;subst hh;exact⟨_,rfl,RdS.mono hx.1 hS⟩
  ·cases h
 ·rename_i e e' xs;split at h
  ·rename_i hh _;cases h;subst hh;exact⟨_,rfl,RdS.mono hx.1 hS⟩
  ·cases h
 ·rename_i e e' n xs;split at h
  ·rename_i hh _;cases h;subst hh;obtain⟨v,h1,h2,rfl⟩:=hx;exact⟨_,rfl,RdS.mono (ywV h1 h2) hS⟩
  ·cases h
 ·rename_i e id ver;split at h
  ·rename_i ver' e' T xs hc;cases hb:aG ver ver' with
   |false=>rw[hb]at h;cases h
   |true=>
    rw[hb]at h;have hv:=aB hb;subst hv;simp only[zE]at h;split at h
    ·rename_i hh _;cases h;exact yoL _ (hO.own id ver e' T xs u hc hx.b)
    ·cases h
  ·cases h
 ·cases h
theorem ztK(hS:Mem.le S S2)(hO:yeF S S2 E hp):∀(t:Ty) {l:List SV} {us:LV} {y:den t},zjV hp t l=some y->A2 (VC S E) l us->rep t S2 us y
 |.pr a c,l,us,y,h,hl=>by
  simp only[zjV]at h;split at h
  ·rename_i x1 x2 h1 h2;cases h;exact⟨_,_,(List.take_append_drop (tsz a) us).symm,ztK hS hO a h1 (hl.take _),ztK hS hO c h2 (hl.drop _)⟩
  ·cases h
 |.un,l,us,y,h,hl=>by
  simp only[zjV]at h;split at h
  ·cases hl;exact(rfl:[]=[])
  ·cases h
 |.i k,l,us,y,h,hl=>by
  simp only[zjV]at h;split at h
  ·obtain⟨u,rfl,hx⟩:=hl.one;exact zrM hS hO h hx
  ·cases h
 |.b,l,us,y,h,hl=>by
  simp only[zjV]at h;split at h
  ·obtain⟨u,rfl,hx⟩:=hl.one;exact zrM hS hO h hx
  ·cases h
 |.s,l,us,y,h,hl=>by
  simp only[zjV]at h;split at h
  ·obtain⟨u,rfl,hx⟩:=hl.one;exact zrM hS hO h hx
  ·cases h
 |.er,l,us,y,h,hl=>by
  simp only[zjV]at h;split at h
  ·obtain⟨u,rfl,hx⟩:=hl.one;exact zrM hS hO h hx
  ·cases h
 |.mp a _,l,us,y,h,hl=>by
  simp only[zjV]at h;split at h
  ·obtain⟨u,rfl,hx⟩:=hl.one;exact zrM hS hO h hx
  ·cases h
 |.sl e,l,us,y,h,hl=>by
  simp only[zjV]at h;split at h
  ·obtain⟨u,rfl,hx⟩:=hl.one;exact zrM hS hO h hx
  ·cases h
theorem zzL(hS:Mem.le S S2)(hO:yeF S S2 E hp){t:Ty}{x:SV}{u:Value}{y:den t}(h:ofSV hp t x=some y)(hx:VR S E x u):rep1 t S2 u y:=by
 unfold ofSV at h;unfold rep1;split at h
 ·cases ho:one t with
  |true=>rw[ho]at h;cases h
  |false=>rw[ho]at h;rw[zH (by simp)];obtain⟨us,hu,hl⟩:=hx;exact⟨us,hu,ztK hS hO t h hl⟩
 ·rename_i hn;cases ho:one t with
  |false=>rw[ho]at h;cases h
  |true=>
   rw[ho]at h;rw[zI rfl];have hna:noag x=true:=by cases x<;>first|rfl|exact absurd rfl (hn _)
   by_cases hu:notu x=true
   ·exact zrM hS hO h ((hx.b hu).b hna)
   ·cases x<;>first|exact absurd rfl hu|(cases t<;>cases h)
theorem ywN(hS:Mem.le S S2)(hO:yeF S S2 E hp):∀(l:List Ty) {xs:List SV} {us:LV} {y:zfB l},ylS hp l xs=some y->A2 (VR S E) xs us->repA S2 l us y
 |[],xs,us,y,h,hl=>by
  cases hl with
  |nil=>rfl|cons=>cases h
 |[t],xs,us,y,h,hl=>by
  cases hl with
  |nil=>cases h
  |cons a r=>
   cases r with
   |nil=>exact⟨_,rfl,zzL hS hO h a⟩|cons=>cases h
 |t::t'::l,xs,us,y,h,hl=>by
  cases hl with
  |nil=>cases h
  |cons a r=>
   simp only[ylS]at h;split at h
   ·rename_i x1 x2 h1 h2;cases h;exact⟨_,_,rfl,zzL hS hO h1 a,ywN hS hO (t'::l) h2 r⟩
   ·cases h
theorem zuK{t:Ty}{u:Value}{y:den t}(h:rep1 t S u y):VA (VC S E) (svOf t y) u:=by
 unfold rep1 at h;unfold svOf;cases ho:one t with
 |true=>rw[zI ho]at h;exact h|false=>rw[ho,zH (by simp)]at h;obtain⟨cs,hu,h⟩:=h;exact⟨cs,hu,zwD t h⟩
theorem yrY:∀(l:List Ty) {us:LV} {y:zfB l},repA S l us y->A2 (VA (VC S E)) (zvW l y) us
 |[],_,_,h=>by rw[show _=[]from h];exact .nil
 |[t],_,_,⟨u,e,h⟩=>by rw[e];exact .cons (zuK h) .nil
 |t::t'::l,_,_,⟨u,us',e,h1,h2⟩=>by rw[e];exact .cons (zuK h1) (yrY (t'::l) h2)
theorem ypX:∀(l:List Ty) (y:zfB l),(zvW l y).length=l.length
 |[],_=>rfl|[_],_=>rfl|_::t'::l,y=>by simp[zvW,ypX (t'::l) y.2]
theorem xcV{l:List Ty}{u:Value}{y:zfB l}(h:repR S l u y):VR S E (yyU l y) u:=by
 match l,y,h with
 |[],y,⟨us,hu,h⟩=>exact⟨us,hu,yrY [] h⟩|[t],y,h=>exact VR.of (zuK h)|t::t'::l,y,⟨us,hu,h⟩=>
  have h1:=yrY (E:=E) (t::t'::l) h;have e1:yyU (t::t'::l) y = .tup (zvW (t::t'::l) y):=by
   unfold yyU;have:=ypX (t::t'::l) y;split
   ·rename_i hh;rw[hh]at this;simp at this
   ·rfl
  rw[e1];exact⟨us,hu,h1⟩
theorem ygD:∀(t:Ty) {us:LV} {x:den t},yiY t=false->rep t S us x->rep t S2 us x
 |.i _,_,_,_,h=>h|.b,_,_,_,h=>h|.s,_,_,_,h=>h|.er,_,_,_,h=>h|.un,_,_,_,h=>h|.pr a c,_,_,hs,⟨c1,c2,e,h1,h2⟩=>by simp only[yiY,cW]at hs;exact⟨c1,c2,e,ygD a hs.1 h1,ygD c hs.2 h2⟩
theorem yhK{t:Ty}{u:Value}{x:den t}(hs:yiY t=false)(h:rep1 t S u x):rep1 t S2 u x:=by
 unfold rep1 at h ⊢;split at h
 ·rename_i ho;rw[zI ho];exact ygD t hs h
 ·rename_i ho;rw[zH ho];obtain⟨cs,e,h⟩:=h;exact⟨cs,e,ygD t hs h⟩
theorem yoX:∀(l:List Ty) {us:LV} {x:zfB l},l.any yiY=false->repA S l us x->repA S2 l us x
 |[],_,_,_,h=>h|[t],_,_,hs,⟨u,e,h⟩=>⟨u,e,yhK (by simpa using hs) h⟩|t::t'::l,_,_,hs,⟨u,us',e,h1,h2⟩=>by rw[List.any_cons,cW]at hs;exact⟨u,us',e,yhK hs.1 h1,yoX (t'::l) hs.2 h2⟩
theorem ypU{l:List Ty}{u:Value}{x:zfB l}(hs:l.any yiY=false)(h:repR S l u x):repR S2 l u x:=by
 match l,x,h with
 |[],_,⟨us,hu,h⟩=>exact⟨us,hu,h⟩|[t],_,h=>exact yhK (by simpa using hs) h|t::t'::l,_,⟨us,hu,h⟩=>exact⟨us,hu,yoX _ hs h⟩
end
section
variable {β:Type}{τ:TE}{n:Nat}{P:Program}{B:Bas}{S:Mem}{E:List EI}{L:List Res}{σ:St}{m:FM}{w:World}{dst:Option Tmp}{g:Option (Nat×Bool)}{ty:TypeId}{pos:String}{aft:Array Edge}{a b x y:Operand}{T T':TypeId}{k:SV->Option β}{r:β}
theorem zbT{o:Option SV}(h:bindS o k=some r):∃x,o=some x/\k x=some r:=by
 cases o with
 |none=>cases h
 |some x=>exact⟨x,rfl,h⟩
theorem zaG{c:Bool}{o:Option β}(h:(bif c then o else none)=some r):c=true/\o=some r:=by
 cases c with
 |true=>exact⟨rfl,h⟩|false=>cases h
theorem Rel.objN(R:Rel n B S E L σ m w){i:Nat}{o:AO}(h:atN σ.hp i=some o):∃r e,lkR L i=some r/\E[i]? = some e/\OR S E o r e:=by rw[zfR]at h;obtain⟨r,e,h1,h2,h3⟩:=R.obj i o h;exact⟨r,e,by rw[zbZ];exact h1,h2,h3⟩
theorem yhO{l l2:LV}{o k:Nat}(h:o+k<=l.length):piece (l++l2) o k=piece l o k:=by rw[zbB,zbB,List.drop_append_of_le_length (by omega),List.take_append_of_le_length (by rw[bH];omega)]
theorem Same.eq{v v':Value}{n i:Nat}(h:Same S v v' n)(hi:i<n):v'=v:=by
 rcases h with h|⟨_,h,_⟩
 ·exact h
 ·omega
theorem Same.slW{w:World}{v v':Value}{n sz:Nat}{cs:LV}(h:Same S v v' n)(hS:Sub S w)(hw:SlW w v n sz cs):SlW w v' n sz cs:=by
 rcases h with rfl|⟨rfl,rfl,h,a,rfl⟩
 ·exact hw
 ·have hl:=hw.len;have:cs=[]:=aS (by omega);subst this;rcases h with⟨h,_,_⟩|⟨b,o,c,ds,T,fz,h1,h2,h3,h4,_⟩
  ·exact .inl ⟨h,rfl,rfl⟩
  ·exact .inr ⟨b,o,c,ds,T,fz,h1,h2,hS _ _ h3,by omega,by simp[piece]⟩
theorem Same.one{v v':Value}{n:Nat}(h:Same S v v' n)(hv:v.oneCell'=true):v'.oneCell'=true:=by
 rcases h with rfl|⟨_,_,_,a,rfl⟩
 ·exact hv
 ·rfl
theorem MR.len{K V:Ty}{es:List (den K×den V)}{ents:List MapEntry}(h:MR S K V es ents):ents.length=es.length:=by obtain⟨l,h1,h2⟩:=h.perm;rw[<-h2.len,h1.length_eq]
theorem yaR{b ck:Nat}{ents:Array MapEntry}(h:w.heap[b]? = some (.map ents ck)):(getObj b).run P w = .ok (.map ents ck) w:=by simp[getObj,Sem.run,h]
theorem r_lenM{e:Operand->Value}{K V:TypeId}{b ck N:Nat}{ents:List MapEntry}(hu:P.underlying T=some (.map K V))(hx:e x = .map (some b))(hh:w.heap[b]? = some (.map ents.toArray ck))(hN:ents.length=N):(execOp e ⟨dst,.call ⟨.builtin .len,#[x],#[T]⟩,ty,pos,aft,g⟩).run P w = .ok (.value (.int .i64 (N:Int))) w:=by subst hN;have hg:(getObj b).run P w = .ok (.map ents.toArray ck) w:=yaR hh;simp[execOp,resolve,invoke,builtin,hx,Builtin.len_,Go.underlying,hu,hg,goInt]
theorem yuU{L:List Res}{w:World}(H:HS B S w L){id N s:Nat}{v:Value}{cs rs:LV}(hk:lkR L id=some (.osl v N s cs rs T)){i:Nat}(hi:i<N):∃b c fz,v=sl b 0 N c/\cs.length=N*s/\w.heap[b]? = some (.cells (cs++rs).toArray T fz):=by
 rcases H.own id _ hk with⟨_,h,_⟩|⟨b,c,fz,h1,_,h3,_,h4,_⟩
 ·omega
 ·exact⟨b,c,fz,h1,h3,h4⟩
theorem fam_at{L:List Res}{w:World}(H:HS B S w L){id N s:Nat}{v:Value}{cs rs:LV}{ms:List R0}(hk:lkR L id=some (.many (.osl v N s cs rs T::ms))){i:Nat}(hi:i<N):∃b c fz,v=sl b 0 N c/\cs.length=N*s/\w.heap[b]? = some (.cells (cs++rs).toArray T fz):=by
 rcases(H.own id _ hk).1 _ aM with⟨_,h,_⟩|⟨b,c,fz,h1,_,h3,_,h4,_⟩
 ·omega
 ·exact⟨b,c,fz,h1,h3,h4⟩
theorem VB_plain{E':List EI}{x:SV}{u:Value}(hp:yfD x=true)(h:VB S E x u):VB S E' x u:=by cases x<;>first|exact h|cases hp
theorem yxE{x:SV}(hp:yfD x=true):nofn x=true:=by cases x<;>first|rfl|cases hp
theorem yoG{E':List EI}:∀{l:List SV} {us:LV},l.all yfD=true->A2 (VC S E) l us->A2 (VC S E') l us
 |[],_,_,.nil=>.nil|x::l,_,h,.cons a t=>by simp only[cI,aF]at h;exact .cons (VB_plain h.1 (a.b (yxE h.1))).c (yoG h.2 t)
theorem Mem1.root{f:List FSh}{x:den (fT f)}{rs:List R0}{b:Nat}(h:Mem1 S f x rs b)(h0:0<(ywT f x).length):∃T0 us Ei,R0.blk b us T0∈rs/\A2 (VC S Ei) (ywT f x) us:=by
 obtain⟨Ei,h1,h2,h3,h4⟩:=h;unfold ywT at h0 ⊢;split at h0
 ·rename_i T0 cs os hp;obtain⟨r,e,k1,k2,k3⟩:=h4 0 _ (by rw[hp];rfl);obtain⟨b',us,k4,rfl,k6⟩:=k3;have hbb:=h1 _ k2;rw[hbb]at k4;refine⟨T0,us,Ei,?_,k6⟩;have:r = .blk b us T0:=by cases r<;>simp only[R0.up,Res.blk.injEq,reduceCtorEq]at k4;obtain⟨rfl,rfl,rfl⟩:=k4;rfl
  rw[<-this];exact cA k1
 ·cases h0
theorem deref_ok{sz:Nat}{p:SV}{k:List SV->Option β}(R:Rel n B S E L σ m w){u:Value}(hp:VR S E p u)(h:deref σ.hp p sz k=some r):∃l us,k l=some r/\A2 (VC S E) l us/\∀w',HS B S w' L->∃b o ds T' fz,u = .pointer (some ⟨b,o,none⟩)/\w'.heap[b]? = some (.cells (gG ds) T' fz)/\piece ds o sz=us:=by
 unfold deref at h;split at h
 ·rename_i id off;split at h
  ·rename_i T0 cs hc;obtain⟨r0,e0,h1,h2,b,us,rfl,rfl,h3⟩:=R.objN hc;obtain⟨b1,hu,e1,h4,h5⟩:=hp;rw[h2]at h4;cases h4;cases h5 _ rfl;exact⟨_,_,h,ylU off sz h3,fun w' H=>⟨b,off,us,T0,(0,0),hu,H.own id _ h1,rfl⟩⟩
  ·cases h
 ·rename_i t x off;obtain⟨hb,h⟩:=zaG h;obtain⟨b,o,us,rfl,⟨ds,T0,fz,h1,h2,h3⟩,h4⟩:=hp;have hl:us.length=tsz t:=by rw[(rpD t).len h4,zpS]
  have hb:=bJ hb;exact⟨_,_,h,ylU off sz (zwD t h4),fun w' H=>⟨b,o+off,ds,T0,fz,rfl,H.sub _ _ h1,by rw[<-zqL ds o us.length off sz (by omega),h3]⟩⟩
 ·rename_i id ver i off;split at h
  ·rename_i ver' e T0 xs hc;obtain⟨hb0,hq⟩:=zaG h;have hv:=aB (zbH hb0);have hb:=bJ (zbR hb0);clear h;obtain⟨x,hx,h⟩:=bnd hq;clear hq;subst hv;obtain⟨r0,e0,h1,h2,v,v',cs,rs,rfl,rfl,h3,hsm⟩:=R.objN hc;obtain⟨hi,hx2⟩:=zwJ hx;have hi2:=(aD.1 hx2).1;obtain rfl:=hsm.eq hi2;have hr:=RL.get h3 hx2;rw[zpS]at hr;obtain⟨_,e1,h4,h5⟩:=hp;rw[h2]at h4;cases h4;obtain⟨b,o,n',c,h6,h7⟩:=(h5 _ _ _ rfl).2 rfl;refine⟨_,_,h,ylU off sz (zwD e hr),fun w' H=>?_⟩;obtain⟨b',c',fz,k1,k2,k3⟩:=yuU H h1 hi2;rw[h6]at k1;obtain⟨rfl,rfl⟩:b=b'/\o=0:=by injection k1 with k1;injection k1 with k1;injection k1 with k1 k2;exact⟨k1,k2⟩
   refine⟨b,_,cs++rs,T0,fz,h7,k3,?_⟩;have hm:i.toNat*tsz e+tsz e<=cs.length:=by have:=cP (tsz e) (show i.toNat+1<=xs.length by omega);rw[cB,eZ]at this;omega
   rw[yhO (by omega),aV,<-zqL cs (i.toNat*tsz e) (tsz e) off sz hb]
  ·rename_i ver' e T0 xs hc;obtain⟨hb0,hq⟩:=zaG h;have hv:=aB (zbH hb0);have hb:=bJ (zbR hb0);clear h;obtain⟨x,hx,h⟩:=bnd hq;clear hq;subst hv;obtain⟨r0,e0,h1,h2,b,c,p,ps,cs,rs,q,c',rfl,rfl,g1,g2,g3,g4⟩:=R.objN hc;obtain⟨hi,hx2⟩:=zwJ hx;have hi2:=(aD.1 hx2).1;have hr:=RL.get g2 hx2;rw[zpS]at hr;obtain⟨_,e1,h4,h5⟩:=hp;rw[h2]at h4;cases h4;obtain⟨b',o,n',c2,h6,h7⟩:=(h5 _ _ _ rfl).2 rfl;obtain⟨rfl,rfl⟩:b=b'/\q=o:=by injection h6 with k1;injection k1 with k1;injection k1 with k1 k2;exact⟨k1,k2⟩
   obtain⟨rfl,rfl⟩:q=p*tsz e/\c=p+c':=by
    rcases g4 with g4|g4
    ·exact g4
    ·omega
   refine⟨_,_,h,ylU off sz (zwD e hr),fun w' H=>?_⟩;obtain⟨b2,c3,fz,k1,k2,k3⟩:=yuU H h1 (i:=p+i.toNat) (by omega);have hbb:b=b2:=by injection k1 with k1;injection k1 with k1;injection k1
   subst hbb;refine⟨b,_,ps++cs++rs,T0,fz,h7,k3,?_⟩;have hcl:cs.length=xs.length*tsz e:=by have:=g2.len;rw[zpS]at this;exact this
   have hm:i.toNat*tsz e+tsz e<=cs.length:=by have:=cP (tsz e) (show i.toNat+1<=xs.length by omega);rw[cB,eZ]at this;omega
   rw[yhO (by rw[List.length_append];omega),zqL cs (i.toNat*tsz e) (tsz e) off sz hb,zbB,zbB,<-g1,dB,List.drop_append,List.drop_eq_nil_of_le (by omega),List.nil_append];congr 2;omega
  ·cases h
 ·rename_i id ver i;split at h
  ·rename_i ver' T0 f ks hc;obtain⟨hb0,hq⟩:=zaG h;have hv:=aB (zbH hb0);have hb:=aB (zbR hb0);clear h;obtain⟨_,hk,h⟩:=bnd hq;have hk:=zpA hk;have h3:=zC (zbH hk);have h4:=zC (zbR hk);subst hb;subst hv;obtain⟨r0,e0,g1,g2,v,rs,ms,bs,rfl,rfl,g3⟩:=R.objN hc;obtain⟨_,e1,h5,h6⟩:=hp;rw[g2]at h5;cases h5;obtain⟨b,n',c,h7,h8⟩:=(h6 _ _ _ rfl).2 rfl;have hib:i.toNat<bs.length:=by rw[g3.l2];omega
   refine⟨_,[ptrV bs[i.toNat]],h,.cons (VB.c ⟨rfl,_,g2,fun r1 v1 s1 hq=>by cases hq;exact⟨h3,_,aO hib,rfl⟩⟩) .nil,fun w' H=>?_⟩;obtain⟨b',c',fz,k1,k2,k3⟩:=fam_at H g1 (i:=i.toNat) (by omega);rw[h7]at k1;have hbb:b=b':=by injection k1 with k1;injection k1 with k1;injection k1
   subst hbb;refine⟨b,_,bs.map ptrV++rs,T0,fz,h8,k3,?_⟩;rw[yhO (by rw[aE];omega),zbB,List.drop_eq_getElem_cons (by rw[aE];exact hib)];simp
  ·cases h
 ·rename_i id i off;split at h
  ·rename_i ver' T0 f ks hc;obtain⟨x,hx,h⟩:=bnd h;obtain⟨hb0,hq⟩:=zaG h;clear h;have ha:=zbR hb0;have hs:=zC (by rw[<-zpD];exact zbH (zbH hb0));have hle:=bJ (zbR (zbH hb0));obtain⟨hi,hx2⟩:=zwJ hx;obtain⟨r0,e0,g1,g2,v,rs,ms,bs,rfl,rfl,g3⟩:=R.objN hc;obtain⟨_,e1,h5,h6⟩:=hp;rw[g2]at h5;cases h5;obtain⟨_,b,h7,h8⟩:=h6 _ _ _ rfl;obtain⟨rs1,b1,k1,k2,k3⟩:=g3.mem _ _ hx2 (by simp);rw[h7]at k2;cases k2;obtain⟨T1,us,Ei,k4,k5⟩:=k3.root (by omega);refine⟨_,_,hq,yoG ha (ylU off sz k5),fun w' H=>⟨b,off,us,T1,(0,0),h8,?_,rfl⟩⟩;exact(H.own id _ g1).1 (.blk b us T1) (aL _ (List.mem_flatten.2 ⟨rs1,cA k1,k4⟩))
  ·cases h
 ·cases h
theorem ykT(hτ:TEok P τ){i o:Nat}{f:TI}(h:fieldAt τ T i=some (o,f)):∃a fd,P.underlying T=some (.struct a)/\a[i]? = some fd/\fd.offset=o/\TIok P fd.type f:=by
 unfold fieldAt at h;split at h
 ·rename_i fs z1 z2 z3 z4 hT;split at h
  ·rename_i F o' hi;split at h
   ·rename_i f' hF;cases h;obtain⟨a,h1,h2⟩:=(hτ T _ hT).st rfl;rw[zfR,<-h2,List.getElem?_map]at hi;cases hfd:a.toList[i]? with
    |none=>rw[hfd]at hi;cases hi
    |some fd=>rw[hfd]at hi;cases hi;exact⟨a,fd,h1,by simpa using hfd,rfl,hτ _ _ hF⟩
   ·cases h
  ·cases h
 ·cases h
theorem ycV(hτ:TEok P τ){f:TI}(h:elemAt τ T=some f):∃E,P.underlying T=some (.slice E)/\TIok P E f:=by
 unfold elemAt at h;split at h
 ·rename_i E' z1 z2 z3 z4 hT;exact⟨E',(hτ T _ hT).sl rfl,hτ _ _ h⟩
 ·cases h
theorem xaR{p:SV}{f:TI}{k:SV->Option β}(R:Rel n B S E L σ m w)(hT:TIok P T f)(hp:VR S E p (evO n m a))(h:deref σ.hp p f.sz (fun l=>bindS (svAt f l) k)=some r):
  Ok1 P S E (evO n m) ⟨dst,.load T a,ty,pos,aft,g⟩ k r (fun w'=>HS B S w' L):=by
 obtain⟨l,us,h1,h2,h3⟩:=deref_ok R hp h;obtain⟨z,h4,h5⟩:=zbT h1;obtain⟨u,h6,h7⟩:=load_ok (dst:=dst) (g:=g) (ty:=ty) (pos:=pos) (aft:=aft) (x:=a) (e:=evO n m) (T':=0) (b:=0) (o:=0) (ds:=[]) (fz:=(0,0)) hT h4 h2;exact⟨z,u,h5,VR.of h6,fun w' H=>by obtain⟨b,o,ds,T',fz,k1,k2,k3⟩:=h3 w' H;exact h7 w' T' b o ds fz k2 k1 k3⟩
theorem yqF{l:LV}{o:Nat}{u:Value}(h:piece l o 1=[u]):l[o]? = some u:=by rw[zbB]at h;have:=congrArg (·[0]?) h;simpa using this
theorem yvC{i o:Nat}{f:TI}{l:List SV}{k:SV->Option β}{C:World->Prop}(hτ:TEok P τ)(hf:fieldAt τ T i=some (o,f))(hx:VR S E (.ag l) (evO n m a))(h:bindS (svAt f (pc l o f.sz)) k=some r):
  Ok1 P S E (evO n m) ⟨dst,.field T a i,ty,pos,aft,g⟩ k r C:=by
 obtain⟨fs,fd,h1,h2,rfl,h4⟩:=ykT hτ hf;obtain⟨z,h5,h6⟩:=zbT h;obtain⟨us,hu,h7⟩:=hx;obtain⟨h8,h10⟩:=ysI h5 (ylU fd.offset f.sz h7);rcases h10 with⟨ha,hv⟩|⟨ha,hs,u,hu1,hv⟩
 ·refine⟨z,_,h6,VR.of hv,fun w' _=>?_⟩;have key:(part fd.type us.toArray fd.offset).run P w' = .ok (.agg (piece us fd.offset f.sz).toArray) w':=partA (h4.tagg ha) rfl w';simp[execOp,Instr.field,Go.underlying,h1,h2,hu,asAgg,key]
 ·refine⟨z,u,h6,VR.of hv,fun w' _=>?_⟩;rw[hs]at hu1;have key:(part fd.type us.toArray fd.offset).run P w' = .ok u w':=ynE (h4.tone ha hs) (yqF hu1) w';simp[execOp,Instr.field,Go.underlying,h1,h2,hu,asAgg,key]
theorem yjA{x z:SV}{o:Nat}{u:Value}(R:Rel n B S E L σ m w)(hx:VR S E x u)(h:yfF σ.hp x o=some z):∃b o',u = .pointer (some ⟨b,o',none⟩)/\VR S E z (.pointer (some ⟨b,o'+o,none⟩)):=by
 cases x with
 |rp t y off=>cases h;obtain⟨b,o1,us,hu,h7,h8⟩:=hx;exact⟨b,_,hu,⟨b,o1,us,by rw[dB],h7,h8⟩⟩
 |ptr id off=>
  simp only[yfF]at h;split at h
  ·rename_i T0 cs hc;cases h;obtain⟨b1,hu,e0,h8,h9⟩:=hx;exact⟨b1,off,hu,⟨b1,rfl,e0,h8,h9⟩⟩
  ·cases h
 |ep id ver i off=>
  simp only[yfF]at h;split at h
  ·rename_i ver' e T0 xs hc;obtain⟨hv,h⟩:aG ver ver'=true/\some (SV.ep id ver i (off+o))=some z:=by
    cases hb:aG ver ver' with
    |true=>rw[hb]at h;exact⟨rfl,h⟩|false=>rw[hb]at h;cases h
   have hv:=aB hv;cases h;subst hv;obtain⟨r0,e0,h1,h2,v,v',cs,rs,rfl,rfl,h3,hsm⟩:=R.objN hc;obtain⟨h7,e0,h8,h9⟩:=hx;rw[h2]at h8;cases h8;obtain⟨h10,h11⟩:=h9 _ _ _ rfl;obtain⟨b,oo,n',c,h12,h13⟩:=h11 rfl;exact⟨b,_,h13,⟨rfl,_,h2,fun r v' s hb=>by cases hb;exact⟨aI _,fun _=>⟨b,oo,n',c,h12,by rw[dB]⟩⟩⟩⟩
  ·rename_i ver' e T0 xs hc;obtain⟨hv,h⟩:aG ver ver'=true/\some (SV.ep id ver i (off+o))=some z:=by
    cases hb:aG ver ver' with
    |true=>rw[hb]at h;exact⟨rfl,h⟩|false=>rw[hb]at h;cases h
   have hv:=aB hv;cases h;subst hv;obtain⟨r0,e0,h1,h2,b0,c0,p0,ps,cs,rs,q0,c',rfl,rfl,h3,hsm⟩:=R.objN hc;obtain⟨h7,e0,h8,h9⟩:=hx;rw[h2]at h8;cases h8;obtain⟨h10,h11⟩:=h9 _ _ _ rfl;obtain⟨b,oo,n',c,h12,h13⟩:=h11 rfl;exact⟨b,_,h13,⟨rfl,_,h2,fun r v' s hb=>by cases hb;exact⟨aI _,fun _=>⟨b,oo,n',c,h12,by rw[dB]⟩⟩⟩⟩
  ·cases h
 |fp id i off=>
  simp only[yfF]at h;split at h
  ·rename_i ver' T0 f ks hc;cases h;obtain⟨r0,e0,g1,g2,v,rs,ms,bs,rfl,rfl,g3⟩:=R.objN hc;obtain⟨_,e1,h5,h6⟩:=hx;rw[g2]at h5;cases h5;obtain⟨h9,b,h7,h8⟩:=h6 _ _ _ rfl;exact⟨b,off,h8,⟨rfl,_,g2,fun r v' s hb=>by cases hb;exact⟨h9,b,h7,rfl⟩⟩⟩
  ·cases h
 |_=>cases h
theorem yqI{i o:Nat}{f:TI}{x:SV}{k:SV->Option β}(hτ:TEok P τ)(hf:fieldAt τ T i=some (o,f))(h0:Nat.blt 0 f.sz=true)(hR:Rel n B S E L σ m w)(hx:VR S E x (evO n m a))(h:bindS (yfF σ.hp x o) k=some r):
  Ok1 P S E (evO n m) ⟨dst,.fieldAddr T a i,ty,pos,aft,g⟩ k r (fun w'=>HS B S w' L):=by
 obtain⟨fs,fd,h1,h2,rfl,h4⟩:=ykT hτ hf;obtain⟨z,h5,h6⟩:=zbT h;rw[zpD]at h0;have hz:∀w,(sizeOf fd.type).run P w = .ok (f.sz-1+1) w:=fun w=>by rw[Nat.sub_add_cancel (zC h0)];exact h4.tsz w
 obtain⟨b,o',h7,h8⟩:=yjA hR hx h5;exact⟨_,_,h6,h8,fun w' _=>r_addrF h1 h2 hz h7⟩
theorem ypI{q:IntKind}{i:Int}{f:TI}{x:SV}{k:SV->Option β}(hτ:TEok P τ)(hf:elemAt τ T=some f)(hR:Rel n B S E L σ m w)(hx:VR S E x (evO n m a))(hi:evO n m b = .int q i) (h:idxA σ.hp f x i k=some r):
  Ok1 P S E (evO n m) ⟨dst,.indexAddr T a b,ty,pos,aft,g⟩ k r (fun w'=>HS B S w' L):=by
 obtain⟨E',h1,h2⟩:=ycV hτ hf
 have key:∀{e:Ty} {xs:List (den e)},@RdS (den e) (rpD e) S (evO n m a) xs->(bif aG f.sz (tsz e)then aQ (idx xs i) fun x=>k (.rp e x 0)else none)=some r->Ok1 P S E (evO n m) ⟨dst,.indexAddr T a b,ty,pos,aft,g⟩ k r (fun w'=>HS B S w' L):=fun {e xs} hrd h=>by
  obtain⟨hs,h⟩:=zaG h;have hs:=aB hs;obtain⟨y,hy,h⟩:=bnd h;obtain⟨h3,h4⟩:=zwJ hy;obtain⟨b',o,n',c,cs,h5,h6,h7,h8⟩:=hrd.get h4;rw[zpS]at h7;have hts:TSz P E' (tsz e):=by rw[<-hs];exact h2.tsz
  exact⟨_,_,h,⟨b',o+i.toNat*tsz e,cs,rfl,h7,h8⟩,fun w' _=>yiN h1 hts rfl h5 hi h3 h6⟩
 cases x with
 |v t xs=>
  cases t with
  |sl e=>obtain⟨v,hv,hrd⟩:=hx;injection hv with hv;exact key (by rw[hv];exact hrd) h
  |_=>cases h
 |cl e xs=>exact key hx.1 h|rm e n xs=>obtain⟨v,h1,h2,h3⟩:=hx;exact key (xs:=fK n xs) (by rw[h3];exact ywV h1 h2) h
 |own id ver=>
  simp only[idxA]at h;split at h
  ·rename_i ver' e T0 xs hc;obtain⟨hb,h⟩:=zaG h;have hv:=aB (zbH hb);have hs:=aB (zbR hb);obtain⟨_,hk,h⟩:=bnd h;have hk:=zpA hk;have h3:=zC (zbH hk);have h4:=zC (zbR hk);obtain⟨r0,e0,g1,g2,v,v',cs,rs,rfl,rfl,g3,hsm⟩:=hR.objN hc;obtain⟨h7,e0,h8,h9⟩:=hx;rw[g2]at h8;cases h8;have hu:=(h9 _ _ _ rfl).2 hv;obtain rfl:=hsm.eq (i:=i.toNat) (by omega);obtain⟨b',c',fz,k1,k2,k3⟩:=yuU hR.hs g1 (i:=i.toNat) (by omega);have hts:TSz P E' (tsz e):=by rw[<-hs];exact h2.tsz
   refine⟨_,_,h,⟨rfl,_,g2,fun r1 v1 s1 hq=>?_⟩,fun w' _=>yiN h1 hts hu k1 hi (show i=(i.toNat:Int) by omega) (by omega)⟩;cases hq;exact⟨dZ hv,fun _=>⟨b',0,_,c',k1,by rw[fZ]⟩⟩
  ·rename_i ver' e T0 xs hc;obtain⟨hb,h⟩:=zaG h;have hv:=aB (zbH hb);have hs:=aB (zbR hb);obtain⟨_,hk,h⟩:=bnd h;have hk:=zpA hk;have h3:=zC (zbH hk);have h4:=zC (zbR hk);obtain⟨r0,e0,g1,g2,b',c,p,ps,cs,rs,q,c',rfl,rfl,g3⟩:=hR.objN hc;obtain⟨h7,e0,h8,h9⟩:=hx;rw[g2]at h8;cases h8;have hu:=(h9 _ _ _ rfl).2 hv;have hts:TSz P E' (tsz e):=by rw[<-hs];exact h2.tsz
   refine⟨_,_,h,⟨rfl,_,g2,fun r1 v1 s1 hq=>?_⟩,fun w' _=>yiN h1 hts hu rfl hi (show i=(i.toNat:Int) by omega) (by omega)⟩;cases hq;exact⟨dZ hv,fun _=>⟨b',q,_,c',rfl,by rw[fZ]⟩⟩
  ·cases h
 |fs id ver=>
  simp only[idxA]at h;split at h
  ·rename_i ver' T0 f' ks hc;obtain⟨hb,h⟩:=zaG h;have hv:=aB (zbH hb);have hs:=aB (zbR hb);obtain⟨_,hk,h⟩:=bnd h;have hk:=zpA hk;have h3:=zC (zbH hk);have h4:=zC (zbR hk);obtain⟨r0,e0,g1,g2,v,rs,ms,bs,rfl,rfl,g3⟩:=hR.objN hc;obtain⟨h7,e0,h8,h9⟩:=hx;rw[g2]at h8;cases h8;have hu:=(h9 _ _ _ rfl).2 hv;obtain⟨b',c',fz,k1,k2,k3⟩:=fam_at hR.hs g1 (i:=i.toNat) (by omega);have hts:TSz P E' 1:=by rw[<-hs];exact h2.tsz
   refine⟨_,_,h,⟨rfl,_,g2,fun r1 v1 s1 hq=>?_⟩,fun w' _=>yiN h1 hts hu k1 hi (show i=(i.toNat:Int) by omega) (by omega)⟩;cases hq;exact⟨dZ hv,fun _=>⟨b',_,c',k1,by rw[aV,Nat.mul_one]⟩⟩
  ·cases h
 |_=>cases h
theorem index_is{q:IntKind}{i:Int}{l:Bs}{k:SV->Option β}(hu:P.underlying T=some .string)(hx:evO n m a=str l)(hi:evO n m b = .int q i)(h:(aQ (idx l i) fun c=>k (.v (.i .u8) (show UInt8 from c)))=some r):
  Ok1 P S E (evO n m) ⟨dst,.index T a b,ty,pos,aft,g⟩ k r (fun w'=>HS B S w' L):=by
 obtain⟨y,hy,h⟩:=bnd h;obtain⟨h3,h4⟩:=zwJ hy;exact⟨_,_,h,(rfl:[_]=[_]),fun w' _=>r_idxT hu hx hi h3 h4⟩
theorem len_is{x:SV}{k:SV->Option β}(hτ:TEok P τ)(hR:Rel n B S E L σ m w)(hx:VR S E x (evO n m a))(h:(lenSV τ T σ.hp x fun n=>k (.v (.i .i64) n))=some r):
  Ok1 P S E (evO n m) ⟨dst,.call ⟨.builtin .len,#[a],#[T]⟩,ty,pos,aft,g⟩ k r (fun w'=>HS B S w' L):=by
 unfold lenSV at h;split at h
 ·rename_i z1 z2 z3 z4 hT;cases x with
  |v t l=>
   cases t with
   |s=>exact⟨_,_,h,(rfl:[_]=[_]),fun w' _=>xaL ((hτ T _ hT).str rfl) (vS hx) rfl⟩|_=>cases h
  |_=>cases h
 ·rename_i E' z1 z2 z3 z4 hT;have hu:=(hτ T _ hT).sl rfl;cases x with
  |v t l=>
   cases t with
   |sl e=>obtain⟨v,hv,hrd⟩:=hx;injection hv with hv;exact⟨_,_,h,(rfl:[_]=[_]),fun w' H=>r_lenR' (xs:=l) hu hv hrd H.sub⟩
   |_=>cases h
  |nils=>have hx:evO n m a = .slice none 0 0:=hx;exact⟨_,_,h,(rfl:[_]=[_]),fun w' _=>yzK hu hx⟩|own id ver=>
   simp only[]at h;split at h
   ·rename_i ver' e T0 xs hc;obtain⟨hb,h⟩:=zaG h;have hv:=aB hb;obtain⟨r0,e0,g1,g2,v,v',cs,rs,rfl,rfl,g3,hsm⟩:=hR.objN hc;obtain⟨h7,e0,h8,h9⟩:=hx;rw[g2]at h8;cases h8;have hu2:=(h9 _ _ _ rfl).2 hv;exact⟨_,_,h,(rfl:[_]=[_]),fun w' H=>yuN hu hu2 (hsm.slW H.sub (H.slW g1))⟩
   ·rename_i ver' e T0 xs hc;obtain⟨hb,h⟩:=zaG h;have hv:=aB hb;obtain⟨r0,e0,g1,g2,b',c,p,ps,cs,rs,q,c',rfl,rfl,g3⟩:=hR.objN hc;obtain⟨h7,e0,h8,h9⟩:=hx;rw[g2]at h8;cases h8;have hu2:=(h9 _ _ _ rfl).2 hv;exact⟨_,_,h,(rfl:[_]=[_]),fun w' H=>yzK hu hu2⟩
   ·cases h
  |fs id ver=>
   simp only[]at h;split at h
   ·rename_i ver' T0 f' ks hc;obtain⟨hb,h⟩:=zaG h;have hv:=aB hb;obtain⟨r0,e0,g1,g2,v,rs,ms,bs,rfl,rfl,g3⟩:=hR.objN hc;obtain⟨h7,e0,h8,h9⟩:=hx;rw[g2]at h8;cases h8;have hu2:=(h9 _ _ _ rfl).2 hv;exact⟨_,_,h,(rfl:[_]=[_]),fun w' H=>yuN hu hu2 (Res.slW (v:=v) (n:=ks.length) (sz:=1) (cs:=bs.map ptrV) (rs:=rs) (T:=T0) ((H.own id _ g1).1 _ aM))⟩
   ·cases h
  |cl e l=>exact⟨_,_,h,(rfl:[_]=[_]),fun w' H=>r_lenR' (xs:=l) hu rfl hx.1 H.sub⟩|rm e n l=>obtain⟨v,h1,h2,h3⟩:=hx;exact⟨_,_,h,(rfl:[_]=[_]),fun w' H=>r_lenR' (xs:=fK n l) hu h3 (ywV h1 h2) H.sub⟩
  |_=>cases h
 ·rename_i K V z1 z2 z3 z4 hT;have hu:=(hτ T _ hT).map rfl;cases x with
  |mpr id=>
   simp only[]at h;split at h
   ·rename_i g K' V' es hc;obtain⟨r0,e0,g1,g2,b,ents,ck,rfl,rfl,g3,g4⟩:=hR.objN hc;obtain⟨h7,e0,h8,h9⟩:=hx;rw[g2]at h8;cases h8;have hm:=h9 _ _ _ _ rfl;refine⟨_,_,h,(rfl:[_]=[_]),fun w' H=>?_⟩;have hh:w'.heap[b]? = some (.map ents.toArray ck):=H.own id _ g1;exact r_lenM hu hm hh g3.len
   ·cases h
  |_=>cases h
 ·cases h
theorem xaQ{q q':IntKind}{x:den (.i q)}{D:TypeId}{f:TI}{k:SV->Option β}{C:World->Prop}(h1:TIok P T f)(h2:P.underlying D=some (.int q'))(hx:evO n m a = .int q (toI q x))(h:k (.v (.i q') (ofI q' (toI q x)))=some r):
  Ok1 P S E (evO n m) ⟨dst,.convert T D a,ty,pos,aft,g⟩ k r C:=by
 obtain⟨d,h3,_⟩:=h1.d;exact⟨_,_,h,iV _,fun w' _=>r_conv h3 h2 hx rfl⟩
theorem ykL{i:Nat}{l:List SV}{k:SV->Option β}{C:World->Prop}(hx:VR S E (.tup l) (evO n m a))(h:bindS (atN l i) k=some r):
  Ok1 P S E (evO n m) ⟨dst,.extract a i,ty,pos,aft,g⟩ k r C:=by
 obtain⟨z,h1,h2⟩:=zbT h;obtain⟨us,hu,h3⟩:=hx;obtain⟨u,h4,h5⟩:=h3.at h1;exact⟨z,u,h2,VR.of h5,fun w' _=>xfJ hu h4⟩
theorem yvA(R:Rel n B S E L σ m w):∀{l:List Operand} {xs:List SV},evs σ l=some xs->A2 (VR S E) xs (l.map (evO n m))
 |[],_,h=>by cases h;exact .nil
 |x::l,xs,h=>by
  unfold evs at h;split at h
  ·rename_i a r' h1 h2;cases h;exact .cons (zcT R h1) (yvA R h2)
  ·cases h
theorem ytI(hτ:TEok P τ){w:World}:∀{fl:List Field} {pl:List (Nat×Nat)},xeN τ (fl.map fun f=>(f.type,f.offset))=some pl->(fl.mapM fun f=>do pure (f.offset,<-sizeOf f.type):Sem (List (Nat×Nat))).run P w = .ok pl w
 |[],_,h=>by cases h;simp
 |fd::fl,pl,h=>by
  simp only[bF,xeN]at h;split at h
  ·rename_i f' r' h1 h2;cases h;have h3:=(hτ _ _ h1).tsz w;have h4:=ytI hτ (w:=w) h2;simp only[List.mapM_cons,Sem.run_bind,h3,Result.andThen_ok,Sem.run_pure,h4]
  ·cases h
theorem ylO(R:Rel n B S E L σ m w){pl:List (Nat×Nat)}:∀{ps:List (Nat×Operand)} {l l':List SV} {us:LV},zwM pl σ ps l=some l'->A2 (VC S E) l us ->∃us',ydC pl us (zzT (evO n m) ps)=some us'/\A2 (VC S E) l' us'
 |[],l,l',us,h,hl=>by cases h;exact⟨us,rfl,hl⟩
 |(i,x)::ps,l,l',us,h,hl=>by
  unfold zwM at h;split at h
  ·rename_i sv o z h1 h2;obtain⟨hb,h⟩:=zaG h;have h3:=VR.b (zcT R h1) (zbR hb);have h4:=aB (zbH (zbH hb));have h5:=bJ (zbR (zbH hb));obtain⟨h6,_⟩:=ygM h3;obtain⟨us',h7,h8⟩:=ylO R h (yhP o hl h6);refine⟨us',?_,h8⟩
   have hlk:∀(pl:List (Nat×Nat)) (i:Nat),lkp pl i=atN pl i:=fun pl=>by
    induction pl with
    |nil=>intro i;cases i<;>rfl
    |cons p pl ih=>intro i;cases i with
     |zero=>rfl|succ i=>exact ih i
   simp only[zzT,ydC,hlk,h2];have e1:aG (evO n m x).cells.toList.length z=true:=by rw[<-h6.len];rw[h4];simp
   have e2:Nat.ble (o+z) us.length=true:=by rw[<-hl.len];rw[Nat.ble_eq];exact h5
   rw[e1,e2];exact h7
  ·cases h
theorem build_is{fs:List (TypeId×Nat)}{f:TI}{pl:List (Nat×Nat)}{ps:List (Nat×Operand)}{l:List SV}{k:SV->Option β}(hτ:TEok P τ)(R:Rel n B S E L σ m w)(hT:TIok P T f)(hf:f.td = .st fs)(hp:xeN τ fs=some pl)(hq:zwM pl σ ps f.z=some l) (h:k (.ag l)=some r):Ok1 P S E (evO n m) ⟨dst,.build T ps.toArray,ty,pos,aft,g⟩ k r (fun w'=>HS B S w' L):=by
 obtain⟨a,h1,h2⟩:=hT.st hf;have hag:f.agg=true:=by unfold TI.agg;rw[hf]
 have hz:zV f = .agg (f.z.map zc).toArray:=by unfold zV;rw[hag];rfl
 have htb:yqV P T (zV f) pl:=tbuildS h1 hT.zero fun w=>by rw[<-h2]at hp;have:=ytI hτ (w:=w) hp;rw[Array.mapM_eq_mapM_toList];simp only[Sem.run_map,this];rfl
 obtain⟨us,h3,h4⟩:=ylO R (pl:=pl) hq (yeU hT.z);refine⟨_,_,h,⟨us,rfl,h4⟩,fun w' _=>xeI htb rfl ?_⟩;rw[hz];simpa[Value.cells]using h3
theorem xbI(z:Nat):∀(n j:Nat),arrP z n j=(List.range' j n).map fun i=>(i*z,z)
 |0,_=>rfl|n+1,j=>by rw[arrP,xbI z n (j+1),List.range'_succ];rfl
theorem yyP{N:Nat}{E':TypeId}{f fe:TI}{ps:List (Nat×Operand)}{l:List SV}{k:SV->Option β}(R:Rel n B S E L σ m w)(hT:TIok P T f)(hf:f.td = .ar N E')(hE:TIok P E' fe)(hq:zwM (arrP fe.sz N 0) σ ps f.z=some l) (h:k (.ag l)=some r):Ok1 P S E (evO n m) ⟨dst,.build T ps.toArray,ty,pos,aft,g⟩ k r (fun w'=>HS B S w' L):=by
 have hag:f.agg=true:=by unfold TI.agg;rw[hf]
 have hz:zV f = .agg (f.z.map zc).toArray:=by unfold zV;rw[hag];rfl
 have htb:yqV P T (zV f) (arrP fe.sz N 0):=tbuildA (hT.arr hf) hT.zero hE.tsz (xbI fe.sz N 0).symm;obtain⟨us,h3,h4⟩:=ylO R (pl:=arrP fe.sz N 0) hq (yeU hT.z);refine⟨_,_,h,⟨us,rfl,h4⟩,fun w' _=>xeI htb rfl ?_⟩;rw[hz];simpa[Value.cells]using h3
theorem yrL{γ:Type}{i:Int}{k:Nat->Option γ}{r:γ}:∀{n j:Nat},idxC n j i k=some r->∃j',j'<j+n/\i=(j':Int)/\k j'=some r
 |0,_,h=>by cases h
 |n+1,j,h=>by
  unfold idxC at h;cases hb:decide (i=(j:Int)) with
  |true=>rw[hb]at h;exact⟨j,by omega,zC hb,h⟩|false=>rw[hb]at h;obtain⟨j',h1,h2,h3⟩:=yrL (n:=n) (j:=j+1) h;exact⟨j',by omega,h2,h3⟩
theorem idxAr_is{x b:Operand}{k:SV->Option β}(hτ:TEok P τ)(R:Rel n B S E L σ m w)(h:idxAr τ σ T x b k=some r):
  Ok1 P S E (evO n m) ⟨dst,.indexAddr T x b,ty,pos,aft,g⟩ k r (fun w'=>HS B S w' L):=by
 unfold idxAr at h;split at h
 ·rename_i N E' z1 z2 z3 z4 hT;split at h
  ·rename_i f hf;obtain⟨sx,h1,h⟩:=zbT h;obtain⟨si,h2,h⟩:=zbT h;split at h
   ·rename_i q i;obtain⟨j,hj,hij,h⟩:=yrL h;rw[aV]at hj;obtain⟨z,h3,h4⟩:=zbT h;obtain⟨bl,o',h5,h6⟩:=yjA R (zcT R h1) h3;have hi:=vI (zcT R h2);exact⟨z,_,h4,h6,fun w' _=>r_addrA ((hτ _ _ hT).arr rfl) (hτ _ _ hf).tsz h5 hi (show(toI q i).toNat=j by omega) (by omega) (by omega)⟩
   ·cases h
  ·cases h
 ·cases h
theorem xcW{q:IntKind}{i:den (.i q)}{N:Nat}{E':TypeId}{f fe:TI}{b:Operand}{l:List SV}{k:SV->Option β}{C:World->Prop}(hT:TIok P T f)(hf:f.td = .ar N E')(hE:TIok P E' fe)(hx:VR S E (.ag l) (evO n m a))(hi:evO n m b = .int q (toI q i)) (h:(idxC N 0 (toI q i) fun j=>bindS (svAt fe (pc l (j*fe.sz) fe.sz)) k)=some r):
  Ok1 P S E (evO n m) ⟨dst,.index T a b,ty,pos,aft,g⟩ k r C:=by
 obtain⟨j,hj,hij,h⟩:=yrL h;rw[aV]at hj;obtain⟨z,h5,h6⟩:=zbT h;obtain⟨us,hu,h7⟩:=hx;obtain⟨h8,h10⟩:=ysI h5 (ylU (j*fe.sz) fe.sz h7);have hu':=hT.arr hf;have hsz:=hE.tsz;rcases h10 with⟨ha,hv⟩|⟨ha,hs,u,hu1,hv⟩
 ·refine⟨z,_,h6,VR.of hv,fun w' _=>?_⟩;have key:(part E' us.toArray (j*fe.sz)).run P w' = .ok (.agg (piece us (j*fe.sz) fe.sz).toArray) w':=partA (hE.tagg ha) rfl w';simp[execOp,Instr.index,asIntOf,Go.underlying,hu',hu,hi,hij,hj,hsz w',key]
 ·refine⟨z,u,h6,VR.of hv,fun w' _=>?_⟩;have hu2:=hu1;rw[hs]at hu2;have key:(part E' us.toArray (j*fe.sz)).run P w' = .ok u w':=ynE (hE.tone ha hs) (yqF (by rw[hs];exact hu2)) w';simp[execOp,Instr.index,asIntOf,Go.underlying,hu',hu,hi,hij,hj,hsz w',key]
end
theorem A2.mem_l{α γ:Type}{R:α->γ->Prop}:∀{l:List α} {m:List γ},A2 R l m->∀a∈l,∃b∈m,R a b
 |_,_,.nil,b,h=>by cases h
 |_,_,.cons a t,b,h=>by
  rcases aK.1 h with rfl|h
  ·exact⟨_,aM,a⟩
  ·obtain⟨x,h1,h2⟩:=A2.mem_l t b h;exact⟨x,aL _ h1,h2⟩
theorem yrH:∀{k:IntKind} {x y:den (.i k)},toI k x=toI k y->x=y
 |.u8,x,_y,h=>UInt8.toNat_inj.1 (Int.ofNat.inj h)|.u16,x,_y,h=>UInt16.toNat_inj.1 (Int.ofNat.inj h)|.u32,x,_y,h=>UInt32.toNat_inj.1 (Int.ofNat.inj h)|.u64,x,_y,h=>UInt64.toNat_inj.1 (Int.ofNat.inj h)|.i8,_,_,h=>h|.i16,_,_,h=>h|.i32,_,_,h=>h|.i64,_,_,h=>h
theorem kOk_s{d:TD}{K:Ty}(h:kTs d K=true):kOk K=true:=by cases d<;>cases K<;>first|rfl|cases h
theorem kOk_of{τ:TE}{d:TD}{K:Ty}(h:kTd τ d K=true):kOk K=true:=by
 unfold kTd at h;split at h
 ·rfl
 ·exact kOk_s h
theorem ybR{a b:Bs}(h:str a=str b):a=b:=by have h:Value.string ⟨a.toArray⟩ = .string ⟨b.toArray⟩:=h;injection h with h;injection h with h;injection h
theorem ykF:∀{K:Ty},kOk K=true->∀{a b:den K},kv K a=kv K b->a=b
 |.i k,_,a,b,h=>by have h:Value.int k (toI k a) = .int k (toI k b):=h;injection h with _ h;exact yrH h
 |.s,_,a,b,h=>by have h:str a=str b:=h;exact ybR h
 |.pr .s .s,_,a,b,h=>by have h:Value.agg [str a.1,str a.2].toArray = .agg [str b.1,str b.2].toArray:=h;injection h with h;have h:=List.toArray_inj h;injection h with h1 h2;injection h2 with h2;exact Prod.ext (ybR h1) (ybR h2)
theorem A2.at_r{α γ:Type}{R:α->γ->Prop}:∀{l:List α} {m:List γ} {i:Nat} {b:γ},A2 R l m->m[i]? = some b->∃a,l[i]? = some a/\R a b
 |_,_,_,_,.nil,h=>by simp at h
 |_,_,0,_,.cons a _,h=>by simp at h;subst h;exact⟨_,rfl,a⟩
 |_,_,i+1,_,.cons _ t,h=>by obtain⟨a,h1,h2⟩:=A2.at_r (i:=i) t (by simpa using h);exact⟨a,by simpa using h1,h2⟩
theorem znE:∀{K:Ty},kOk K=true->∀{a b:den K},keq K a b=true↔a=b
 |.i k,_,a,b=>by show decide (toI k a=toI k b)=true↔_;rw[decide_eq_true_iff];exact⟨yrH,fun h=>by rw[h]⟩
 |.s,_,a,b=>by show @BEq.beq Bs _ a b=true↔_;exact beq_iff_eq
 |.pr .s .s,_,a,b=>by
  have key:∀a b:Bs×Bs,(a.1==b.1&&a.2==b.2)=true↔a=b:=fun a b=>by rw[aF,beq_iff_eq,beq_iff_eq];exact⟨fun h=>Prod.ext h.1 h.2,fun h=>by rw[h];exact⟨rfl,rfl⟩⟩
  exact key a b
theorem ztY{K:Ty}(hK:kOk K=true){a b:den K}:keq K a b=false↔a≠b:=by rw[<-dX,znE hK]
theorem ycB{S:Mem}:∀{K:Ty},kOk K=true->∀{u:Value} {x:den K},rep1 K S u x->u=kv K x
 |.i k,_,u,x,h=>by have h:[u]=[Value.int k (toI k x)]:=h;injection h
 |.s,_,u,x,h=>by have h:[u]=[str x]:=h;injection h
 |.pr .s .s,_,u,x,h=>by have h:∃cs:LV,u = .agg cs.toArray/\∃c1 c2,cs=c1++c2/\c1=[str x.1]/\c2=[str x.2]:=h;obtain⟨_,rfl,_,_,rfl,rfl,rfl⟩:=h;rfl
theorem of_kv{S:Mem}:∀{K:Ty},kOk K=true->∀{x:den K},rep1 K S (kv K x) x
 |.i _k,_,x=>(rfl:[_]=[_])|.s,_,x=>(rfl:[_]=[_])|.pr .s .s,_,x=>⟨[str x.1,str x.2],rfl,[str x.1],[str x.2],rfl,rfl,rfl⟩
section
variable {γ:Type}{K:Ty}
theorem xdJ(hK:kOk K=true):∀{es:List (den K×γ)} {k:den K} {v:γ},mget (keq K) es k=some v->(k,v)∈es
 |q::es,k,v,h=>by
  unfold mget at h;cases hb:keq K q.1 k with
  |true=>rw[hb]at h;cases h;rw[<-(znE hK).1 hb];exact aM
  |false=>rw[hb]at h;exact aL _ (xdJ hK h)
theorem ywH(hK:kOk K=true):∀{es:List (den K×γ)} {p:den K×γ},es.Pairwise (fun p q=>keq K p.1 q.1=false)->p∈es->mget (keq K) es p.1=some p.2
 |q::es,p,hp,hm=>by
  unfold mget;rcases aK.1 hm with rfl|hm
  ·rw[(znE hK).2 rfl];rfl
  ·have h1:=(aW.1 hp).1 p hm;rw[h1];exact ywH hK (aW.1 hp).2 hm
theorem ygB(hK:kOk K=true):∀{es:List (den K×γ)} {k:den K},mhas (keq K) es k=true↔∃p∈es,p.1=k
 |[],k=>by simp[mhas]
 |q::es,k=>by unfold mhas;rw[bY,znE hK,ygB hK];simp
theorem ypS(hK:kOk K=true):∀{es:List (den K×γ)} {k:den K},mhas (keq K) es k=false->mget (keq K) es k=none
 |[],_,_=>rfl|q::es,k,h=>by unfold mhas at h;rw[cW]at h;unfold mget;rw[h.1];exact ypS hK h.2
end
section
variable {P:Program}{S:Mem}{K V:Ty}{w:World}
theorem ba_eq(a b:Bs):((⟨a.toArray⟩:ByteArray)==⟨b.toArray⟩)=(a==b):=by show(a.toArray==b.toArray)=_;simp
theorem yyJ{kd:TypeDesc}(hK:kTs (tdo kd) K=true)(x y:den K):Instr.sameNow kd (kv K x) (kv K y)=some (keq K y x):=by
 have hk:=kOk_s hK
 have hb:∀b:Bool,(b=true↔y=x)->b=keq K y x:=fun b h=>by
  cases hh:keq K y x with
  |true=>rw[h.2 ((znE hk).1 hh)]|false=>cases hb:b with
   |false=>rfl|true=>exact absurd (h.1 hb) ((ztY hk).1 hh)
 cases K with
 |i k=>
  cases kd<;>first|(cases hK;done)|skip
  simp only[Instr.sameNow,kv,if_true];rw[hb (toI k x==toI k y) (by rw[beq_iff_eq];exact⟨fun h=>(yrH h).symm,fun h=>by rw[h]⟩)]
 |s=>
  cases kd<;>first|(cases hK;done)|skip
  have hb':∀x y:Bs,(x==y)=true↔y=x:=fun x y=>by rw[beq_iff_eq];exact eq_comm
  show some ((⟨gG (show Bs from x)⟩:ByteArray)==⟨gG (show Bs from y)⟩)=_;rw[ba_eq,hb _ (hb' _ _)]
  --, hb _ (by rw [beq_iff_eq]; exact eq_comm)]
 |pr a c=>cases kd<;>cases a<;>cases c<;>cases hK
 |_=>cases hk
inductive Fnd (K V:Ty) (k:den K) (l:List (den K×den V)) (ents:List MapEntry) (i:Nat):Option (Nat×Value)->Prop
 |no:(∀p∈l,p.1≠k)->Fnd K V k l ents i none
 |yes {j p en}:l[j]? = some p->ents[j]? = some en->p.1=k->Fnd K V k l ents i (some (i+j,en.val))
inductive FndK (K:Ty) (k:den K) (ents:List MapEntry) (i:Nat):Option (Nat×Value)->Prop
 |no:(∀en∈ents,en.key≠kv K k)->FndK K k ents i none
 |yes {j en}:ents[j]? = some en->en.key=kv K k->FndK K k ents i (some (i+j,en.val))
theorem FndK.cons{k:den K}{en:MapEntry}{ents:List MapEntry}{i:Nat}{o:Option (Nat×Value)}(h:FndK K k ents (i+1) o)(hn:en.key≠kv K k):FndK K k (en::ents) i o:=by
 cases h with
 |no h=>exact .no fun q hq'=>(aK.1 hq').elim (fun e=>e▸hn) (h q)
 |yes h3 h4=>rename_i j en';rw[show i+1+j=i+(j+1) by omega];exact .yes (by simpa using h3) h4
theorem ykX{kd:TypeDesc}(hK:kTs (tdo kd) K=true)(k:den K):∀(ents:List MapEntry) (i:Nat),(∀en∈ents,∃x:den K,en.key=kv K x)->∃o,Instr.findNow kd (kv K k) ents i=some o/\FndK K k ents i o
 |[],i,_=>⟨none,rfl,.no (by simp)⟩|en::ents,i,h=>by
  have hk:=kOk_s hK;obtain⟨x,hx⟩:=h en aM;unfold Instr.findNow;rw[hx,yyJ hK];cases hq:keq K x k with
  |true=>exact⟨some (i,en.val),rfl,.yes (j:=0) rfl (by rw[hx,(znE hk).1 hq])⟩|false=>obtain⟨o,h1,h2⟩:=ykX hK k ents (i+1) fun e he=>h e (aL _ he);exact⟨o,h1,h2.cons (by rw[hx];exact fun e=>(ztY hk).1 hq (ykF hk e))⟩
theorem ylD{Kt:TypeId}(hk:kOk K=true)(hE:∀(x y:den K) w,(Op.equal Kt (kv K x) (kv K y)).run P w = .ok (keq K x y) w)(k:den K):∀(ents:List MapEntry) (i:Nat),(∀en∈ents,∃x:den K,en.key=kv K x)->∃o,(∀w,(Instr.findAsking Kt (kv K k) ents i).run P w = .ok o w)/\FndK K k ents i o
 |[],i,_=>⟨none,fun w=>rfl,.no (by simp)⟩|en::ents,i,h=>by
  obtain⟨x,hx⟩:=h en aM;cases hq:keq K k x with
  |true=>have e:=(znE hk).1 hq;refine⟨some (i,en.val),fun w=>?_,.yes (j:=0) rfl (by rw[hx,e])⟩;simp[Instr.findAsking,hx,hE,hq]|false=>obtain⟨o,h1,h2⟩:=ylD hk hE k ents (i+1) fun e he=>h e (aL _ he);exact⟨o,fun w=>by simp[Instr.findAsking,hx,hE,hq,h1],h2.cons (by rw[hx];exact fun e=>(ztY hk).1 hq (ykF hk e).symm)⟩
structure KeyP (P:Program) (Kt:TypeId) (K:Ty):Prop where
 ok:kOk K=true
 ck:∀(e:Bool) (k:den K) w,(Instr.checkKey e 10000 Kt (kv K k)).run P w = .ok () w
 fk:∀(k:den K) (ents:List MapEntry),(∀en∈ents,∃x:den K,en.key=kv K x)->∃o,(∀w,(Instr.findKey Kt (kv K k) ents).run P w = .ok o w)/\FndK K k ents 0 o
theorem keyP_s{Kt:TypeId}{kd:TypeDesc}(hk:P.underlying Kt=some kd)(hK:kTs (tdo kd) K=true):KeyP P Kt K:=by
 refine⟨kOk_s hK,fun e k w=>?_,fun k ents h=>?_⟩
 ·have hc0:∀d e,(Instr.checkKey e (d+1) Kt (kv K k)).run P w = .ok () w:=fun d e=>by
   cases K with
   |pr a c=>cases kd<;>cases a<;>cases c<;>cases hK
   |_=>cases kd<;>first|(cases hK;done)|(simp[Instr.checkKey,Go.underlying,hk,kv,str])
  exact hc0 9999 _
 ·obtain⟨o,h1,h2⟩:=ykX hK k ents 0 h;exact⟨o,fun w=>by simp[Instr.findKey,Go.underlying,hk,h1],h2⟩
theorem xdB{τ:TE}(hτ:TEok P τ){F:TypeId}(h:isSt τ F=true):P.underlying F=some .string/\TOne P F:=by
 unfold isSt at h;split at h
 ·rename_i hf;have hF:=hτ _ _ hf;exact⟨hF.str rfl,hF.tone rfl (hF.one1 rfl)⟩
 ·cases h
theorem ysP{τ:TE}(hτ:TEok P τ){Kt:TypeId}{kt:TI}(hk:tyAt τ Kt=some kt)(h:kTd τ kt.td K=true):KeyP P Kt K:=by
 have hF:=hτ _ _ hk;unfold kTd at h;split at h
 ·rename_i F H htd;obtain⟨f1,f2⟩:=xdB hτ (zbH h);obtain⟨g1,g2⟩:=xdB hτ (zbR h);obtain⟨a,k1,k2⟩:=hF.st htd;obtain⟨k3,k4,_⟩:=hF.eqs htd k1
  have hE:∀(x y:den (.pr .s .s)) w,(Op.equal Kt (kv (.pr .s .s) x) (kv (.pr .s .s) y)).run P w = .ok (keq (.pr .s .s) x y) w:=fun x y w=>by
   have h1:EqR P 2 Kt (.agg [str x.1,str x.2].toArray) (.agg [str y.1,str y.2].toArray) (keq (.pr .s .s) x y):=
    EqR.str k1 k3 k4 k2 (.cons (ynE f2 rfl) (ynE f2 rfl) (eqS f1) (EqL.last (ynE g2 rfl) (ynE g2 rfl) (eqS g1)))
   exact h1 9998 w
  refine⟨rfl,fun e k w=>?_,fun k ents h=>?_⟩
  ·have hn : ∀ f ∈ a.toList, f.name ≠ "_" := fun f hf => by simpa using List.all_eq_true.1 k4 f hf
   obtain⟨p,q,ha⟩:∃p q,a = #[p,q]:=by
    have hl:=congrArg dO k2;obtain⟨l⟩:=a
    match l,hl with
    |[p,q],_=>exact⟨p,q,rfl⟩
   subst ha;simp only[bF,List.map_nil,List.cons.injEq,Prod.mk.injEq,and_true]at k2;obtain⟨⟨p1,p2⟩,q1,q2⟩:=k2;have e1:=hn p (by simp);have e2:=hn q (by simp);have c1:∀d (s:Bs),(Instr.checkKey e (d+1) F (str s)).run P w = .ok () w:=fun d s=>by simp[Instr.checkKey,Go.underlying,f1,str]
   have c2:∀d (s:Bs),(Instr.checkKey e (d+1) H (str s)).run P w = .ok () w:=fun d s=>by simp[Instr.checkKey,Go.underlying,g1,str]
   have key:∀d (x y:Bs),(Instr.checkKey e (d+1+1) Kt (.agg [str x,str y].toArray)).run P w = .ok () w:=fun d x y=>by have d1:=ynE (P:=P) (l:=[str x,str y]) f2 (o:=0) rfl w;have d2:=ynE (P:=P) (l:=[str x,str y]) g2 (o:=1) rfl w;unfold Instr.checkKey;simp[Go.underlying,k1,e1,e2,p1,p2,q1,q2,d1,d2,c1,c2]
   exact key 9998 (show Bs×Bs from k).1 (show Bs×Bs from k).2
  ·cases ents with
   |nil=>exact⟨none,fun w=>by simp[Instr.findKey,Go.underlying,k1,Instr.findNow],.no (by simp)⟩|cons en ents=>
    obtain⟨o,h1,h2⟩:=ylD (K:=.pr .s .s) rfl hE k (en::ents) 0 h;obtain⟨x,hx⟩:=h en aM;refine⟨o,fun w=>?_,h2⟩;have hno:Instr.findNow (.struct a) (kv (.pr .s .s) k) (en::ents) 0=none:=by unfold Instr.findNow;rw[hx];rfl
    simp[Instr.findKey,Go.underlying,k1,hno,h1]
 ·obtain⟨kd,h1,h2⟩:=hF.d;exact keyP_s h1 (by rw[h2];exact h)
theorem find_ok{Kt:TypeId}(hK:KeyP P Kt K)(k:den K){l:List (den K×den V)}{ents:List MapEntry}(hA:A2 (fun p en=>rep1 K S en.key p.1/\rep1 V S en.val p.2) l ents):∃o,(∀w,(Instr.findKey Kt (kv K k) ents).run P w = .ok o w)/\Fnd K V k l ents 0 o:=by
 have hkey:∀en∈ents,∃x:den K,en.key=kv K x:=fun en he=>by obtain⟨i,hi,rfl⟩:=List.mem_iff_getElem.1 he;obtain⟨p,_,hp⟩:=A2.at_r hA (aO hi);exact⟨p.1,ycB hK.ok hp.1⟩
 obtain⟨o,h1,h2⟩:=hK.fk k ents hkey;refine⟨o,h1,?_⟩;cases h2 with
 |no h=>refine .no fun p hp e=>?_;obtain⟨en,he,h3⟩:=A2.mem_l hA p hp;exact h en he (by rw[ycB hK.ok h3.1,e])
 |yes h3 h4=>obtain⟨p,hp,h5⟩:=A2.at_r hA h3;exact .yes hp h3 (ykF hK.ok (by rw[<-ycB hK.ok h5.1,h4]))
theorem MR.fnd(hK:kOk K=true){es:List (den K×den V)}{ents:List MapEntry}{l:List (den K×den V)}{k:den K}{o:Option (Nat×Value)}(hl:l.Perm es)(hne:es.Pairwise fun p q=>keq K p.1 q.1=false)(hA:A2 (fun p en=>rep1 K S en.key p.1/\rep1 V S en.val p.2) l ents)(h:Fnd K V k l ents 0 o)(z:Value)(zd:den V)(hz:rep1 V S z zd):
  mhas (keq K) es k=o.isSome/\rep1 V S ((o.map (·.2)).getD z) (zeD (keq K) es k zd):=by
 cases h with
 |no h=>
  have h1:mhas (keq K) es k=false:=by rw[<-dX,ygB hK];rintro⟨p,hp,e⟩;exact h p (hl.mem_iff.2 hp) e
  refine⟨h1,?_⟩;unfold zeD;rw[ypS hK h1];exact hz
 |yes h1 h2 h3=>rename_i j p en;have hp:p∈es:=hl.mem_iff.1 (cA h1);refine⟨(ygB hK).2 ⟨p,hp,h3⟩,?_⟩;unfold zeD;rw[<-h3,ywH hK hne hp];obtain⟨en',h4,h5⟩:=hA.at (n:=j) (a:=p) (by rw[zfR];exact h1);rw[h2]at h4;cases h4;exact h5.2
theorem yxC{T Kt Vt:TypeId}{b ck:Nat}{ents:List MapEntry}{z:Value}{k:den K}{o:Option (Nat×Value)}{ok:Bool}(hu:P.underlying T=some (.map Kt Vt))(hK:KeyP P Kt K)(hz:yrX P Vt z)(hh:w.heap[b]? = some (.map ents.toArray ck))(hf:∀w,(Instr.findKey Kt (kv K k) ents).run P w = .ok o w):(Instr.lookup T (.map (some b)) (kv K k) ok).run P w = .ok (if ok then .tuple #[(o.map (·.2)).getD z,.bool o.isSome]else(o.map (·.2)).getD z) w:=by
 have hg:(getObj b).run P w = .ok (.map ents.toArray ck) w:=yaR hh;have hc:=hK.ck ents.isEmpty k w;have hff:=hf w;cases o with
 |none=>cases ok<;>simp[Instr.lookup,Go.underlying,hu,hg,hc,hff,hz w]
 |some p=>cases ok<;>simp[Instr.lookup,Go.underlying,hu,hg,hc,hff]
end
section
variable {β:Type}{τ:TE}{n:Nat}{P:Program}{B:Bas}{S:Mem}{E:List EI}{L:List Res}{σ:St}{m:FM}{w:World}{dst:Option Tmp}{g:Option (Nat×Bool)}{ty:TypeId}{pos:String}{aft:Array Edge}{a b x y:Operand}{T T':TypeId}{k:SV->Option β}{r:β}
theorem subH0{α:Type}(xs:List α):subH xs 0=some []:=by simp[subH]
theorem zuR(R:Rel n B S E L σ m w){lo:Option Operand}{a:Option Int}(h:optI σ lo=some a):(lo=none/\a=none)∨∃x q c,lo=some x/\a=some c/\evO n m x = .int q c:=by
 cases lo with
 |none=>cases h;exact .inl ⟨rfl,rfl⟩
 |some x=>
  simp only[optI]at h;split at h
  ·rename_i q a' hx;cases h;exact .inr ⟨x,q,_,rfl,rfl,vI (zcT R hx)⟩
  ·cases h
theorem subT_is{lo hi:Option Operand}{p q:Option Int}{l:Bs}{k:SV->Option β}(R:Rel n B S E L σ m w)(hu:P.underlying T=some .string)(hx:evO n m a=str l)(hlo:optI σ lo=some p)(hhi:optI σ hi=some q)(h:(aQ (subO l p q) fun r=>k (.v .s r))=some r):
  Ok1 P S E (evO n m) ⟨dst,.slice T a lo hi none,ty,pos,aft,g⟩ k r (fun w'=>HS B S w' L):=by
 obtain⟨r',h1,h2⟩:=bnd h;refine⟨_,_,h2,sV _,fun w' _=>?_⟩;rcases zuR R hlo with⟨rfl,rfl⟩|⟨x1,q1,c1,rfl,rfl,e1⟩
 ·rcases zuR R hhi with⟨rfl,rfl⟩|⟨x2,q2,c2,rfl,rfl,e2⟩
  ·cases h1;have he:(⟨l.toArray⟩:ByteArray).extract 0 l.length=⟨l.toArray⟩:=by rw[zqK];simp
   simp[execOp,Instr.sliceAt,Instr.slice,Go.underlying,hu,hx,str,Instr.sliceBounds]
  ·obtain⟨h3,h4,h5⟩:=zuZ h1;exact yyN hu hx e2 h3 h4 h5
 ·rcases zuR R hhi with⟨rfl,rfl⟩|⟨x2,q2,c2,rfl,rfl,e2⟩
  ·obtain⟨h3,h4,h5⟩:=ycI h1;exact xbE hu hx e1 h3 h4 h5
  ·obtain⟨h3,h4,h5,h6,h7⟩:=ygT h1;exact r_sliceT hu hx e1 e2 h3 h4 h5 h6 h7
theorem yhD{lo hi:Option Operand}{p q:Option Int}{e:Ty}{f:TI}{E':TypeId}{xs:List (den e)}{k:SV->Option β}(R:Rel n B S E L σ m w)(hu:P.underlying T=some (.slice E'))(hE:TIok P E' f)(hs:f.sz=tsz e)(hx:@RdS (den e) (rpD e) S (evO n m a) xs)(hlo:optI σ lo=some p)(hhi:optI σ hi=some q)(h:(aQ (subO xs p q) fun r=>k (.v (.sl e) r))=some r):
  Ok1 P S E (evO n m) ⟨dst,.slice T a lo hi none,ty,pos,aft,g⟩ k r (fun w'=>HS B S w' L):=by
 obtain⟨r',h1,h2⟩:=bnd h;have hts:TSz P E' (tsz e):=by rw[<-hs];exact hE.tsz
 have hrs:Rp.sz (den e)=tsz e:=zpS e;rcases zuR R hlo with⟨rfl,rfl⟩|⟨x1,q1,c1,rfl,rfl,e1⟩
 ·rcases zuR R hhi with⟨rfl,rfl⟩|⟨x2,q2,c2,rfl,rfl,e2⟩
  ·cases h1;refine⟨_,subN (evO n m a) (tsz e) 0 xs.length,h2,?_,fun w' H=>?_⟩
   ·have:=hx.sub (aZ _) (aI xs.length);rw[List.take_length,List.drop_zero,hrs]at this;exact⟨_,rfl,this⟩
   ·obtain⟨cs,k1,_⟩:=hx;rcases k1 with⟨⟨a0,k1⟩,k2,_⟩|⟨b',o,c,ds,T',fz,k1,k3,_⟩
    ·simp[execOp,Instr.sliceAt,Go.underlying,hu,Instr.slice,Instr.sliceBounds,k1,hts w',subN,k2]
    ·simp[execOp,Instr.sliceAt,Go.underlying,hu,Instr.slice,Instr.sliceBounds,k1,sl,hts w',subN]
  ·obtain⟨h3,h4,h5⟩:=zuZ h1;refine⟨_,_,h2,⟨_,rfl,hx.subH h1 hrs⟩,fun w' H=>r_subH hu hts rfl e2 h3 hx h4⟩
 ·rcases zuR R hhi with⟨rfl,rfl⟩|⟨x2,q2,c2,rfl,rfl,e2⟩
  ·obtain⟨h3,h4,h5⟩:=ycI h1;refine⟨_,_,h2,⟨_,rfl,hx.subL h1 hrs⟩,fun w' H=>r_subL hu hts rfl e1 h3 hx h4⟩
  ·obtain⟨h3,h4,h5,h6,h7⟩:=ygT h1;refine⟨_,_,h2,⟨_,rfl,hx.subLH h1 hrs⟩,fun w' H=>r_subLH hu hts rfl e1 e2 h3 h4 hx h5 h6⟩
theorem r_subR{α:Type}[Rp α]{e:Operand->Value}{v:Value}{x hi:Operand}{E:TypeId}{xs:List α}{sz h n:Nat}{a:Int}{q:IntKind}(hu:P.underlying T=some (.slice E))(hs:TSz P E sz)(hx:e x=subN v sz 0 n)(hy:e hi = .int q a)(ha:a=(h:Int))(hr:RdS S v xs)(hh:h<=xs.length):(execOp e ⟨dst,.slice T x none (some hi) none,ty,pos,aft,g⟩).run P w = .ok (.value (subN v sz 0 h)) w:=by
 obtain⟨cs,h1,_⟩:=hr;rcases h1 with⟨⟨a0,rfl⟩,h2,_⟩|⟨b',o,c,ds,T',fz,rfl,h3,_⟩
 ·obtain rfl:h=0:=by omega
  simp[execOp,Instr.sliceAt,Go.underlying,hu,Instr.slice,Instr.sliceBounds,hx,hy,zcS ha (aI _),hs w,subN]
 ·by_cases hc:c=0
  ·obtain rfl:h=0:=by omega
   simp[execOp,Instr.sliceAt,Go.underlying,hu,Instr.slice,Instr.sliceBounds,hx,hy,zcS ha (aZ _),hs w,subN,hc]
  ·simp[execOp,Instr.sliceAt,Go.underlying,hu,Instr.slice,Instr.sliceBounds,hx,hy,zcS ha (Nat.le_trans hh h3),hs w,subN,hc,Addr.add]
theorem op1r_ok{hi:Operand}(hτ:TEok P τ)(R:Rel n B S E L σ m w)(h:op1r τ σ T a hi k=some r):
  Ok1 P S E (evO n m) ⟨dst,.slice T a none (some hi) none,ty,pos,aft,g⟩ k r (fun w'=>HS B S w' L):=by
 unfold op1r at h;split at h
 ·rename_i b' E' z1 z2 z3 z4 hhi hT;split at h
  ·rename_i f e xs hE hx;obtain⟨hs,h⟩:=zaG h;have hs:=aB hs;obtain⟨v,hv,hrd⟩:=zcT R hx;injection hv with hv;obtain⟨r',h1,h2⟩:=bnd h;obtain⟨h3,h4,h5⟩:=zuZ h1;have hts:TSz P E' (tsz e):=by rw[<-hs];exact(hτ _ _ hE).tsz
   rcases zuR R hhi with⟨hn,_⟩|⟨x2,q2,c2,hx2,hc2,e2⟩
   ·cases hn
   ·cases hx2;cases hc2;exact⟨_,_,h2,⟨v,hrd,h4,rfl⟩,fun w' H=>r_subH (S:=S) (xs:=xs) ((hτ _ _ hT).sl rfl) hts hv e2 h3 hrd h4⟩
  ·cases h
 ·cases h
theorem subM_is{lo hi:Option Operand}{p q:Option Int}{e:Ty}{f:TI}{E':TypeId}{N:Nat}{xs:List (den e)}{k:SV->Option β}(R:Rel n B S E L σ m w)(hu:P.underlying T=some (.slice E'))(hE:TIok P E' f)(hs:f.sz=tsz e)(hx:VB S E (.rm e N xs) (evO n m a))(hlo:optI σ lo=some p)(hhi:optI σ hi=some q) (h:(aQ (subM xs N p q) fun r=>k (.v (.sl e) r))=some r):
  Ok1 P S E (evO n m) ⟨dst,.slice T a lo hi none,ty,pos,aft,g⟩ k r (fun w'=>HS B S w' L):=by
 obtain⟨v,h1,h2,h3⟩:=hx;have hrd:=ywV h1 h2;rw[<-h3]at hrd;rcases zuR R hlo with⟨rfl,rfl⟩|⟨x1,q1,c1,rfl,rfl,e1⟩
 ·rcases zuR R hhi with⟨rfl,rfl⟩|⟨x2,q2,c2,rfl,rfl,e2⟩
  ·exact yhD R hu hE hs hrd hlo hhi h
  ·obtain⟨r',k1,k2⟩:=bnd h;obtain⟨h4,h5,h6⟩:=zuZ (show subH xs c2=some r' from k1);have hts:TSz P E' (tsz e):=by rw[<-hs];exact hE.tsz
   exact⟨_,_,k2,⟨_,rfl,h1.subH (show subH xs c2=some r' from k1) (zpS e)⟩,fun w' H=>r_subR (S:=S) (xs:=xs) hu hts h3 e2 h4 h1 h5⟩
 ·exact yhD R hu hE hs hrd hlo hhi h
theorem ysV{hi mx:Operand}{q q':IntKind}{p p':Int}{e:Ty}{f:TI}{xs r':List (den e)}{z:SV}{k:SV->Option β}(hτ:TEok P τ)(_R:Rel n B S E L σ m w)(hE:elemAt τ T=some f)(hs:f.sz=tsz e)(hx:@RdS (den e) (rpD e) S (evO n m a) xs)(hhi:evO n m hi = .int q p)(hmx:evO n m mx = .int q' p')(hp:p=p')(h1:subH xs p=some r') (hz:z = .cl e r'∨(z = .emp/\p=0)) (h:k z=some r):Ok1 P S E (evO n m) ⟨dst,.slice T a none (some hi) (some mx),ty,pos,aft,g⟩ k r (fun w'=>HS B S w' L):=by
 subst hp;obtain⟨E',hu,hE⟩:=ycV hτ hE;have hts:TSz P E' (tsz e):=by rw[<-hs];exact hE.tsz
 obtain⟨h3,h4,h5⟩:=zuZ h1;have hrs:Rp.sz (den e)=tsz e:=zpS e;have hl:r'.length=p.toNat:=by rw[<-h5,bA];omega
 -- the value
 have main:∃u,(∃ad,u=Value.slice ad p.toNat p.toNat)/\@RdS (den e) (rpD e) S u r'/\∀w',(execOp (evO n m) ⟨dst,.slice T a none (some hi) (some mx),ty,pos,aft,g⟩).run P w' = .ok (.value u) w':=by
  obtain⟨cs,k1,k2⟩:=hx;rcases k1 with⟨⟨a0,k1⟩,k3,k4⟩|⟨b',o,c,ds,T',fz,k1,k3,k4,k5,k6⟩
  ·have h0:p.toNat=0:=by omega
   have hr':r'=[]:=aS (by omega);subst hr';refine⟨.slice a0 0 0,⟨a0,by rw[h0]⟩,⟨[],.inl ⟨⟨a0,rfl⟩,rfl,rfl⟩,rfl⟩,fun w'=>?_⟩;have hp0:p=((0:Nat):Int):=by omega
   simp[execOp,Instr.sliceAt,Go.underlying,hu,Instr.slice,Instr.sliceBounds,k1,hhi,hmx,zcS (P:=P) (w:=w') hp0 (aI _),hts w']
  ·have hc:p.toNat<=c:=by omega
   refine⟨.slice (some (if p.toNat=0 then⟨b',o,none⟩else(⟨b',o,none⟩:Addr).add 0)) p.toNat p.toNat,⟨_,rfl⟩,?_,fun w'=>?_⟩
   ·refine⟨cs.take (p.toNat*tsz e),.inr ⟨b',o,p.toNat,ds,T',fz,?_,by omega,k4,?_,?_⟩,?_⟩
    ·rw[hl];simp only[sl];split<;>simp[Addr.add]
    ·rw[hl,hrs];rw[hrs]at k5;have:=cP (tsz e) h4;omega
    ·rw[hl,hrs,<-k6,zbB,zbB,List.take_take,hrs];congr 1;exact(Nat.min_eq_left (cP (tsz e) h4)).symm
    ·have:=k2.take p.toNat;rw[hrs,h5]at this;exact this
   ·by_cases h0:p.toNat=0
    ·have hp0:p=((0:Nat):Int):=by omega
     simp[execOp,zcS (P:=P) (w:=w') hp0 (aI 0),zcS (P:=P) (w:=w') hp0 (aZ c),Instr.sliceAt,Go.underlying,hu,Instr.slice,Instr.sliceBounds,k1,sl,hhi,hmx,hts w',h0]
    ·simp[execOp,Instr.sliceAt,Go.underlying,hu,Instr.slice,Instr.sliceBounds,k1,sl,hhi,hmx,zcS (P:=P) (w:=w') h3 hc,zcS (P:=P) (w:=w') h3 (aI _),hts w',h0]
 obtain⟨u,⟨ad,hu1⟩,hrd,hrun⟩:=main;refine⟨z,u,h,?_,fun w' _=>hrun w'⟩;rcases hz with rfl|⟨rfl,rfl⟩
 ·exact⟨hrd,ad,by rw[hu1,hl]⟩
 ·have hr':r'=[]:=aS (by rw[hl];rfl);subst hr';refine⟨?_,ad,hu1⟩;obtain⟨cs,k1,_⟩:=hrd;rcases k1 with⟨k1,_⟩|⟨b',o,c,ds,T',fz,k1,k3,k4,k5,k6⟩
  ·exact .inl ⟨k1,rfl,rfl⟩
  ·exact .inr ⟨b',o,c,ds,T',fz,k1,k3,k4,by simp only[cC]at k5;omega,by simp[piece]⟩
theorem xbK(R:Rel n B S E L σ m w){id ver:Nat}{e:Ty}{T':TypeId}{xs:List (den e)}{u:Value}(hc:atN σ.hp id=some (.osl ver e T' xs))(hx:VB S E (.own id ver) u):∃cs,RL S cs xs/\∀w',HS B S w' L->SlW w' u xs.length (tsz e) cs:=by obtain⟨r0,e0,g1,g2,v,v',cs,rs,rfl,rfl,g3,hsm⟩:=R.objN hc;obtain⟨h7,e0,h8,h9⟩:=hx;rw[g2]at h8;cases h8;have hu:=(h9 _ _ _ rfl).2 rfl;subst hu;exact⟨cs,g3,fun w' H=>hsm.slW H.sub (H.slW g1)⟩
theorem own0_is{hi mx:Operand}{q q':IntKind}{e:Ty}{f:TI}{id ver:Nat}{T':TypeId}{xs:List (den e)}{k:SV->Option β}(hτ:TEok P τ)(R:Rel n B S E L σ m w)(hE:elemAt τ T=some f)(hs:f.sz=tsz e)(hc:atN σ.hp id=some (.osl ver e T' xs))(hx:VB S E (.own id ver) (evO n m a))(hhi:evO n m hi = .int q 0)(hmx:evO n m mx = .int q' 0) (h:k .emp=some r):Ok1 P S E (evO n m) ⟨dst,.slice T a none (some hi) (some mx),ty,pos,aft,g⟩ k r (fun w'=>HS B S w' L):=by
 obtain⟨E',hu,hE⟩:=ycV hτ hE;have hts:TSz P E' (tsz e):=by rw[<-hs];exact hE.tsz
 obtain⟨cs,_,hw⟩:=xbK R hc hx;rcases hw w R.hs with⟨⟨a0,k1⟩,_⟩|⟨b',o,c,ds,T2,fz,k1,k3,_⟩
 ·refine⟨.emp,.slice a0 0 0,h,⟨.inl ⟨⟨a0,rfl⟩,rfl,rfl⟩,a0,rfl⟩,fun w' _=>?_⟩;simp[execOp,Instr.sliceAt,Go.underlying,hu,Instr.slice,Instr.sliceBounds,k1,hhi,hmx,zcS (P:=P) (w:=w') (show(0:Int)=((0:Nat):Int)from rfl) (aI _),hts w']
 ·have hp0:(0:Int)=((0:Nat):Int):=rfl;refine⟨.emp,.slice (some (⟨b',o,none⟩:Addr)) 0 0,h,⟨.inl ⟨⟨_,rfl⟩,rfl,rfl⟩,_,rfl⟩,fun w' _=>?_⟩;simp[execOp,zcS (P:=P) (w:=w') hp0 (aI 0),zcS (P:=P) (w:=w') hp0 (aZ c),Instr.sliceAt,Go.underlying,hu,Instr.slice,Instr.sliceBounds,k1,sl,hhi,hmx,hts w']
theorem yfY(R:Rel n B S E L σ m w){e:Ty}{x:SV}{u:Value}{xs:List (den e)}(hx:VR S E x u)(h:znV σ.hp (.sl e) x=some xs):∃cs,RL S cs xs/\∀w',HS B S w' L->SlW w' u xs.length (tsz e) cs:=by
 have hrs:Rp.sz (den e)=tsz e:=zpS e;cases x with
 |v t y=>
  simp only[znV]at h;split at h
  ·rename_i hh _;cases h;subst hh;obtain⟨v,hv,cs,h1,h2⟩:=hx;injection hv with hv;subst hv;exact⟨cs,h2,fun w' H=>by have:=h1.w H.sub;rwa[hrs]at this⟩
  ·cases h
 |nils=>cases h;have hx:u = .slice none 0 0:=hx;exact⟨[],rfl,fun w' H=>.inl ⟨⟨_,hx⟩,rfl,rfl⟩⟩
 |emp=>
  cases h;obtain⟨h1,_⟩:=hx;refine⟨[],rfl,fun w' H=>?_⟩;rcases h1 with⟨h,_,_⟩|⟨b,o,c,ds,T,fz,h1,h2,h3,h4,_⟩
  ·exact .inl ⟨h,rfl,rfl⟩
  ·exact .inr ⟨b,o,c,ds,T,fz,h1,h2,H.sub _ _ h3,by simp only[cC];omega,by simp[piece]⟩
 |cl e' ys=>
  simp only[znV]at h;split at h
  ·rename_i hh _;cases h;subst hh;obtain⟨⟨cs,h1,h2⟩,_⟩:=hx;exact⟨cs,h2,fun w' H=>by have:=h1.w H.sub;rwa[zpS]at this⟩
  ·cases h
 |nn e' ys=>
  simp only[znV]at h;split at h
  ·rename_i hh _;cases h;subst hh;obtain⟨⟨cs,h1,h2⟩,_⟩:=hx;exact⟨cs,h2,fun w' H=>by have:=h1.w H.sub;rwa[zpS]at this⟩
  ·cases h
 |rm e' n' ys=>
  simp only[znV]at h;split at h
  ·rename_i hh _;cases h;subst hh;obtain⟨v,h1,h2,rfl⟩:=hx;obtain⟨cs,h3,h4⟩:=ywV h1 h2;exact⟨cs,h4,fun w' H=>by have:=h3.w H.sub;rwa[zpS]at this⟩
  ·cases h
 |own id ver=>
  simp only[znV]at h;split at h
  ·rename_i ver' e' T' ys hc;cases hb:aG ver ver' with
   |false=>rw[hb]at h;cases h
   |true=>
    rw[hb]at h;have hv:=aB hb;subst hv;simp only[zE]at h;split at h
    ·rename_i hh _;cases h;subst hh;exact xbK R hc hx
    ·cases h
  ·cases h
 |_=>cases h
theorem strOf_is{E' D:TypeId}{x:SV}{l:Bs}{k:SV->Option β}(R:Rel n B S E L σ m w)(hu:P.underlying T=some (.slice E'))(he:P.underlying E'=some (.int .u8))(hd:P.underlying D=some .string)(hx:VR S E x (evO n m a))(hl:znV σ.hp (.sl (.i .u8)) x=some l)(h:k (.v .s l)=some r):
  Ok1 P S E (evO n m) ⟨dst,.convert T D a,ty,pos,aft,g⟩ k r (fun w'=>HS B S w' L):=by
 obtain⟨cs,h1,h2⟩:=yfY R hx hl;refine⟨_,_,h,sV _,fun w' H=>?_⟩;have h3:=h2 w' H;have h1:RL S cs (show Bs from l):=by
  have:∀{l:Bs} {cs:LV},@RL (den (.i .u8)) (rpD (.i .u8)) S cs l->RL S cs l:=fun {l}=>by
   induction l with
   |nil=>intro cs h;exact h|cons x l ih=>intro cs h;obtain⟨c,d,e1,e2,e3⟩:=h;exact⟨c,d,e1,e2,ih e3⟩
  exact this h1
 rw[RL.is_u8s h1]at h3;exact r_strW hu he hd rfl h3
theorem xfH{Kt Vt:TypeId}{kt f:TI}{id gn:Nat}{K V:Ty}{es:List (den K×den V)}{xk:SV}{key:den K}{z:den V}{ok:Bool}{k:SV->Option β}(hτ:TEok P τ)(R:Rel n B S E L σ m w)(hT:P.underlying T=some (.map Kt Vt))(hk:tyAt τ Kt=some kt)(hv:tyAt τ Vt=some f)(hx:VR S E (.mpr id) (evO n m a))(hy:VR S E xk (evO n m b))(hc:atN σ.hp id=some (.mp gn K V es)) (hkey:ofSV [] K xk=some key) (hz:zjV [] V f.z=some z) (hb:(kTd τ kt.td K&&vTd f V)=true) (h:(bif ok then k (.tup [svOf V (zeD (keq K) es key z),.v .b (mhas (keq K) es key)])else k (svOf V (zeD (keq K) es key z)))=some r):
  Ok1 P S E (evO n m) ⟨dst,.lookup T a b ok,ty,pos,aft,g⟩ k r (fun w'=>HS B S w' L):=by
 have hK:=ysP hτ hk (zbH hb);have hK0:=hK.ok;obtain⟨r0,e0,g1,g2,bb,ents,ck,rfl,rfl,g3,g4⟩:=R.objN hc;obtain⟨_,e0,h8,h9⟩:=hx;rw[g2]at h8;cases h8;have hm:=h9 _ _ _ _ rfl;have hkv:evO n m b=kv K key:=ycB hK0 (zzL (Mem.le_refl S) zkG hkey hy);have hF:=hτ _ _ hv;have hzr:rep1 V S (zV f) z:=by
  have h5:=ztK (Mem.le_refl S) (zkG (E:=E)) V hz (yeU hF.z);have h6:=zbR hb;unfold vTd at h6;unfold rep1 zV;cases ha:f.agg with
  |true=>
   rw[ha]at h6;have h7:one V=false:=by simpa using h6
   rw[h7,zH (by simp)];exact⟨_,rfl,h5⟩
  |false=>
   rw[ha]at h6;have h7:one V=true:=h6;rw[zI h7];have hl:=hF.zl;rw[hF.one1 ha]at hl
   match hfz:f.z,hl with
   |[x],_=>rw[hfz]at h5;exact h5
 obtain⟨l,hl,hA⟩:=g3.perm;obtain⟨o,hf,hfd⟩:=find_ok hK key hA;obtain⟨h5,h6⟩:=MR.fnd hK0 hl g3.ne hA hfd (zV f) z hzr;have hrun:∀w',HS B S w' L->(execOp (evO n m) ⟨dst,.lookup T a b ok,ty,pos,aft,g⟩).run P w' = .ok (.value (if ok then .tuple #[(o.map (·.2)).getD (zV f),.bool o.isSome]else(o.map (·.2)).getD (zV f))) w':=fun w' H=>by have:=yxC (ok:=ok) hT hK hF.zero (H.own id _ g1) hf;simp[execOp,hm,hkv,this]
 cases ok with
 |true=>refine⟨_,_,h,?_,fun w' H=>hrun w' H⟩;exact⟨[_,_],rfl,.cons (zuK h6) (.cons (by rw[h5];exact(rfl:[_]=[_])) .nil)⟩|false=>exact⟨_,_,h,VR.of (zuK h6),fun w' H=>hrun w' H⟩
theorem bOk_ok:∀{x:SV} {u:Value},bOk x=true->VR S E x u->VA (VB S E) x u:=fun {x u} hb h=>by
 cases x with
 |fn=>cases hb
 |undef=>cases hb
 |skp=>cases hb
 |tup=>cases hb
 |ag l=>
  obtain⟨us,hu,hl⟩:=h;refine⟨us,hu,?_⟩
  have:∀{l:List SV} {us:LV},l.all nofn=true->A2 (VC S E) l us->A2 (VB S E) l us:=fun {l us} h1 h2=>by
   induction h2 with
   |nil=>exact .nil|cons a t ih=>simp only[cI,aF]at h1;exact .cons (a.b h1.1) (ih h1.2)
  exact this hb hl
 |_=>exact h
theorem yrE:∀{l:List SV} {us:LV},l.all bOk=true->A2 (VR S E) l us->A2 (VA (VB S E)) l us
 |_,_,_,.nil=>.nil|_,_,h,.cons a t=>by simp only[cI,aF]at h;exact .cons (bOk_ok h.1 a) (yrE h.2 t)
theorem r_max{e:Operand->Value}{a b r:Int}{ats:Array TypeId}(hx:e x = .int .i64 a)(hy:e y = .int .i64 b)(h:(bif decide (a<=b)then b else a)=r):(execOp e ⟨dst,.call ⟨.builtin .max,#[x,y],ats⟩,ty,pos,aft,g⟩).run P w = .ok (.value (.int .i64 r)) w:=by
 subst h;by_cases hc:a<=b
 ·have h2:¬b<a:=by omega
  simp[execOp,resolve,invoke,builtin,hx,hy,Builtin.max_,Builtin.max2,hc]
  try omega
 ·have h2:b<a:=by omega
  simp[execOp,resolve,invoke,builtin,hx,hy,Builtin.max_,Builtin.max2,hc]
  try omega
theorem r_minA{e:Operand->Value}{a b r:Int}{ats:Array TypeId}(hx:e x = .int .i64 a)(hy:e y = .int .i64 b)(h:(bif decide (a<=b)then a else b)=r):(execOp e ⟨dst,.call ⟨.builtin .min,#[x,y],ats⟩,ty,pos,aft,g⟩).run P w = .ok (.value (.int .i64 r)) w:=by
 subst h;by_cases hc:a<=b
 ·have h2:¬b<a:=by omega
  simp[execOp,resolve,invoke,builtin,hx,hy,Builtin.min_,Builtin.min2,hc,h2]
 ·have h2:b<a:=by omega
  simp[execOp,resolve,invoke,builtin,hx,hy,Builtin.min_,Builtin.min2,hc,h2]
theorem entry_is{x:Operand}{i mid gn:Nat}{K V:Ty}{c:den K}{v:den V}{left:List (den K)}{es:List (den K×den V)}(R:Rel n B S E L σ m w)(hx:VR S E (.ptr i 0) (evO n m x))(hi:atN σ.hp i=some (.it mid gn K (some c) left))(hm:atN σ.hp mid=some (.mp gn K V es))(hv:mget (keq K) es c=some v) (h:k (.tup [svOf K c,svOf V v])=some r):Ok1 P S E (evO n m) ⟨dst,.entry x,ty,pos,aft,g⟩ k r (fun w'=>HS B S w' L):=by
 obtain⟨r0,e0,k1,k2,b,mb,ck,seen,rfl,rfl,hK,e1,k3,k4⟩:=R.objN hi;obtain⟨r1,e2,k5,k6,b2,ents,ck2,rfl,rfl,hM,hlt⟩:=R.objN hm;rw[k6]at k3;cases k3;obtain⟨_,k7⟩:=k4 _ _ _ _ rfl;obtain⟨rfl,rfl,k8⟩:=k7 rfl;obtain⟨l,hl,hA⟩:=hM.perm;obtain⟨b3,hv3,e3,q1,q2⟩:=hx;rw[k2]at q1;cases q1;have:=q2 _ rfl;subst this;obtain⟨en,hen,hk1,hk2⟩:=A2.mem_l hA _ (hl.mem_iff.2 (xdJ hK hv));have hkey:=ycB hK hk1;have hb:=((k8 en hen).2 c rfl).1 hkey;have hs:seen=seen.pop.push en.born:=by
  obtain⟨sl⟩:=seen;rcases List.eq_nil_or_concat sl with rfl|⟨l',a,rfl⟩
  ·simp at hb
  ·simp at hb;subst hb;simp
 refine⟨_,_,h,⟨[en.key,en.val],rfl,.cons (zuK hk1) (.cons (zuK hk2) .nil)⟩,fun w' H=>?_⟩;have hh:w'.heap[b]? = some (.mapIter (some b2) ck2 (seen.pop.push en.born) ck2):=by rw[<-hs];exact H.own i _ k1
 have hh2:w'.heap[b2]? = some (.map ents.toArray ck2):=H.own mid _ k5;have hrun:=run_entry_at (P:=P) w' b b2 ck2 seen.pop ents.toArray ck2 en hh hh2 (by simpa using hen) (by simpa using hM.nd);simp only[execOp,hv3,Sem.run_bind,hrun,Result.andThen_ok,Sem.run_pure]
theorem ymN{o:Op}(hτ:TEok P τ)(R:Rel n B S E L σ m w)(h:op1b τ σ o k=some r):Ok1 P S E (evO n m) ⟨dst,o,ty,pos,aft,g⟩ k r (fun w'=>HS B S w' L):=by
 unfold op1b at h;split at h
 ·split at h
  ·rename_i p q hlo hhi;split at h
   ·rename_i z1 z2 z3 z4 hT;split at h
    ·rename_i l hx;exact subT_is R ((hτ _ _ hT).str rfl) (vS (zcT R hx)) hlo hhi h
    ·cases h
   ·rename_i E' z1 z2 z3 z4 hT;split at h
    ·rename_i f e xs hE hx;obtain⟨hs,h⟩:=zaG h;have hv:=zcT R hx;obtain⟨v,hv,hrd⟩:=hv;injection hv with hv;exact yhD R ((hτ _ _ hT).sl rfl) (hτ _ _ hE) (aB hs) (by rw[hv];exact hrd) hlo hhi h
    ·rename_i f e xs hE hx;obtain⟨hs,h⟩:=zaG h;exact yhD R ((hτ _ _ hT).sl rfl) (hτ _ _ hE) (aB hs) (zcT R hx).1 hlo hhi h
    ·rename_i f e N xs hE hx;obtain⟨hs,h⟩:=zaG h;exact subM_is R ((hτ _ _ hT).sl rfl) (hτ _ _ hE) (aB hs) (zcT R hx) hlo hhi h
    ·rename_i f hE hx;obtain⟨hs,h⟩:=zaG h;have hv:evO n m _ = .slice none 0 0:=zcT R hx;exact yhD R ((hτ _ _ hT).sl rfl) (hτ _ _ hE) (aB hs) (by rw[hv];exact RdS.nil) hlo hhi h
    ·cases h
   ·cases h
  ·cases h
 ·split at h
  ·rename_i f q b' q' c e xs hE h1 h2 h3;obtain⟨hs,h⟩:=zaG h;have hs:=aB hs;obtain⟨v,hv,hrd⟩:=zcT R h3;injection hv with hv;have e1:=vI (zcT R h1);have e2:=vI (zcT R h2);cases h0:isC0 _&&isC0 _ with
   |true=>
    rw[h0]at h;have k1:=zbH h0;have k2:=zbR h0
    have z0:∀{y:Operand} {qq:IntKind} {c:Int},isC0 y=true->evO n m y = .int qq c->c=0:=fun {y qq c} hy he=>by
     unfold isC0 at hy;split at hy
     ·cases he;rfl
     ·cases hy
    have p0:=z0 k1 e1;have p1:=z0 k2 e2;exact ysV hτ R hE hs (by rw[hv];exact hrd) e1 e2 (by rw[p0,p1]) (r':=[]) (by rw[p0];exact subH0 _) (.inr ⟨rfl,p0⟩) h
   |false=>rw[h0]at h;obtain⟨_,hk,h⟩:=bnd h;obtain⟨r',h5,h⟩:=bnd h;exact ysV hτ R hE hs (by rw[hv];exact hrd) e1 e2 (zC (zpA hk)) h5 (.inl rfl) h
  ·rename_i f q b' q' c e xs hE h1 h2 h3;obtain⟨hb,h⟩:=zaG h;have hs:=aB (zbH hb);have h0:=zbR hb;have hrd:=(show VB S E (.nn e xs) _ from zcT R h3).1;have e1:=vI (zcT R h1);have e2:=vI (zcT R h2)
   have z0:∀{y:Operand} {qq:IntKind} {c:Int},isC0 y=true->evO n m y = .int qq c->c=0:=fun {y qq c} hy he=>by
    unfold isC0 at hy;split at hy
    ·cases he;rfl
    ·cases hy
   have p0:=z0 (zbH h0) e1;have p1:=z0 (zbR h0) e2;exact ysV hτ R hE hs hrd e1 e2 (by rw[p0,p1]) (r':=[]) (by rw[p0];exact subH0 _) (.inr ⟨rfl,p0⟩) h
  ·rename_i f q b' q' c id ver hE h1 h2 h3;split at h
   ·rename_i ver' e T' xs hc;obtain⟨hb,hq⟩:=zaG h;clear h;have h:=hq;clear hq;have hv:=aB (zbH (zbH hb));have hs:=aB (zbR (zbH hb));subst hv;have h0:=zbR hb
    have z0:∀{y:Operand} {qq:IntKind} {c:Int},isC0 y=true->evO n m y = .int qq c->evO n m y = .int qq 0:=fun {y qq c} hy he=>by
     unfold isC0 at hy;split at hy
     ·cases he;rfl
     ·cases hy
    exact own0_is hτ R hE hs hc (zcT R h3) (z0 (zbH h0) (vI (zcT R h1))) (z0 (zbR h0) (vI (zcT R h2))) h
   ·cases h
  ·cases h
 ·split at h
  ·rename_i E' z1 z2 z3 z4 y1 y2 y3 y4 hT hD;split at h
   ·rename_i x1 x2 x3 x4 hE;obtain⟨x,h1,h⟩:=zbT h;split at h
    ·rename_i l hl;exact strOf_is R ((hτ _ _ hT).sl rfl) ((hτ _ _ hE).int rfl) ((hτ _ _ hD).str rfl) (zcT R h1) hl h
    ·cases h
   ·cases h
  ·cases h
 ·split at h
  ·rename_i Kt Vt z1 z2 z3 z4 hT;split at h
   ·rename_i kt f id xk hk hv h1 h2;split at h
    ·rename_i gn K V es hc;split at h
     ·rename_i key z hkey hz;obtain⟨hb,h⟩:=zaG h;exact xfH hτ R ((hτ _ _ hT).map rfl) hk hv (zcT R h1) (zcT R h2) hc hkey hz hb h
     ·cases h
    ·cases h
   ·cases h
  ·cases h
 ·rename_i fid fa fc;split at h
  ·rename_i la lc h1 h2;obtain⟨hb,h⟩:=zaG h;obtain⟨fa⟩:=fa;obtain⟨fc⟩:=fc;refine⟨_,.func (.func fid) (fa.map (evO n m)).toArray (fc.map (evO n m)).toArray,h,?_,fun w' _=>?_⟩
   ·exact⟨_,_,rfl,yrE (zbH hb) (yvA R h1),yrE (zbR hb) (yvA R h2)⟩
   ·simp[execOp,Instr.makeFunc]
  ·cases h
 ·rename_i x y ats;split at h
  ·rename_i a b h1 h2;exact⟨_,_,h,xV (q:=.i64) rfl,fun w' _=>r_max (vI (zcT R h1)) (vI (zcT R h2)) rfl⟩
  ·cases h
 ·rename_i x y ats;split at h
  ·rename_i a b h1 h2;exact⟨_,_,h,xV (q:=.i64) rfl,fun w' _=>r_minA (vI (zcT R h1)) (vI (zcT R h2)) rfl⟩
  ·cases h
 ·split at h
  ·rename_i x i hx;split at h
   ·rename_i mid gn K c left hi;split at h
    ·rename_i g' K' V es hm;split at h
     ·rename_i hh _;subst hh;obtain⟨hb,hq⟩:=zaG h;clear h;have:=aB hb;subst this;obtain⟨v,h1,h2⟩:=bnd hq;exact entry_is R (zcT R hx) hi hm h1 h2
     ·cases h
    ·cases h
   ·cases h
  ·cases h
 ·cases h
theorem er_is {op : BinOp} {f : TI} {a : Bool} {x : Operand} {k : SV -> Option β} {C : World -> Prop} (hT : TIok P T f) (hf : f.td = .ifc) (hx : VR S E (.v .er a) (evO n m x)) (h : (match op with
      |.eql=>k (.v .b (!(show Bool from a)))|.neq=>k (.v .b a)|_=>none)=some r):Ok1 P S E (evO n m) ⟨dst,.binOp op T x (.const .nilIface) T',ty,pos,aft,g⟩ k r C:=by
 obtain⟨ms,hu⟩:=hT.ifc hf;have hy:evO n m (.const .nilIface) = .nilIface:=rfl;obtain⟨u,hu1,hx⟩:=hx;injection hu1 with hu1;have key:∀d w,(Op.equalIn (d+1) T u .nilIface).run P w = .ok (!(show Bool from a)) w:=fun d w=>by rcases hx with⟨rfl,rfl⟩|⟨rfl,t,v,rfl⟩<;>simp[Op.equalIn,Go.underlying,hu]
 have key2:∀w,(Op.equal T u .nilIface).run P w = .ok (!(show Bool from a)) w:=fun w=>key 9999 w;have hg:∀(op:BinOp) (w:World),(eqGuard op T x (.const .nilIface) u .nilIface).run P w = .ok () w:=fun op w=>by rcases hx with⟨rfl,rfl⟩|⟨rfl,t,v,rfl⟩<;>cases op<;>simp[eqGuard]
 split at h
 ·refine⟨_,_,h,bV _,fun w _=>?_⟩;rcases hx with⟨rfl,rfl⟩|⟨rfl,t,v,rfl⟩<;>simp[execOp,hu1,hy,hg,binOp,key2]
 ·refine⟨_,_,h,bV _,fun w _=>?_⟩;rcases hx with⟨rfl,rfl⟩|⟨rfl,t,v,rfl⟩<;>simp[execOp,hu1,hy,hg,binOp,key2]
 ·cases h
theorem bin1_ok{op:BinOp}{x y:Operand}{C:World->Prop}(hτ:TEok P τ)(R:∀x a,ev σ x=some a->VR S E a (evO n m x))(h:op1 τ σ (.binOp op T x y T') k=some r):Ok1 P S E (evO n m) ⟨dst,.binOp op T x y T',ty,pos,aft,g⟩ k r C:=by
 unfold op1 at h;split at h
 all_goals first
  |(rename_i hh;cases hh;done)
  |skip
 ·rename_i hh;cases hh;split at h
  ·rename_i z1 z2 z3 z4 a hT hx;exact er_is (hτ _ _ hT) rfl (R _ _ hx) h
  ·cases h
 ·rename_i hh;cases hh;obtain⟨x,h1,h⟩:=zbT h;obtain⟨y,h2,h⟩:=zbT h;exact bin_ok hτ (R _ _ h1) (R _ _ h2) h
 ·cases h
theorem ywJ{o:Op}(hτ:TEok P τ)(R:Rel n B S E L σ m w)(h:op1 τ σ o k=some r):Ok1 P S E (evO n m) ⟨dst,o,ty,pos,aft,g⟩ k r (fun w'=>HS B S w' L):=by
 unfold op1 at h;split at h
 ·obtain⟨z,h1,h2⟩:=zbT h;exact⟨z,_,h2,zcT R h1,fun w' _=>zqX rfl⟩
 ·obtain⟨z,h1,h2⟩:=zbT h;exact⟨z,_,h2,zcT R h1,fun w' _=>ztE rfl⟩
 ·split at h
  ·rename_i t hc;obtain⟨x,h1,h⟩:=zbT h;obtain⟨y,h2,h⟩:=zbT h;exact yzL (vB (zcT R hc)) (zcT R h1) (zcT R h2) h
  ·cases h
 ·split at h
  ·rename_i z1 z2 z3 z4 a hT hx;exact er_is (hτ _ _ hT) rfl (zcT R hx) h
  ·cases h
 ·obtain⟨x,h1,h⟩:=zbT h;obtain⟨y,h2,h⟩:=zbT h;exact bin_ok hτ (zcT R h1) (zcT R h2) h
 ·obtain⟨x,h1,h⟩:=zbT h;exact un_ok (zcT R h1) h
 ·split at h
  ·rename_i q a f q' z1 z2 z3 z4 h1 h2 h3;exact xaQ (hτ _ _ h2) ((hτ _ _ h3).int rfl) (vI (zcT R h1)) h
  ·exact ymN hτ R h
 ·obtain⟨x,h1,h⟩:=zbT h;exact len_is hτ R (zcT R h1) h
 ·split at h
  ·rename_i f hT;obtain⟨p,h1,h⟩:=zbT h;exact xaR R (hτ _ _ hT) (zcT R h1) h
  ·cases h
 ·split at h
  ·rename_i o f hf;obtain⟨x,h1,h⟩:=zbT h;split at h
   ·exact yvC hτ hf (zcT R h1) h
   ·cases h
  ·cases h
 ·split at h
  ·rename_i o f hf;obtain⟨h0,h⟩:=zaG h;obtain⟨x,h1,h⟩:=zbT h;exact yqI hτ hf h0 R (zcT R h1) h
  ·cases h
 ·split at h
  ·rename_i f hf;obtain⟨x,h1,h⟩:=zbT h;obtain⟨i,h2,h⟩:=zbT h;split at h
   ·exact ypI hτ hf R (zcT R h1) (vI (zcT R h2)) h
   ·cases h
  ·exact idxAr_is hτ R h
 ·split at h
  ·rename_i z1 z2 z3 z4 hT;obtain⟨x,h1,h⟩:=zbT h;obtain⟨i,h2,h⟩:=zbT h;split at h
   ·exact index_is ((hτ _ _ hT).str rfl) (vS (zcT R h1)) (vI (zcT R h2)) h
   ·cases h
  ·rename_i N E' z1 z2 z3 z4 hT;split at h
   ·rename_i f hE;obtain⟨x,h1,h⟩:=zbT h;obtain⟨i,h2,h⟩:=zbT h;split at h
    ·exact xcW (hτ _ _ hT) rfl (hτ _ _ hE) (zcT R h1) (vI (zcT R h2)) h
    ·cases h
   ·cases h
  ·cases h
 ·obtain⟨x,h1,h⟩:=zbT h;split at h
  ·exact ykL (zcT R h1) h
  ·cases h
 ·split at h
  ·rename_i fs z1 z2 z3 z4 hT;split at h
   ·rename_i pl hp;split at h
    ·rename_i l hq;exact build_is hτ R (hτ _ _ hT) rfl hp hq h
    ·cases h
   ·cases h
  ·rename_i N E' z1 z2 z3 z4 hT;split at h
   ·rename_i f hE;split at h
    ·rename_i l hq;exact yyP R (hτ _ _ hT) rfl (hτ _ _ hE) hq h
    ·cases h
   ·cases h
  ·cases h
 ·obtain⟨x,h1,h⟩:=zbT h;obtain⟨z,h2,h⟩:=zbT h;obtain⟨b,o',h3,h4⟩:=yjA R (zcT R h1) h2;exact⟨z,_,h,h4,fun w' _=>zqN h3⟩
 ·exact ymN hτ R h
theorem op0_ok{o:Op}{C:World->Prop}(hτ:TEok P τ)(R:∀x a,ev σ x=some a->VR S E a (evO n m x))(h:op0 τ σ o k=some r):Ok1 P S E (evO n m) ⟨dst,o,ty,pos,aft,g⟩ k r C:=by
 unfold op0 at h;split at h
 ·obtain⟨z,h1,h2⟩:=zbT h;exact⟨z,_,h2,R _ _ h1,fun w' _=>zqX rfl⟩
 ·obtain⟨z,h1,h2⟩:=zbT h;exact⟨z,_,h2,R _ _ h1,fun w' _=>ztE rfl⟩
 ·simp only[op1]at h;split at h
  ·rename_i t hc;obtain⟨x,h1,h⟩:=zbT h;obtain⟨y,h2,h⟩:=zbT h;exact yzL (vB (R _ _ hc)) (R _ _ h1) (R _ _ h2) h
  ·cases h
 ·exact bin1_ok hτ R h
 ·obtain⟨x,h1,h⟩:=zbT h;exact un_ok (R _ _ h1) h
 ·split at h
  ·rename_i q a f q' z1 z2 z3 z4 h1 h2 h3;exact xaQ (hτ _ _ h2) ((hτ _ _ h3).int rfl) (vI (R _ _ h1)) h
  ·cases h
 ·simp only[op1]at h;split at h
  ·rename_i o f hf;obtain⟨x,h1,h⟩:=zbT h;split at h
   ·exact yvC hτ hf (R _ _ h1) h
   ·cases h
  ·cases h
 ·obtain⟨x,h1,h⟩:=zbT h;split at h
  ·exact ykL (R _ _ h1) h
  ·cases h
 ·cases h
end
end Go.Proofs.YtopanhneegpgcaaGreatDoor.Am
