/- Parts of one proof. Conditions: as each theorem says. -/
import Derived.Lib.ConvBytes
import Derived.Lib.AppendStr
import Derived.Test.YtopanhneegpgcaaGreatDoorQkB
open Array renaming ext'->cZ,getElem?_eq_getElem->cW,getElem?_eq_some_iff->aR,map->iS,range->fC
open Bool renaming and_eq_true->aH,false_eq_true->eW,not_eq_true'->bE,or_eq_true->bX
open Int renaming eq_ofNat_of_zero_le->dY,tmod->eD,toNat_natCast->cK
open List renaming all_eq_true->bK,any_eq_true->fG,append_assoc->aV,append_nil->bQ,contains_eq_mem->bY,eq_nil_iff_forall_not_mem->eV,eq_nil_of_length_eq_zero->aT,ext_getElem?->bD,getElem?_append_left->aE,getElem?_append_right->aF,getElem?_drop->bJ,getElem?_eq_none->cX,getElem?_eq_some_iff->aC,getElem?_take->cF,length_append->aD,length_cons->aS,length_drop->bM,length_set->bP,mem_cons->aL,mem_cons_of_mem->aN,mem_cons_self->aO,mem_filter->cD,mem_map->bF,mem_range->cQ,nil_append->bR,range'->dQ,range'_succ->eC,range->cU,replicate->bC
open Nat renaming add_assoc->cY,add_mul->bN,add_zero->eS,ble->bW,le_of_ble_eq_true->bB,le_of_eq->dE,le_refl->aK,le_trans->aY,lt_of_not_le->dH,mul_le_mul->eN,mul_le_mul_right->cJ,mul_one->cV,zero_add->aU
open Option renaming map_some->bA
namespace Go.Proofs.YtopanhneegpgcaaGreatDoor
open Go Go.RowKit
section
section
variable {P:Program}{ops:Array Oper}{Q:Exit->Act->World->Prop}{rest:List Oper}{n:Nat}{m:FM}{w w':World}{B:Bas}{S:Mem}{L:List Res}
variable {d:Nat}{op:Op}{ty:TypeId}{pos:String}{aft:Array Edge}{c v u:Value}{x y z lo hi:Operand}{T E T':TypeId}
theorem nameF{c:Code}(h:∀m0,(∀t,look m0 t=look m t)->c.wp P Q (fr n m0) w):c.wp P Q (fr n m) w:=h m fun _=>rfl
theorem p_new(h:(execOp (evO n m) ⟨some d,op,ty,pos,aft,none⟩).run P w = .ok (.value c) w')(hr:wpList P ops Q rest (fr n ((d,c)::m)) w'):
  wpList P ops Q (⟨some d,op,ty,pos,aft,none⟩::rest) (fr n m) w:=
 wpList_plain rfl fun K hK=>by unfold Oper.wp;rw[zmS,h];simp only[Oper.upon,yfA];exact hK _ _ hr
theorem p_void(h:(execOp (evO n m) ⟨none,op,ty,pos,aft,none⟩).run P w = .ok .skip w')(hr:wpList P ops Q rest (fr n m) w'):
  wpList P ops Q (⟨none,op,ty,pos,aft,none⟩::rest) (fr n m) w:=
 wpList_plain rfl fun K hK=>by unfold Oper.wp;rw[zmS,h];simp only[Oper.upon,yiJ];exact hK _ _ hr
theorem p_of1{φ:World->Value->Prop}(h:∃w' v,(execOp (evO n m) ⟨some d,op,ty,pos,aft,none⟩).run P w = .ok (.value v) w'/\φ w' v)(hr:∀w' v,φ w' v->wpList P ops Q rest (fr n ((d,v)::m)) w'):
  wpList P ops Q (⟨some d,op,ty,pos,aft,none⟩::rest) (fr n m) w:=by
 obtain⟨w',v,h1,h2⟩:=h;exact p_new h1 (hr w' v h2)
theorem p_ofb{φ:World->Nat->Prop}(h:∃w' b,(execOp (evO n m) ⟨some d,op,ty,pos,aft,none⟩).run P w = .ok (.value (.pointer (some ⟨b,0,none⟩))) w'/\φ w' b)(hr:∀w' b,φ w' b->wpList P ops Q rest (fr n ((d,.pointer (some ⟨b,0,none⟩))::m)) w'):
  wpList P ops Q (⟨some d,op,ty,pos,aft,none⟩::rest) (fr n m) w:=by
 obtain⟨w',v,h1,h2⟩:=h;exact p_new h1 (hr w' v h2)
theorem p_ofs{φ:World->Prop}(h:∃w',(execOp (evO n m) ⟨none,op,ty,pos,aft,none⟩).run P w = .ok .skip w'/\φ w')(hr:∀w',φ w'->wpList P ops Q rest (fr n m) w'):
  wpList P ops Q (⟨none,op,ty,pos,aft,none⟩::rest) (fr n m) w:=by
 obtain⟨w',h1,h2⟩:=h;exact p_void h1 (hr w' h2)
section
variable {nh k:Nat}{Φ:zhT}{W:World}{vs:Nat->Gv}{Fin:Act->Prop}
def depF(Φ:zhT)(vs:Nat->Gv)(l:List Nat):Nat->Bool:=fun b=>l.any fun k=>relK Φ k&&(vs k).f b
theorem dep_le{Φ:zhT}{vs:Nat->Gv}{l:List Nat}{i:Nat}{w:World}(hl:l.contains i=true)(hr:relK Φ i=true):Mem.le (gf S W (vs i).f w) (gf S W (depF Φ vs l) w):=
 gf_up fun b hb=>fG.2 ⟨i,by simpa using hl,by rw[hr,hb];rfl⟩
abbrev kR{α:Type}[Rp α](S:Mem)(W:World)(y:List α):Sum Value (Gv->World->Prop):=.inr (fun g w'=>RdS (gf S W g.f w') g.v y)
theorem HS.tf{B:Bas}{S:Mem}{L:List Res}{G:World->Prop}{A:Prop}{l:List Nat}(H:HS B S W L)(k:∀w S',Mem.le S S'->HS B S' w L->(∀{α:Type} [Rp α] (j:Nat) {y:List α},Φ j=some (kR S W y)->l.contains j=true->RdS S' (vs j).v y)->G w):∀w,Ext W w->zjQ Φ vs w l->A->G w:=
 fun w hx hF _=>k w (gf S W (depF Φ vs l) w) (gf_le H.sub) (H.callF hx) fun {_} _ j {_} hk hl=>RdS.mono (yoJ hF j hk hl) (dep_le hl (by unfold relK;rw[hk]))
end
theorem loopI{σ β:Type}{body:σ->Option (σ⊕β)}{c:Code}{m0:FM}(D:List Nat)(I:σ->FM->World->Prop){s0:σ}{out:β}(hL:iter body s0=some out)(h0:I s0 m0 w) (round:∀k s m w,(∀t,has D t=false->look m t=look m0 t)->I s m w->∀o,body s=some o->jnO o (zrW body k) some=some out ->
   c.wp P (Exit.then (fun a' w'=>∃s' m',a'=fr n m'/\(∀t,has D t=false->look m' t=look m0 t)/\I s' m' w'/\zrW body k s'=some out) Q) (fr n m) w):(Code.loop c).wp P Q (fr n m0) w:=by
 refine loopF D (fun g m w=>∃s,I s m w/\zrW body g s=some out) FU ⟨s0,h0,hL⟩ ?_;rintro g m w hk ⟨s,hI,hs⟩;cases g with
 |zero=>cases hs
 |succ g=>
  obtain⟨o,h1,h2⟩:=yyJ hs;refine wp_mono (round g s m w hk hI o h1 h2) fun e a' w' hq=>?_;cases e with
  |normal=>obtain⟨s',m',e1,e2,e3,e4⟩:=hq;exact⟨g,m',Nat.lt_succ_self g,e1,e2,s',e3,e4⟩
  |_=>exact hq
theorem ysA{l:LV}{z:Value}{e:Operand->Value}{dst:Option Tmp}{g:Option (Nat×Bool)}(H:HS B S w L)(hz:ysV P T z)(hl:z.cells.toList=l):∃w' b,(execOp e ⟨dst,.alloc T,ty,pos,aft,g⟩).run P w = .ok (.value (.pointer (some ⟨b,0,none⟩))) w'/\HS B S w' (.blk b l T::L):=by refine⟨w.alloc (.cells l.toArray T),w.heap.size,?_,H.push (Ext.alloc w _) (zaL w _) fun b hb=>by cases hb;exact aK _⟩;simp[execOp,ykW hz,<-hl]
theorem yhW{b i N:Nat}{cs:LV}{fz:Nat×Nat}(h:w.heap[b]? = some (.cells cs.toArray T fz))(hf:okfz T fz N)(hi:i<N):w.frozen? ⟨b,i,none⟩=false:=by
 obtain⟨lo,hi'⟩:=fz;simp only[World.frozen?,h];rcases hf with hf|hf
 ·injection hf with h1 h2;subst h1;subst h2;simp
 ·have hf:=hf.1;simp only at hf;have:¬lo<=i:=by omega
  simp[this]
theorem ybF{b i:Nat}{v:Value}{cs:LV}{fz:Nat×Nat}(h:w.heap[b]? = some (.cells cs.toArray T fz)):(w.setCell ⟨b,i,none⟩ v).heap[b]? = some (.cells (cs.set i v).toArray T fz):=by
 have hlt:=zhJ h;have h':w.heap[b] = .cells cs.toArray T fz:=by simpa[cW hlt]using h
 show(w.heap.modify b _)[b]? = _;rw[cW (by simpa using hlt),Array.getElem_modify_self,h'];simp
theorem zcT{b i:Nat}{cs:LV}{fz:Nat×Nat}(h:w.heap[b]? = some (.cells cs.toArray T fz)):w.cell? ⟨b,i,none⟩=cs[i]?:=by simp[World.cell?,h]
theorem ziZ{b o:Nat}{fz:Nat×Nat}:∀(vs:LV) (i:Nat) (w:World) (cs:LV),(∀v∈vs,v.oneCell'=true)->w.heap[b]? = some (.cells cs.toArray T fz)->okfz T fz cs.length->o+i+vs.length<=cs.length ->∃w',(storeCells ⟨b,o,none⟩ vs i).run P w = .ok () w'/\w'.heap[b]? = some (.cells (lay cs (o+i) vs).toArray T fz)/\w'.heap.size=w.heap.size/\w'.os=w.os/\w'.tape=w.tape/\w'.output=w.output/\∀j,j≠b->w'.heap[j]? = w.heap[j]?
 | [], i, w, cs, _, h, _, _ => ⟨w, by simp [storeCells], by have : lay cs (o + i) [] = cs := by cases cs <;> rfl
                                                            rw[this];exact h,rfl,rfl,rfl,rfl,fun _ _=>rfl⟩
 |v::vs,i,w,cs,hone,h,hfz,hlen=>by
  have hi:o+i<cs.length:=by simp only[aS]at hlen;omega
  have hc:w.cell? ⟨b,o+i,none⟩=some cs[o+i]:=by rw[zcT h];simp[hi]
  have hst:=run_store P w ⟨b,o+i,none⟩ v .plain (hone v (by simp));rw[hc]at hst;simp only[yhW h hfz hi,eW,if_false]at hst;have h2:=ybF (i:=o+i) (v:=v) h;have hlen2:o+(i+1)+vs.length<=(cs.set (o+i) v).length:=by rw[bP];simp only[aS]at hlen;omega
  obtain⟨w',e,hb,hs,h4,h5,h6,h7⟩:=ziZ vs (i+1) (w.setCell ⟨b,o+i,none⟩ v) (cs.set (o+i) v) (fun u hu=>hone u (by simp[hu])) h2 (by rw[bP];exact hfz) hlen2;refine⟨w',?_,?_,?_,h4,h5,h6,?_⟩
  ·show(do store ((⟨b,o,none⟩:Addr).add i) v;storeCells ⟨b,o,none⟩ vs (i+1):Sem Unit).run P w=_;rw[zbY,Sem.run_bind,hst];exact e
  ·rw[hb];congr 2;apply congrArg List.toArray;apply bD;intro j;rw[zcN,zcN];simp only[aS,bP];by_cases h1:o+(i+1)<=j/\j<o+(i+1)+vs.length/\j<cs.length
   ·rw[zI h1,zI (by omega),show j-(o+i)=(j-(o+(i+1)))+1 by omega];simp
   ·rw[zH h1];by_cases h3:j=o+i
    ·subst h3;rw[zI (by omega)];simp[hi]
    ·rw[zH (by omega),List.getElem?_set_ne (by omega)]
  ·rw[hs];simp[World.setCell]
  ·intro j hj;rw[h7 j hj];exact Below.heap_setCell _ _ _ _ (by simpa using hj)
theorem ztK{b o sz:Nat}{cs l:LV}{fz:Nat×Nat}(hs:∀w,(sizeOf T).run P w = .ok sz w)(hv:v.cells=l.toArray)(h:w.heap[b]? = some (.cells cs.toArray T' fz))(hf:okfz T' fz cs.length)(hlen:l.length=sz)(hone:∀u∈l,u.oneCell'=true)(hsz:o+sz<=cs.length):∃w',(Instr.storeAt T (.pointer (some ⟨b,o,none⟩)) v).run P w = .ok () w'/\w'.heap[b]? = some (.cells (lay cs o l).toArray T' fz)/\w'.heap.size=w.heap.size/\w'.os=w.os/\w'.tape=w.tape/\w'.output=w.output/\∀j,j≠b->w'.heap[j]? = w.heap[j]?:=by obtain⟨w',e,hb,rest⟩:=ziZ (P:=P) (o:=o) l 0 w cs hone h hf (by omega);refine⟨w',?_,hb,rest⟩;simp[Instr.storeAt,Instr.sureAddr,storeVar,hs w,hv,hlen,e]
def zwY(v:Value)(l:LV):Prop:=v.cells=l.toArray
theorem cells_one(h:v.oneCell'=true):zwY v [v]:=by unfold zwY;cases v<;>first|rfl|simp[Value.oneCell']at h
def TSz(P:Program)(T:TypeId)(sz:Nat):Prop:=∀w,(sizeOf T).run P w = .ok sz w
theorem TAgg.sz{sz:Nat}(h:TAgg P T sz):TSz P T sz:=h.2
theorem TOne.sz(h:TOne P T):TSz P T 1:=h.2
section
variable {e:Operand->Value}{dst:Option Tmp}{g:Option (Nat×Bool)}
theorem ynQ{sz b o k:Nat}{cs l:LV}(ts:TSz P T sz)(H:HS B S w L)(hp:e x = .pointer (some ⟨b,o,none⟩))(hk:lkR L k=some (.blk b cs T'))(hy:e y=v)(hv:zwY v l) (hlen:l.length=sz) (hone:∀u∈l,u.oneCell'=true) (hsz:bW (o+sz) cs.length=true):∃w',(execOp e ⟨none,.store T x y,ty,pos,aft,g⟩).run P w = .ok .skip w'/\HS B S w' (stR L k (.blk b (lay cs o l) T')):=by obtain⟨w',he,hb,hs,h4,h5,h6,h7⟩:=ztK ts hv (H.own k _ hk) (.inl rfl) hlen hone (bB hsz);refine⟨w',?_,H.upd hk (by omega) h4 h5 h6 (fun i _ hne=>h7 i fun e=>hne (by rw[e];rfl)) hb fun b' hb'=>.inl hb'⟩;simp only[execOp,hp,hy,Sem.run_bind,he,Result.andThen,Sem.run_pure]
theorem a_storeO{sz b i k M N c0:Nat}{cs rs l:LV}(ts:TSz P T sz)(H:HS B S w L)(hk:lkR L k=some (.osl (sl b 0 M c0) N sz cs rs T'))(hp:e x = .pointer (some ⟨b,0+i*sz,none⟩))(hi:i<N)(hy:e y=v)(hv:zwY v l) (hlen:l.length=sz) (hone:∀u∈l,u.oneCell'=true):∃w',(execOp e ⟨none,.store T x y,ty,pos,aft,g⟩).run P w = .ok .skip w'/\HS B S w' (stR L k (.osl (sl b 0 M c0) N sz (lay cs (i*sz) l) rs T')):=by
 rcases H.own k _ hk with⟨h,_⟩|⟨b',c',fz,hv',h1,h2,h3,h4,h5⟩
 ·cases h
 ·injection hv' with e1 e2 e3;injection e1 with e1;injection e1 with e1 _ _;subst e1;have e2:=e2.symm;subst e2;subst e3;have hm:i*sz+sz<=N*sz:=by have:=cJ sz (show i+1<=N by omega);rw[bN,Nat.one_mul]at this;exact this
  obtain⟨w',he,hb,hs,g4,g5,g6,g7⟩:=ztK (o:=0+i*sz) ts hv h4 h5 hlen hone (by rw[aD];omega);have hlay:lay (cs++rs) (0+i*sz) l=lay cs (i*sz) l++rs:=by
   apply bD;intro j;rw[zcN,aU];by_cases hj:i*sz<=j/\j<i*sz+l.length
   ·rw[zI ⟨hj.1,hj.2,by rw[aD];omega⟩,aE (by rw[zbN];omega),zcN,zI ⟨hj.1,hj.2,by omega⟩]
   ·rw[zH (by omega)];by_cases hj2:j<cs.length
    ·rw[aE hj2,aE (by rw[zbN];omega),zcN,zH (by omega)]
    ·rw[aF (by omega),aF (by rw[zbN];omega),zbN]
  refine⟨w',?_,H.upd hk (by omega) g4 g5 g6 (fun i _ hne=>g7 i fun e=>hne (by rw[e];rfl)) (.inr ⟨b,c0,fz,rfl,h1,by rw[zbN];exact h2,?_,by rw[<-hlay];exact hb,?_⟩) fun b' hb'=>.inl hb'⟩
  ·simp only[execOp,hp,hy,Sem.run_bind,he,Result.andThen,Sem.run_pure]
  ·rw[aD,zbN,<-aD];exact h3
  ·rw[aD,zbN,<-aD];exact h5
theorem yoB{sz b o:Nat}{cs l:LV}{fz:Nat×Nat}(ty:TAgg P T sz)(h:w.heap[b]? = some (.cells cs.toArray T' fz))(hl:piece cs o sz=l)(hsz:sz≠0->o+sz<=cs.length):(Instr.loadAt T (.pointer (some ⟨b,o,none⟩))).run P w = .ok (.agg l.toArray) w:=by
 have hlen:l.length=sz:=by
  rcases Nat.eq_zero_or_pos sz with h0|h0
  ·rw[<-hl,h0,zaS,List.take_zero];rfl
  ·rw[<-hl];exact ziN (hsz (by omega))
 have:=run_loadCells_list (P:=P) w ⟨b,o,none⟩ l (fun j v hj=>by
  rw[zbY,zcT h,<-hj,<-hl,zaS];have:j<sz:=by rw[<-hlen];exact(aC.1 hj).1
  simp[this])
 rw[hlen]at this;simp[Instr.loadAt,Instr.sureAddr,loadVar,ty.1 w,ty.2 w,this]
theorem zzA{b o:Nat}{cs:LV}{fz:Nat×Nat}(ty:TOne P T)(h:w.heap[b]? = some (.cells cs.toArray T' fz))(hl:piece cs o 1=[v]):(Instr.loadAt T (.pointer (some ⟨b,o,none⟩))).run P w = .ok v w:=by
 have hv:cs[o]? = some v:=by rw[zaS]at hl;have:=congrArg (·[0]?) hl;simpa using this
 simp[Instr.loadAt,Instr.sureAddr,loadVar,ty.1 w,zcT h,hv]
theorem zuB{b o k:Nat}{cs:LV}(tg:TOne P T)(H:HS B S w L)(hp:e x = .pointer (some ⟨b,o,none⟩))(hk:lkR L k=some (.blk b cs T'))(hv:piece cs o 1=[v]):(execOp e ⟨dst,.load T x,ty,pos,aft,g⟩).run P w = .ok (.value v) w:=by simp only[execOp,hp,Sem.run_bind,zzA tg (H.own k _ hk) hv,Result.andThen,Sem.run_pure]
theorem s_load1{b p o:Nat}{cs:LV}(tg:TOne P T)(hS:Sub S w)(hp:e x = .pointer (some ⟨b,p+o,none⟩))(hc:CellAt S b p cs)(hv:piece cs o 1=[v]):(execOp e ⟨dst,.load T x,ty,pos,aft,g⟩).run P w = .ok (.value v) w:=by
 obtain⟨ds,E',fz,h1,h2,h3⟩:=hc;have h4:o+1<=cs.length:=by have:=congrArg List.length hv;rw[zaS]at this;simp at this;omega
 have h5:piece ds (p+o) 1=[v]:=by rw[<-hv,<-h3,zpA _ _ _ _ _ h4]
 simp only[execOp,hp,Sem.run_bind,zzA tg (hS _ _ h1) h5,Result.andThen,Sem.run_pure]
theorem yeO{sz b o i N c:Nat}{k:IntKind}{a:Int}(hu:P.underlying T=some (.slice E))(hs:TSz P E sz)(hx:e x=v)(hv:v=sl b o N c)(hy:e y = .int k a)(ha:a=(i:Int))(hi:i<N):(execOp e ⟨dst,.indexAddr T x y,ty,pos,aft,g⟩).run P w = .ok (.value (.pointer (some ⟨b,o+i*sz,none⟩))) w:=by subst ha;subst hv;simp[execOp,Instr.indexAt,hx,hy,sl,asIntOf,Go.underlying,hu,hs w,hi,zbY]
theorem yuQ{sz N:Nat}{cs:LV}(hu:P.underlying T=some (.slice E))(hx:e x=v)(h:SlW w v N sz cs):(execOp e ⟨dst,.call ⟨.builtin .len,#[x],#[T]⟩,ty,pos,aft,g⟩).run P w = .ok (.value (.int .i64 (N:Int))) w:=by rcases h with⟨⟨a,rfl⟩,rfl,_⟩|⟨b,o,c,ds,T',fz,rfl,_⟩<;>exact ytW hu hx
theorem RdS.len{α:Type}[Rp α]{xs:List α}(h:RdS S v xs)(hS:Sub S w):∃cs,SlW w v xs.length (Rp.sz α) cs:=by obtain⟨cs,h1,_⟩:=h;exact⟨cs,h1.w hS⟩
theorem r_lenR'{α:Type}[Rp α]{xs:List α}(hu:P.underlying T=some (.slice E))(hx:e x=v)(h:RdS S v xs)(hS:Sub S w):(execOp e ⟨dst,.call ⟨.builtin .len,#[x],#[T]⟩,ty,pos,aft,g⟩).run P w = .ok (.value (.int .i64 (xs.length:Int))) w:=by obtain⟨cs,h1⟩:=h.len hS;exact yuQ hu hx h1
theorem yzR{sz N N' k:Nat}{cs rs:LV}(hu:P.underlying T=some (.slice E))(hx:e x=v)(H:HS B S w L)(hk:lkR L k=some (.osl v N sz cs rs T'))(hN:N=N'):(execOp e ⟨dst,.call ⟨.builtin .len,#[x],#[T]⟩,ty,pos,aft,g⟩).run P w = .ok (.value (.int .i64 (N':Int))) w:=by subst hN;exact yuQ hu hx (H.slW hk)
theorem gvl_at{ol:List Oper}{n:Nat}{m:FM}{j t:Nat}{b:Bool}{o:Oper}(h1:lko ol j=some o)(h2:o.dst=some t)(h3:evO n m (.tmp t) = .bool b):gvl ol n m j=some b:=by unfold gvl;rw[h1];obtain⟨dst,_,_,_,_,_⟩:=o;simp only at h2;subst h2;simp only[gvo,h3]
theorem yyI{D:List Nat}{m1 m2:FM}{X:Nat->Value}(hk:∀t,look m1 t=look m2 t)(h:∀t,has D t=false->look m2 t=X t):∀t,has D t=false->look m1 t=X t:=fun t ht=>(hk t).trans (h t ht)
theorem r_subLH{α:Type}[Rp α]{xs:List α}{sz p h:Nat}{a b:Int}{k k':IntKind}(hu:P.underlying T=some (.slice E))(hs:TSz P E sz)(hx:e x=v)(hz:e lo = .int k' b)(hy:e hi = .int k a)(hb:b=(p:Int))(ha:a=(h:Int))(hr:RdS S v xs)(hp:p<=h)(hh:h<=xs.length):(execOp e ⟨dst,.slice T x (some lo) (some hi) none,ty,pos,aft,g⟩).run P w = .ok (.value (subN v sz p h)) w:=by
 obtain⟨cs,h1,_⟩:=hr;rcases h1 with⟨⟨a0,rfl⟩,h2,_⟩|⟨b',o,c,ds,T',fz,rfl,h3,_⟩
 ·obtain rfl:h=0:=by omega
  obtain rfl:p=0:=by omega
  simp[execOp,Instr.sliceAt,Go.underlying,hu,Instr.slice,Instr.sliceBounds,hx,hy,hz,zbC ha (aK _),zbC hb (aK _),hs w,subN]
 ·simp[execOp,Instr.sliceAt,Go.underlying,hu,Instr.slice,Instr.sliceBounds,hx,hy,hz,sl,zbC ha (aY hh h3),zbC hb hp,hs w,subN]
theorem r_subL{α:Type}[Rp α]{xs:List α}{sz p:Nat}{b:Int}{k':IntKind}(hu:P.underlying T=some (.slice E))(hs:TSz P E sz)(hx:e x=v)(hz:e lo = .int k' b)(hb:b=(p:Int))(hr:RdS S v xs)(hp:p<=xs.length):(execOp e ⟨dst,.slice T x (some lo) none none,ty,pos,aft,g⟩).run P w = .ok (.value (subN v sz p xs.length)) w:=by
 obtain⟨cs,h1,_⟩:=hr;rcases h1 with⟨⟨a0,rfl⟩,h2,_⟩|⟨b',o,c,ds,T',fz,rfl,h3,_⟩
 ·obtain rfl:p=0:=by omega
  simp[execOp,Instr.sliceAt,Go.underlying,hu,Instr.slice,Instr.sliceBounds,hx,hz,zbC hb (aK _),hs w,subN,h2]
 ·simp[execOp,Instr.sliceAt,Go.underlying,hu,Instr.slice,Instr.sliceBounds,hx,hz,sl,zbC hb hp,hs w,subN]
theorem r_subH{α:Type}[Rp α]{xs:List α}{sz h:Nat}{a:Int}{k:IntKind}(hu:P.underlying T=some (.slice E))(hs:TSz P E sz)(hx:e x=v)(hy:e hi = .int k a)(ha:a=(h:Int))(hr:RdS S v xs)(hh:h<=xs.length):(execOp e ⟨dst,.slice T x none (some hi) none,ty,pos,aft,g⟩).run P w = .ok (.value (subN v sz 0 h)) w:=by
 obtain⟨cs,h1,_⟩:=hr;rcases h1 with⟨⟨a0,rfl⟩,h2,_⟩|⟨b',o,c,ds,T',fz,rfl,h3,_⟩
 ·obtain rfl:h=0:=by omega
  simp[execOp,Instr.sliceAt,Go.underlying,hu,Instr.slice,Instr.sliceBounds,hx,hy,zbC ha (aK _),hs w,subN]
 ·simp[execOp,Instr.sliceAt,Go.underlying,hu,Instr.slice,Instr.sliceBounds,hx,hy,sl,zbC ha (aY hh h3),hs w,subN]
theorem r_strW{N:Nat}{T2:TypeId}{l:Bs}(hs:P.underlying T=some (.slice E))(he:P.underlying E=some (.int .u8))(hd:P.underlying T2=some .string)(hx:e x=v)(hr:SlW w v N 1 (u8s l)):(execOp e ⟨dst,.convert T T2 x,ty,pos,aft,g⟩).run P w = .ok (.value (str l)) w:=by
 have key:(convert T T2 v).run P w = .ok (str l) w:=by
  have hl:l.length=N:=by have:=hr.len;rw[zdM]at this;omega
  rcases hr with⟨⟨a0,rfl⟩,_,h2⟩|⟨b,o,c,cs,T',fz,rfl,h3,h4,h5,h6⟩
  ·have:l=[]:=by simpa[u8s]using h2
   subst this;rw[run_convert_bytes_string w T T2 E a0 0 0 hs he hd];cases a0 with
   |none=>simp[Conv.bytesToString];rfl|some a0=>simp[Conv.bytesToString,loadCells];rfl
  ·have h7:=run_convert_bytes_arg (P:=P) w T E hs he b o N c (l.map fun b=>(b.toNat:Int)) (by simpa using hl) (fun i hi=>by
    rw[zcT h4];rw[zaS,cV]at h6;have h8:((cs.drop o).take N)[i]? = (u8s l)[i]?:=by rw[h6]
    rw[cF,zI hi,bJ]at h8;rw[h8];have hi':i<l.length:=by omega
    simp[u8s,hi']) T2 hd
   rw[h7,xbZ]
 simp[execOp,hx,key]
theorem a_bytes{T2:TypeId}{l:Bs}{ud:TypeDesc}(hs:P.underlying T=some ud)(hd:P.underlying T2=some (.slice E))(he:P.underlying E=some (.int .u8))(H:HS B S w L)(hx:e x=str l)(hbt:E=yxK:=by rfl):∃w' v,(execOp e ⟨dst,.convert T T2 x,ty,pos,aft,g⟩).run P w = .ok (.value v) w'/\∃rs,HS B S w' (.osl v l.length 1 (u8s l) rs E::L):=by
 have hrun:=Lib.run_convert_string_bytes (P:=P) w T T2 E ⟨l.toArray⟩ hs hd he;have hsz:(⟨l.toArray⟩:ByteArray).size=l.length:=zjO l;rw[hsz]at hrun;have hge:=grownCap_ge w l.length 0 E;have hc:Lib.bytesCells w E ⟨l.toArray⟩=(u8s l++bC (grownCap w l.length 0 E-l.length) (Value.int .u8 0)).toArray:=by unfold Lib.bytesCells;rw[hsz];apply cZ;simp[u8s]
 have hnew:=Lib.bytesWorld_at_new w E ⟨l.toArray⟩;have hlen:(Lib.bytesCells w E ⟨l.toArray⟩).size=grownCap w l.length 0 E:=by rw[hc];simp[u8s];omega
 refine⟨Lib.bytesWorld w E ⟨l.toArray⟩,sl w.heap.size 0 l.length (grownCap w l.length 0 E),by simp only[execOp,hx,str,Sem.run_bind,hrun,Result.andThen_ok,Sem.run_pure],bC (grownCap w l.length 0 E-l.length) (Value.int .u8 0),?_⟩;refine H.push (w':=Lib.bytesWorld w E ⟨l.toArray⟩) ?_ (.inr ⟨w.heap.size,grownCap w l.length 0 E,_,rfl,hge,by simp[u8s],by simp[u8s];omega,by rw[hnew,hc],.inr ?_⟩) fun b hb=>by cases hb;exact aK _
 ·refine⟨?_,?_,?_,by rw[Lib.bytesWorld_size];omega,fun k hk=>Lib.bytesWorld_at_old w E _ k hk⟩<;>simp[Lib.bytesWorld,World.freeze,World.alloc,World.drew,-World.alloc_eq,-World.drew_eq]<;>split<;>rfl
 ·exact⟨by simp[u8s],hbt⟩
end
end
end
section
structure TSn (P:Program) (T E:TypeId) (z:Value) (zl:LV) (nb sz:Nat):Prop where
 und:P.underlying T=some (.slice E)
 info:∃i,P.info? E=some i/\i.zero=some z/\i.size=sz/\i.bytes=nb
 cells:z.cells=zl.toArray
 len:zl.length=sz
 pos:0<sz
 small:nb<=2048
theorem TSn.mk'{P:Program}{T E:TypeId}{z:Value}{zl:LV}{nb sz:Nat}(h1:P.underlying T=some (.slice E))(h2:(P.info? E).map (fun i=>(i.zero,i.size,i.bytes))=some (some z,sz,nb))(h3:z.cells=zl.toArray)(h4:zl.length=sz)(h5:Nat.blt 0 sz=true)(h6:bW nb 2048=true):TSn P T E z zl nb sz:=by
 refine⟨h1,?_,h3,h4,by rw[zmU]at h5;simpa using h5,bB h6⟩;cases hi:P.info? E with
 |none=>simp[hi]at h2|some i=>simp only[hi,bA,Option.some.injEq,Prod.mk.injEq]at h2;exact⟨i,rfl,h2.1,h2.2.1,h2.2.2⟩
theorem TSn.tsz{P:Program}{T E:TypeId}{z:Value}{zl:LV}{nb sz:Nat}(h:TSn P T E z zl nb sz):TSz P E sz:=fun w=>by obtain⟨i,h1,_,h3,_⟩:=h.info;simp[sizeOf,typeInfo,h1,h3]
theorem zrZ(z:Array Value)(zl:LV)(hz:z=zl.toArray):∀n,(Builtin.zeroCells z n).toList.length=n*zl.length:=fun n=>by rw[Array.length_toList,size_zeroCells,hz];simp
section
variable {P:Program}{w:World}{B:Bas}{S:Mem}{L:List Res}{e:Operand->Value}{dst:Option Tmp}{g:Option (Nat×Bool)}
variable {ty:TypeId}{pos:String}{aft:Array Edge}{v v2 z:Value}{x y:Operand}{T E:TypeId}{nb sz N M k:Nat}{zl cs rs ncs:LV}
theorem SlW.first{n:Nat}(h:SlW w v2 n sz ncs):(Builtin.lenOf v2).run P w = .ok n w/\(Builtin.firstCells sz n v2).run P w = .ok ncs.toArray w:=by
 rcases h with⟨⟨a,rfl⟩,rfl,rfl⟩|⟨b,o,c,ds,T',fz,rfl,h1,h2,h3,h4⟩
 ·refine⟨by simp[Builtin.lenOf],?_⟩;cases a with
  |none=>simp[run_firstCells_none]|some a=>exact run_firstCells_some (P:=P) w sz 0 a 0 0 [] (by simp) fun j u hj=>by simp at hj
 ·refine⟨by simp[Builtin.lenOf],?_⟩;have hl:ncs.length=n*sz:=by rw[<-h4];exact ziN h3
  refine run_firstCells_some (P:=P) w sz n ⟨b,o,none⟩ n c ncs hl fun j u hj=>?_;have hjl:=(aC.1 hj).1;rw[zbY,zcT h2];rw[<-h4,zaS,cF,zI (by omega),bJ]at hj;exact hj
theorem yaF(hT:TSn P T E z zl nb sz)(H:HS B S w L)(hk:lkR L k=some (.osl v N sz cs rs E))(hr:SlW w v2 M sz ncs)(h1:∀u∈ncs,u.oneCell'=true)(hb:N+M<=68719476736):∃w' v' rs',(Builtin.append_ #[T,T] ty #[v,v2]).run P w = .ok v' w'/\HS B S w' (stR L k (.osl v' (N+M) sz (cs++ncs) rs' E)):=by
 obtain⟨i,hi1,hi2,hi3,hi4⟩:=hT.info;have hpos:=hT.pos;have hsmall:=hT.small;have hbound:(N+M)*nb<=140737488355328:=by
  calc (N+M)*nb<=68719476736*2048:=eN hb hsmall
   _=140737488355328:=by decide
 obtain⟨hf1,hf2⟩:=hr.first (P:=P);have hncs:=hr.len;have hzl:∀n,(Builtin.zeroCells z.cells n).toList.length=n*sz:=fun n=>by rw[zrZ _ _ hT.cells,hT.len]
 rcases H.own k _ hk with⟨rfl,rfl,rfl,rfl⟩|⟨b,c,fz,rfl,g1,g2,g3,g4,g5⟩
 ·by_cases hM:M=0
  ·subst hM;have hn:ncs=[]:=aT (by omega);subst hn;refine⟨w,.slice none 0 0,[],?_,H.upd hk (aK _) rfl rfl rfl (fun _ _ _=>rfl) (.inl ⟨rfl,rfl,rfl,rfl⟩) fun b hb=>by cases hb⟩;simp[Builtin.append_,Go.underlying,hT.und,sizeOf,typeInfo,hi1,hi3,hf1,hf2]
  ·rcases hr with⟨_,h,_⟩|⟨b2,o2,c2,cs2,T2,fz2,rfl,hc2,hb2,ho2,hp2⟩
   ·exact absurd h hM
   ·have hnews:∀j u,ncs[j]? = some u->w.cell? ((⟨b2,o2,none⟩:Addr).add j)=some u:=fun j u hj=>by have hjl:=(aC.1 hj).1;rw[zbY,zcT hb2];rw[<-hp2,zaS,cF,zI (by omega),bJ]at hj;exact hj
    have hrun:=run_append_nil (P:=P) w T ty E i z hT.und hi1 hi2 ⟨b2,o2,none⟩ M c2 ncs (by rw[hi3];exact hncs) hnews (by omega) (by omega) (by rw[hi4];rw[aU]at hbound;omega);have hge:=grownCap_ge w M 0 E;generalize hG:grownCap w M 0 E=G at hrun hge;have hZl:=hzl (G-M);generalize hZ:Builtin.zeroCells z.cells (G-M)=Z at hrun hZl;have hcells:ncs.toArray++Z=(ncs++Z.toList).toArray:=by apply cZ;simp
    rw[hcells]at hrun;refine⟨_,_,Z.toList,hrun,?_⟩;refine H.upd hk (by simp) rfl rfl rfl (fun j hj _=>?_) (.inr ⟨w.heap.size,G,(0,0),?_,by omega,?_,?_,?_,.inl rfl⟩) fun b hb=>?_
    ·exact(Ext.trans (Ext.drew w) (Ext.alloc w.drew _)).block j hj
    ·rw[aU]
    ·simp[hncs]
    ·refine dE (Eq.symm ?_);rw[bR,aD,hncs,hZl,<-bN];congr 1;omega
    ·rw[bR];exact zaL w.drew _
    ·cases hb;exact .inr (aK _)
 ·by_cases hroom:N+M<=c
  ·have hcap:N*sz+M*sz<=c*sz:=by rw[<-bN];exact cJ sz hroom
   obtain⟨w',he,hb',hs,q4,q5,q6,q7⟩:=ziZ (P:=P) (b:=b) (o:=N*sz) ncs 0 w (cs++rs) h1 g4 g5 (by omega);have hlay:lay (cs++rs) (N*sz+0) ncs=cs++ncs++rs.drop ncs.length:=by
    apply bD;intro j;rw[aD]at g3;rw[zcN,eS,aV];by_cases hj:j<N*sz
    ·rw[zH (by omega),aE (by omega),aE (by omega)]
    ·by_cases hj2:j<N*sz+ncs.length
     ·rw[zI ⟨by omega,hj2,by rw[aD];omega⟩,aF (by omega),aE (by omega),g2]
     ·rw[zH (by omega),aF (by omega),aF (by omega),aF (by omega),bJ];congr 1;omega
   rw[hlay]at hb';refine⟨w',sl b 0 (N+M) c,rs.drop ncs.length,?_,H.upd hk (by omega) q4 q5 q6 (fun j _ hne=>q7 j fun e=>hne (by rw[e];rfl)) (.inr ⟨b,c,fz,rfl,hroom,?_,?_,hb',?_⟩) fun b' hb'=>.inl hb'⟩
   ·simp[Builtin.append_,Go.underlying,hT.und,sizeOf,typeInfo,hi1,hi3,hf1,hf2,hroom,sl,zbY,he]
   ·rw[aD,g2,hncs,bN]
   ·rw[aD]at g3;simp only[aD,bM];omega
   ·have:(cs++ncs++rs.drop ncs.length).length=(cs++rs).length:=by rw[aD]at g3;simp only[aD,bM];omega
    rw[this];exact g5
  ·rcases hr with⟨_,h,_⟩|⟨b2,o2,c2,cs2,T2,fz2,rfl,hc2,hb2,ho2,hp2⟩
   ·subst h;omega
   ·have hnews:∀j u,ncs[j]? = some u->w.cell? ((⟨b2,o2,none⟩:Addr).add j)=some u:=fun j u hj=>by have hjl:=(aC.1 hj).1;rw[zbY,zcT hb2];rw[<-hp2,zaS,cF,zI (by omega),bJ]at hj;exact hj
    have holds:∀j u,cs[j]? = some u->w.cell? ((⟨b,0,none⟩:Addr).add j)=some u:=fun j u hj=>by rw[zbY,zcT g4,aU,aE (aC.1 hj).1];exact hj
    have hfit:=growslice_fits (bytes:=nb) (dH hroom) hbound;have hrun:=run_append_grow (P:=P) w T ty E i z hT.und hi1 hi2 ⟨b,0,none⟩ N c cs (by rw[hi3];exact g2) holds ⟨b2,o2,none⟩ M c2 ncs (by rw[hi3];exact hncs) hnews (dH hroom) (by omega) (by rw[hi4];exact hfit);have hge:=grownCap_ge w (N+M) c E;generalize hG:grownCap w (N+M) c E=G at hrun hge;have hZl:=hzl (G-(N+M));generalize hZ:Builtin.zeroCells z.cells (G-(N+M))=Z at hrun hZl;have hcells:cs.toArray++ncs.toArray++Z=(cs++ncs++Z.toList).toArray:=by apply cZ;simp
    rw[hcells]at hrun;refine⟨_,_,Z.toList,hrun,?_⟩;refine H.upd hk (by simp) rfl rfl rfl (fun j hj _=>?_) (.inr ⟨w.heap.size,G,(0,0),rfl,hge,?_,?_,?_,.inl rfl⟩) fun b hb=>?_
    ·exact(Ext.trans (Ext.drew w) (Ext.alloc w.drew _)).block j hj
    ·rw[aD,g2,hncs,bN]
    ·refine dE (Eq.symm ?_);simp only[aD,hZl,g2,hncs,<-bN];congr 1;omega
    ·exact zaL w.drew _
    ·cases hb;exact .inr (aK _)
theorem a_append(hT:TSn P T E z zl nb sz)(H:HS B S w L)(hx:e x=v)(hk:lkR L k=some (.osl v N sz cs rs E))(hy:e y=v2)(hr:SlW w v2 M sz ncs)(h1:∀u∈ncs,u.oneCell'=true)(hb:N+M<=68719476736):∃w' v' rs',(execOp e ⟨dst,.call ⟨.builtin .append,#[x,y],#[T,T]⟩,ty,pos,aft,g⟩).run P w = .ok (.value v') w'/\HS B S w' (stR L k (.osl v' (N+M) sz (cs++ncs) rs' E)):=by obtain⟨w',v',rs',hrun,H'⟩:=yaF (ty:=ty) hT H hk hr h1 hb;exact⟨w',v',rs',by simp[execOp,resolve,invoke,builtin,hx,hy,hrun],H'⟩
theorem zwE{T2:TypeId}{l:Bs}(hT:TSn P T E z zl nb 1)(h2:P.underlying T2=some .string)(H:HS B S w L)(hk:lkR L k=some (.osl v N 1 cs rs E))(hb:N+l.length<=68719476736):∃w' v' rs',(Builtin.append_ #[T,T2] ty #[v,str l]).run P w = .ok v' w'/\HS B S w' (stR L k (.osl v' (N+l.length) 1 (cs++u8s l) rs' E)):=by
 obtain⟨i,hi1,hi2,hi3,hi4⟩:=hT.info;have hsmall:=hT.small;have hbound:(N+l.length)*nb<=140737488355328:=by
  calc (N+l.length)*nb<=68719476736*2048:=eN hb hsmall
   _=140737488355328:=by decide
 have hsz:(⟨l.toArray⟩:ByteArray).size=l.length:=zjO l;have hmap:(iS (fun b:UInt8=>Value.int IntKind.u8 (b.toNat:Int)) (⟨l.toArray⟩:ByteArray).data)=(u8s l).toArray:=by simp[u8s]
 have hfst:(Builtin.firstCells 1 l.length (str l)).run P w = .ok (u8s l).toArray w:=by
  have hx:(⟨l.toArray⟩:ByteArray).extract 0 l.length=⟨l.toArray⟩:=by rw[zpB];simp
  simp only[Builtin.firstCells,hx,Sem.run_pure];rw[<-hmap]
 have hlen:(Builtin.lenOf (str l)).run P w = .ok l.length w:=by simp[Builtin.lenOf,hsz]
 have hzl:∀n,(Builtin.zeroCells z.cells n).toList.length=n:=fun n=>by rw[zrZ _ _ hT.cells,hT.len,cV]
 rcases H.own k _ hk with⟨rfl,rfl,rfl,rfl⟩|⟨b,c,fz,rfl,g1,g2,g3,g4,g5⟩
 ·by_cases hM:l.length=0
  ·have hn:l=[]:=aT hM;subst hn;refine⟨w,.slice none 0 0,[],?_,H.upd hk (aK _) rfl rfl rfl (fun _ _ _=>rfl) (.inl ⟨rfl,rfl,rfl,rfl⟩) fun b hb=>by cases hb⟩;have h5:=hlen;have h6:=hfst;simp only[List.length_nil]at h5 h6;simp[Builtin.append_,Go.underlying,hT.und,h2,sizeOf,typeInfo,hi1,hi3,h5,h6]
  ·have hrun:=run_append_nil_string (P:=P) w T T2 ty E i z hT.und h2 hi1 hi2 ⟨l.toArray⟩ (by rw[hsz];omega) (by rw[hsz];omega) (by rw[hi4,hsz];rw[aU]at hbound;omega);rw[hsz]at hrun;have hge:=grownCap_ge w l.length 0 E;generalize hG:grownCap w l.length 0 E=G at hrun hge;have hZl:=hzl (G-l.length);generalize hZ:Builtin.zeroCells z.cells (G-l.length)=Z at hrun hZl;have hcells:(iS (fun b:UInt8=>Value.int IntKind.u8 (b.toNat:Int)) (⟨l.toArray⟩:ByteArray).data)++Z=(u8s l++Z.toList).toArray:=by rw[hmap];apply cZ;simp
   rw[hcells]at hrun;refine⟨_,_,Z.toList,hrun,?_⟩;refine H.upd hk (by simp) rfl rfl rfl (fun j hj _=>?_) (.inr ⟨w.heap.size,G,(0,0),?_,by omega,?_,?_,?_,.inl rfl⟩) fun b hb=>?_
   ·exact(Ext.trans (Ext.drew w) (Ext.alloc w.drew _)).block j hj
   ·rw[aU]
   ·simp[zdM]
   ·rw[bR,aD,hZl,zdM];omega
   ·rw[bR];exact zaL w.drew _
   ·cases hb;exact .inr (aK _)
 ·by_cases hroom:N+l.length<=c
  ·obtain⟨w',he,hb',hs,q4,q5,q6,q7⟩:=ziZ (P:=P) (b:=b) (o:=N) (u8s l) 0 w (cs++rs) (u8s_ones l) g4 g5 (by rw[zdM];omega);have hlay:lay (cs++rs) (N+0) (u8s l)=cs++u8s l++rs.drop l.length:=by
    apply bD;intro j;rw[aD]at g3;rw[zcN,eS,aV,zdM];by_cases hj:j<N
    ·rw[zH (by omega),aE (by omega),aE (by omega)]
    ·by_cases hj2:j<N+l.length
     ·rw[zI ⟨by omega,hj2,by rw[aD];omega⟩,aF (by omega),aE (by rw[zdM];omega),g2,cV]
     ·rw[zH (by omega),aF (by omega),aF (by omega),aF (by rw[zdM];omega),bJ];congr 1;rw[zdM];omega
   rw[hlay]at hb';have hcap:(cs++u8s l++rs.drop l.length).length=(cs++rs).length:=by rw[aD]at g3;simp only[aD,bM,zdM];omega
   refine⟨w',sl b 0 (N+l.length) c,rs.drop l.length,?_,H.upd hk (by omega) q4 q5 q6 (fun j _ hne=>q7 j fun e=>hne (by rw[e];rfl)) (.inr ⟨b,c,fz,rfl,hroom,?_,by rw[hcap];exact g3,hb',by rw[hcap];exact g5⟩) fun b' hb'=>.inl hb'⟩
   ·simp[Builtin.append_,Go.underlying,hT.und,h2,sizeOf,typeInfo,hi1,hi3,hlen,hfst,hroom,sl,zbY,he]
   ·rw[aD,g2,zdM];omega
  ·have holds:∀j u,cs[j]? = some u->w.cell? ((⟨b,0,none⟩:Addr).add j)=some u:=fun j u hj=>by rw[zbY,zcT g4,aU,aE (aC.1 hj).1];exact hj
   have hfit:=growslice_fits (bytes:=nb) (dH hroom) hbound;have hrun:=Lib.run_append_grow_string (P:=P) w T T2 ty E i z hT.und h2 hi1 hi2 ⟨b,0,none⟩ N c cs (by rw[hi3];exact g2) holds ⟨l.toArray⟩ (by rw[hsz];exact dH hroom) (by rw[hsz];omega) (by rw[hi4,hsz];exact hfit);rw[hsz]at hrun;have hge:=grownCap_ge w (N+l.length) c E;generalize hG:grownCap w (N+l.length) c E=G at hrun hge;have hZl:=hzl (G-(N+l.length));generalize hZ:Builtin.zeroCells z.cells (G-(N+l.length))=Z at hrun hZl;have hsc:Lib.strCells ⟨l.toArray⟩=u8s l:=by simp[Lib.strCells,u8s]
   rw[hsc]at hrun;have hcells:cs.toArray++(u8s l).toArray++Z=(cs++u8s l++Z.toList).toArray:=by apply cZ;simp
   rw[hcells]at hrun;refine⟨_,_,Z.toList,hrun,?_⟩;refine H.upd hk (by simp) rfl rfl rfl (fun j hj _=>?_) (.inr ⟨w.heap.size,G,(0,0),rfl,hge,?_,?_,?_,.inl rfl⟩) fun b hb=>?_
   ·exact(Ext.trans (Ext.drew w) (Ext.alloc w.drew _)).block j hj
   ·rw[aD,g2,zdM];omega
   ·simp only[aD,hZl,g2,zdM];omega
   ·exact zaL w.drew _
   ·cases hb;exact .inr (aK _)
theorem HS.nilOwn(H:HS B S w L)(sz:Nat)(E:TypeId):HS B S w (.osl (.slice none 0 0) 0 sz [] [] E::L):=
 H.push (Ext.refl w) (.inl ⟨rfl,rfl,rfl,rfl⟩) fun b hb=>by cases hb
theorem toList_range_map'(zl:LV)(sz n:Nat)(hz:zl.length=sz)(hp:0<sz):((fC (n*sz)).map fun x=>(zl.toArray:Array Value)[x%sz]!).toList=(bC n zl).flatten:=by
 subst hz;apply bD;intro j;have hfl:((bC n zl).flatten).length=n*zl.length:=by simp
 by_cases hj:j<n*zl.length
 ·have h1:j%zl.length<zl.length:=Nat.mod_lt _ hp;have h2:((bC n zl).flatten)[j]? = zl[j%zl.length]?:=by
   clear h1 hfl;induction n generalizing j with
   |zero=>omega|succ n ih=>
    rw[List.replicate_succ,List.flatten_cons];by_cases hj2:j<zl.length
    ·rw[aE hj2,Nat.mod_eq_of_lt hj2]
    ·rw[aF (by omega),ih (j-zl.length) (by rw[bN]at hj;omega),<-Nat.mod_eq_sub_mod (by omega)]
  rw[h2];simp[hj,h1]
 ·rw[cX (by simp;omega),cX (by simpa using hj)]
theorem fillL_slice'{ps:List (Nat×Value)}{cs l:LV}(h:ycT ((dQ 0 N).map fun i=>(i*sz,sz)) cs ps=some l):Instr.fill (fun i=>some (i*sz,sz)) cs.toArray ps=some l.toArray:=
 ynC (fun i=>by simpa using yiL sz N 0 i) ps cs l h
theorem yhP{ps:List (Nat×Operand)}{vals:List (Nat×Value)}{l:LV}(hT:TSn P T E z zl nb sz)(hp:zzI e ps=vals) (hl:ycT ((dQ 0 N).map fun i=>(i*sz,sz)) (bC N zl).flatten vals=some l) (hN:bW (N*sz) 16777216=true):(execOp e ⟨dst,.buildSlice T N ps.toArray,ty,pos,aft,g⟩).run P w = .ok (.value (sl w.heap.size 0 N N)) (w.alloc (.cells l.toArray E)):=by
 obtain⟨i,hi1,hi2,hi3,hi4⟩:=hT.info;have hpos:=hT.pos;have e1:(ps.toArray.map fun(i,x)=>(i,e x))=vals.toArray:=by rw[<-hp,<-yoG];simp
 have hf:=fillL_slice' hl;have hN':¬16777216<N*sz:=by have:=bB hN;omega
 simp only[execOp,Sem.run_bind];rw[e1];by_cases h0:N=0
 ·subst h0;simp only[bC,List.flatten_nil]at hf;have hr':(iS (fun _=>(default:Value)) (fC 0)) = #[]:=by simp
  simp[Instr.buildSlice,Go.underlying,hT.und,sizeOf,typeInfo,hi1,hi3,newRow,sl];rw[hr',hf];simp
 ·have hr:=toList_range_map' zl sz N hT.len hpos;have hr':((fC (N*sz)).map fun x=>(zl.toArray:Array Value)[x%sz]!)=((bC N zl).flatten).toArray:=by rw[<-hr]
  have hne:¬N*sz=0:=by intro h;rcases Nat.mul_eq_zero.1 h with h|h<;>omega
  simp at hr';have hz2:zl.length=sz:=hT.len;simp only[Instr.buildSlice,Go.underlying,hT.und,sizeOf,typeInfo,hi1,hi3,Sem.run_bind,run_program,Result.andThen_ok,Sem.run_pure,zH hN',zH hne,zeroValue,hi2,hT.cells];simp[hz2,hr',newRow,sl];rw[hf];simp
theorem yvX{ps:List (Nat×Operand)}{vals:List (Nat×Value)}{l:LV}(hT:TSn P T E z zl nb sz)(H:HS B S w L)(hp:zzI e ps=vals) (hl:ycT ((dQ 0 N).map fun i=>(i*sz,sz)) (bC N zl).flatten vals=some l) (hN:bW (N*sz) 16777216=true) (hlen:l.length=N*sz):∃w' v,(execOp e ⟨dst,.buildSlice T N ps.toArray,ty,pos,aft,g⟩).run P w = .ok (.value v) w'/\HS B S w' (.osl v N sz l [] E::L):=by have hrun:=yhP (P:=P) (w:=w) (dst:=dst) (ty:=ty) (pos:=pos) (aft:=aft) (g:=g) hT hp hl hN;refine⟨_,_,hrun,H.push (Ext.alloc w _) (.inr ⟨w.heap.size,N,(0,0),rfl,aK _,hlen,by rw[bQ];exact dE hlen.symm,by rw[bQ];exact zaL w _,.inl rfl⟩) fun b hb=>by cases hb;exact aK _⟩
theorem a_make{a b:Int}{k1 k2:IntKind}{N C:Nat}(hT:TSn P T E z zl nb sz)(H:HS B S w L)(hx:e x = .int k1 a)(hy:e y = .int k2 b)(ha:a=(N:Int))(hb:b=(C:Int))(hNC:N<=C)(hC:C<=68719476736):∃w' v,(execOp e ⟨dst,.makeSlice T x y,ty,pos,aft,g⟩).run P w = .ok (.value v) w'/\HS B S w' (.osl v N sz (bC N zl).flatten (bC (C-N) zl).flatten E::L):=by
 obtain⟨i,hi1,hi2,hi3,hi4⟩:=hT.info;have hsmall:=hT.small;subst ha;subst hb;have hbb:(i.bytes:Int)*(C:Int)<=281474976710656:=by rw[hi4,<-Int.natCast_mul];have:nb*C<=2048*68719476736:=eN hsmall hC;omega
 have hr:=run_make (P:=P) w T E i z hT.und hi1 hi2 k1 k2 N C (by omega) (by omega) hbb (by omega);have hc:madeCells z.cells (((C:Int).toNat)*i.size)=((bC N zl).flatten++(bC (C-N) zl).flatten).toArray:=by
  rw[hi3,cK,hT.cells];unfold madeCells;have h1:=toList_range_map' zl sz C hT.len hT.pos;have h2:(zl.toArray).size=sz:=by simpa using hT.len
  rw[h2];apply cZ;rw[h1,List.toList_toArray,<-List.flatten_append,List.replicate_append_replicate];congr 2;omega
 rw[hc,cK,cK]at hr;refine⟨_,_,by simp only[execOp,hx,hy,Sem.run_bind,hr,Result.andThen_ok,Sem.run_pure],H.push (Ext.alloc w _) (.inr ⟨w.heap.size,C,(0,0),rfl,hNC,?_,?_,zaL w _,.inl rfl⟩) fun b hb=>by cases hb;exact aK _⟩
 ·rw[List.length_flatten];simp[hT.len]
 ·refine dE (Eq.symm ?_);simp[hT.len];rw[<-bN];congr 1;omega
section
variable {α:Type}[Rp α]
theorem HS.fixX{xs:List α}(H:HS B S w L){k:Nat}(hk:lkR L k=some (.osl v xs.length sz cs rs T))(hr:RL S cs xs)(hs:Rp.sz α=sz:=by rfl):∃S',Mem.le S S'/\RdS S' v xs/\HS B S' w (rmR L k):=by obtain⟨S',hle,h1,H'⟩:=H.fixS hk;subst hs;exact⟨S',hle,⟨cs,h1,hr.mono hle⟩,H'⟩
theorem a_storeX{α:Type}[Rp α]{i:Int}{k b M c0:Nat}{xs r:List α}{u:α}{l:LV}{T':TypeId}(ts:TSz P T sz)(hs:Rp.sz α=sz)(H:HS B S w L)(hk:lkR L k=some (.osl (sl b 0 M c0) xs.length sz cs rs T'))(h0:RL S cs xs)(hp:e x = .pointer (some ⟨b,0+i.toNat*sz,none⟩))(hy:e y=v)(hv:zwY v l)(hu:Rp.rep S l u)(hi:setL xs i u=some r):∃w',(execOp e ⟨none,.store T x y,ty,pos,aft,g⟩).run P w = .ok .skip w'/\∃cs',HS B S w' (stR L k (.osl (sl b 0 M c0) r.length sz cs' rs T'))/\RL S cs' r:=by
 obtain⟨_,h1,h2⟩:=zyQ hi;obtain⟨w',hrun,H'⟩:=a_storeO (g:=g) (ty:=ty) (pos:=pos) (aft:=aft) ts H hk hp h1 hy hv (by rw[Rp.len hu,hs]) (Rp.one hu);have hl:r.length=xs.length:=by rw[<-h2,bP]
 rw[<-hl]at H';exact⟨w',hrun,_,H',xbX h0 hu hi hs⟩
theorem xbV{T2:TypeId}{k:Nat}{xs r l:Bs}(hT:TSn P T E z zl nb 1)(h2:P.underlying T2=some .string)(H:HS B S w L)(hx:e x=v)(hk:lkR L k=some (.osl v xs.length 1 cs rs E))(h0:RL S cs xs)(hy:e y=str l)(ha:app xs l=some r):∃w' v',(execOp e ⟨dst,.call ⟨.builtin .append,#[x,y],#[T,T2]⟩,ty,pos,aft,g⟩).run P w = .ok (.value v') w'/\∃cs' rs',HS B S w' (stR L k (.osl v' r.length 1 cs' rs' E))/\RL S cs' r:=by obtain⟨hb,hr⟩:=ziE ha;obtain⟨w',v',rs',hrun,H'⟩:=zwE (ty:=ty) hT h2 H hk hb;subst hr;rw[<-aD]at H';exact⟨w',v',by simp[execOp,resolve,invoke,builtin,hx,hy,hrun],_,rs',H',h0.append (RL.of_u8s l)⟩
theorem a_makeX{a b:Int}{k1 k2:IntKind}{zx:α}{r:List α}(hT:TSn P T E z zl nb sz)(_hs:Rp.sz α=sz)(H:HS B S w L)(hx:e x = .int k1 a)(hy:e y = .int k2 b)(hz:Rp.rep S zl zx)(hm:mkL a zx=some r)(hab:a<=b)(hb:b<=(LIM:Int)):∃w' v,(execOp e ⟨dst,.makeSlice T x y,ty,pos,aft,g⟩).run P w = .ok (.value v) w'/\∃cs rs,HS B S w' (.osl v r.length sz cs rs E::L)/\RL S cs r:=by
 obtain⟨h1,h2,h3⟩:=mkL_some hm;have hb':b<=68719476736:=hb;obtain⟨w',v,hrun,H'⟩:=a_make (dst:=dst) (ty:=ty) (pos:=pos) (aft:=aft) (g:=g) (N:=a.toNat) (C:=b.toNat) hT H hx hy (by omega) (by omega) (by omega) (by omega);have hl:r.length=a.toNat:=by rw[<-h3];simp
 rw[<-hl]at H';refine⟨w',v,hrun,_,_,H',?_⟩;rw[hl,<-h3];exact RL.replicate hz _
end
theorem zaR{a b:Bool}(h:(a&&b)=true):a=true:=by rw[aH]at h;exact h.1
theorem zaV{a b:Bool}(h:(a&&b)=true):b=true:=by rw[aH]at h;exact h.2
end
end
section
abbrev itT(l:Bs)(p:Nat):Obj:=.stringIter ⟨l.toArray⟩ p
def dec(l:Bs)(p:Nat):Nat×Nat:=Utf8.decode ⟨l.toArray⟩ p
def nxR(l:Bs)(p:Nat):Int:=((dec l p).1:Int)
def nxP(l:Bs)(p:Nat):Nat:=bif decide (p<l.length)then p+(dec l p).2 else p
def nxV(l:Bs)(p:Nat):Value:=bif decide (p<l.length)then .tuple #[.bool true,.int .i64 (p:Int),.int .i32 (nxR l p)]else .tuple #[.bool false]
section
variable {P:Program}{ops:Array Oper}{Q:Exit->Act->World->Prop}{rest:List Oper}{n:Nat}{m:FM}{w:World}{B:Bas}{S:Mem}{L:List Res}
variable {d:Nat}{op:Op}{ty:TypeId}{pos:String}{aft:Array Edge}{c v:Value}{x y:Operand}{T T':TypeId}{e:Operand->Value}{dst:Option Tmp}{g:Option (Nat×Bool)}
theorem p_ofc{φ:World->Prop}(h:∃w',(execOp (evO n m) ⟨some d,op,ty,pos,aft,none⟩).run P w = .ok (.value c) w'/\φ w')(hr:∀w',φ w'->wpList P ops Q rest (fr n ((d,c)::m)) w'):
  wpList P ops Q (⟨some d,op,ty,pos,aft,none⟩::rest) (fr n m) w:=by
 obtain⟨w',h1,h2⟩:=h;exact p_new h1 (hr w' h2)
theorem yoU{s:ByteArray}{p b:Nat}(h:w.heap[b]? = some (.stringIter s p)):(getObj b).run P w = .ok (.stringIter s p) w:=by simp[getObj,Sem.run,h]
theorem xeK{s:ByteArray}{p b:Nat}{o:Obj}(h:w.heap[b]? = some (.stringIter s p)):(setObj b o).run P w = .ok () { w with heap:=w.heap.setIfInBounds b o }:=by simp[setObj,Sem.run,h]
theorem a_rangeT{l:Bs}(H:HS B S w L)(hu:P.underlying T=some .string)(hx:e x=str l):∃w' b,(execOp e ⟨dst,.range T x,ty,pos,aft,g⟩).run P w = .ok (.value (.pointer (some ⟨b,0,none⟩))) w'/\HS B S w' (.obj b (itT l 0)::L):=by refine⟨w.alloc (itT l 0),w.heap.size,?_,H.push (Ext.alloc w _) (zaL w _) fun b hb=>by cases hb;exact aK _⟩;simp[execOp,Instr.range,Go.underlying,hu,hx,str,itT]
theorem a_nextT{l:Bs}{p k b:Nat}(H:HS B S w L)(hx:e x = .pointer (some ⟨b,0,none⟩))(hk:lkR L k=some (.obj b (itT l p))):∃w',(execOp e ⟨dst,.next x true,ty,pos,aft,g⟩).run P w = .ok (.value (nxV l p)) w'/\HS B S w' (stR L k (.obj b (itT l (nxP l p)))):=by
 have hb:w.heap[b]? = some (itT l p):=H.own k _ hk;have hsz:(⟨l.toArray⟩:ByteArray).size=l.length:=zjO l;by_cases hp:p<l.length
 ·have hblt:=lt_of_heap hb;refine⟨{ w with heap:=w.heap.setIfInBounds b (itT l (nxP l p)) },?_,H.upd hk (by simp) rfl rfl rfl (fun i _ hne=>?_) ?_ fun b' hb'=>.inl hb'⟩
  ·simp[execOp,Instr.next,hx,yoU hb,hsz,hp,nxV,nxP,nxR,dec,xeK hb,goInt]
  ·have hib:i≠b:=fun e=>hne (by rw[e];rfl);show(w.heap.setIfInBounds b _)[i]? = _;rw[Array.getElem?_setIfInBounds_ne (Ne.symm hib)]
  ·show(w.heap.setIfInBounds b _)[b]? = _;simp[hblt]
 ·refine⟨w,?_,?_⟩
  ·simp[execOp,Instr.next,hx,yoU hb,hsz,hp,nxV]
  ·have e1:nxP l p=p:=by simp[nxP,hp]
   rw[e1];have e2:stR L k (.obj b (itT l p))=L:=by
    clear H;induction L generalizing k with
    |nil=>rfl|cons r L ih=>
     cases k with
     |zero=>simp only[lkR,Option.some.injEq]at hk;rw[hk];rfl|succ k=>simp only[lkR]at hk;simp only[stR];rw[ih hk]
   rw[e2];exact H
theorem zoV{a:Addr}(hx:e x = .pointer (some a)):(execOp e ⟨dst,.nilCheck x,ty,pos,aft,g⟩).run P w = .ok (.value (.pointer (some a))) w:=by simp[execOp,hx]
def ybZ(w:World):Mem:=fun b=>nj w.heap[b]?
theorem subMem(w:World):Sub (ybZ w) w:=fun _ _ h=>ymX h
def yaT(S:Mem)(w:World):Mem:=fun b=>match S b with
 |some o=>some o|none=>nj w.heap[b]?
theorem leOn(S:Mem)(w:World):Mem.le S (yaT S w):=fun b o h=>by unfold yaT;rw[h]
theorem subOn{S:Mem}{w:World}(h:Sub S w):Sub (yaT S w) w:=fun b o e=>by
 unfold yaT at e;split at e
 ·rename_i h1;cases e;exact h _ _ h1
 ·exact ymX e
theorem yuI{S:Mem}{w:World}{b:Nat}{o:Obj}(h:S b=none)(hw:w.heap[b]? = some o)(hj:isJ o=false):yaT S w b=some o:=by unfold yaT;rw[h,hw];exact nj_of hj
theorem ygI{w:World}{b:Nat}{o:Obj}(hw:w.heap[b]? = some o)(hj:isJ o=false):ybZ w b=some o:=by unfold ybZ;rw[hw];exact nj_of hj
theorem HS.slOn{k sz n:Nat}{cs rs:LV}(H:HS B S w L)(hk:lkR L k=some (.osl v n sz cs rs T)):SlS (yaT S w) v n sz cs:=by
 rcases H.own k _ hk with⟨h1,h2,h3,_⟩|⟨b,c,fz,rfl,h1,h2,h3,h4,_⟩
 ·exact .inl ⟨⟨_,h1⟩,h2,h3⟩
 ·refine .inr ⟨b,0,c,cs++rs,T,fz,rfl,h1,yuI (H.old k _ b hk rfl).2 h4 rfl,by simp;omega,?_⟩;rw[zaS,List.drop_zero,<-h2,List.take_left'];rfl
theorem RdS.ofOwn{α:Type}[Rp α]{xs:List α}{k sz:Nat}{cs rs:LV}(H:HS B S w L)(hk:lkR L k=some (.osl v xs.length sz cs rs T))(hr:RL S cs xs)(hs:Rp.sz α=sz:=by rfl):RdS (yaT S w) v xs:=by subst hs;exact⟨cs,H.slOn hk,hr.mono (leOn S w)⟩
theorem ywE:args? n m []=[]:=rfl
theorem ygT{l:List Operand}{vs:LV}(h:evO n m x=v)(t:args? n m l=vs):args? n m (x::l)=v::vs:=by rw[<-h,<-t];rfl
theorem HS.ownOne{k N sz:Nat}{cs rs:LV}(H:HS B S w L)(hk:lkR L k=some (.osl v N sz cs rs T)):v.oneCell'=true:=by rcases H.own k _ hk with⟨h,_⟩|⟨b,c,fz,h,_⟩<;>rw[h]<;>rfl
def BA(b:Nat)(a:Value):Prop:=a = .pointer none∨a = .pointer (some ⟨b,0,none⟩)
def xcR:LV:=(cU 20).map fun i=>Value.int .u64 ((10^i:Nat):Int)
def TB(S:Mem):Prop:=∃t fz,S 3=some (.cells xcR.toArray t fz)
theorem TB.mono{S T:Mem}(h:TB S)(hl:Mem.le S T):TB T:=by
 first
 |exact trivial
 |(obtain⟨t,fz,h⟩:=h;exact⟨t,fz,hl _ _ h⟩)
structure GV (S:Mem):Prop where
 mx:∃ds T fz m,S 0=some (.cells ds T fz)/\ds[0]? = some (.int .i64 m)
 tb:TB S
theorem GV.mono{S T:Mem}(h:GV S)(hl:Mem.le S T):GV T:=by obtain⟨⟨ds,E,fz,m,h1,h2⟩,h3⟩:=h;exact⟨⟨ds,E,fz,m,hl _ _ h1,h2⟩,h3.mono hl⟩
theorem GV.cell(h:GV S)(hS:Sub S w):∃m,w.cell? ⟨0,0,none⟩=some (.int .i64 m):=by obtain⟨⟨ds,E,fz,m,h1,h2⟩,_⟩:=h;have h3:w.heap[0]? = some (.cells ds E fz):=hS _ _ h1;exact⟨m,by simp[World.cell?,h3,h2]⟩
end
end
section
theorem i32_rem(a:UInt32)(b:Int)(h:0<=b):eD (a.toNat:Int) b=((i32 (eD (a.toNat:Int) b)).toNat:Int):=by
 have h1:=a.toNat_lt;have h2:0<=eD (a.toNat:Int) b:=Int.tmod_nonneg _ (by omega);have h3:eD (a.toNat:Int) b<=(a.toNat:Int):=by obtain⟨n,rfl⟩:=dY h;rw[<-Int.ofNat_tmod];have:=Nat.mod_le a.toNat n;omega
 rw[yzU h2 (by omega)]
theorem i64_rem(a:UInt64)(b:Int)(h:0<=b):eD (a.toNat:Int) b=((i64 (eD (a.toNat:Int) b)).toNat:Int):=by
 have h1:=a.toNat_lt;have h2:0<=eD (a.toNat:Int) b:=Int.tmod_nonneg _ (by omega);have h3:eD (a.toNat:Int) b<=(a.toNat:Int):=by obtain⟨n,rfl⟩:=dY h;rw[<-Int.ofNat_tmod];have:=Nat.mod_le a.toNat n;omega
 rw[ypM h2 (by omega)]
section
variable {P:Program}{w:World}{B:Bas}{S:Mem}{L:List Res}{T T':TypeId}{e:Operand->Value}{x y:Operand}{v:Value}{dst:Option Tmp}{pos:String}{aft:Array Edge}{ty:TypeId}{g:Option (Nat×Bool)}
end
end
section
def EqR(P:Program)(n:Nat)(T:TypeId)(x y:Value)(t:Bool):Prop:=∀d w,(Op.equalIn (d+n) T x y).run P w = .ok t w
variable {P:Program}{n m:Nat}{T E:TypeId}{x y:Value}{t u:Bool}
theorem EqR.up(h:EqR P n T x y t)(k:Nat):EqR P (k+n) T x y t:=fun d w=>by have:=h (d+k) w;rwa[cY]at this
theorem EqR.le(h:EqR P n T x y t)(k:Nat)(hk:n<=k):EqR P k T x y t:=by have:=h.up (k-n);rwa[Nat.sub_add_cancel hk]at this
theorem eqI{k:IntKind}{a b:Int}(hu:P.underlying T=some (.int k))(h:(a==b)=t):EqR P 1 T (.int k a) (.int k b) t:=fun d w=>by rw[<-h];simp[Op.equalIn,Go.underlying,hu]
theorem eqB{a b:Bool}(hu:P.underlying T=some .bool):EqR P 1 T (.bool a) (.bool b) (a==b):=fun d w=>by simp[Op.equalIn,Go.underlying,hu]
theorem eqS{a b:Bs}(hu:P.underlying T=some .string):EqR P 1 T (str a) (str b) (a==b):=fun d w=>by
 have hb:((⟨a.toArray⟩:ByteArray)==⟨b.toArray⟩)=(a==b):=by show(a.toArray==b.toArray)=_;simp
 simp[Op.equalIn,Go.underlying,hu,str,hb]
inductive EqL (P:Program) (n:Nat) (xs ys:Array Value):List (TypeId×Nat)->Bool->Prop
 |nil:EqL P n xs ys [] true
 |cons {T o fs a b t u}:(∀w,(part T xs o).run P w = .ok a w)->(∀w,(part T ys o).run P w = .ok b w)->EqR P n T a b t->EqL P n xs ys fs u->EqL P n xs ys ((T,o)::fs) (t&&u)
theorem EqL.last{xs ys:Array Value}{T:TypeId}{o:Nat}{a b:Value}(h1:∀w,(part T xs o).run P w = .ok a w)(h2:∀w,(part T ys o).run P w = .ok b w)(h:EqR P n T a b t):EqL P n xs ys [(T,o)] t:=by
 have:=EqL.cons h1 h2 h EqL.nil
 rwa[Bool.and_true]at this
theorem partA{l l':LV}{o sz:Nat}(tg:TAgg P T sz)(h:piece l o sz=l')(w:World):(part T l.toArray o).run P w = .ok (.agg l'.toArray) w:=by subst h;simp[part,tg.1,tg.2,zaS]
theorem ylN{l:LV}{v:Value}{o:Nat}(tg:TOne P T)(h:l[o]? = some v)(w:World):(part T l.toArray o).run P w = .ok v w:=by simp[part,tg.1,h]
theorem eqFields {xs ys : Array Value} (d : Nat) : ∀ {fs : List Field} {t : Bool}, (∀ f ∈ fs, f.name ≠ "_") -> EqL P n xs ys (fs.map fun f => (f.type, f.offset)) t -> ∀ w : World,(do
   for f in fs do
    if f.name ≠ "_" then
     if !(<-Op.equalIn (d+n) f.type (<-part f.type xs f.offset) (<-part f.type ys f.offset))then return false
   pure true:Sem Bool).run P w = .ok t w
 |[],t,_,h,w=>by cases h;simp
 |f::fs,t,hn,h,w=>by
  have h0 : f.name ≠ "_" := hn f (by simp);cases h with
  |cons h1 h2 h3 h4=>have ih:=eqFields d (fun g hg=>hn g (by simp[hg])) h4 w;rename_i a b t u;cases t<;>simp_all [h3 d]
theorem EqR.str {xs ys : LV} {fs : Array Field} (hu : P.underlying T = some (.struct fs)) (hst : P.stoodInHeld T = false) (hn : fs.toList.all (fun f => f.name != "_") = true) {l:List (TypeId×Nat)} (hf:fs.toList.map (fun f=>(f.type,f.offset))=l) (h:EqL P n xs.toArray ys.toArray l t):EqR P (n+1) T (.agg xs.toArray) (.agg ys.toArray) t:=fun d w=>by subst hf;have:=eqFields d (fun f hf=>by have:=bK.1 hn f hf;simpa using this) h w;rw[<-cY];unfold Op.equalIn;simp only[Sem.run_bind,Go.underlying,run_program,Result.andThen_ok,hu,hst,Sem.run_pure,eW,if_false];simpa using this
theorem yzK{xs ys:Array Value}{sz:Nat}(d:Nat):∀{k i:Nat} {t:Bool},EqL P n xs ys ((dQ i k).map fun j=>(E,j*sz)) t->∀w:World,(do
   for i in dQ i k do
    if !(<-Op.equalIn (d+n) E (<-part E xs (i*sz)) (<-part E ys (i*sz)))then return false
   pure true:Sem Bool).run P w = .ok t w
 |0,i,t,h,w=>by cases h;simp
 |k+1,i,t,h,w=>by
  rw[eC,List.map_cons]at h;cases h with
  |cons h1 h2 h3 h4=>have ih:=yzK d h4 w;rename_i a b t u;rw[eC];cases t<;>simp_all [h3 d]
theorem EqR.arr{xs ys:LV}{k sz:Nat}(hu:P.underlying T=some (.array k E))(hs:∀w,(sizeOf E).run P w = .ok sz w) {l:List (TypeId×Nat)} (hf:(dQ 0 k).map (fun j=>(E,j*sz))=l) (h:EqL P n xs.toArray ys.toArray l t):EqR P (n+1) T (.agg xs.toArray) (.agg ys.toArray) t:=fun d w=>by subst hf;have:=yzK d h w;rw[<-cY];unfold Op.equalIn;simp only[Sem.run_bind,Go.underlying,run_program,Result.andThen_ok,hu,hs,Sem.run_pure];simpa[Std.Legacy.Range.forIn_eq_forIn_range',Std.Legacy.Range.size]using this
section
variable {w:World}{e:Operand->Value}{a b:Operand}{T' ty:TypeId}{pos:String}{aft:Array Edge}{dst:Option Tmp}{g:Option (Nat×Bool)}
theorem r_eqR{xs ys:Array Value}(hg:P.eqGuardType P.depth T=false)(hk:n<=10000)(h:EqR P n T (.agg xs) (.agg ys) t)(h1:e a = .agg xs)(h2:e b = .agg ys):(execOp e ⟨dst,.binOp .eql T a b T',ty,pos,aft,g⟩).run P w = .ok (.value (.bool t)) w:=by have key:(Op.equal T (.agg xs) (.agg ys)).run P w = .ok t w:=(h.le 10000 hk) 0 w;simp only[execOp,h1,h2,eqGuard,binOp,Sem.run_bind];simp[hg,key]
theorem r_neR{xs ys:Array Value}(hg:P.eqGuardType P.depth T=false)(hk:n<=10000)(h:EqR P n T (.agg xs) (.agg ys) t)(h1:e a = .agg xs)(h2:e b = .agg ys):(execOp e ⟨dst,.binOp .neq T a b T',ty,pos,aft,g⟩).run P w = .ok (.value (.bool (!t))) w:=by have key:(Op.equal T (.agg xs) (.agg ys)).run P w = .ok t w:=(h.le 10000 hk) 0 w;simp only[execOp,h1,h2,eqGuard,binOp,Sem.run_bind];simp[hg,key]
end
section
variable {ops:Array Oper}{k d i:Nat}{m:FM}{nh:Nat}{Φ:zhT}{W:World}{vs:Nat->Gv}{Fin:Act->Prop}{rest:List Oper}{ty:TypeId}{pos:String}{aft:Array Edge}{S:Mem}
end
end
section
variable {P:Program}{w:World}{T T':TypeId}{e:Operand->Value}{x y:Operand}{dst:Option Tmp}{pos:String}{aft:Array Edge}{ty:TypeId}{g:Option (Nat×Bool)}{a b:Int}{k:IntKind}
theorem r_addI(hx:e x = .int .i64 a)(hy:e y = .int .i64 b):(execOp e ⟨dst,.binOp .add T x y T',ty,pos,aft,g⟩).run P w = .ok (.value (.int .i64 (w64 (a+b)))) w:=r_add hx hy rfl
theorem r_lssI(hx:e x = .int k a)(hy:e y = .int k b):(execOp e ⟨dst,.binOp .lss T x y T',ty,pos,aft,g⟩).run P w = .ok (.value (.bool (decide (a<b)))) w:=r_lss hx hy rfl
end
section
variable {P:Program}{ops:Array Oper}{n:Nat}{Φ:zhT}{w0:World}
end
def rmE(pos:Nat->Nat)(e:Edge):Edge:={ e with on:=pos e.on }
def rmO(pos:Nat->Nat)(o:Oper):Oper:={ o with after:=(o.after.toList.map (rmE pos)).toArray,guard:=o.guard.map fun p=>(pos p.1,p.2) }
structure PermS (ops ops':Array Oper) (pos inv:Nat->Nat):Prop where
 size:ops'.size=ops.size
 lt:∀i:Nat,i<ops.size->pos i<ops.size
 li:∀i,i<ops.size->inv (pos i)=i
 lt':∀j,j<ops.size->inv j<ops.size
 ri:∀j,j<ops.size->pos (inv j)=j
 at_:∀(i:Nat) (o:Oper),ops[i]? = some o->ops'[pos i]? = some (rmO pos o)
 edge:∀(i:Nat) (o:Oper),ops[i]? = some o->∀e∈o.after,e.on<ops.size
 guard:∀(i:Nat) (o:Oper),ops[i]? = some o->∀p,o.guard=some p->p.1<ops.size
section
variable {P:Program}{ops ops':Array Oper}{pos inv:Nat->Nat}{Q:Exit->Act->World->Prop}
theorem PermS.yield(S:PermS ops ops' pos inv){tmps:Array Value}{j:Nat}(hj:j<ops.size):yielded ops' tmps (pos j)=yielded ops tmps j:=by have h:=S.at_ j ops[j] (cW hj);unfold yielded;rw[h,cW hj];rfl
theorem PermS.want(S:PermS ops ops' pos inv){i:Nat}{o:Oper}{tmps:Array Value}(ho:ops[i]? = some o):Region.wanted (rmO pos o) (yielded ops' tmps)=Region.wanted o (yielded ops tmps):=by
 cases hg:o.guard with
 |none=>rw[show Region.wanted o (yielded ops tmps)=true by simp only[Region.wanted,hg]];simp only[Region.wanted,rmO,hg,Option.map_none]|some p=>obtain⟨g,b⟩:=p;have h:=S.yield (tmps:=tmps) (S.guard i o ho _ hg);simp only[Region.wanted,rmO,hg,bA]at h ⊢;rw[h]
theorem PermS.ready(S:PermS ops ops' pos inv){L L':Array Bool}(hs:L.size=ops.size)(hs':L'.size=ops.size)(hL:∀i,i<ops.size->L'.getD (pos i) false=L.getD i false){i:Nat}(hi:i<ops.size):
  pos i∈Region.ready .any ops' L'↔i∈Region.ready .any ops L:=by
 have hp:=S.lt i hi;have h1:L'.getD (pos i) true=L.getD i true:=by have:=hL i hi;simp only[Array.getD,hs,hs',hi,hp,dif_pos]at this ⊢;exact this
 constructor
 ·intro h;obtain⟨g1,o',ho',hd⟩:=mem_ready.1 h;have ho:=cW hi;have e:=S.at_ i _ ho;rw[e]at ho';cases ho';refine mem_ready.2 ⟨by rw[<-h1];exact g1,_,ho,fun e he hb=>?_⟩;have:=hd (rmE pos e) (List.mem_toArray.2 (bF.2 ⟨e,Array.mem_def.1 he,rfl⟩)) hb;rw[<-hL e.on (S.edge i _ ho e he)];exact this
 ·intro h;obtain⟨g1,o,ho,hd⟩:=mem_ready.1 h;refine mem_ready.2 ⟨by rw[h1];exact g1,_,S.at_ i o ho,fun e' he' hb=>?_⟩;obtain⟨e,he,rfl⟩:=bF.1 (List.mem_toArray.1 he');have he:=Array.mem_def.2 he;have:=hd e he hb;show L'.getD (pos e.on) false=true;rw[hL e.on (S.edge i o ho e he)];exact this
theorem yxN(S:PermS ops ops' pos inv):∀(m:Nat) (L L':Array Bool) (a:Act) (w:World),L.size=ops.size->L'.size=ops.size->(∀i,i<ops.size->L'.getD (pos i) false=L.getD i false)->wpAny P .any ops' Q m L' a w->wpAny P .any ops Q m L a w:=by
 have nil:∀{L L':Array Bool},L.size=ops.size->L'.size=ops.size->(∀i,i<ops.size->L'.getD (pos i) false=L.getD i false)->(Region.ready .any ops L=[]↔Region.ready .any ops' L'=[]):=fun {L L'} hs hs' hL=>by
  rw[eV,eV];constructor
  ·intro h j hj;have hjn:j<ops.size:=by obtain⟨_,o,ho,_⟩:=mem_ready.1 hj;have:=(aR.1 ho).1;rw[S.size]at this;exact this
   refine h (inv j) ((S.ready hs hs' hL (S.lt' j hjn)).1 ?_);rw[S.ri j hjn];exact hj
  ·intro h i hi;have hin:i<ops.size:=by obtain⟨_,o,ho,_⟩:=mem_ready.1 hi;exact(aR.1 ho).1
   exact h (pos i) ((S.ready hs hs' hL hin).2 hi)
 intro m;induction m with
 |zero=>intro L L' a w hs hs' hL h;exact⟨(nil hs hs' hL).2 h.1,h.2⟩|succ m ih=>
  intro L L' a w hs hs' hL h;refine⟨fun h0=>h.1 ((nil hs hs' hL).1 h0),fun i hi=>?_⟩;obtain⟨_,o,ho,_⟩:=mem_ready.1 hi;have hin:=(aR.1 ho).1;have h2:=h.2 (pos i) ((S.ready hs hs' hL hin).2 hi)
  have hL2:∀k,k<ops.size->(L'.setIfInBounds (pos i) true).getD (pos k) false=(L.setIfInBounds i true).getD k false:=fun k hk=>by
   by_cases hki:k=i
   ·subst hki;simp[Array.getD,hs,hs',hin,S.lt k hin]
   ·have hpk:pos i≠pos k:=fun e=>hki (by rw[<-S.li k hk,<-S.li i hin,e]);rw[getD_set_ne false hpk,getD_set_ne false (Ne.symm hki)];exact hL k hk
  have hK:∀a w,wpAny P .any ops' Q m (L'.setIfInBounds (pos i) true) a w->wpAny P .any ops Q m (L.setIfInBounds i true) a w:=fun a w=>ih _ _ a w (by simp[hs]) (by simp[hs']) hL2;refine wpOp_mono hK ?_;unfold wpOp at h2 ⊢;rw[S.at_ i o ho]at h2;rw[ho];simp only at h2 ⊢;rw[S.want ho]at h2;exact h2
theorem RegAny.perm{l l':List Oper}{a:Act}{w:World}(S:PermS l.toArray l'.toArray pos inv)(h:RegAny P l' Q a w):RegAny P l Q a w:=by unfold RegAny at h ⊢;rw[S.size]at h;refine yxN S _ _ _ _ _ (by simp) (by simp) (fun i hi=>?_) h;rw[getD_replicate_false,getD_replicate_false]
end
inductive SK where
 |pu|la|rv|mn
abbrev Sch:=List (SK×Nat)
def dslk(ops:Array Oper)(j:Nat):Option Tmp:=match ops[j]? with
 |some o=>o.dst|none=>none
def ziD(ops:Array Oper)(i:Nat):List Nat:=match ops[i]? with
 |some o=>zfH o|none=>[]
def yvF(ops:Array Oper)(i:Nat):List Tmp:=match ops[i]? with
 |some o=>o.looksAt ops|none=>[]
def ancB(ops:Array Oper)(i j:Nat):Bool:=(anc ops ops.size (ziD ops i)).contains j
def pairB(ops:Array Oper)(late mains:List Nat)(i j:Nat):Bool:=match dslk ops j with
 |none=>true|some d=>(j==i||dslk ops i != some d)&&(!(yvF ops i).contains d||(j != i&&((ancB ops i j&&(!late.contains j||mains.contains i))||(mains.contains j&&ancB ops j i))))
def statB(ops:Array Oper)(late mains:List Nat):Bool:=
 Region.noSelect ops&&(cU ops.size).all (fun i=>(ziD ops i).all (fun j=>decide (j<i))&&(cU ops.size).all (pairB ops late mains i))&&late.all (fun i=>!mains.contains i)
def ztL:Sch->Option Nat
 |(.rv,_)::s=>ztL s|(.mn,m)::_=>some m|_=>none
def schB(ops:Array Oper)(late mains:List Nat):Sch->List Nat->List Nat->Bool->Bool
 |[],D,U,_=>U.isEmpty&&(cU ops.size).all D.contains|(.pu,i)::s,D,U,f=>!f&&decide (i<ops.size) && !D.contains i && !late.contains i && !mains.contains i&&(ziD ops i).all D.contains&&schB ops late mains s (i::D) U f|(.la,i)::s,D,U,f=>!f&&decide (i<ops.size) && !D.contains i&&late.contains i&&(ziD ops i).all D.contains&&schB ops late mains s (i::D) (i::U) f|(.rv,i)::s,D,U,_=>U.contains i&&(match ztL s with
  |some m=>ancB ops m i|none=>(cU ops.size).all D.contains&&s.all fun p=>match p.1 with
   |.rv=>true|_=>false)&&schB ops late mains s D (U.filter fun u=>u != i) true
 |(.mn,i)::s,D,U,_=>decide (i<ops.size) && !D.contains i&&mains.contains i&&(ziD ops i).all D.contains&&(cU ops.size).all (fun j=>D.contains j||j==i||(ziD ops j).any fun d=>!D.contains d) &&
   U.all (fun u=>match dslk ops u with
    |some d=>!(yvF ops i).contains d|none=>true)&&schB ops late mains s (i::D) U false
section
variable {P:Program}{ops:Array Oper}{Q:Exit->Act->World->Prop}{Dsc:Nat->Value->Nat->Obj->Prop}{late mains:List Nat}
def updD(Dsc:Nat->Value->Nat->Obj->Prop)(i:Nat)(D:Value->Nat->Obj->Prop):Nat->Value->Nat->Obj->Prop:=fun t=>if t=i then D else Dsc t
def updJ(Jp:Nat->World->Prop)(i:Nat)(J:World->Prop):Nat->World->Prop:=fun t=>if t=i then J else Jp t
def ysJ(ops:Array Oper)(i:Nat)(Pn:List Nat):List Nat:=Pn.filter fun j=>!ancB ops i j
def wpS(P:Program)(ops:Array Oper)(Q:Exit->Act->World->Prop):Sch->(Dsc:Nat->Value->Nat->Obj->Prop)->(Jp:Nat->World->Prop)->(Pn:List Nat)->(G:World->Prop)->(Kp:Nat->Prop)->Act->Prop
 |[],_,_,_,G,_,b=>∀w,G w->Q .normal b w|(.pu,i)::s,Dsc,Jp,Pn,G,Kp,b=>∃(o:Oper) (c:Value) (J:World->Prop),ops[i]? = some o/\((Region.wanted o (yielded ops b.tmps)=true/\∀w,J w->(execOp b.eval o).run P w = .ok (.value c) w)∨(Region.wanted o (yielded ops b.tmps)=false/\c=undef))/\(∀w,G w->J w)/\wpS P ops Q s Dsc (updJ Jp i J) (i::Pn) G Kp (b.put o.dst c)|(.la,i)::s,Dsc,Jp,Pn,G,Kp,b=>∃(o:Oper) (D:Value->Nat->Obj->Prop),ops[i]? = some o/\Region.wanted o (yielded ops b.tmps)=true/\(∀w,∃v k x w',(execOp b.eval o).run P w = .ok (.value v) w'/\Ext w w'/\w.heap.size<=k/\w'.heap[k]? = some x/\D v k x)/\wpS P ops Q s (updD Dsc i D) Jp Pn G Kp b|(.rv,i)::s,Dsc,Jp,Pn,G,Kp,b=>∃o,ops[i]? = some o/\∀v k x,Dsc i v k x->¬Kp k->(∃w,G w/\w.heap[k]? = some x)->∃(G':World->Prop) (Kp':Nat->Prop),(∀w,G w->w.heap[k]? = some x->G' w)/\(∀j∈Pn,∀w,G' w->Jp j w)/\(∀u u',G' u->Ext u u'->G' u')/\(∀u,G' u->∀k,Kp' k->k<u.heap.size)/\(∀b,Kp' b->Kp b∨b=k)/\wpS P ops Q s Dsc Jp Pn G' Kp' (b.put o.dst v)|(.mn,i)::s,Dsc,Jp,Pn,G,Kp,b=>∃o,ops[i]? = some o/\∀w,G w->(Region.wanted o (yielded ops b.tmps)=true/\outcome P (fun v w'=>∃(G':World->Prop) (Kp':Nat->Prop),(∀j∈ysJ ops i Pn,∀u,G' u->Jp j u)/\(∀u u',G' u->Ext u u'->G' u')/\(∀u,G' u->∀k,Kp' k->k<u.heap.size)/\G' w'/\(∀k,Kp' k->Kp k∨w.heap.size<=k)/\(∀k,k<w.heap.size->¬Kp k->w'.heap[k]? = w.heap[k]?)/\wpS P ops Q s Dsc Jp (ysJ ops i Pn) G' Kp' (b.put o.dst v)) ((execOp b.eval o).run P w))∨(Region.wanted o (yielded ops b.tmps)=false/\wpS P ops Q s Dsc Jp (ysJ ops i Pn) G Kp (b.put o.dst undef))
def OpenAt(late mains:List Nat)(D U:List Nat)(L:Array Bool)(i:Nat):Prop:=i∈D/\((i∈U/\L.getD i false=true)∨(i∉mains/\i∉late/\L.getD i false=false))
structure SInv (P:Program) (ops:Array Oper) (Dsc:Nat->Value->Nat->Obj->Prop) (late mains:List Nat) (Jp:Nat->World->Prop) (Pn:List Nat) (G:World->Prop) (Kp:Nat->Prop) (D U:List Nat) (L:Array Bool) (a b:Act) (w:World) (V:Nat->Value) (bk:Nat->Nat) (ob:Nat->Obj):Prop where
 size:L.size=ops.size
 sub:∀i,L.getD i false=true->i∈D
 lt:∀i∈D,i<ops.size
 dcl:∀i∈D,∀j∈ziD ops i,j∈D
 lcl:∀i,L.getD i false=true->∀j∈ziD ops i,L.getD j false=true
 mdone:∀i∈D,i∈mains->L.getD i false=true
 udone:∀i∈D,i∈late->i∉U->L.getD i false=true
 uD:∀i∈U,i∈D/\i∈late
 pp:∀i∈D,i∉mains->i∉late->L.getD i false=false->∀o,ops[i]? = some o->∃c,((Region.wanted o (yielded ops b.tmps)=true/\∀w,Jp i w->(execOp b.eval o).run P w = .ok (.value c) w)∨(Region.wanted o (yielded ops b.tmps)=false/\c=undef))/\∀s,o.dst=some s->b.tmps[s]? = (a.tmps[s]?).map fun _=>c
 lu:∀i∈U,L.getD i false=false->∀o,ops[i]? = some o->Region.wanted o (yielded ops b.tmps)=true/\∀w,∃v k x w',(execOp b.eval o).run P w = .ok (.value v) w'/\Ext w w'/\w.heap.size<=k/\w'.heap[k]? = some x/\Dsc i v k x
 lf:∀i∈U,L.getD i false=true->Dsc i (V i) (bk i) (ob i)/\w.heap[bk i]? = some (ob i)/\¬Kp (bk i)/\∀o s,ops[i]? = some o->o.dst=some s->a.tmps[s]? = (b.tmps[s]?).map fun _=>V i
 lj:∀i∈U,∀j∈U,L.getD i false=true->L.getD j false=true->bk i=bk j->i=j
 other:∀s,(∀i o,OpenAt late mains D U L i->ops[i]? = some o->o.dst≠some s)->a.tmps[s]? = b.tmps[s]?
 defers:a.defers=b.defers
 gw:G w
 pn:∀i∈D,i∉mains->i∉late->L.getD i false=false->i∈Pn
 gj:∀j∈Pn,∀u,G u->Jp j u
 gx:∀u u',G u->Ext u u'->G u'
 gk:∀u,G u->∀k,Kp k->k<u.heap.size
structure ycR (ops:Array Oper) (late mains:List Nat):Prop where
 sel:Region.noSelect ops=true
 deps:∀i,i<ops.size->∀j∈ziD ops i,j<i
 dst:∀(i j:Nat) (oi oj:Oper) (d:Tmp),ops[i]? = some oi->ops[j]? = some oj->oj.dst=some d->j≠i->oi.dst≠some d
 look:∀(i j:Nat) (oi oj:Oper) (d:Tmp),ops[i]? = some oi->ops[j]? = some oj->oj.dst=some d->d∈oi.looksAt ops->j≠i/\((ancB ops i j=true/\(j∈late->i∈mains))∨(j∈mains/\ancB ops j i=true))
 dis:∀i∈late,i∉mains
theorem stat_of(h:statB ops late mains=true):ycR ops late mains:=by
 unfold statB at h;simp only[aH,bK,cQ,zD]at h;obtain⟨⟨h1,h2⟩,h3⟩:=h;have hsz:∀{i:Nat} {o:Oper},ops[i]? = some o->i<ops.size:=fun h=>(aR.1 h).1;refine⟨h1,fun i hi=>(h2 i hi).1,fun i j oi oj d hi hj hd hne=>?_,fun i j oi oj d hi hj hd hl=>?_,fun i hi hm=>?_⟩
 ·have:=(h2 i (hsz hi)).2 j (hsz hj);unfold pairB dslk at this;simp only[hi,hj,hd,aH,bX,beq_iff_eq,hne,false_or,bne_iff_ne]at this;exact this.1
 ·have:=(h2 i (hsz hi)).2 j (hsz hj);unfold pairB dslk yvF at this;simp only[hi,hj,hd,aH,bX,bE,bY,decide_eq_false_iff_not,bne_iff_ne,zD]at this;rcases this.2 with h|⟨h,h4⟩
  ·exact absurd hl h
  ·refine⟨h,h4.imp (fun h=>⟨h.1,fun hh=>h.2.resolve_left (fun k=>k hh)⟩) id⟩
 ·have:=h3 i hi;simp only[bE,bY,decide_eq_false_iff_not]at this;exact this hm
theorem ydA{i:Nat}{o:Oper}(h:ops[i]? = some o):ziD ops i=zfH o:=by unfold ziD;rw[h]
theorem yaM{L:Array Bool}(hl:∀i,L.getD i false=true->∀j∈ziD ops i,L.getD j false=true){i j:Nat}(hd:∀k∈ziD ops i,L.getD k false=true)(h:ancB ops i j=true):L.getD j false=true:=by unfold ancB at h;simp only[bY,zD]at h;exact ylW (p:=fun q=>L.getD q false=true) (N:=ops.size) (fun q oq _ hq hoq r hr=>hl q hq r (by rw[ydA hoq];exact hr)) ops.size _ (aK _) hd j h
theorem anc_D{D:List Nat}(hl:∀i∈D,∀j∈ziD ops i,j∈D){i j:Nat}(hi:i∈D)(h:ancB ops i j=true):j∈D:=by unfold ancB at h;simp only[bY,zD]at h;exact ylW (p:=fun q=>q∈D) (N:=ops.size) (fun q oq _ hq hoq r hr=>hl q hq r (by rw[ydA hoq];exact hr)) ops.size _ (aK _) (hl i hi) j h
theorem SInv.agree{Jp:Nat->World->Prop}{Pn:List Nat}{G:World->Prop}{Kp:Nat->Prop}{D U:List Nat}{L:Array Bool}{a b:Act}{w:World}{V:Nat->Value}{bk:Nat->Nat}{ob:Nat->Obj}(I:SInv P ops Dsc late mains Jp Pn G Kp D U L a b w V bk ob)(S:ycR ops late mains){i:Nat}{o:Oper}(ho:ops[i]? = some o) (hd:∀k∈ziD ops i,L.getD k false=true) (hu:i∈mains->∀u∈U,∀d,dslk ops u=some d->d∉o.looksAt ops):∀t∈o.looksAt ops,a.tmps[t]? = b.tmps[t]?:=fun t ht=>I.other t fun j oj hj hoj hdj=>by
 obtain⟨hne,h⟩:=S.look i j o oj t ho hoj hdj ht;have hlate:j∈U->i∈mains->False:=fun hjU him=>hu him j hjU t (by unfold dslk;rw[hoj];exact hdj) ht;rcases h with⟨h1,h2⟩|⟨h1,_⟩
 ·have hl:=yaM I.lcl hd h1;rcases hj.2 with⟨hjU,_⟩|⟨_,_,h3⟩
  ·exact hlate hjU (h2 (I.uD j hjU).2)
  ·rw[hl]at h3;cases h3
 ·rcases hj.2 with⟨hjU,_⟩|⟨h3,_⟩
  ·exact S.dis j (I.uD j hjU).2 h1
  ·exact h3 h1
theorem SInv.ran{Jp:Nat->World->Prop}{Pn:List Nat}{G:World->Prop}{Kp:Nat->Prop}{D U:List Nat}{L:Array Bool}{a b:Act}{w:World}{V:Nat->Value}{bk:Nat->Nat}{ob:Nat->Obj}(I:SInv P ops Dsc late mains Jp Pn G Kp D U L a b w V bk ob)(S:ycR ops late mains){i:Nat}{o:Oper}(ho:ops[i]? = some o) (hd:∀k∈ziD ops i,L.getD k false=true) (hu:i∈mains->∀u∈U,∀d,dslk ops u=some d->d∉o.looksAt ops):execOp a.eval o=execOp b.eval o/\Region.wanted o (yielded ops a.tmps)=Region.wanted o (yielded ops b.tmps):=
 zzG (fun cs c=>Region.noSelect_spec S.sel i o cs c ho) (I.agree S ho hd hu)
theorem zfC{L:Array Bool}{j:Nat}(hj:j<L.size)(k:Nat):(L.setIfInBounds j true).getD k false=true↔L.getD k false=true∨k=j:=by
 by_cases hkj:k=j
 ·subst hkj;simp[hj]
 ·rw[getD_set_ne false (Ne.symm hkj)];simp[hkj]
theorem ydB{L:Array Bool}{j:Nat}(hj:j<L.size){k:Nat}(h:(L.setIfInBounds j true).getD k false=false):L.getD k false=false/\k≠j:=by have:=mt (zfC hj k).2 (by rw[h];simp);simp only[not_or]at this;exact⟨by simpa using this.1,this.2⟩
section
variable {Jp:Nat->World->Prop}{Pn:List Nat}{G:World->Prop}{Kp:Nat->Prop}{D U:List Nat}{L:Array Bool}{a b:Act}{w:World}{V:Nat->Value}{bk:Nat->Nat}{ob:Nat->Obj}{i:Nat}{o:Oper}
theorem zwK(S:ycR ops late mains){j:Nat}{oj:Oper}(hoj:ops[j]? = some oj){v:Value}(h:∀d,o.dst=some d->d∉oj.looksAt ops):execOp (b.put o.dst v).eval oj=execOp b.eval oj/\Region.wanted oj (yielded ops (b.put o.dst v).tmps)=Region.wanted oj (yielded ops b.tmps):=
 zzG (fun cs c=>Region.noSelect_spec S.sel j oj cs c hoj) fun t ht=>by rw[zcE,zH fun e=>h t e ht]
theorem SInv.pu(I:SInv P ops Dsc late mains Jp Pn G Kp D U L a b w V bk ob)(S:ycR ops late mains)(ho:ops[i]? = some o)(hi:i∉D)(h1:i∉late)(h2:i∉mains)(hd:∀k∈ziD ops i,k∈D){c:Value}{J:World->Prop} (hc:(Region.wanted o (yielded ops b.tmps)=true/\∀w,J w->(execOp b.eval o).run P w = .ok (.value c) w)∨(Region.wanted o (yielded ops b.tmps)=false/\c=undef)) (hJ:∀w,G w->J w):SInv P ops Dsc late mains (updJ Jp i J) (i::Pn) G Kp (i::D) U L a (b.put o.dst c) w V bk ob:=by
 have hsz:i<ops.size:=(aR.1 ho).1;have hnl:L.getD i false=false:=by
  cases h:L.getD i false with
  |false=>rfl|true=>exact absurd (I.sub i h) hi
 have mem:∀{k},k∈i::D->k≠i->k∈D:=fun h hn=>(aL.1 h).resolve_left hn
 have far:∀{j oj},j∈D->ops[j]? = some oj->∀d,o.dst=some d->d∉oj.looksAt ops:=fun {j oj} hj hoj d hdd hl=>by
  obtain⟨_,h|⟨h,_⟩⟩:=S.look j i oj o d hoj ho hdd hl
  ·exact hi (anc_D I.dcl hj h.1)
  ·exact h2 h
 refine { I with sub:=fun k hk=>aN _ (I.sub k hk),lt:=fun k hk=>?_,dcl:=fun k hk j hj=>?_,mdone:=fun k hk hm=>?_,udone:=fun k hk hm hu=>?_,uD:=fun k hk=>⟨aN _ (I.uD k hk).1,(I.uD k hk).2⟩,pp:=fun k hk hm hl hn ok hok=>?_,lu:=fun k hk hn ok hok=>?_,lf:=fun k hk hl=>?_,other:=fun s hs=>?_,defers:=?_,pn:=fun k hk hm hl hn=>?_,gj:=fun k hk u hu=>?_ }
 ·rcases aL.1 hk with rfl|hk
  ·exact hsz
  ·exact I.lt k hk
 ·rcases aL.1 hk with rfl|hk
  ·exact aN _ (hd j hj)
  ·exact aN _ (I.dcl k hk j hj)
 ·exact I.mdone k (mem hk fun e=>h2 (e▸hm)) hm
 ·exact I.udone k (mem hk fun e=>h1 (e▸hm)) hm hu
 ·by_cases e:k=i
  ·subst e;have:ok=o:=osi (hok.symm.trans ho);subst this;have hself:∀d,ok.dst=some d->d∉ok.looksAt ops:=fun d hdd hll=>(S.look k k ok ok d ho ho hdd hll).1 rfl;obtain⟨e1,e2⟩:=zwK (b:=b) (v:=c) S ho hself;refine⟨c,by rw[e1,e2,show updJ Jp k J k=J by unfold updJ;rw[zI rfl]];exact hc,fun s hs=>?_⟩;rw[zcE,zI hs];rw[<-I.other s fun j oj hj hoj hdj=>?_];by_cases hji:j=k
   ·subst hji;exact absurd hj.1 hi
   ·exact S.dst j k oj ok s hoj ho hs (Ne.symm hji) hdj
  ·obtain⟨c',g1,g2⟩:=I.pp k (mem hk e) hm hl hn ok hok;obtain⟨e1,e2⟩:=zwK (b:=b) (v:=c) S hok (far (mem hk e) hok);refine⟨c',by rw[e1,e2,show updJ Jp i J k=Jp k by unfold updJ;rw[zH e]];exact g1,fun s hs=>?_⟩;rw[zcE,zH (S.dst i k o ok s ho hok hs e)];exact g2 s hs
 ·obtain⟨e1,e2⟩:=zwK (b:=b) (v:=c) S hok (far (I.uD k hk).1 hok);rw[e1,e2];exact I.lu k hk hn ok hok
 ·obtain⟨g1,g2,g3,g4⟩:=I.lf k hk hl;refine⟨g1,g2,g3,fun ok s hok hs=>?_⟩;have e:k≠i:=fun e=>hi (e▸(I.uD k hk).1);rw[zcE,zH (S.dst i k o ok s ho hok hs e)];exact g4 ok s hok hs
 ·by_cases hds:o.dst=some s
  ·exact absurd hds (hs i o ⟨aO,.inr ⟨h2,h1,hnl⟩⟩ ho)
  ·rw[zcE,zH hds];exact I.other s fun j oj hj hoj=>hs j oj ⟨aN _ hj.1,hj.2⟩ hoj
 ·rw[I.defers];cases o.dst<;>rfl
 ·by_cases e:k=i
  ·subst e;exact aO
  ·exact aN _ (I.pn k (mem hk e) hm hl hn)
 ·by_cases e:k=i
  ·subst e;rw[show updJ Jp k J k=J by unfold updJ;rw[zI rfl]];exact hJ u hu
  ·rw[show updJ Jp i J k=Jp k by unfold updJ;rw[zH e]];exact I.gj k ((aL.1 hk).resolve_left e) u hu
theorem SInv.la(I:SInv P ops Dsc late mains Jp Pn G Kp D U L a b w V bk ob)(ho:ops[i]? = some o)(hi:i∉D)(h1:i∈late)(h2:i∉mains)(hd:∀k∈ziD ops i,k∈D) {Di:Value->Nat->Obj->Prop} (hc:Region.wanted o (yielded ops b.tmps)=true/\∀w,∃v k x w',(execOp b.eval o).run P w = .ok (.value v) w'/\Ext w w'/\w.heap.size<=k/\w'.heap[k]? = some x/\Di v k x):SInv P ops (updD Dsc i Di) late mains Jp Pn G Kp (i::D) (i::U) L a b w V bk ob:=by
 have oth:∀{k},k∈U->updD Dsc i Di k=Dsc k:=fun {k} hk=>by have:k≠i:=fun e=>hi (e▸(I.uD k hk).1);unfold updD;rw[zH this]
 have hsz:i<ops.size:=(aR.1 ho).1;have hnl:L.getD i false=false:=by
  cases h:L.getD i false with
  |false=>rfl|true=>exact absurd (I.sub i h) hi
 have hlist:∀{k},k∈i::U->L.getD k false=true->k∈U:=fun {k} hk hl=>by
  rcases aL.1 hk with rfl|hk
  ·rw[hnl]at hl;cases hl
  ·exact hk
 refine { I with sub:=fun k hk=>aN _ (I.sub k hk),lt:=fun k hk=>?_,dcl:=fun k hk j hj=>?_,mdone:=fun k hk hm=>?_,udone:=fun k hk hm hu=>?_,uD:=fun k hk=>?_,pp:=fun k hk hm hl hn ok hok=>?_,lu:=fun k hk hn ok hok=>?_,lf:=fun k hk hl=>(by rw[oth (hlist hk hl)];exact I.lf k (hlist hk hl) hl),lj:=fun k hk j hj g1 g2=>I.lj k (hlist hk g1) j (hlist hj g2) g1 g2,other:=fun s hs=>?_,pn:=fun k hk hm hl hn=>?_ }
 ·rcases aL.1 hk with rfl|hk
  ·exact hsz
  ·exact I.lt k hk
 ·rcases aL.1 hk with rfl|hk
  ·exact aN _ (hd j hj)
  ·exact aN _ (I.dcl k hk j hj)
 ·rcases aL.1 hk with rfl|hk
  ·exact absurd hm h2
  ·exact I.mdone k hk hm
 ·rcases aL.1 hk with rfl|hk
  ·exact absurd aO hu
  ·exact I.udone k hk hm fun h=>hu (aN _ h)
 ·rcases aL.1 hk with rfl|hk
  ·exact⟨aO,h1⟩
  ·exact⟨aN _ (I.uD k hk).1,(I.uD k hk).2⟩
 ·rcases aL.1 hk with rfl|hk
  ·exact absurd h1 hl
  ·exact I.pp k hk hm hl hn ok hok
 ·rcases aL.1 hk with rfl|hk
  ·have:ok=o:=osi (hok.symm.trans ho);subst this;rw[show updD Dsc k Di k=Di by unfold updD;rw[zI rfl]];exact hc
  ·rw[oth hk];exact I.lu k hk hn ok hok
 ·refine I.other s fun j oj hj hoj=>hs j oj ⟨aN _ hj.1,hj.2.imp (fun h=>⟨aN _ h.1,h.2⟩) id⟩ hoj
 ·rcases aL.1 hk with rfl|hk
  ·exact absurd h1 hl
  ·exact I.pn k hk hm hl hn
theorem SInv.nolook(_I:SInv P ops Dsc late mains Jp Pn G Kp D U L a b w V bk ob)(S:ycR ops late mains)(ho:ops[i]? = some o)(hi:i∈late){k:Nat}{ok:Oper}(hok:ops[k]? = some ok)(hk:k∉mains):∀d,o.dst=some d->d∉ok.looksAt ops:=fun d hd hl=>by
 obtain⟨_,h|h⟩:=S.look k i ok o d hok ho hd hl
 ·exact hk (h.2 hi)
 ·exact S.dis i hi h.1
theorem SInv.exP(I:SInv P ops Dsc late mains Jp Pn G Kp D U L a b w V bk ob)(S:ycR ops late mains)(ho:ops[i]? = some o)(hi:i∈D)(h1:i∉late)(hd:∀k∈ziD ops i,L.getD k false=true){c:Value} (hc:∀s,o.dst=some s->b.tmps[s]? = (a.tmps[s]?).map fun _=>c):SInv P ops Dsc late mains Jp Pn G Kp D U (L.setIfInBounds i true) (a.put o.dst c) b w V bk ob:=by
 have hsz:i<L.size:=by rw[I.size];exact(aR.1 ho).1
 have up:∀{k},L.getD k false=true->(L.setIfInBounds i true).getD k false=true:=fun h=>(zfC hsz _).2 (.inl h);have dn:∀{k},k∈U->(L.setIfInBounds i true).getD k false=true->L.getD k false=true:=fun {k} hk h=>((zfC hsz _).1 h).resolve_right fun e=>h1 (e▸(I.uD k hk).2);refine { I with size:=by simp[I.size],sub:=fun k hk=>?_,lcl:=fun k hk j hj=>?_,mdone:=fun k hk hm=>up (I.mdone k hk hm),udone:=fun k hk hm hu=>up (I.udone k hk hm hu),pp:=fun k hk hm hl hn ok hok=>?_,lu:=fun k hk hn ok hok=>I.lu k hk (ydB hsz hn).1 ok hok,lf:=fun k hk hl=>?_,lj:=fun k hk j hj g1 g2=>I.lj k hk j hj (dn hk g1) (dn hj g2),other:=fun s hs=>?_,defers:=?_,pn:=fun k hk hm hl hn=>I.pn k hk hm hl (ydB hsz hn).1 }
 ·rcases(zfC hsz k).1 hk with h|rfl
  ·exact I.sub k h
  ·exact hi
 ·rcases(zfC hsz k).1 hk with h|rfl
  ·exact up (I.lcl k h j hj)
  ·exact up (hd j hj)
 ·obtain⟨hn,hne⟩:=ydB hsz hn;obtain⟨c',g1,g2⟩:=I.pp k hk hm hl hn ok hok;refine⟨c',g1,fun s hs=>?_⟩;rw[zcE,zH (S.dst i k o ok s ho hok hs hne)];exact g2 s hs
 ·obtain⟨g1,g2,g3,g4⟩:=I.lf k hk (dn hk hl);refine⟨g1,g2,g3,fun ok s hok hs=>?_⟩;rw[zcE,zH (S.dst i k o ok s ho hok hs fun e=>h1 (e▸(I.uD k hk).2))];exact g4 ok s hok hs
 ·rw[zcE];by_cases hds:o.dst=some s
  ·rw[zI hds];exact(hc s hds).symm
  ·rw[zH hds];refine I.other s fun j oj hj hoj hdj=>?_;by_cases hji:j=i
   ·subst hji;exact hds (by rw[<-osi (hoj.symm.trans ho)];exact hdj)
   ·refine hs j oj ⟨hj.1,hj.2.imp (fun h=>⟨h.1,up h.2⟩) fun h=>⟨h.1,h.2.1,?_⟩⟩ hoj hdj;rw[getD_set_ne false (Ne.symm hji)];exact h.2.2
 ·rw[<-I.defers];cases o.dst<;>rfl
theorem SInv.exL(I:SInv P ops Dsc late mains Jp Pn G Kp D U L a b w V bk ob)(S:ycR ops late mains)(ho:ops[i]? = some o)(hi:i∈U)(hn:L.getD i false=false)(hd:∀k∈ziD ops i,L.getD k false=true){v:Value}{k:Nat}{x:Obj}{w':World} (hx:Ext w w') (hk:w.heap.size<=k) (hh:w'.heap[k]? = some x) (hD:Dsc i v k x):SInv P ops Dsc late mains Jp Pn G Kp D U (L.setIfInBounds i true) (a.put o.dst v) b w' (fun t=>if t=i then v else V t) (fun t=>if t=i then k else bk t) (fun t=>if t=i then x else ob t):=by
 have hsz:i<L.size:=by rw[I.size];exact(aR.1 ho).1
 have hil:=(I.uD i hi).2;have up:∀{k},L.getD k false=true->(L.setIfInBounds i true).getD k false=true:=fun h=>(zfC hsz _).2 (.inl h);have lt:∀{t},t∈U->L.getD t false=true->bk t<w.heap.size:=fun {t} ht hl=>(aR.1 (I.lf t ht hl).2.1).1;refine { I with size:=by simp[I.size],sub:=fun k hk=>?_,lcl:=fun k hk j hj=>?_,mdone:=fun k hk hm=>up (I.mdone k hk hm),udone:=fun k hk hm hu=>up (I.udone k hk hm hu),pp:=fun t ht hm hl hn ok hok=>?_,lu:=fun k hk hn ok hok=>I.lu k hk (ydB hsz hn).1 ok hok,lf:=fun t ht hl=>?_,lj:=fun t ht j hj g1 g2 e=>?_,other:=fun s hs=>?_,defers:=?_,gw:=I.gx _ _ I.gw hx,pn:=fun k hk hm hl hn=>I.pn k hk hm hl (ydB hsz hn).1 }
 ·rcases(zfC hsz k).1 hk with h|rfl
  ·exact I.sub k h
  ·exact(I.uD k hi).1
 ·rcases(zfC hsz k).1 hk with h|rfl
  ·exact up (I.lcl k h j hj)
  ·exact up (hd j hj)
 ·obtain⟨hn,hne⟩:=ydB hsz hn;obtain⟨c',g1,g2⟩:=I.pp t ht hm hl hn ok hok;refine⟨c',g1,fun s hs=>?_⟩;rw[zcE,zH (S.dst i t o ok s ho hok hs hne)];exact g2 s hs
 ·by_cases e:t=i
  ·subst e;simp only[if_true];refine⟨hD,hh,fun hK=>absurd (I.gk w I.gw k hK) (by omega),fun ok s hok hs=>?_⟩;have:ok=o:=osi (hok.symm.trans ho);subst this;rw[zcE,zI hs,I.other s fun j oj hj hoj hdj=>?_];by_cases hjt:j=t
   ·subst hjt;rcases hj.2 with⟨_,h⟩|⟨_,h,_⟩
    ·rw[hn]at h;cases h
    ·exact h hil
   ·exact S.dst j t oj ok s hoj hok hs (Ne.symm hjt) hdj
  ·simp only[zH e];have hl':L.getD t false=true:=((zfC hsz _).1 hl).resolve_right e;obtain⟨g1,g2,g3,g4⟩:=I.lf t ht hl';refine⟨g1,by rw[hx.block _ (lt ht hl')];exact g2,g3,fun ok s hok hs=>?_⟩;rw[zcE,zH (S.dst i t o ok s ho hok hs e)];exact g4 ok s hok hs
 ·by_cases e1:t=i
  ·by_cases e2:j=i
   ·rw[e1,e2]
   ·have hl':L.getD j false=true:=((zfC hsz _).1 g2).resolve_right e2;have:=lt hj hl';simp only[e1,if_true,zH e2]at e;omega
  ·have hl':L.getD t false=true:=((zfC hsz _).1 g1).resolve_right e1;by_cases e2:j=i
   ·have:=lt ht hl';simp only[e2,if_true,zH e1]at e;omega
   ·simp only[zH e1,zH e2]at e;exact I.lj t ht j hj hl' (((zfC hsz _).1 g2).resolve_right e2) e
 ·have hds:o.dst≠some s:=hs i o ⟨(I.uD i hi).1,.inl ⟨hi,(zfC hsz i).2 (.inr rfl)⟩⟩ ho;rw[zcE,zH hds];refine I.other s fun j oj hj hoj hdj=>?_;by_cases hji:j=i
  ·subst hji;exact hds (by rw[<-osi (hoj.symm.trans ho)];exact hdj)
  ·refine hs j oj ⟨hj.1,hj.2.imp (fun h=>⟨h.1,up h.2⟩) fun h=>⟨h.1,h.2.1,?_⟩⟩ hoj hdj;rw[getD_set_ne false (Ne.symm hji)];exact h.2.2
 ·rw[<-I.defers];cases o.dst<;>rfl
theorem SInv.rv(I:SInv P ops Dsc late mains Jp Pn G Kp D U L a b w V bk ob)(S:ycR ops late mains)(ho:ops[i]? = some o)(hi:i∈U)(hl:L.getD i false=true){G':World->Prop}{Kp':Nat->Prop} (g1:∀w,G w->w.heap[bk i]? = some (ob i)->G' w) (g2:∀j∈Pn,∀w,G' w->Jp j w) (g3:∀u u',G' u->Ext u u'->G' u') (g4:∀u,G' u->∀k,Kp' k->k<u.heap.size) (g5:∀c,Kp' c->Kp c∨c=bk i):
  SInv P ops Dsc late mains Jp Pn G' Kp' D (U.filter fun u=>u != i) L a (b.put o.dst (V i)) w V bk ob:=by
 have mem:∀{k},k∈U.filter (fun u=>u != i)->k∈U/\k≠i:=fun h=>by simpa using cD.1 h
 have hil:=(I.uD i hi).2;refine { I with udone:=fun k hk hm hu=>?_,uD:=fun k hk=>I.uD k (mem hk).1,pp:=fun k hk hm hlk hn ok hok=>?_,lu:=fun k hk hn ok hok=>?_,lf:=fun k hk hlk=>?_,lj:=fun k hk j hj=>I.lj k (mem hk).1 j (mem hj).1,other:=fun s hs=>?_,defers:=?_,gw:=g1 w I.gw (I.lf i hi hl).2.1,gj:=g2,gx:=g3,gk:=g4 }
 ·by_cases e:k=i
  ·subst e;exact hl
  ·exact I.udone k hk hm fun h=>hu (cD.2 ⟨h,by simp[e]⟩)
 ·have hne:k≠i:=fun e=>hlk (e▸hil);obtain⟨c',h1,h2⟩:=I.pp k hk hm hlk hn ok hok;obtain⟨e1,e2⟩:=zwK (b:=b) (v:=V i) S hok (I.nolook S ho hil hok hm);refine⟨c',by rw[e1,e2];exact h1,fun s hs=>?_⟩;rw[zcE,zH (S.dst i k o ok s ho hok hs hne)];exact h2 s hs
 ·obtain⟨hk,hne⟩:=mem hk;obtain⟨e1,e2⟩:=zwK (b:=b) (v:=V i) S hok (I.nolook S ho hil hok (S.dis k (I.uD k hk).2));rw[e1,e2];exact I.lu k hk hn ok hok
 ·obtain⟨hk,hne⟩:=mem hk;obtain⟨h1,h2,h3,h4⟩:=I.lf k hk hlk;refine⟨h1,h2,fun hK=>?_,fun ok s hok hs=>?_⟩
  ·rcases g5 _ hK with h|h
   ·exact h3 h
   ·exact hne (I.lj k hk i hi hlk hl h)
  ·rw[zcE,zH (S.dst i k o ok s ho hok hs hne)];exact h4 ok s hok hs
 ·by_cases hds:o.dst=some s
  ·rw[zcE,zI hds];exact(I.lf i hi hl).2.2.2 o s ho hds
  ·rw[zcE,zH hds];refine I.other s fun j oj hj hoj hdj=>?_;by_cases hji:j=i
   ·subst hji;exact hds (by rw[<-osi (hoj.symm.trans ho)];exact hdj)
   ·exact hs j oj ⟨hj.1,hj.2.imp (fun h=>⟨cD.2 ⟨h.1,by simp[hji]⟩,h.2⟩) id⟩ hoj hdj
 ·rw[I.defers];cases o.dst<;>rfl
theorem SInv.exM(I:SInv P ops Dsc late mains Jp Pn G Kp D U L a b w V bk ob)(S:ycR ops late mains)(ho:ops[i]? = some o)(hi:i∉D)(hm:i∈mains)(hd:∀k∈ziD ops i,L.getD k false=true){v:Value}{w':World}{G':World->Prop}{Kp':Nat->Prop} (g1:∀j∈ysJ ops i Pn,∀u,G' u->Jp j u) (g2:∀u u',G' u->Ext u u'->G' u') (g3:∀u,G' u->∀k,Kp' k->k<u.heap.size) (g4:G' w') (g5:∀k,Kp' k->Kp k∨w.heap.size<=k) (g6:∀k,k<w.heap.size->¬Kp k->w'.heap[k]? = w.heap[k]?):
  SInv P ops Dsc late mains Jp (ysJ ops i Pn) G' Kp' (i::D) U (L.setIfInBounds i true) (a.put o.dst v) (b.put o.dst v) w' V bk ob:=by
 have hsz:i<L.size:=by rw[I.size];exact(aR.1 ho).1
 have hnl:i∉late:=fun h=>S.dis i h hm;have up:∀{k},L.getD k false=true->(L.setIfInBounds i true).getD k false=true:=fun h=>(zfC hsz _).2 (.inl h);have dn:∀{k},k∈U->(L.setIfInBounds i true).getD k false=true->L.getD k false=true:=fun {k} hk h=>((zfC hsz _).1 h).resolve_right fun e=>hnl (e▸(I.uD k hk).2);have mem:∀{k},k∈i::D->k≠i->k∈D:=fun h hn=>(aL.1 h).resolve_left hn
 have far:∀{k ok},k∈D->L.getD k false=false->ops[k]? = some ok->∀d,o.dst=some d->d∉ok.looksAt ops:=fun {k ok} hk hn hok d hdd hl=>by
  obtain⟨_,h|h⟩:=S.look k i ok o d hok ho hdd hl
  ·exact hi (anc_D I.dcl hk h.1)
  ·have:=yaM I.lcl hd h.2;rw[hn]at this;cases this
 have ne:∀{k},k∈D->k≠i:=fun hk e=>hi (e▸hk);refine { size:=by simp[I.size],sub:=fun k hk=>?_,lt:=fun k hk=>?_,dcl:=fun k hk j hj=>?_,lcl:=fun k hk j hj=>?_,mdone:=fun k hk hm=>?_,udone:=fun k hk hm hu=>?_,uD:=fun k hk=>⟨aN _ (I.uD k hk).1,(I.uD k hk).2⟩,pp:=fun k hk hm hl hn ok hok=>?_,lu:=fun k hk hn ok hok=>?_,lf:=fun k hk hl=>?_,lj:=fun k hk j hj h1 h2=>I.lj k hk j hj (dn hk h1) (dn hj h2),other:=fun s hs=>?_,defers:=?_,gw:=g4,pn:=fun k hk hm hl hn=>?_,gj:=g1,gx:=g2,gk:=g3 }
 ·rcases(zfC hsz k).1 hk with h|rfl
  ·exact aN _ (I.sub k h)
  ·exact aO
 ·rcases aL.1 hk with rfl|hk
  ·rw[<-I.size];exact hsz
  ·exact I.lt k hk
 ·rcases aL.1 hk with rfl|hk
  ·exact aN _ (I.sub j (hd j hj))
  ·exact aN _ (I.dcl k hk j hj)
 ·rcases(zfC hsz k).1 hk with h|rfl
  ·exact up (I.lcl k h j hj)
  ·exact up (hd j hj)
 ·by_cases e:k=i
  ·subst e;exact(zfC hsz k).2 (.inr rfl)
  ·exact up (I.mdone k (mem hk e) hm)
 ·have e:k≠i:=fun e=>hnl (e▸hm);exact up (I.udone k (mem hk e) hm hu)
 ·obtain⟨hn,hne⟩:=ydB hsz hn;have hkD:=mem hk hne;obtain⟨c',h1,h2⟩:=I.pp k hkD hm hl hn ok hok;obtain⟨e1,e2⟩:=zwK (b:=b) (v:=v) S hok (far hkD hn hok);refine⟨c',by rw[e1,e2];exact h1,fun s hs=>?_⟩;rw[zcE,zcE,zH (S.dst i k o ok s ho hok hs hne),zH (S.dst i k o ok s ho hok hs hne)];exact h2 s hs
 ·obtain⟨hn,hne⟩:=ydB hsz hn;obtain⟨e1,e2⟩:=zwK (b:=b) (v:=v) S hok (far (I.uD k hk).1 hn hok);rw[e1,e2];obtain⟨h1,h2⟩:=I.lu k hk hn ok hok;exact⟨h1,h2⟩
 ·obtain⟨h1,h2,h3,h4⟩:=I.lf k hk (dn hk hl);have hlt:=(aR.1 h2).1;refine⟨h1,by rw[g6 _ hlt h3];exact h2,fun hK=>?_,fun ok s hok hs=>?_⟩
  ·rcases g5 _ hK with h|h
   ·exact h3 h
   ·omega
  ·have hne:=ne (I.uD k hk).1;rw[zcE,zcE,zH (S.dst i k o ok s ho hok hs hne),zH (S.dst i k o ok s ho hok hs hne)];exact h4 ok s hok hs
 ·have base:(∀j oj,j≠i->OpenAt late mains D U L j->ops[j]? = some oj->oj.dst≠some s)->a.tmps[s]? = b.tmps[s]?:=fun h=>I.other s fun j oj hj hoj=>h j oj (ne hj.1) hj hoj;rw[zcE,zcE];by_cases hds:o.dst=some s
  ·rw[zI hds,zI hds,base fun j oj hji hj hoj hdj=>S.dst j i oj o s hoj ho hds (Ne.symm hji) hdj]
  ·rw[zH hds,zH hds];refine base fun j oj hji hj hoj=>hs j oj ⟨aN _ hj.1,hj.2.imp (fun h=>⟨h.1,up h.2⟩) fun h=>⟨h.1,h.2.1,?_⟩⟩ hoj;rw[getD_set_ne false (Ne.symm hji)];exact h.2.2
 ·have:=I.defers;cases o.dst<;>exact this
 ·obtain⟨hn,hne⟩:=ydB hsz hn;refine cD.2 ⟨I.pn k (mem hk hne) hm hl hn,?_⟩;cases h:ancB ops i k with
  |false=>rfl|true=>have:=yaM I.lcl hd h;rw[hn]at this;cases this
theorem SInv.same(I:SInv P ops Dsc late mains Jp Pn G Kp D [] L a b w V bk ob)(h:∀i,i<ops.size->L.getD i false=true):a=b:=by
 have h1:a.tmps=b.tmps:=Array.ext_getElem? fun s=>I.other s fun j oj hj _=>by
  rcases hj.2 with⟨h1,_⟩|⟨_,_,h2⟩
  ·cases h1
  ·rw[h j (I.lt j hj.1)]at h2;cases h2
 have h2:=I.defers;cases a;cases b;simp only at h1 h2;rw[h1,h2]
end
section
variable {Jp:Nat->World->Prop}{Pn:List Nat}{G:World->Prop}{Kp:Nat->Prop}{U:List Nat}{L:Array Bool}{a b:Act}{w:World}{V:Nat->Value}{bk:Nat->Nat}{ob:Nat->Obj}
theorem sat_of{D:List Nat}:∀{rest:Sch} {U:List Nat} {f:Bool},schB ops late mains rest D U f=true->(∀i s,rest≠(.pu,i)::s)->(∀i s,rest≠(.la,i)::s) ->(∀m,ztL rest=some m->m∈mains/\m∉D/\m<ops.size/\∀j,j<ops.size->j∈D∨j=m∨∃d∈ziD ops j,d∉D)/\(ztL rest=none->∀j,j<ops.size->j∈D)
 |[],_,_,h,_,_=>by simp only[schB,aH,bK,cQ,bY,zD]at h;exact⟨fun m hm=>(by cases hm),fun _=>h.2⟩
 |(.pu,i)::s,_,_,_,h1,_=>absurd rfl (h1 i s)|(.la,i)::s,_,_,_,_,h2=>absurd rfl (h2 i s)|(.mn,i)::s,_,_,h,_,_=>by
  simp only[schB,aH,bK,cQ,bY,zD,bX,bE,decide_eq_false_iff_not,fG,beq_iff_eq]at h;refine⟨fun m hm=>?_,fun hm=>(by cases hm)⟩;cases hm;refine⟨h.1.1.1.1.2,h.1.1.1.1.1.2,h.1.1.1.1.1.1,fun j hj=>?_⟩;rcases h.1.1.2 j hj with(h1|h1)|h1
  ·exact .inl h1
  ·exact .inr (.inl h1)
  ·exact .inr (.inr h1)
 |(.rv,i)::s,_,_,h,_,_=>by simp only[schB,aH]at h;have hs:=h.2;have:=sat_of (rest:=s) hs (fun i s' e=>by subst e;simp[schB]at hs) (fun i s' e=>by subst e;simp[schB]at hs);exact⟨fun m hm=>this.1 m hm,fun hm=>this.2 hm⟩
theorem rvs_ok{D:List Nat}(S:ycR ops late mains){m:Nat}:∀{rest:Sch} {U:List Nat} {f:Bool} {G:World->Prop} {Kp:Nat->Prop} {b:Act},SInv P ops Dsc late mains Jp Pn G Kp D U L a b w V bk ob->schB ops late mains rest D U f=true->wpS P ops Q rest Dsc Jp Pn G Kp b->ztL rest=some m->(∀k∈ziD ops m,L.getD k false=true) ->∃s f' U' G' Kp' b',SInv P ops Dsc late mains Jp Pn G' Kp' D U' L a b' w V bk ob/\schB ops late mains ((.mn,m)::s) D U' f'=true/\wpS P ops Q ((.mn,m)::s) Dsc Jp Pn G' Kp' b'
 |[],_,_,_,_,_,_,_,_,hm,_=>by cases hm
 |(.pu,i)::s,_,_,_,_,_,_,_,_,hm,_=>by cases hm
 |(.la,i)::s,_,_,_,_,_,_,_,_,hm,_=>by cases hm
 |(.mn,i)::s,U,f,G,Kp,b,I,h,hw,hm,_=>by cases hm;exact⟨s,f,U,G,Kp,b,I,h,hw⟩
 |(.rv,i)::s,U,f,G,Kp,b,I,h,hw,hm,hd=>by have hm':ztL s=some m:=hm;simp only[schB,hm',aH,bY,zD]at h;obtain⟨⟨hU,hanc⟩,hs⟩:=h;have hl:=yaM I.lcl hd hanc;obtain⟨o,ho,hw⟩:=hw;obtain⟨h1,h2,h3,_⟩:=I.lf i hU hl;obtain⟨G',Kp',g1,g2,g3,g4,g5,hw⟩:=hw _ _ _ h1 h3 ⟨w,I.gw,h2⟩;exact rvs_ok S (I.rv S ho hU hl g1 g2 g3 g4 g5) hs hw hm' hd
theorem rve_ok{D:List Nat}(S:ycR ops late mains)(hall:∀i,i<ops.size->L.getD i false=true):∀{rest:Sch} {U:List Nat} {f:Bool} {G:World->Prop} {Kp:Nat->Prop} {b:Act},SInv P ops Dsc late mains Jp Pn G Kp D U L a b w V bk ob->schB ops late mains rest D U f=true->wpS P ops Q rest Dsc Jp Pn G Kp b->ztL rest=none->(∀p∈rest,p.1 = .rv)->Q .normal a w
 |[],U,f,G,Kp,b,I,h,hw,_,_=>by simp only[schB,aH,List.isEmpty_iff]at h;obtain⟨rfl,_⟩:=h;rw[I.same hall];exact hw w I.gw
 |(.pu,i)::s,_,_,_,_,_,_,_,_,_,hr=>by cases hr _ aO
 |(.la,i)::s,_,_,_,_,_,_,_,_,_,hr=>by cases hr _ aO
 |(.mn,i)::s,_,_,_,_,_,_,_,_,hm,_=>by cases hm
 |(.rv,i)::s,U,f,G,Kp,b,I,h,hw,hm,hr=>by have hm':ztL s=none:=hm;simp only[schB,hm',aH,bY,zD]at h;obtain⟨⟨hU,_⟩,hs⟩:=h;have hl:=hall i (I.lt i (I.uD i hU).1);obtain⟨o,ho,hw⟩:=hw;obtain⟨h1,h2,h3,_⟩:=I.lf i hU hl;obtain⟨G',Kp',g1,g2,g3,g4,g5,hw⟩:=hw _ _ _ h1 h3 ⟨w,I.gw,h2⟩;exact rve_ok S hall (I.rv S ho hU hl g1 g2 g3 g4 g5) hs hw hm' fun p hp=>hr p (aN _ hp)
theorem xfJ{D:List Nat}:∀{rest:Sch} {U:List Nat} {f:Bool},schB ops late mains rest D U f=true->(∀i s,rest≠(.pu,i)::s)->(∀i s,rest≠(.la,i)::s)->ztL rest=none->∀p∈rest,p.1 = .rv
 |[],_,_,_,_,_,_,p,hp=>by cases hp
 |(.pu,i)::s,_,_,_,h1,_,_,_,_=>absurd rfl (h1 i s)|(.la,i)::s,_,_,_,_,h2,_,_,_=>absurd rfl (h2 i s)|(.mn,i)::s,_,_,_,_,_,hm,_,_=>by cases hm
 |(.rv,i)::s,_,_,h,_,_,hm,p,hp=>by
  have hm':ztL s=none:=hm;simp only[schB,hm',aH]at h;rcases aL.1 hp with rfl|hp
  ·rfl
  ·have hs:=h.2;exact xfJ (rest:=s) hs (fun i s' e=>by subst e;simp[schB]at hs) (fun i s' e=>by subst e;simp[schB]at hs) hm' p hp
end
theorem yiB(S:ycR ops late mains){m:Nat}(ihm:∀m',m'<m->∀(rest:Sch) (Dsc:Nat->Value->Nat->Obj->Prop) (D U:List Nat) (f:Bool) (Jp:Nat->World->Prop) (Pn:List Nat) (G:World->Prop) (Kp:Nat->Prop) (L:Array Bool) (a b:Act) (w:World) (V:Nat->Value) (bk:Nat->Nat) (ob:Nat->Obj),zfF ops.size L=m'->SInv P ops Dsc late mains Jp Pn G Kp D U L a b w V bk ob->schB ops late mains rest D U f=true->wpS P ops Q rest Dsc Jp Pn G Kp b->wpAny P .any ops Q m' L a w) {rest:Sch} {D U:List Nat} {f:Bool} {Jp:Nat->World->Prop} {Pn:List Nat} {G:World->Prop} {Kp:Nat->Prop} {L:Array Bool} {a b:Act} {w:World} {V:Nat->Value} {bk:Nat->Nat} {ob:Nat->Obj} (hm:zfF ops.size L=m) (I:SInv P ops Dsc late mains Jp Pn G Kp D U L a b w V bk ob) (hb:schB ops late mains rest D U f=true) (hw:wpS P ops Q rest Dsc Jp Pn G Kp b) (h1:∀i s,rest≠(.pu,i)::s) (h2:∀i s,rest≠(.la,i)::s):wpAny P .any ops Q m L a w:=by
 have hsat:=sat_of hb h1 h2;have ltsz:∀{j},j∈Region.ready .any ops L->j<ops.size:=fun hj=>by obtain⟨_,o,ho,_⟩:=mem_ready.1 hj;exact(aR.1 ho).1
 have unl:∀{j},j∈Region.ready .any ops L->L.getD j false=false:=fun {j} hj=>by have hs:=ltsz hj;obtain⟨hu,_⟩:=mem_ready.1 hj;rw[zlY (by rw[I.size];exact hs)]at hu;exact hu
 cases m with
 |zero=>
  have hall:=zsA hm;have hn:ztL rest=none:=by
   cases h:ztL rest with
   |none=>rfl|some k=>obtain⟨_,g1,g2,_⟩:=hsat.1 k h;exact absurd (I.sub k (hall k g2)) g1
  refine⟨?_,rve_ok S hall I hb hw hn (xfJ hb h1 h2 hn)⟩;rw[eV];intro j hj;have:=hall j (ltsz hj);rw[unl hj]at this;cases this
 |succ m=>
  have hex:∃i,i<ops.size/\L.getD i false=false:=by
   have:¬zfF ops.size L=0:=by omega
   unfold zfF at this;rw[List.countP_eq_zero]at this;have h2:∃i,¬(i∈cU ops.size->¬((!L.getD i false)=true)):=Classical.not_forall.1 this;obtain⟨i,h⟩:=h2;by_cases hi:i<ops.size
   ·refine⟨i,hi,?_⟩;cases hp:L.getD i false with
    |false=>rfl|true=>exact absurd (fun _=>by rw[hp];simp) h
   ·exact absurd (fun hmem=>absurd (cQ.1 hmem) hi) h
  have hne:Region.ready .any ops L≠[]:=by obtain⟨i,hi,hu,hleast⟩:=zuG _ hex;have hoi:ops[i]? = some ops[i]:=cW hi;have:i∈Region.ready .any ops L:=mem_ready.2 ⟨by rw[zlY (by rw[I.size];exact hi)];exact hu,_,hoi,fun e he hb=>hleast _ (S.deps i hi _ (by rw[ydA hoi];exact zrY.2 ⟨e,he,hb,rfl⟩))⟩;intro h0;rw[h0]at this;cases this
  refine⟨fun h0=>absurd h0 hne,fun j hj=>?_⟩;have hjs:=ltsz hj;have hju:=unl hj;obtain⟨_,oj,hoj,hdone⟩:=mem_ready.1 hj;have hdep:∀k∈ziD ops j,L.getD k false=true:=fun k hk=>by rw[ydA hoj]at hk;obtain⟨e,he,hb,hon⟩:=zrY.1 hk;rw[<-hon];exact hdone e he hb
  have hcount:=zyS hjs (by rw[I.size];exact hjs) hju;have hjD:j∈D∨ztL rest=some j:=by
   cases h:ztL rest with
   |none=>exact .inl (hsat.2 h j hjs)|some k=>
    rcases(hsat.1 k h).2.2.2 j hjs with h3|h3|⟨d,h3,h4⟩
    ·exact .inl h3
    ·exact .inr (by rw[h3])
    ·exact absurd (I.sub d (hdep d h3)) h4
  unfold wpOp;simp only[hoj];rcases hjD with hjD|hjm
  ·by_cases hjl:j∈late
   ·have hjU:j∈U:=Classical.byContradiction fun h=>by have:=I.udone j hjD hjl h;rw[hju]at this;cases this
    obtain⟨hwd,hrun⟩:=I.lu j hjU hju oj hoj;obtain⟨v,k,x,w',g1,g2,g3,g4,g5⟩:=hrun w;obtain⟨he,hwt⟩:=I.ran S hoj hdep (fun h=>absurd h (S.dis j hjl));rw[zI (by rw[hwt];exact hwd)];refine .inl ?_;unfold Oper.wp;rw[he,g1];exact ihm m (by omega) rest Dsc D U f Jp Pn G Kp _ _ b w' _ _ _ (by omega) (I.exL S hoj hjU hju hdep g2 g3 g4 g5) hb hw
   ·by_cases hjm:j∈mains
    ·have:=I.mdone j hjD hjm;rw[hju]at this;cases this
    ·obtain⟨c,hc,hs⟩:=I.pp j hjD hjm hjl hju oj hoj;obtain⟨he,hwt⟩:=I.ran S hoj hdep (fun h=>absurd h hjm);have next:=ihm m (by omega) rest Dsc D U f Jp Pn G Kp _ _ b w _ _ _ (by omega) (I.exP S hoj hjD hjl hdep hs) hb hw
     rcases hc with⟨hwd,hrun⟩|⟨hwd,rfl⟩
     ·rw[zI (by rw[hwt];exact hwd)];refine .inl ?_;unfold Oper.wp;rw[he,hrun w (I.gj j (I.pn j hjD hjm hjl hju) w I.gw)];exact next
     ·rw[zH (by rw[hwt,hwd];simp)];exact next
  ·obtain⟨s,f',U',G',Kp',b',I',hb',hw'⟩:=rvs_ok S I hb hw hjm hdep;obtain⟨o,ho,hw'⟩:=hw';have:o=oj:=osi (ho.symm.trans hoj);subst this;simp only[schB,aH,bK,cQ,bY,zD,bE,decide_eq_false_iff_not]at hb';obtain⟨⟨⟨⟨⟨⟨hb1,hb2⟩,hb3⟩,hb4⟩,hb5⟩,hb6⟩,hb7⟩:=hb'
   obtain⟨he,hwt⟩:=I'.ran S hoj hdep (fun _ u hu d hd hl=>by
    have:=hb6 u hu;rw[hd]at this;simp only[bE,decide_eq_false_iff_not]at this
    exact this (by unfold yvF;rw[hoj];exact hl))
   rcases hw' w I'.gw with⟨hwd,hout⟩|⟨hwd,hrest⟩
   ·rw[zI (by rw[hwt];exact hwd)];refine .inl ?_;rw[<-he]at hout;exact yaJ hout fun v w' ⟨G2,K2,g1,g2,g3,g4,g5,g6,hws⟩=>ihm m (by omega) s Dsc (j::D) U' false Jp _ G2 K2 _ _ _ w' _ _ _ (by omega) (I'.exM S hoj hb2 hb3 hdep g1 g2 g3 g4 g5 g6) hb7 hws
   ·rw[zH (by rw[hwt,hwd];simp)];exact ihm m (by omega) s Dsc (j::D) U' false Jp _ G' Kp' _ _ _ w _ _ _ (by omega) (I'.exM S hoj hb2 hb3 hdep (fun t ht=>I'.gj t (cD.1 ht).1) I'.gx I'.gk I'.gw (fun _ h=>.inl h) (fun _ _ _=>rfl)) hb7 hrest
theorem yxG(S:ycR ops late mains)(m:Nat):∀(rest:Sch) (Dsc:Nat->Value->Nat->Obj->Prop) (D U:List Nat) (f:Bool) (Jp:Nat->World->Prop) (Pn:List Nat) (G:World->Prop) (Kp:Nat->Prop) (L:Array Bool) (a b:Act) (w:World) (V:Nat->Value) (bk:Nat->Nat) (ob:Nat->Obj),zfF ops.size L=m->SInv P ops Dsc late mains Jp Pn G Kp D U L a b w V bk ob->schB ops late mains rest D U f=true->wpS P ops Q rest Dsc Jp Pn G Kp b ->
  wpAny P .any ops Q m L a w:=by
 induction m using Nat.strongRecOn with
 |_ m ihm=>
  intro rest;induction rest with
  |nil=>intro Dsc D U f Jp Pn G Kp L a b w V bk ob hm I hb hw;exact yiB S ihm hm I hb hw (fun _ _ e=>by cases e) (fun _ _ e=>by cases e)|cons p s ihs=>
   intro Dsc D U f Jp Pn G Kp L a b w V bk ob hm I hb hw;obtain⟨k,i⟩:=p;cases k with
   |pu=>obtain⟨o,c,J,ho,hc,hJ,hw⟩:=hw;simp only[schB,aH,bK,bY,zD,bE,decide_eq_false_iff_not]at hb;obtain⟨⟨⟨⟨⟨⟨h1,h2⟩,h3⟩,h4⟩,h5⟩,h6⟩,h7⟩:=hb;exact ihs _ _ _ _ _ _ _ _ _ _ _ _ _ _ _ hm (I.pu S ho h3 h4 h5 h6 hc hJ) h7 hw
   |la=>obtain⟨o,Di,ho,hwd,hc,hw⟩:=hw;simp only[schB,aH,bK,bY,zD,bE,decide_eq_false_iff_not]at hb;obtain⟨⟨⟨⟨⟨h1,h2⟩,h3⟩,h4⟩,h6⟩,h7⟩:=hb;exact ihs _ _ _ _ _ _ _ _ _ _ _ _ _ _ _ hm (I.la ho h3 h4 (S.dis i h4) h6 ⟨hwd,hc⟩) h7 hw
   |rv=>exact yiB S ihm hm I hb hw (fun _ _ e=>by cases e) (fun _ _ e=>by cases e)|mn=>exact yiB S ihm hm I hb hw (fun _ _ e=>by cases e) (fun _ _ e=>by cases e)
theorem yyO{l:List Oper}{a:Act}{w:World}{rest:Sch}{Jp:Nat->World->Prop}{G:World->Prop}{Kp:Nat->Prop}(hs:statB l.toArray late mains=true)(hb:schB l.toArray late mains rest [] [] false=true)(hw:wpS P l.toArray (OnlyNormal Q) rest Dsc Jp [] G Kp a) (h1:G w.drew) (h3:∀u u',G u->Ext u u'->G u') (h4:∀u,G u->∀k,Kp k->k<u.heap.size):RegAny P l Q a w:=by
 unfold RegAny;have hf:∀j,(Array.replicate l.toArray.size false).getD j false=false:=fun j=>getD_replicate_false _ _;refine yxG (stat_of hs) _ rest Dsc [] [] false Jp [] G Kp _ a a _ (fun _=>undef) (fun _=>0) (fun _=>default) ?_ ?_ hb hw
 ·unfold zfF;rw[List.countP_eq_length.2 (fun j _=>by rw[hf];rfl)];simp
 ·exact { size:=(by simp),sub:=fun i hi=>(by rw[hf]at hi;cases hi),lt:=fun i hi=>(by cases hi),dcl:=fun i hi=>(by cases hi),lcl:=fun i hi=>(by rw[hf]at hi;cases hi),mdone:=fun i hi=>(by cases hi),udone:=fun i hi=>(by cases hi),uD:=fun i hi=>(by cases hi),pp:=fun i hi=>(by cases hi),lu:=fun i hi=>(by cases hi),lf:=fun i hi=>(by cases hi),lj:=fun i hi=>(by cases hi),other:=fun s _=>rfl,defers:=rfl,gw:=h1,pn:=fun i hi=>(by cases hi),gj:=fun i hi=>(by cases hi),gx:=h3,gk:=h4 }
end
end Go.Proofs.YtopanhneegpgcaaGreatDoor
