/- Parts of one proof. Conditions: as each theorem says. -/
import Derived.Lib.ConvBytes
import Derived.Lib.AppendStr
import Derived.KernelRfl
import Derived.Test.YtmbcolbbekbccaaGreatQkC
open Array renaming ext'->dS,getElem?_eq_getElem->cP,map->iW,range->eO
open Bool renaming and_eq_true->aK,false_eq_true->dH
open Int renaming eq_ofNat_of_zero_le->cH,ofNat_tmod->fX,tmod->eG,toNat_natCast->cU
open List renaming all_eq_true->bH,any_eq_true->gA,append_assoc->bG,append_nil->cC,drop_eq_getElem_cons->fA,eq_nil_of_length_eq_zero->aU,ext_getElem?->aX,getD_eq_getElem?_getD->cX,getElem?_append_left->aF,getElem?_append_right->aH,getElem?_drop->bB,getElem?_eq_getElem->aI,getElem?_eq_none->bT,getElem?_eq_some_iff->aC,getElem?_map->bI,getElem?_set_ne->aM,getElem?_take->bK,length_append->aE,length_cons->aN,length_drop->bO,length_set->bP,length_take->bZ,mem_range->bU,nil_append->cF,range'->cZ,range'_succ->eK,range->bR,replicate->aO,toArray->dG
open Nat renaming add_assoc->dL,add_mul->bD,add_zero->cQ,ble->bM,div_one->fF,le_of_ble_eq_true->aR,le_of_eq->dW,le_refl->aJ,le_trans->aY,lt_of_not_le->dU,lt_trans->bQ,mod_eq_of_lt->aP,mod_lt->aZ,mul_le_mul->dE,mul_le_mul_right->cE,mul_one->bY,reduceMul->iK,reducePow->iL,zero_add->aQ
open Option renaming map_some->bA
open Go.Proofs.Tryz renaming prog->aD
namespace Go.Proofs.YtmbcolbbekbccaaGreat
open Go Go.RowKit
section
section
variable {P:Program}{ops:Array Oper}{Q:Exit->Act->World->Prop}{rest:List Oper}{n:Nat}{m:FM}{w w':World}{B:Bas}{S:Mem}{L:List Res}
variable {d:Nat}{op:Op}{ty:TypeId}{pos:String}{aft:Array Edge}{c v u:Value}{x y z lo hi:Operand}{T E T':TypeId}
theorem zeR{c:Code}(h:∀m0,(∀t,look m0 t=look m t)->c.wp P Q (fr n m0) w):c.wp P Q (fr n m) w:=h m fun _=>rfl
theorem ycI(h:∀m0,(∀t,look m0 t=look m t)->wpList P ops Q rest (fr n m0) w):wpList P ops Q rest (fr n m) w:=h m fun _=>rfl
theorem yuQ(h:(execOp (evO n m) ⟨some d,op,ty,pos,aft,none⟩).run P w = .ok (.value c) w')(hr:wpList P ops Q rest (fr n ((d,c)::m)) w'):
  wpList P ops Q (⟨some d,op,ty,pos,aft,none⟩::rest) (fr n m) w:=
 wpList_plain rfl fun K hK=>by unfold Oper.wp;rw[zdF,h];simp only[Oper.upon,zaI];exact hK _ _ hr
theorem xbE(h:(execOp (evO n m) ⟨none,op,ty,pos,aft,none⟩).run P w = .ok .skip w')(hr:wpList P ops Q rest (fr n m) w'):
  wpList P ops Q (⟨none,op,ty,pos,aft,none⟩::rest) (fr n m) w:=
 wpList_plain rfl fun K hK=>by unfold Oper.wp;rw[zdF,h];simp only[Oper.upon,znI];exact hK _ _ hr
theorem yeT{φ:World->Value->Prop}(h:∃w' v,(execOp (evO n m) ⟨some d,op,ty,pos,aft,none⟩).run P w = .ok (.value v) w'/\φ w' v)(hr:∀w' v,φ w' v->wpList P ops Q rest (fr n ((d,v)::m)) w'):
  wpList P ops Q (⟨some d,op,ty,pos,aft,none⟩::rest) (fr n m) w:=by
 obtain⟨w',v,h1,h2⟩:=h;exact yuQ h1 (hr w' v h2)
theorem zhM{φ:World->Nat->Prop}(h:∃w' b,(execOp (evO n m) ⟨some d,op,ty,pos,aft,none⟩).run P w = .ok (.value (.pointer (some ⟨b,0,none⟩))) w'/\φ w' b)(hr:∀w' b,φ w' b->wpList P ops Q rest (fr n ((d,.pointer (some ⟨b,0,none⟩))::m)) w'):
  wpList P ops Q (⟨some d,op,ty,pos,aft,none⟩::rest) (fr n m) w:=by
 obtain⟨w',v,h1,h2⟩:=h;exact yuQ h1 (hr w' v h2)
theorem ydZ{A B:World->Value->LV->Prop}(h:∃w' v,(execOp (evO n m) ⟨some d,op,ty,pos,aft,none⟩).run P w = .ok (.value v) w'/\∃c,A w' v c/\B w' v c)(hr:∀w' v c,A w' v c->B w' v c->wpList P ops Q rest (fr n ((d,v)::m)) w'):
  wpList P ops Q (⟨some d,op,ty,pos,aft,none⟩::rest) (fr n m) w:=by
 obtain⟨w',v,h1,c,h2,h3⟩:=h;exact yuQ h1 (hr w' v c h2 h3)
theorem ymK{A B:World->Value->LV->LV->Prop}(h:∃w' v,(execOp (evO n m) ⟨some d,op,ty,pos,aft,none⟩).run P w = .ok (.value v) w'/\∃c r,A w' v c r/\B w' v c r)(hr:∀w' v c r,A w' v c r->B w' v c r->wpList P ops Q rest (fr n ((d,v)::m)) w'):
  wpList P ops Q (⟨some d,op,ty,pos,aft,none⟩::rest) (fr n m) w:=by
 obtain⟨w',v,h1,c,r,h2,h3⟩:=h;exact yuQ h1 (hr w' v c r h2 h3)
theorem p_oft{A B:World->LV->Prop}(h:∃w',(execOp (evO n m) ⟨none,op,ty,pos,aft,none⟩).run P w = .ok .skip w'/\∃c,A w' c/\B w' c)(hr:∀w' c,A w' c->B w' c->wpList P ops Q rest (fr n m) w'):
  wpList P ops Q (⟨none,op,ty,pos,aft,none⟩::rest) (fr n m) w:=by
 obtain⟨w',h1,c,h2,h3⟩:=h;exact xbE h1 (hr w' c h2 h3)
theorem zfP{φ:World->Prop}(h:∃w',(execOp (evO n m) ⟨none,op,ty,pos,aft,none⟩).run P w = .ok .skip w'/\φ w')(hr:∀w',φ w'->wpList P ops Q rest (fr n m) w'):
  wpList P ops Q (⟨none,op,ty,pos,aft,none⟩::rest) (fr n m) w:=by
 obtain⟨w',h1,h2⟩:=h;exact xbE h1 (hr w' h2)
section
variable {nh k:Nat}{Φ:zfD}{W:World}{vs:Nat->Gv}{Fin:Act->Prop}
def depF(Φ:zfD)(vs:Nat->Gv)(l:List Nat):Nat->Bool:=fun b=>l.any fun k=>relK Φ k&&(vs k).f b
theorem xaU{Φ:zfD}{vs:Nat->Gv}{l:List Nat}{i:Nat}{w:World}(hl:l.contains i=true)(hr:relK Φ i=true):Mem.le (gf S W (vs i).f w) (gf S W (depF Φ vs l) w):=
 gf_up fun b hb=>gA.2 ⟨i,by simpa using hl,by rw[hr,hb];rfl⟩
theorem depE{Φ:zfD}{vs:Nat->Gv}{l:List Nat}{w:World}(_:zeS Φ vs w l):∃F,(∀{S:Mem} {W:World} (i:Nat),l.contains i=true->relK Φ i=true->Mem.le (gf S W (vs i).f w) (gf S W F w))/\F=depF Φ vs l:=
 ⟨depF Φ vs l,fun _ hl hr=>xaU hl hr,rfl⟩
theorem noF{nh:Nat}{Φ:zfD}{vs:Nat->Gv}{j b o:Nat}{ops:Array Oper}(hA:Apart ops nh Φ vs)(hj:j<nh)(hf:frK ops Φ j=true)(e:(vs j).v = .pointer (some ⟨b,o,none⟩))(h0:∀b,¬(vs j).f b=true):depF Φ vs (bR nh) b=false:=by
 cases hd:depF Φ vs (bR nh) b with
 |false=>rfl|true=>
  obtain⟨k,hk,h2⟩:=gA.1 hd;simp only[aK]at h2;by_cases hkj:k=j
  ·subst hkj;exact absurd h2.2 (h0 b)
  ·exact absurd h2.2 ((hA k j (bU.1 hk) hj hkj).2 h2.1 hf b o e)
abbrev kR{α:Type}[Rp α](S:Mem)(W:World)(y:List α):Sum Value (Gv->World->Prop):=.inr (fun g w'=>RdS (gf S W g.f w') g.v y)
theorem wrS{id:Nat}{l hd tl:List Oper}{a:Act}{B:Bas}{S:Mem}{L:List Res}(H:HS B S w L)(n:Nat)(ks:List (Nat×Sum Value (Gv->World->Prop))) (h:∀vs:Nat->Gv,HS B S w.drew L->wpT P l.toArray n (yeH ks) w.drew vs (fun a'=>∀w',Ext w.drew w'->zeS (yeH ks) vs w' (bR n)->Apart l.toArray n (yeH ks) vs->wpList P l.toArray (OnlyNormal Q) tl a' w') 0 hd a) (hh:l.take n=hd:=by (simp only[tkS,tkZ])<;>exact rfl) (ht:l.drop n=tl:=by (simp only[drS,drZ])<;>exact rfl) (hX:(yeH ks xm).isSome=false:=by rfl) (hm:P.follows .mixedOrders=true:=by rfl) (hB:extB l.toArray n=true:=by kernel_rfl):(Code.region id l.toArray true).wp P Q a w:=by subst hh ht;exact ziF n (yeH ks) hX hm hB fun vs=>h vs H.drew
theorem HS.tn{B:Bas}{S:Mem}{L:List Res}{F G:World->Prop}{A:Prop}(H:HS B S W L)(k:∀w,HS B S w L->G w):∀w,Ext W w->F w->A->G w:=fun w hx _ _=>k w (H.ext hx)
theorem HS.tf{B:Bas}{S:Mem}{L:List Res}{G:World->Prop}{A:Prop}{l:List Nat}(H:HS B S W L)(k:∀w S',Mem.le S S'->HS B S' w L->(∀{α:Type} [Rp α] (j:Nat) {y:List α},Φ j=some (kR S W y)->l.contains j=true->RdS S' (vs j).v y)->G w):∀w,Ext W w->zeS Φ vs w l->A->G w:=
 fun w hx hF _=>k w (gf S W (depF Φ vs l) w) (yvF H.sub) (H.callF hx) fun {_} _ j {_} hk hl=>RdS.mono (znC hF j hk hl) (xaU hl (by unfold relK;rw[hk]))
end
theorem zqA{σ β:Type}{body:σ->Option (σ⊕β)}{c:Code}{m0:FM}(D:List Nat)(I:σ->FM->World->Prop){s0:σ}{out:β}(hL:iter body s0=some out)(h0:I s0 m0 w) (round:∀k s m w,(∀t,has D t=false->look m t=look m0 t)->I s m w->∀o,body s=some o->jnO o (zpU body k) some=some out ->
   c.wp P (Exit.then (fun a' w'=>∃s' m',a'=fr n m'/\(∀t,has D t=false->look m' t=look m0 t)/\I s' m' w'/\zpU body k s'=some out) Q) (fr n m) w):(Code.loop c).wp P Q (fr n m0) w:=by
 refine zzB D (fun g m w=>∃s,I s m w/\zpU body g s=some out) FU ⟨s0,h0,hL⟩ ?_;rintro g m w hk ⟨s,hI,hs⟩;cases g with
 |zero=>cases hs
 |succ g=>
  obtain⟨o,h1,h2⟩:=zyF hs;refine wp_mono (round g s m w hk hI o h1 h2) fun e a' w' hq=>?_;cases e with
  |normal=>obtain⟨s',m',e1,e2,e3,e4⟩:=hq;exact⟨g,m',Nat.lt_succ_self g,e1,e2,s',e3,e4⟩
  |_=>exact hq
theorem ybZ{l:LV}{e:Operand->Value}{dst:Option Tmp}{g:Option (Nat×Bool)}(H:HS B S w L)(hx:e x = .agg l.toArray):∃w' b,(execOp e ⟨dst,.box T x,ty,pos,aft,g⟩).run P w = .ok (.value (.pointer (some ⟨b,0,none⟩))) w'/\HS B S w' (.blk b l T::L):=by refine⟨w.alloc (.cells l.toArray T),w.heap.size,?_,H.push (Ext.alloc w _) (zaR w _) fun b hb=>by cases hb;exact aJ _⟩;simp[execOp,ygN,hx,Value.cells]
theorem zdQ{l:LV}{z:Value}{e:Operand->Value}{dst:Option Tmp}{g:Option (Nat×Bool)}(H:HS B S w L)(hz:zoQ P T z)(hl:z.cells.toList=l):∃w' b,(execOp e ⟨dst,.alloc T,ty,pos,aft,g⟩).run P w = .ok (.value (.pointer (some ⟨b,0,none⟩))) w'/\HS B S w' (.blk b l T::L):=by refine⟨w.alloc (.cells l.toArray T),w.heap.size,?_,H.push (Ext.alloc w _) (zaR w _) fun b hb=>by cases hb;exact aJ _⟩;simp[execOp,zqO hz,<-hl]
theorem yqT{b i N:Nat}{cs:LV}{fz:Nat×Nat}(h:w.heap[b]? = some (.cells cs.toArray T fz))(hf:okfz T fz N)(hi:i<N):w.frozen? ⟨b,i,none⟩=false:=by
 obtain⟨lo,hi'⟩:=fz;simp only[World.frozen?,h];rcases hf with hf|hf
 ·injection hf with h1 h2;subst h1;subst h2;simp
 ·have hf:=hf.1;simp only at hf;have:¬lo<=i:=by omega
  simp[this]
theorem zzI{b i:Nat}{v:Value}{cs:LV}{fz:Nat×Nat}(h:w.heap[b]? = some (.cells cs.toArray T fz)):(w.setCell ⟨b,i,none⟩ v).heap[b]? = some (.cells (cs.set i v).toArray T fz):=by
 have hlt:=zeO h;have h':w.heap[b] = .cells cs.toArray T fz:=by simpa[cP hlt]using h
 show(w.heap.modify b _)[b]? = _;rw[cP (by simpa using hlt),Array.getElem_modify_self,h'];simp
theorem zdH{b i:Nat}{cs:LV}{fz:Nat×Nat}(h:w.heap[b]? = some (.cells cs.toArray T fz)):w.cell? ⟨b,i,none⟩=cs[i]?:=by simp[World.cell?,h]
theorem zdY{b o:Nat}{fz:Nat×Nat}:∀(vs:LV) (i:Nat) (w:World) (cs:LV),(∀v∈vs,v.oneCell'=true)->w.heap[b]? = some (.cells cs.toArray T fz)->okfz T fz cs.length->o+i+vs.length<=cs.length ->∃w',(storeCells ⟨b,o,none⟩ vs i).run P w = .ok () w'/\w'.heap[b]? = some (.cells (lay cs (o+i) vs).toArray T fz)/\w'.heap.size=w.heap.size/\w'.os=w.os/\w'.tape=w.tape/\w'.output=w.output/\∀j,j≠b->w'.heap[j]? = w.heap[j]?
 |[],i,w,cs,_,h,_,_=>⟨w,by simp[storeCells],by
  have:lay cs (o+i) []=cs:=by cases cs<;>rfl
  rw[this];exact h,rfl,rfl,rfl,rfl,fun _ _=>rfl⟩
 |v::vs,i,w,cs,hone,h,hfz,hlen=>by
  have hi:o+i<cs.length:=by simp only[aN]at hlen;omega
  have hc:w.cell? ⟨b,o+i,none⟩=some cs[o+i]:=by rw[zdH h];simp[hi]
  have hst:=run_store P w ⟨b,o+i,none⟩ v .plain (hone v (by simp));rw[hc]at hst;simp only[yqT h hfz hi,dH,if_false]at hst;have h2:=zzI (i:=o+i) (v:=v) h;have hlen2:o+(i+1)+vs.length<=(cs.set (o+i) v).length:=by rw[bP];simp only[aN]at hlen;omega
  obtain⟨w',e,hb,hs,h4,h5,h6,h7⟩:=zdY vs (i+1) (w.setCell ⟨b,o+i,none⟩ v) (cs.set (o+i) v) (fun u hu=>hone u (by simp[hu])) h2 (by rw[bP];exact hfz) hlen2;refine⟨w',?_,?_,?_,h4,h5,h6,?_⟩
  ·show(do store ((⟨b,o,none⟩:Addr).add i) v;storeCells ⟨b,o,none⟩ vs (i+1):Sem Unit).run P w=_;rw[zbW,Sem.run_bind,hst];exact e
  ·rw[hb];congr 2;apply congrArg dG;apply aX;intro j;rw[zcY,zcY];simp only[aN,bP];by_cases h1:o+(i+1)<=j/\j<o+(i+1)+vs.length/\j<cs.length
   ·rw[zH h1,zH (by omega),show j-(o+i)=(j-(o+(i+1)))+1 by omega];simp
   ·rw[zG h1];by_cases h3:j=o+i
    ·subst h3;rw[zH (by omega)];simp[hi]
    ·rw[zG (by omega),aM (by omega)]
  ·rw[hs];simp[World.setCell]
  ·intro j hj;rw[h7 j hj];exact Below.heap_setCell _ _ _ _ (by simpa using hj)
theorem zlY{b o sz:Nat}{cs l:LV}{fz:Nat×Nat}(hs:∀w,(sizeOf T).run P w = .ok sz w)(hv:v.cells=l.toArray)(h:w.heap[b]? = some (.cells cs.toArray T' fz))(hf:okfz T' fz cs.length)(hlen:l.length=sz)(hone:∀u∈l,u.oneCell'=true)(hsz:o+sz<=cs.length):∃w',(Instr.storeAt T (.pointer (some ⟨b,o,none⟩)) v).run P w = .ok () w'/\w'.heap[b]? = some (.cells (lay cs o l).toArray T' fz)/\w'.heap.size=w.heap.size/\w'.os=w.os/\w'.tape=w.tape/\w'.output=w.output/\∀j,j≠b->w'.heap[j]? = w.heap[j]?:=by obtain⟨w',e,hb,rest⟩:=zdY (P:=P) (o:=o) l 0 w cs hone h hf (by omega);refine⟨w',?_,hb,rest⟩;simp[Instr.storeAt,Instr.sureAddr,storeVar,hs w,hv,hlen,e]
def zmN(v:Value)(l:LV):Prop:=v.cells=l.toArray
theorem zbR(l:LV):zmN (.agg l.toArray) l:=rfl
theorem cells_one(h:v.oneCell'=true):zmN v [v]:=by unfold zmN;cases v<;>first|rfl|simp[Value.oneCell']at h
def TSz(P:Program)(T:TypeId)(sz:Nat):Prop:=∀w,(sizeOf T).run P w = .ok sz w
theorem TAgg.sz{sz:Nat}(h:TAgg P T sz):TSz P T sz:=h.2
theorem TOne.sz(h:TOne P T):TSz P T 1:=h.2
section
variable {e:Operand->Value}{dst:Option Tmp}{g:Option (Nat×Bool)}
theorem zbS{sz b o k:Nat}{cs l:LV}(ts:TSz P T sz)(H:HS B S w L)(hp:e x = .pointer (some ⟨b,o,none⟩))(hk:lkR L k=some (.blk b cs T'))(hy:e y=v)(hv:zmN v l) (hlen:l.length=sz) (hone:∀u∈l,u.oneCell'=true) (hsz:bM (o+sz) cs.length=true):∃w',(execOp e ⟨none,.store T x y,ty,pos,aft,g⟩).run P w = .ok .skip w'/\HS B S w' (stR L k (.blk b (lay cs o l) T')):=by obtain⟨w',he,hb,hs,h4,h5,h6,h7⟩:=zlY ts hv (H.own k _ hk) (.inl rfl) hlen hone (aR hsz);refine⟨w',?_,H.upd hk (by omega) h4 h5 h6 (fun i _ hne=>h7 i fun e=>hne (by rw[e];rfl)) hb fun b' hb'=>.inl hb'⟩;simp only[execOp,hp,hy,Sem.run_bind,he,Result.andThen,Sem.run_pure]
theorem yzG{sz b i k M N c0:Nat}{cs rs l:LV}(ts:TSz P T sz)(H:HS B S w L)(hk:lkR L k=some (.osl (sl b 0 M c0) N sz cs rs T'))(hp:e x = .pointer (some ⟨b,0+i*sz,none⟩))(hi:i<N)(hy:e y=v)(hv:zmN v l) (hlen:l.length=sz) (hone:∀u∈l,u.oneCell'=true):∃w',(execOp e ⟨none,.store T x y,ty,pos,aft,g⟩).run P w = .ok .skip w'/\HS B S w' (stR L k (.osl (sl b 0 M c0) N sz (lay cs (i*sz) l) rs T')):=by
 rcases H.own k _ hk with⟨h,_⟩|⟨b',c',fz,hv',h1,h2,h3,h4,h5⟩
 ·cases h
 ·injection hv' with e1 e2 e3;injection e1 with e1;injection e1 with e1 _ _;subst e1;have e2:=e2.symm;subst e2;subst e3;have hm:i*sz+sz<=N*sz:=by have:=cE sz (show i+1<=N by omega);rw[bD,Nat.one_mul]at this;exact this
  obtain⟨w',he,hb,hs,g4,g5,g6,g7⟩:=zlY (o:=0+i*sz) ts hv h4 h5 hlen hone (by rw[aE];omega);have hlay:lay (cs++rs) (0+i*sz) l=lay cs (i*sz) l++rs:=by
   apply aX;intro j;rw[zcY,aQ];by_cases hj:i*sz<=j/\j<i*sz+l.length
   ·rw[zH ⟨hj.1,hj.2,by rw[aE];omega⟩,aF (by rw[zcL];omega),zcY,zH ⟨hj.1,hj.2,by omega⟩]
   ·rw[zG (by omega)];by_cases hj2:j<cs.length
    ·rw[aF hj2,aF (by rw[zcL];omega),zcY,zG (by omega)]
    ·rw[aH (by omega),aH (by rw[zcL];omega),zcL]
  refine⟨w',?_,H.upd hk (by omega) g4 g5 g6 (fun i _ hne=>g7 i fun e=>hne (by rw[e];rfl)) (.inr ⟨b,c0,fz,rfl,h1,by rw[zcL];exact h2,?_,by rw[<-hlay];exact hb,?_⟩) fun b' hb'=>.inl hb'⟩
  ·simp only[execOp,hp,hy,Sem.run_bind,he,Result.andThen,Sem.run_pure]
  ·rw[aE,zcL,<-aE];exact h3
  ·rw[aE,zcL,<-aE];exact h5
theorem zpW{sz b o:Nat}{cs l:LV}{fz:Nat×Nat}(ty:TAgg P T sz)(h:w.heap[b]? = some (.cells cs.toArray T' fz))(hl:piece cs o sz=l)(hsz:sz≠0->o+sz<=cs.length):(Instr.loadAt T (.pointer (some ⟨b,o,none⟩))).run P w = .ok (.agg l.toArray) w:=by
 have hlen:l.length=sz:=by
  rcases Nat.eq_zero_or_pos sz with h0|h0
  ·rw[<-hl,h0,zaL,List.take_zero];rfl
  ·rw[<-hl];exact zfO (hsz (by omega))
 have:=run_loadCells_list (P:=P) w ⟨b,o,none⟩ l (fun j v hj=>by
  rw[zbW,zdH h,<-hj,<-hl,zaL];have:j<sz:=by rw[<-hlen];exact(aC.1 hj).1
  simp[this])
 rw[hlen]at this;simp[Instr.loadAt,Instr.sureAddr,loadVar,ty.1 w,ty.2 w,this]
theorem zmE{b o:Nat}{cs:LV}{fz:Nat×Nat}(ty:TOne P T)(h:w.heap[b]? = some (.cells cs.toArray T' fz))(hl:piece cs o 1=[v]):(Instr.loadAt T (.pointer (some ⟨b,o,none⟩))).run P w = .ok v w:=by
 have hv:cs[o]? = some v:=by rw[zaL]at hl;have:=congrArg (·[0]?) hl;simpa using this
 simp[Instr.loadAt,Instr.sureAddr,loadVar,ty.1 w,zdH h,hv]
theorem zcA{sz b o k:Nat}{cs l:LV}(tg:TAgg P T sz)(H:HS B S w L)(hp:e x = .pointer (some ⟨b,o,none⟩))(hk:lkR L k=some (.blk b cs T'))(hl:piece cs o sz=l)(hsz:bM (o+sz) cs.length=true):(execOp e ⟨dst,.load T x,ty,pos,aft,g⟩).run P w = .ok (.value (.agg l.toArray)) w:=by simp only[execOp,hp,Sem.run_bind,zpW tg (H.own k _ hk) hl (fun _=>aR hsz),Result.andThen,Sem.run_pure]
theorem zcJ{b o k:Nat}{cs:LV}(tg:TOne P T)(H:HS B S w L)(hp:e x = .pointer (some ⟨b,o,none⟩))(hk:lkR L k=some (.blk b cs T'))(hv:piece cs o 1=[v]):(execOp e ⟨dst,.load T x,ty,pos,aft,g⟩).run P w = .ok (.value v) w:=by simp only[execOp,hp,Sem.run_bind,zmE tg (H.own k _ hk) hv,Result.andThen,Sem.run_pure]
theorem ziS{b p o:Nat}{cs:LV}(tg:TOne P T)(hS:Sub S w)(hp:e x = .pointer (some ⟨b,p+o,none⟩))(hc:CellAt S b p cs)(hv:piece cs o 1=[v]):(execOp e ⟨dst,.load T x,ty,pos,aft,g⟩).run P w = .ok (.value v) w:=by
 obtain⟨ds,E',fz,h1,h2,h3⟩:=hc;have h4:o+1<=cs.length:=by have:=congrArg List.length hv;rw[zaL]at this;simp at this;omega
 have h5:piece ds (p+o) 1=[v]:=by rw[<-hv,<-h3,zgM _ _ _ _ _ h4]
 simp only[execOp,hp,Sem.run_bind,zmE tg (hS _ _ h1) h5,Result.andThen,Sem.run_pure]
theorem ziW{sz b o i N c:Nat}{k:IntKind}{a:Int}(hu:P.underlying T=some (.slice E))(hs:TSz P E sz)(hx:e x=v)(hv:v=sl b o N c)(hy:e y = .int k a)(ha:a=(i:Int))(hi:i<N):(execOp e ⟨dst,.indexAddr T x y,ty,pos,aft,g⟩).run P w = .ok (.value (.pointer (some ⟨b,o+i*sz,none⟩))) w:=by subst ha;subst hv;simp[execOp,Instr.indexAt,hx,hy,sl,asIntOf,Go.underlying,hu,hs w,hi,zbW]
theorem HS.ownAt(H:HS B S w L){k N sz i:Nat}{cs rs:LV}(hk:lkR L k=some (.osl v N sz cs rs T))(hi:i<N):∃b c,v=sl b 0 N c:=by
 rcases H.own k _ hk with⟨_,h,_⟩|⟨b,c,fz,h,_⟩
 ·omega
 ·exact⟨b,c,h⟩
theorem HS.ownV{b k M N sz c:Nat}{cs rs:LV}(H:HS B S w L)(hk:lkR L k=some (.osl (sl b 0 M c) N sz cs rs T)):sl b 0 M c=sl b 0 N c:=by
 rcases H.own k _ hk with⟨h,_⟩|⟨b',c',fz,h,_⟩
 ·cases h
 ·injection h with e1 e2 e3;rw[e2]
theorem ygM{b k M N i c0:Nat}{cs rs:LV}(tg:TOne P T)(H:HS B S w L)(hk:lkR L k=some (.osl (sl b 0 M c0) N 1 cs rs T'))(hp:e x = .pointer (some ⟨b,0+i*1,none⟩))(hi:i<N)(hl:piece cs (i*1) 1=[v]):(execOp e ⟨dst,.load T x,ty,pos,aft,g⟩).run P w = .ok (.value v) w:=by
 rcases H.own k _ hk with⟨h,_⟩|⟨b',c',fz,hv',h1,h2,h3,h4,h5⟩
 ·cases h
 ·injection hv' with e1 e2 e3;injection e1 with e1;injection e1 with e1 _ _;subst e1;have e2:=e2.symm;subst e2;subst e3;have hl':piece (cs++rs) (0+i*1) 1=[v]:=by rw[<-hl,zaL,zaL,List.drop_append_of_le_length (by omega),List.take_append_of_le_length (by rw[bO];omega)];simp
  simp only[execOp,hp,Sem.run_bind,zmE tg h4 hl',Result.andThen,Sem.run_pure]
theorem ykI{sz N:Nat}{cs:LV}(hu:P.underlying T=some (.slice E))(hx:e x=v)(h:SlW w v N sz cs):(execOp e ⟨dst,.call ⟨.builtin .len,#[x],#[T]⟩,ty,pos,aft,g⟩).run P w = .ok (.value (.int .i64 (N:Int))) w:=by rcases h with⟨⟨a,rfl⟩,rfl,_⟩|⟨b,o,c,ds,T',fz,rfl,_⟩<;>exact yjG hu hx
theorem RdS.len{α:Type}[Rp α]{xs:List α}(h:RdS S v xs)(hS:Sub S w):∃cs,SlW w v xs.length (Rp.sz α) cs:=by obtain⟨cs,h1,_⟩:=h;exact⟨cs,h1.w hS⟩
theorem r_lenR'{α:Type}[Rp α]{xs:List α}(hu:P.underlying T=some (.slice E))(hx:e x=v)(h:RdS S v xs)(hS:Sub S w):(execOp e ⟨dst,.call ⟨.builtin .len,#[x],#[T]⟩,ty,pos,aft,g⟩).run P w = .ok (.value (.int .i64 (xs.length:Int))) w:=by obtain⟨cs,h1⟩:=h.len hS;exact ykI hu hx h1
theorem zwP{sz N N' k:Nat}{cs rs:LV}(hu:P.underlying T=some (.slice E))(hx:e x=v)(H:HS B S w L)(hk:lkR L k=some (.osl v N sz cs rs T'))(hN:N=N'):(execOp e ⟨dst,.call ⟨.builtin .len,#[x],#[T]⟩,ty,pos,aft,g⟩).run P w = .ok (.value (.int .i64 (N':Int))) w:=by subst hN;exact ykI hu hx (H.slW hk)
theorem yaX(k:Nat){l:List Oper}(h:∀K:FM->World->Prop,(∀m w,wpList P ops Q (l.drop k) (fr n m) w->K m w)->∀R:List Oper,(∀m w,K m w->wpList P ops Q R (fr n m) w)->wpList P ops Q (l.take k++R) (fr n m) w):wpList P ops Q l (fr n m) w:=by have h2:=h (fun m w=>wpList P ops Q (l.drop k) (fr n m) w) (fun _ _ h=>h) (l.drop k) (fun _ _ h=>h);rw[List.take_append_drop]at h2;exact h2
theorem zbC{ol:List Oper}{n:Nat}{m:FM}{j t:Nat}{b:Bool}{o:Oper}(h1:lko ol j=some o)(h2:o.dst=some t)(h3:evO n m (.tmp t) = .bool b):gvl ol n m j=some b:=by unfold gvl;rw[h1];obtain⟨dst,_,_,_,_,_⟩:=o;simp only at h2;subst h2;simp only[gvo,h3]
theorem yqV{D:List Nat}{m1 m2:FM}{X:Nat->Value}(hk:∀t,look m1 t=look m2 t)(h:∀t,has D t=false->look m2 t=X t):∀t,has D t=false->look m1 t=X t:=fun t ht=>(hk t).trans (h t ht)
theorem kN{D:List Nat}{m1 m2 m:FM}{X:Nat->Value}(k:∀t,look m1 t=look m2 t)(h:∀t,has D t=false->look m2 t=X t)(e:(∀t,has D t=false->look m1 t=X t)->(∀t,has D t=false->look m t=X t):=by intro h;(repeat (refine zpE rfl ?_));exact h):∀t,has D t=false->look m t=X t:=e (yqV k h)
theorem yqL{α:Type}[Rp α]{xs:List α}{sz p h:Nat}{a b:Int}{k k':IntKind}(hu:P.underlying T=some (.slice E))(hs:TSz P E sz)(hx:e x=v)(hz:e lo = .int k' b)(hy:e hi = .int k a)(hb:b=(p:Int))(ha:a=(h:Int))(hr:RdS S v xs)(hp:p<=h)(hh:h<=xs.length):(execOp e ⟨dst,.slice T x (some lo) (some hi) none,ty,pos,aft,g⟩).run P w = .ok (.value (subN v sz p h)) w:=by
 obtain⟨cs,h1,_⟩:=hr;rcases h1 with⟨⟨a0,rfl⟩,h2,_⟩|⟨b',o,c,ds,T',fz,rfl,h3,_⟩
 ·obtain rfl:h=0:=by omega
  obtain rfl:p=0:=by omega
  simp[execOp,Instr.sliceAt,Go.underlying,hu,Instr.slice,Instr.sliceBounds,hx,hy,hz,zbB ha (aJ _),zbB hb (aJ _),hs w,subN]
 ·simp[execOp,Instr.sliceAt,Go.underlying,hu,Instr.slice,Instr.sliceBounds,hx,hy,hz,sl,zbB ha (aY hh h3),zbB hb hp,hs w,subN]
theorem yrD{α:Type}[Rp α]{xs:List α}{sz p:Nat}{b:Int}{k':IntKind}(hu:P.underlying T=some (.slice E))(hs:TSz P E sz)(hx:e x=v)(hz:e lo = .int k' b)(hb:b=(p:Int))(hr:RdS S v xs)(hp:p<=xs.length):(execOp e ⟨dst,.slice T x (some lo) none none,ty,pos,aft,g⟩).run P w = .ok (.value (subN v sz p xs.length)) w:=by
 obtain⟨cs,h1,_⟩:=hr;rcases h1 with⟨⟨a0,rfl⟩,h2,_⟩|⟨b',o,c,ds,T',fz,rfl,h3,_⟩
 ·obtain rfl:p=0:=by omega
  simp[execOp,Instr.sliceAt,Go.underlying,hu,Instr.slice,Instr.sliceBounds,hx,hz,zbB hb (aJ _),hs w,subN,h2]
 ·simp[execOp,Instr.sliceAt,Go.underlying,hu,Instr.slice,Instr.sliceBounds,hx,hz,sl,zbB hb hp,hs w,subN]
theorem yjV{α:Type}[Rp α]{xs:List α}{sz h:Nat}{a:Int}{k:IntKind}(hu:P.underlying T=some (.slice E))(hs:TSz P E sz)(hx:e x=v)(hy:e hi = .int k a)(ha:a=(h:Int))(hr:RdS S v xs)(hh:h<=xs.length):(execOp e ⟨dst,.slice T x none (some hi) none,ty,pos,aft,g⟩).run P w = .ok (.value (subN v sz 0 h)) w:=by
 obtain⟨cs,h1,_⟩:=hr;rcases h1 with⟨⟨a0,rfl⟩,h2,_⟩|⟨b',o,c,ds,T',fz,rfl,h3,_⟩
 ·obtain rfl:h=0:=by omega
  simp[execOp,Instr.sliceAt,Go.underlying,hu,Instr.slice,Instr.sliceBounds,hx,hy,zbB ha (aJ _),hs w,subN]
 ·simp[execOp,Instr.sliceAt,Go.underlying,hu,Instr.slice,Instr.sliceBounds,hx,hy,sl,zbB ha (aY hh h3),hs w,subN]
theorem ytH{N:Nat}{T2:TypeId}{l:Bs}(hs:P.underlying T=some (.slice E))(he:P.underlying E=some (.int .u8))(hd:P.underlying T2=some .string)(hx:e x=v)(hr:SlW w v N 1 (u8s l)):(execOp e ⟨dst,.convert T T2 x,ty,pos,aft,g⟩).run P w = .ok (.value (str l)) w:=by
 have key:(convert T T2 v).run P w = .ok (str l) w:=by
  have hl:l.length=N:=by have:=hr.len;rw[zaY]at this;omega
  rcases hr with⟨⟨a0,rfl⟩,_,h2⟩|⟨b,o,c,cs,T',fz,rfl,h3,h4,h5,h6⟩
  ·have:l=[]:=by simpa[u8s]using h2
   subst this;rw[run_convert_bytes_string w T T2 E a0 0 0 hs he hd];cases a0 with
   |none=>simp[Conv.bytesToString];rfl|some a0=>simp[Conv.bytesToString,loadCells];rfl
  ·have h7:=run_convert_bytes_arg (P:=P) w T E hs he b o N c (l.map fun b=>(b.toNat:Int)) (by simpa using hl) (fun i hi=>by
    rw[zdH h4];rw[zaL,bY]at h6;have h8:((cs.drop o).take N)[i]? = (u8s l)[i]?:=by rw[h6]
    rw[bK,zH hi,bB]at h8;rw[h8];have hi':i<l.length:=by omega
    simp[u8s,hi']) T2 hd
   rw[h7,yeD]
 simp[execOp,hx,key]
theorem r_strS{T2:TypeId}{l:Bs}(hs:P.underlying T=some (.slice E))(he:P.underlying E=some (.int .u8))(hd:P.underlying T2=some .string)(hx:e x=v)(hr:RdS S v l)(hS:Sub S w):(execOp e ⟨dst,.convert T T2 x,ty,pos,aft,g⟩).run P w = .ok (.value (str l)) w:=by obtain⟨cs,h1,h2⟩:=hr;rw[RL.is_u8s h2]at h1;exact ytH hs he hd hx (h1.w hS)
theorem ysV{N k:Nat}{cs rs:LV}{T2:TypeId}{l:Bs}(hs:P.underlying T=some (.slice E))(he:P.underlying E=some (.int .u8))(hd:P.underlying T2=some .string)(hx:e x=v)(H:HS B S w L)(hk:lkR L k=some (.osl v N 1 cs rs T'))(hr:RL S cs l):(execOp e ⟨dst,.convert T T2 x,ty,pos,aft,g⟩).run P w = .ok (.value (str l)) w:=by have h1:=H.slW hk;rw[RL.is_u8s hr]at h1;exact ytH hs he hd hx h1
theorem yiL{T2:TypeId}{l:Bs}{ud:TypeDesc}(hs:P.underlying T=some ud)(hd:P.underlying T2=some (.slice E))(he:P.underlying E=some (.int .u8))(H:HS B S w L)(hx:e x=str l)(hbt:E=byteT:=by rfl):∃w' v,(execOp e ⟨dst,.convert T T2 x,ty,pos,aft,g⟩).run P w = .ok (.value v) w'/\∃rs,HS B S w' (.osl v l.length 1 (u8s l) rs E::L):=by
 have hrun:=Lib.run_convert_string_bytes (P:=P) w T T2 E ⟨l.toArray⟩ hs hd he;have hsz:(⟨l.toArray⟩:ByteArray).size=l.length:=zjZ l;rw[hsz]at hrun;have hge:=grownCap_ge w l.length 0 E;have hc:Lib.bytesCells w E ⟨l.toArray⟩=(u8s l++aO (grownCap w l.length 0 E-l.length) (Value.int .u8 0)).toArray:=by unfold Lib.bytesCells;rw[hsz];apply dS;simp[u8s]
 have hnew:=Lib.bytesWorld_at_new w E ⟨l.toArray⟩;have hlen:(Lib.bytesCells w E ⟨l.toArray⟩).size=grownCap w l.length 0 E:=by rw[hc];simp[u8s];omega
 refine⟨Lib.bytesWorld w E ⟨l.toArray⟩,sl w.heap.size 0 l.length (grownCap w l.length 0 E),by simp only[execOp,hx,str,Sem.run_bind,hrun,Result.andThen_ok,Sem.run_pure],aO (grownCap w l.length 0 E-l.length) (Value.int .u8 0),?_⟩;refine H.push (w':=Lib.bytesWorld w E ⟨l.toArray⟩) ?_ (.inr ⟨w.heap.size,grownCap w l.length 0 E,_,rfl,hge,by simp[u8s],by simp[u8s];omega,by rw[hnew,hc],.inr ?_⟩) fun b hb=>by cases hb;exact aJ _
 ·refine⟨?_,?_,?_,by rw[Lib.bytesWorld_size];omega,fun k hk=>Lib.bytesWorld_at_old w E _ k hk⟩<;>simp[Lib.bytesWorld,World.freeze,World.alloc,World.drew,-World.alloc_eq,-World.drew_eq]<;>split<;>rfl
 ·exact⟨by simp[u8s],hbt⟩
end
end
end
section
structure TSn (P:Program) (T E:TypeId) (z:Value) (zl:LV) (nb sz:Nat):Prop where
 und:P.underlying T=some (.slice E)
 info:∃i,P.info? E=some i/\i.zero=some z/\i.size=sz/\i.bytes=nb
 cells:z.cells=zl.toArray
 len:zl.length=sz
 pos:0<sz
 small:nb<=2048
theorem TSn.mk'{P:Program}{T E:TypeId}{z:Value}{zl:LV}{nb sz:Nat}(h1:P.underlying T=some (.slice E))(h2:(P.info? E).map (fun i=>(i.zero,i.size,i.bytes))=some (some z,sz,nb))(h3:z.cells=zl.toArray)(h4:zl.length=sz)(h5:Nat.blt 0 sz=true)(h6:bM nb 2048=true):TSn P T E z zl nb sz:=by
 refine⟨h1,?_,h3,h4,by rw[zhR]at h5;simpa using h5,aR h6⟩;cases hi:P.info? E with
 |none=>simp[hi]at h2|some i=>simp only[hi,bA,Option.some.injEq,Prod.mk.injEq]at h2;exact⟨i,rfl,h2.1,h2.2.1,h2.2.2⟩
theorem TSn.tsz{P:Program}{T E:TypeId}{z:Value}{zl:LV}{nb sz:Nat}(h:TSn P T E z zl nb sz):TSz P E sz:=fun w=>by obtain⟨i,h1,_,h3,_⟩:=h.info;simp[sizeOf,typeInfo,h1,h3]
theorem zkM(z:Array Value)(zl:LV)(hz:z=zl.toArray):∀n,(Builtin.zeroCells z n).toList.length=n*zl.length:=fun n=>by rw[Array.length_toList,size_zeroCells,hz];simp
section
variable {P:Program}{w:World}{B:Bas}{S:Mem}{L:List Res}{e:Operand->Value}{dst:Option Tmp}{g:Option (Nat×Bool)}
variable {ty:TypeId}{pos:String}{aft:Array Edge}{v v2 z:Value}{x y:Operand}{T E:TypeId}{nb sz N M k:Nat}{zl cs rs ncs:LV}
theorem SlW.first{n:Nat}(h:SlW w v2 n sz ncs):(Builtin.lenOf v2).run P w = .ok n w/\(Builtin.firstCells sz n v2).run P w = .ok ncs.toArray w:=by
 rcases h with⟨⟨a,rfl⟩,rfl,rfl⟩|⟨b,o,c,ds,T',fz,rfl,h1,h2,h3,h4⟩
 ·refine⟨by simp[Builtin.lenOf],?_⟩;cases a with
  |none=>simp[run_firstCells_none]|some a=>exact run_firstCells_some (P:=P) w sz 0 a 0 0 [] (by simp) fun j u hj=>by simp at hj
 ·refine⟨by simp[Builtin.lenOf],?_⟩;have hl:ncs.length=n*sz:=by rw[<-h4];exact zfO h3
  refine run_firstCells_some (P:=P) w sz n ⟨b,o,none⟩ n c ncs hl fun j u hj=>?_;have hjl:=(aC.1 hj).1;rw[zbW,zdH h2];rw[<-h4,zaL,bK,zH (by omega),bB]at hj;exact hj
theorem zqQ(hT:TSn P T E z zl nb sz)(H:HS B S w L)(hk:lkR L k=some (.osl v N sz cs rs E))(hr:SlW w v2 M sz ncs)(h1:∀u∈ncs,u.oneCell'=true)(hb:N+M<=68719476736):∃w' v' rs',(Builtin.append_ #[T,T] ty #[v,v2]).run P w = .ok v' w'/\HS B S w' (stR L k (.osl v' (N+M) sz (cs++ncs) rs' E)):=by
 obtain⟨i,hi1,hi2,hi3,hi4⟩:=hT.info;have hpos:=hT.pos;have hsmall:=hT.small;have hbound:(N+M)*nb<=140737488355328:=by
  calc (N+M)*nb<=68719476736*2048:=dE hb hsmall
   _=140737488355328:=by decide
 obtain⟨hf1,hf2⟩:=hr.first (P:=P);have hncs:=hr.len;have hzl:∀n,(Builtin.zeroCells z.cells n).toList.length=n*sz:=fun n=>by rw[zkM _ _ hT.cells,hT.len]
 rcases H.own k _ hk with⟨rfl,rfl,rfl,rfl⟩|⟨b,c,fz,rfl,g1,g2,g3,g4,g5⟩
 ·by_cases hM:M=0
  ·subst hM;have hn:ncs=[]:=aU (by omega);subst hn;refine⟨w,.slice none 0 0,[],?_,H.upd hk (aJ _) rfl rfl rfl (fun _ _ _=>rfl) (.inl ⟨rfl,rfl,rfl,rfl⟩) fun b hb=>by cases hb⟩;simp[Builtin.append_,Go.underlying,hT.und,sizeOf,typeInfo,hi1,hi3,hf1,hf2]
  ·rcases hr with⟨_,h,_⟩|⟨b2,o2,c2,cs2,T2,fz2,rfl,hc2,hb2,ho2,hp2⟩
   ·exact absurd h hM
   ·have hnews:∀j u,ncs[j]? = some u->w.cell? ((⟨b2,o2,none⟩:Addr).add j)=some u:=fun j u hj=>by have hjl:=(aC.1 hj).1;rw[zbW,zdH hb2];rw[<-hp2,zaL,bK,zH (by omega),bB]at hj;exact hj
    have hrun:=run_append_nil (P:=P) w T ty E i z hT.und hi1 hi2 ⟨b2,o2,none⟩ M c2 ncs (by rw[hi3];exact hncs) hnews (by omega) (by omega) (by rw[hi4];rw[aQ]at hbound;omega);have hge:=grownCap_ge w M 0 E;generalize hG:grownCap w M 0 E=G at hrun hge;have hZl:=hzl (G-M);generalize hZ:Builtin.zeroCells z.cells (G-M)=Z at hrun hZl;have hcells:ncs.toArray++Z=(ncs++Z.toList).toArray:=by apply dS;simp
    rw[hcells]at hrun;refine⟨_,_,Z.toList,hrun,?_⟩;refine H.upd hk (by simp) rfl rfl rfl (fun j hj _=>?_) (.inr ⟨w.heap.size,G,(0,0),?_,by omega,?_,?_,?_,.inl rfl⟩) fun b hb=>?_
    ·exact(Ext.trans (Ext.drew w) (Ext.alloc w.drew _)).block j hj
    ·rw[aQ]
    ·simp[hncs]
    ·refine dW (Eq.symm ?_);rw[cF,aE,hncs,hZl,<-bD];congr 1;omega
    ·rw[cF];exact zaR w.drew _
    ·cases hb;exact .inr (aJ _)
 ·by_cases hroom:N+M<=c
  ·have hcap:N*sz+M*sz<=c*sz:=by rw[<-bD];exact cE sz hroom
   obtain⟨w',he,hb',hs,q4,q5,q6,q7⟩:=zdY (P:=P) (b:=b) (o:=N*sz) ncs 0 w (cs++rs) h1 g4 g5 (by omega);have hlay:lay (cs++rs) (N*sz+0) ncs=cs++ncs++rs.drop ncs.length:=by
    apply aX;intro j;rw[aE]at g3;rw[zcY,cQ,bG];by_cases hj:j<N*sz
    ·rw[zG (by omega),aF (by omega),aF (by omega)]
    ·by_cases hj2:j<N*sz+ncs.length
     ·rw[zH ⟨by omega,hj2,by rw[aE];omega⟩,aH (by omega),aF (by omega),g2]
     ·rw[zG (by omega),aH (by omega),aH (by omega),aH (by omega),bB];congr 1;omega
   rw[hlay]at hb';refine⟨w',sl b 0 (N+M) c,rs.drop ncs.length,?_,H.upd hk (by omega) q4 q5 q6 (fun j _ hne=>q7 j fun e=>hne (by rw[e];rfl)) (.inr ⟨b,c,fz,rfl,hroom,?_,?_,hb',?_⟩) fun b' hb'=>.inl hb'⟩
   ·simp[Builtin.append_,Go.underlying,hT.und,sizeOf,typeInfo,hi1,hi3,hf1,hf2,hroom,sl,zbW,he]
   ·rw[aE,g2,hncs,bD]
   ·rw[aE]at g3;simp only[aE,bO];omega
   ·have:(cs++ncs++rs.drop ncs.length).length=(cs++rs).length:=by rw[aE]at g3;simp only[aE,bO];omega
    rw[this];exact g5
  ·rcases hr with⟨_,h,_⟩|⟨b2,o2,c2,cs2,T2,fz2,rfl,hc2,hb2,ho2,hp2⟩
   ·subst h;omega
   ·have hnews:∀j u,ncs[j]? = some u->w.cell? ((⟨b2,o2,none⟩:Addr).add j)=some u:=fun j u hj=>by have hjl:=(aC.1 hj).1;rw[zbW,zdH hb2];rw[<-hp2,zaL,bK,zH (by omega),bB]at hj;exact hj
    have holds:∀j u,cs[j]? = some u->w.cell? ((⟨b,0,none⟩:Addr).add j)=some u:=fun j u hj=>by rw[zbW,zdH g4,aQ,aF (aC.1 hj).1];exact hj
    have hfit:=growslice_fits (bytes:=nb) (dU hroom) hbound;have hrun:=run_append_grow (P:=P) w T ty E i z hT.und hi1 hi2 ⟨b,0,none⟩ N c cs (by rw[hi3];exact g2) holds ⟨b2,o2,none⟩ M c2 ncs (by rw[hi3];exact hncs) hnews (dU hroom) (by omega) (by rw[hi4];exact hfit);have hge:=grownCap_ge w (N+M) c E;generalize hG:grownCap w (N+M) c E=G at hrun hge;have hZl:=hzl (G-(N+M));generalize hZ:Builtin.zeroCells z.cells (G-(N+M))=Z at hrun hZl;have hcells:cs.toArray++ncs.toArray++Z=(cs++ncs++Z.toList).toArray:=by apply dS;simp
    rw[hcells]at hrun;refine⟨_,_,Z.toList,hrun,?_⟩;refine H.upd hk (by simp) rfl rfl rfl (fun j hj _=>?_) (.inr ⟨w.heap.size,G,(0,0),rfl,hge,?_,?_,?_,.inl rfl⟩) fun b hb=>?_
    ·exact(Ext.trans (Ext.drew w) (Ext.alloc w.drew _)).block j hj
    ·rw[aE,g2,hncs,bD]
    ·refine dW (Eq.symm ?_);simp only[aE,hZl,g2,hncs,<-bD];congr 1;omega
    ·exact zaR w.drew _
    ·cases hb;exact .inr (aJ _)
theorem ykT(hT:TSn P T E z zl nb sz)(H:HS B S w L)(hx:e x=v)(hk:lkR L k=some (.osl v N sz cs rs E))(hy:e y=v2)(hr:SlW w v2 M sz ncs)(h1:∀u∈ncs,u.oneCell'=true)(hb:N+M<=68719476736):∃w' v' rs',(execOp e ⟨dst,.call ⟨.builtin .append,#[x,y],#[T,T]⟩,ty,pos,aft,g⟩).run P w = .ok (.value v') w'/\HS B S w' (stR L k (.osl v' (N+M) sz (cs++ncs) rs' E)):=by obtain⟨w',v',rs',hrun,H'⟩:=zqQ (ty:=ty) hT H hk hr h1 hb;exact⟨w',v',rs',by simp[execOp,resolve,invoke,builtin,hx,hy,hrun],H'⟩
theorem zrJ{T2:TypeId}{l:Bs}(hT:TSn P T E z zl nb 1)(h2:P.underlying T2=some .string)(H:HS B S w L)(hk:lkR L k=some (.osl v N 1 cs rs E))(hb:N+l.length<=68719476736):∃w' v' rs',(Builtin.append_ #[T,T2] ty #[v,str l]).run P w = .ok v' w'/\HS B S w' (stR L k (.osl v' (N+l.length) 1 (cs++u8s l) rs' E)):=by
 obtain⟨i,hi1,hi2,hi3,hi4⟩:=hT.info;have hsmall:=hT.small;have hbound:(N+l.length)*nb<=140737488355328:=by
  calc (N+l.length)*nb<=68719476736*2048:=dE hb hsmall
   _=140737488355328:=by decide
 have hsz:(⟨l.toArray⟩:ByteArray).size=l.length:=zjZ l;have hmap:(iW (fun b:UInt8=>Value.int IntKind.u8 (b.toNat:Int)) (⟨l.toArray⟩:ByteArray).data)=(u8s l).toArray:=by simp[u8s]
 have hfst:(Builtin.firstCells 1 l.length (str l)).run P w = .ok (u8s l).toArray w:=by
  have hx:(⟨l.toArray⟩:ByteArray).extract 0 l.length=⟨l.toArray⟩:=by rw[zjG];simp
  simp only[Builtin.firstCells,hx,Sem.run_pure];rw[<-hmap]
 have hlen:(Builtin.lenOf (str l)).run P w = .ok l.length w:=by simp[Builtin.lenOf,hsz]
 have hzl:∀n,(Builtin.zeroCells z.cells n).toList.length=n:=fun n=>by rw[zkM _ _ hT.cells,hT.len,bY]
 rcases H.own k _ hk with⟨rfl,rfl,rfl,rfl⟩|⟨b,c,fz,rfl,g1,g2,g3,g4,g5⟩
 ·by_cases hM:l.length=0
  ·have hn:l=[]:=aU hM;subst hn;refine⟨w,.slice none 0 0,[],?_,H.upd hk (aJ _) rfl rfl rfl (fun _ _ _=>rfl) (.inl ⟨rfl,rfl,rfl,rfl⟩) fun b hb=>by cases hb⟩;have h5:=hlen;have h6:=hfst;simp only[List.length_nil]at h5 h6;simp[Builtin.append_,Go.underlying,hT.und,h2,sizeOf,typeInfo,hi1,hi3,h5,h6]
  ·have hrun:=run_append_nil_string (P:=P) w T T2 ty E i z hT.und h2 hi1 hi2 ⟨l.toArray⟩ (by rw[hsz];omega) (by rw[hsz];omega) (by rw[hi4,hsz];rw[aQ]at hbound;omega);rw[hsz]at hrun;have hge:=grownCap_ge w l.length 0 E;generalize hG:grownCap w l.length 0 E=G at hrun hge;have hZl:=hzl (G-l.length);generalize hZ:Builtin.zeroCells z.cells (G-l.length)=Z at hrun hZl;have hcells:(iW (fun b:UInt8=>Value.int IntKind.u8 (b.toNat:Int)) (⟨l.toArray⟩:ByteArray).data)++Z=(u8s l++Z.toList).toArray:=by rw[hmap];apply dS;simp
   rw[hcells]at hrun;refine⟨_,_,Z.toList,hrun,?_⟩;refine H.upd hk (by simp) rfl rfl rfl (fun j hj _=>?_) (.inr ⟨w.heap.size,G,(0,0),?_,by omega,?_,?_,?_,.inl rfl⟩) fun b hb=>?_
   ·exact(Ext.trans (Ext.drew w) (Ext.alloc w.drew _)).block j hj
   ·rw[aQ]
   ·simp[zaY]
   ·rw[cF,aE,hZl,zaY];omega
   ·rw[cF];exact zaR w.drew _
   ·cases hb;exact .inr (aJ _)
 ·by_cases hroom:N+l.length<=c
  ·obtain⟨w',he,hb',hs,q4,q5,q6,q7⟩:=zdY (P:=P) (b:=b) (o:=N) (u8s l) 0 w (cs++rs) (ywO l) g4 g5 (by rw[zaY];omega);have hlay:lay (cs++rs) (N+0) (u8s l)=cs++u8s l++rs.drop l.length:=by
    apply aX;intro j;rw[aE]at g3;rw[zcY,cQ,bG,zaY];by_cases hj:j<N
    ·rw[zG (by omega),aF (by omega),aF (by omega)]
    ·by_cases hj2:j<N+l.length
     ·rw[zH ⟨by omega,hj2,by rw[aE];omega⟩,aH (by omega),aF (by rw[zaY];omega),g2,bY]
     ·rw[zG (by omega),aH (by omega),aH (by omega),aH (by rw[zaY];omega),bB];congr 1;rw[zaY];omega
   rw[hlay]at hb';have hcap:(cs++u8s l++rs.drop l.length).length=(cs++rs).length:=by rw[aE]at g3;simp only[aE,bO,zaY];omega
   refine⟨w',sl b 0 (N+l.length) c,rs.drop l.length,?_,H.upd hk (by omega) q4 q5 q6 (fun j _ hne=>q7 j fun e=>hne (by rw[e];rfl)) (.inr ⟨b,c,fz,rfl,hroom,?_,by rw[hcap];exact g3,hb',by rw[hcap];exact g5⟩) fun b' hb'=>.inl hb'⟩
   ·simp[Builtin.append_,Go.underlying,hT.und,h2,sizeOf,typeInfo,hi1,hi3,hlen,hfst,hroom,sl,zbW,he]
   ·rw[aE,g2,zaY];omega
  ·have holds:∀j u,cs[j]? = some u->w.cell? ((⟨b,0,none⟩:Addr).add j)=some u:=fun j u hj=>by rw[zbW,zdH g4,aQ,aF (aC.1 hj).1];exact hj
   have hfit:=growslice_fits (bytes:=nb) (dU hroom) hbound;have hrun:=Lib.run_append_grow_string (P:=P) w T T2 ty E i z hT.und h2 hi1 hi2 ⟨b,0,none⟩ N c cs (by rw[hi3];exact g2) holds ⟨l.toArray⟩ (by rw[hsz];exact dU hroom) (by rw[hsz];omega) (by rw[hi4,hsz];exact hfit);rw[hsz]at hrun;have hge:=grownCap_ge w (N+l.length) c E;generalize hG:grownCap w (N+l.length) c E=G at hrun hge;have hZl:=hzl (G-(N+l.length));generalize hZ:Builtin.zeroCells z.cells (G-(N+l.length))=Z at hrun hZl;have hsc:Lib.strCells ⟨l.toArray⟩=u8s l:=by simp[Lib.strCells,u8s]
   rw[hsc]at hrun;have hcells:cs.toArray++(u8s l).toArray++Z=(cs++u8s l++Z.toList).toArray:=by apply dS;simp
   rw[hcells]at hrun;refine⟨_,_,Z.toList,hrun,?_⟩;refine H.upd hk (by simp) rfl rfl rfl (fun j hj _=>?_) (.inr ⟨w.heap.size,G,(0,0),rfl,hge,?_,?_,?_,.inl rfl⟩) fun b hb=>?_
   ·exact(Ext.trans (Ext.drew w) (Ext.alloc w.drew _)).block j hj
   ·rw[aE,g2,zaY];omega
   ·simp only[aE,hZl,g2,zaY];omega
   ·exact zaR w.drew _
   ·cases hb;exact .inr (aJ _)
theorem HS.nilOwn(H:HS B S w L)(sz:Nat)(E:TypeId):HS B S w (.osl (.slice none 0 0) 0 sz [] [] E::L):=
 H.push (Ext.refl w) (.inl ⟨rfl,rfl,rfl,rfl⟩) fun b hb=>by cases hb
theorem toList_range_map'(zl:LV)(sz n:Nat)(hz:zl.length=sz)(hp:0<sz):((eO (n*sz)).map fun x=>(zl.toArray:Array Value)[x%sz]!).toList=(aO n zl).flatten:=by
 subst hz;apply aX;intro j;have hfl:((aO n zl).flatten).length=n*zl.length:=by simp
 by_cases hj:j<n*zl.length
 ·have h1:j%zl.length<zl.length:=aZ _ hp;have h2:((aO n zl).flatten)[j]? = zl[j%zl.length]?:=by
   clear h1 hfl;induction n generalizing j with
   |zero=>omega|succ n ih=>
    rw[List.replicate_succ,List.flatten_cons];by_cases hj2:j<zl.length
    ·rw[aF hj2,aP hj2]
    ·rw[aH (by omega),ih (j-zl.length) (by rw[bD]at hj;omega),<-Nat.mod_eq_sub_mod (by omega)]
  rw[h2];simp[hj,h1]
 ·rw[bT (by simp;omega),bT (by simpa using hj)]
theorem fillL_slice'{ps:List (Nat×Value)}{cs l:LV}(h:znA ((cZ 0 N).map fun i=>(i*sz,sz)) cs ps=some l):Instr.fill (fun i=>some (i*sz,sz)) cs.toArray ps=some l.toArray:=
 zyC (fun i=>by simpa using zsQ sz N 0 i) ps cs l h
theorem zxC{ps:List (Nat×Operand)}{vals:List (Nat×Value)}{l:LV}(hT:TSn P T E z zl nb sz)(hp:zmB e ps=vals) (hl:znA ((cZ 0 N).map fun i=>(i*sz,sz)) (aO N zl).flatten vals=some l) (hN:bM (N*sz) 16777216=true):(execOp e ⟨dst,.buildSlice T N ps.toArray,ty,pos,aft,g⟩).run P w = .ok (.value (sl w.heap.size 0 N N)) (w.alloc (.cells l.toArray E)):=by
 obtain⟨i,hi1,hi2,hi3,hi4⟩:=hT.info;have hpos:=hT.pos;have e1:(ps.toArray.map fun(i,x)=>(i,e x))=vals.toArray:=by rw[<-hp,<-zwJ];simp
 have hf:=fillL_slice' hl;have hN':¬16777216<N*sz:=by have:=aR hN;omega
 simp only[execOp,Sem.run_bind];rw[e1];by_cases h0:N=0
 ·subst h0;simp only[aO,List.flatten_nil]at hf;have hr':(iW (fun _=>(default:Value)) (eO 0)) = #[]:=by simp
  simp[Instr.buildSlice,Go.underlying,hT.und,sizeOf,typeInfo,hi1,hi3,newRow,sl];rw[hr',hf];simp
 ·have hr:=toList_range_map' zl sz N hT.len hpos;have hr':((eO (N*sz)).map fun x=>(zl.toArray:Array Value)[x%sz]!)=((aO N zl).flatten).toArray:=by rw[<-hr]
  have hne:¬N*sz=0:=by intro h;rcases Nat.mul_eq_zero.1 h with h|h<;>omega
  simp at hr';have hz2:zl.length=sz:=hT.len;simp only[Instr.buildSlice,Go.underlying,hT.und,sizeOf,typeInfo,hi1,hi3,Sem.run_bind,run_program,Result.andThen_ok,Sem.run_pure,zG hN',zG hne,zeroValue,hi2,hT.cells];simp[hz2,hr',newRow,sl];rw[hf];simp
theorem zqG{ps:List (Nat×Operand)}{vals:List (Nat×Value)}{l:LV}(hT:TSn P T E z zl nb sz)(H:HS B S w L)(hp:zmB e ps=vals) (hl:znA ((cZ 0 N).map fun i=>(i*sz,sz)) (aO N zl).flatten vals=some l) (hN:bM (N*sz) 16777216=true) (hlen:l.length=N*sz):∃w' v,(execOp e ⟨dst,.buildSlice T N ps.toArray,ty,pos,aft,g⟩).run P w = .ok (.value v) w'/\HS B S w' (.osl v N sz l [] E::L):=by have hrun:=zxC (P:=P) (w:=w) (dst:=dst) (ty:=ty) (pos:=pos) (aft:=aft) (g:=g) hT hp hl hN;refine⟨_,_,hrun,H.push (Ext.alloc w _) (.inr ⟨w.heap.size,N,(0,0),rfl,aJ _,hlen,by rw[cC];exact dW hlen.symm,by rw[cC];exact zaR w _,.inl rfl⟩) fun b hb=>by cases hb;exact aJ _⟩
theorem zjN{α:Type}[Rp α]{xs:List α}{ps:List (Nat×Operand)}{vals:List (Nat×Value)}{l:LV}(g0:RL S l xs)(hT:TSn P T E z zl nb sz)(H:HS B S w L)(hp:zmB e ps=vals) (hl:znA ((cZ 0 N).map fun i=>(i*sz,sz)) (aO N zl).flatten vals=some l) (hN:bM (N*sz) 16777216=true) (hs:Rp.sz α=sz:=by rfl) (hx:xs.length=N:=by rfl):∃w' v,(execOp e ⟨dst,.buildSlice T N ps.toArray,ty,pos,aft,g⟩).run P w = .ok (.value v) w'/\∃cs,HS B S w' (.osl v N sz cs [] E::L)/\RL S cs xs:=by obtain⟨w',v,h1,h2⟩:=zqG (dst:=dst) (ty:=ty) (pos:=pos) (aft:=aft) (g:=g) hT H hp hl hN (by rw[g0.len,hs,hx]);exact⟨w',v,h1,l,h2,g0⟩
theorem a_make{a b:Int}{k1 k2:IntKind}{N C:Nat}(hT:TSn P T E z zl nb sz)(H:HS B S w L)(hx:e x = .int k1 a)(hy:e y = .int k2 b)(ha:a=(N:Int))(hb:b=(C:Int))(hNC:N<=C)(hC:C<=68719476736):∃w' v,(execOp e ⟨dst,.makeSlice T x y,ty,pos,aft,g⟩).run P w = .ok (.value v) w'/\HS B S w' (.osl v N sz (aO N zl).flatten (aO (C-N) zl).flatten E::L):=by
 obtain⟨i,hi1,hi2,hi3,hi4⟩:=hT.info;have hsmall:=hT.small;subst ha;subst hb;have hbb:(i.bytes:Int)*(C:Int)<=281474976710656:=by rw[hi4,<-Int.natCast_mul];have:nb*C<=2048*68719476736:=dE hsmall hC;omega
 have hr:=run_make (P:=P) w T E i z hT.und hi1 hi2 k1 k2 N C (by omega) (by omega) hbb (by omega);have hc:madeCells z.cells (((C:Int).toNat)*i.size)=((aO N zl).flatten++(aO (C-N) zl).flatten).toArray:=by
  rw[hi3,cU,hT.cells];unfold madeCells;have h1:=toList_range_map' zl sz C hT.len hT.pos;have h2:(zl.toArray).size=sz:=by simpa using hT.len
  rw[h2];apply dS;rw[h1,List.toList_toArray,<-List.flatten_append,List.replicate_append_replicate];congr 2;omega
 rw[hc,cU,cU]at hr;refine⟨_,_,by simp only[execOp,hx,hy,Sem.run_bind,hr,Result.andThen_ok,Sem.run_pure],H.push (Ext.alloc w _) (.inr ⟨w.heap.size,C,(0,0),rfl,hNC,?_,?_,zaR w _,.inl rfl⟩) fun b hb=>by cases hb;exact aJ _⟩
 ·rw[List.length_flatten];simp[hT.len]
 ·refine dW (Eq.symm ?_);simp[hT.len];rw[<-bD];congr 1;omega
section
variable {α:Type}[Rp α]
theorem HS.fixX{xs:List α}(H:HS B S w L){k:Nat}(hk:lkR L k=some (.osl v xs.length sz cs rs T))(hr:RL S cs xs)(hs:Rp.sz α=sz:=by rfl):∃S',Mem.le S S'/\RdS S' v xs/\HS B S' w (rmR L k):=by obtain⟨S',hle,h1,H'⟩:=H.fixS hk;subst hs;exact⟨S',hle,⟨cs,h1,hr.mono hle⟩,H'⟩
theorem zmV{k:Nat}{xs ys r:List α}{ds:LV}(hT:TSn P T E z zl nb sz)(_hs:Rp.sz α=sz)(H:HS B S w L)(hx:e x=v)(hk:lkR L k=some (.osl v xs.length sz cs rs E))(h0:RL S cs xs)(hy:e y=v2)(hw:SlW w v2 ys.length sz ds)(h2:RL S ds ys)(ha:app xs ys=some r):∃w' v',(execOp e ⟨dst,.call ⟨.builtin .append,#[x,y],#[T,T]⟩,ty,pos,aft,g⟩).run P w = .ok (.value v') w'/\∃cs' rs',HS B S w' (stR L k (.osl v' r.length sz cs' rs' E))/\RL S cs' r:=by obtain⟨hb,hr⟩:=zcQ ha;obtain⟨w',v',rs',hrun,H'⟩:=ykT (dst:=dst) (ty:=ty) (pos:=pos) (aft:=aft) (g:=g) hT H hx hk hy hw h2.one hb;subst hr;rw[<-aE]at H';exact⟨w',v',hrun,_,rs',H',h0.append h2⟩
theorem ydB{α:Type}[Rp α]{i:Int}{k b M c0:Nat}{xs r:List α}{u:α}{l:LV}{T':TypeId}(ts:TSz P T sz)(hs:Rp.sz α=sz)(H:HS B S w L)(hk:lkR L k=some (.osl (sl b 0 M c0) xs.length sz cs rs T'))(h0:RL S cs xs)(hp:e x = .pointer (some ⟨b,0+i.toNat*sz,none⟩))(hy:e y=v)(hv:zmN v l)(hu:Rp.rep S l u)(hi:setL xs i u=some r):∃w',(execOp e ⟨none,.store T x y,ty,pos,aft,g⟩).run P w = .ok .skip w'/\∃cs',HS B S w' (stR L k (.osl (sl b 0 M c0) r.length sz cs' rs T'))/\RL S cs' r:=by
 obtain⟨_,h1,h2⟩:=zlB hi;obtain⟨w',hrun,H'⟩:=yzG (g:=g) (ty:=ty) (pos:=pos) (aft:=aft) ts H hk hp h1 hy hv (by rw[Rp.len hu,hs]) (Rp.one hu);have hl:r.length=xs.length:=by rw[<-h2,bP]
 rw[<-hl]at H';exact⟨w',hrun,_,H',yoD h0 hu hi hs⟩
theorem a_makeX{a b:Int}{k1 k2:IntKind}{zx:α}{r:List α}(hT:TSn P T E z zl nb sz)(_hs:Rp.sz α=sz)(H:HS B S w L)(hx:e x = .int k1 a)(hy:e y = .int k2 b)(hz:Rp.rep S zl zx)(hm:mkL a zx=some r)(hab:a<=b)(hb:b<=(LIM:Int)):∃w' v,(execOp e ⟨dst,.makeSlice T x y,ty,pos,aft,g⟩).run P w = .ok (.value v) w'/\∃cs rs,HS B S w' (.osl v r.length sz cs rs E::L)/\RL S cs r:=by
 obtain⟨h1,h2,h3⟩:=yyP hm;have hb':b<=68719476736:=hb;obtain⟨w',v,hrun,H'⟩:=a_make (dst:=dst) (ty:=ty) (pos:=pos) (aft:=aft) (g:=g) (N:=a.toNat) (C:=b.toNat) hT H hx hy (by omega) (by omega) (by omega) (by omega);have hl:r.length=a.toNat:=by rw[<-h3];simp
 rw[<-hl]at H';refine⟨w',v,hrun,_,_,H',?_⟩;rw[hl,<-h3];exact RL.replicate hz _
end
theorem zaT{a b:Bool}(h:(a&&b)=true):a=true:=by rw[aK]at h;exact h.1
theorem zaW{a b:Bool}(h:(a&&b)=true):b=true:=by rw[aK]at h;exact h.2
end
end
section
abbrev itT(l:Bs)(p:Nat):Obj:=.stringIter ⟨l.toArray⟩ p
def dec(l:Bs)(p:Nat):Nat×Nat:=Utf8.decode ⟨l.toArray⟩ p
def nxR(l:Bs)(p:Nat):Int:=((dec l p).1:Int)
def nxP(l:Bs)(p:Nat):Nat:=bif decide (p<l.length)then p+(dec l p).2 else p
def nxV(l:Bs)(p:Nat):Value:=bif decide (p<l.length)then .tuple #[.bool true,.int .i64 (p:Int),.int .i32 (nxR l p)]else .tuple #[.bool false]
section
variable {P:Program}{ops:Array Oper}{Q:Exit->Act->World->Prop}{rest:List Oper}{n:Nat}{m:FM}{w:World}{B:Bas}{S:Mem}{L:List Res}
variable {d:Nat}{op:Op}{ty:TypeId}{pos:String}{aft:Array Edge}{c v:Value}{x y:Operand}{T T':TypeId}{e:Operand->Value}{dst:Option Tmp}{g:Option (Nat×Bool)}
theorem p_ofc{φ:World->Prop}(h:∃w',(execOp (evO n m) ⟨some d,op,ty,pos,aft,none⟩).run P w = .ok (.value c) w'/\φ w')(hr:∀w',φ w'->wpList P ops Q rest (fr n ((d,c)::m)) w'):
  wpList P ops Q (⟨some d,op,ty,pos,aft,none⟩::rest) (fr n m) w:=by
 obtain⟨w',h1,h2⟩:=h;exact yuQ h1 (hr w' h2)
theorem ydP{s:ByteArray}{p b:Nat}(h:w.heap[b]? = some (.stringIter s p)):(getObj b).run P w = .ok (.stringIter s p) w:=by simp[getObj,Sem.run,h]
theorem yoH{s:ByteArray}{p b:Nat}{o:Obj}(h:w.heap[b]? = some (.stringIter s p)):(setObj b o).run P w = .ok () { w with heap:=w.heap.setIfInBounds b o }:=by simp[setObj,Sem.run,h]
theorem yxF{l:Bs}(H:HS B S w L)(hu:P.underlying T=some .string)(hx:e x=str l):∃w' b,(execOp e ⟨dst,.range T x,ty,pos,aft,g⟩).run P w = .ok (.value (.pointer (some ⟨b,0,none⟩))) w'/\HS B S w' (.obj b (itT l 0)::L):=by refine⟨w.alloc (itT l 0),w.heap.size,?_,H.push (Ext.alloc w _) (zaR w _) fun b hb=>by cases hb;exact aJ _⟩;simp[execOp,Instr.range,Go.underlying,hu,hx,str,itT]
theorem a_nextT{l:Bs}{p k b:Nat}(H:HS B S w L)(hx:e x = .pointer (some ⟨b,0,none⟩))(hk:lkR L k=some (.obj b (itT l p))):∃w',(execOp e ⟨dst,.next x true,ty,pos,aft,g⟩).run P w = .ok (.value (nxV l p)) w'/\HS B S w' (stR L k (.obj b (itT l (nxP l p)))):=by
 have hb:w.heap[b]? = some (itT l p):=H.own k _ hk;have hsz:(⟨l.toArray⟩:ByteArray).size=l.length:=zjZ l;by_cases hp:p<l.length
 ·have hblt:=lt_of_heap hb;refine⟨{ w with heap:=w.heap.setIfInBounds b (itT l (nxP l p)) },?_,H.upd hk (by simp) rfl rfl rfl (fun i _ hne=>?_) ?_ fun b' hb'=>.inl hb'⟩
  ·simp[execOp,Instr.next,hx,ydP hb,hsz,hp,nxV,nxP,nxR,dec,yoH hb,goInt]
  ·have hib:i≠b:=fun e=>hne (by rw[e];rfl);show(w.heap.setIfInBounds b _)[i]? = _;rw[Array.getElem?_setIfInBounds_ne (Ne.symm hib)]
  ·show(w.heap.setIfInBounds b _)[b]? = _;simp[hblt]
 ·refine⟨w,?_,?_⟩
  ·simp[execOp,Instr.next,hx,ydP hb,hsz,hp,nxV]
  ·have e1:nxP l p=p:=by simp[nxP,hp]
   rw[e1];have e2:stR L k (.obj b (itT l p))=L:=by
    clear H;induction L generalizing k with
    |nil=>rfl|cons r L ih=>
     cases k with
     |zero=>simp only[lkR,Option.some.injEq]at hk;rw[hk];rfl|succ k=>simp only[lkR]at hk;simp only[stR];rw[ih hk]
   rw[e2];exact H
theorem zbZ{a:Addr}(hx:e x = .pointer (some a)):(execOp e ⟨dst,.nilCheck x,ty,pos,aft,g⟩).run P w = .ok (.value (.pointer (some a))) w:=by simp[execOp,hx]
def zsI(w:World):Mem:=fun b=>nj w.heap[b]?
theorem subMem(w:World):Sub (zsI w) w:=fun _ _ h=>zxI h
def ztE(S:Mem)(w:World):Mem:=fun b=>match S b with
 |some o=>some o|none=>nj w.heap[b]?
theorem leOn(S:Mem)(w:World):Mem.le S (ztE S w):=fun b o h=>by unfold ztE;rw[h]
theorem zxS{S:Mem}{w:World}(h:Sub S w):Sub (ztE S w) w:=fun b o e=>by
 unfold ztE at e;split at e
 ·rename_i h1;cases e;exact h _ _ h1
 ·exact zxI e
theorem ybF{S:Mem}{w:World}{b:Nat}{o:Obj}(h:S b=none)(hw:w.heap[b]? = some o)(hj:isJ o=false):ztE S w b=some o:=by unfold ztE;rw[h,hw];exact yuA hj
theorem ylJ{w:World}{b:Nat}{o:Obj}(hw:w.heap[b]? = some o)(hj:isJ o=false):zsI w b=some o:=by unfold zsI;rw[hw];exact yuA hj
theorem HS.slOn{k sz n:Nat}{cs rs:LV}(H:HS B S w L)(hk:lkR L k=some (.osl v n sz cs rs T)):SlS (ztE S w) v n sz cs:=by
 rcases H.own k _ hk with⟨h1,h2,h3,_⟩|⟨b,c,fz,rfl,h1,h2,h3,h4,_⟩
 ·exact .inl ⟨⟨_,h1⟩,h2,h3⟩
 ·refine .inr ⟨b,0,c,cs++rs,T,fz,rfl,h1,ybF (H.old k _ b hk rfl).2 h4 rfl,by simp;omega,?_⟩;rw[zaL,List.drop_zero,<-h2,List.take_left'];rfl
theorem RdS.ofOwn{α:Type}[Rp α]{xs:List α}{k sz:Nat}{cs rs:LV}(H:HS B S w L)(hk:lkR L k=some (.osl v xs.length sz cs rs T))(hr:RL S cs xs)(hs:Rp.sz α=sz:=by rfl):RdS (ztE S w) v xs:=by subst hs;exact⟨cs,H.slOn hk,hr.mono (leOn S w)⟩
theorem zvY:args? n m []=[]:=rfl
theorem zjK{l:List Operand}{vs:LV}(h:evO n m x=v)(t:args? n m l=vs):args? n m (x::l)=v::vs:=by rw[<-h,<-t];rfl
theorem HS.ownOne{k N sz:Nat}{cs rs:LV}(H:HS B S w L)(hk:lkR L k=some (.osl v N sz cs rs T)):v.oneCell'=true:=by rcases H.own k _ hk with⟨h,_⟩|⟨b,c,fz,h,_⟩<;>rw[h]<;>rfl
def BA(b:Nat)(a:Value):Prop:=a = .pointer none∨a = .pointer (some ⟨b,0,none⟩)
def TB(S:Mem):Prop:=True
theorem TB.mono{S T:Mem}(h:TB S)(_hl:Mem.le S T):TB T:=by
 first
 |exact trivial
 |(obtain⟨t,fz,h⟩:=h;exact⟨t,fz,hl _ _ h⟩)
structure GV (S:Mem):Prop where
 mx:∃ds T fz m,S 0=some (.cells ds T fz)/\ds[0]? = some (.int .i64 m)
 tb:TB S
theorem GV.mono{S T:Mem}(h:GV S)(hl:Mem.le S T):GV T:=by obtain⟨⟨ds,E,fz,m,h1,h2⟩,h3⟩:=h;exact⟨⟨ds,E,fz,m,hl _ _ h1,h2⟩,h3.mono hl⟩
theorem GV.cell(h:GV S)(hS:Sub S w):∃m,w.cell? ⟨0,0,none⟩=some (.int .i64 m):=by obtain⟨⟨ds,E,fz,m,h1,h2⟩,_⟩:=h;have h3:w.heap[0]? = some (.cells ds E fz):=hS _ _ h1;exact⟨m,by simp[World.cell?,h3,h2]⟩
end
end
section
theorem i32_rem(a:UInt32)(b:Int)(h:0<=b):eG (a.toNat:Int) b=((i32 (eG (a.toNat:Int) b)).toNat:Int):=by
 have h1:=a.toNat_lt;have h2:0<=eG (a.toNat:Int) b:=Int.tmod_nonneg _ (by omega);have h3:eG (a.toNat:Int) b<=(a.toNat:Int):=by obtain⟨n,rfl⟩:=cH h;rw[<-fX];have:=Nat.mod_le a.toNat n;omega
 rw[ytA h2 (by omega)]
theorem i64_rem(a:UInt64)(b:Int)(h:0<=b):eG (a.toNat:Int) b=((i64 (eG (a.toNat:Int) b)).toNat:Int):=by
 have h1:=a.toNat_lt;have h2:0<=eG (a.toNat:Int) b:=Int.tmod_nonneg _ (by omega);have h3:eG (a.toNat:Int) b<=(a.toNat:Int):=by obtain⟨n,rfl⟩:=cH h;rw[<-fX];have:=Nat.mod_le a.toNat n;omega
 rw[ypT h2 (by omega)]
section
variable {P:Program}{w:World}{B:Bas}{S:Mem}{L:List Res}{T T':TypeId}{e:Operand->Value}{x y:Operand}{v:Value}{dst:Option Tmp}{pos:String}{aft:Array Edge}{ty:TypeId}{g:Option (Nat×Bool)}
theorem yhR{α:Type}{i:Int}{l:List α}{u:α}{cf:α->Value}{o b k:Nat}{cs:LV}(tg:TOne P T)(H:HS B S w L)(hp:e x = .pointer (some ⟨b,o+i.toNat*1,none⟩))(hk:lkR L k=some (.blk b cs T'))(hi:idx l i=some u)(hc:piece cs o l.length=l.map cf):(execOp e ⟨dst,.load T x,ty,pos,aft,g⟩).run P w = .ok (.value (cf u)) w:=by
 obtain⟨_,h2⟩:=zaP hi;have hlt:=(aC.1 h2).1;refine zcJ (k:=k) (cs:=cs) (o:=o+i.toNat*1) tg H hp hk ?_;have h3:=zgM cs o l.length i.toNat 1 (by omega);rw[bY,<-h3,hc,zaL,<-List.map_drop,fA hlt];have h4:l[i.toNat]=u:=by rw[aI hlt]at h2;exact osi h2
 simp[h4]
theorem xeR{α:Type}{i:Int}{l r:List α}{u:α}(z:α){cf:α->Value}{o n:Nat}{cs:LV}(hs:setL l i u=some r)(hn:l.length=n)(hc:piece cs o l.length=l.map cf)(hl:o+l.length<=cs.length):
  lay cs (o+i.toNat) [cf u]=cs.take o++(((bR n).map fun j=>cf (r.getD j z))++cs.drop (o+n)):=by
 obtain⟨h1,h2,h3⟩:=zlB hs;have hlt:i.toNat<l.length:=by omega
 subst hn;apply aX;intro j;rw[zcY];have hp:∀q,q<l.length->cs[o+q]? = (l.map cf)[q]?:=fun q hq=>by rw[<-hc,zaL,bK,zH hq,bB]
 by_cases ha:j<o
 ·rw[zG (by simp;omega),aF (by rw[bZ];omega),bK,zH ha]
 ·rw[aH (by rw[bZ];omega),bZ,Nat.min_eq_left (by omega)];by_cases hb:j-o<l.length
  ·rw[aF (by simpa using hb)];simp only[bI,List.getElem?_range hb,bA];rw[<-h3];by_cases hj:j=o+i.toNat
   ·subst hj;rw[zH (by simp;omega)];simp[cX,hlt]
   ·rw[zG (by simp;omega)];have:=hp (j-o) hb;rw[show o+(j-o)=j by omega]at this;rw[this,bI,cX,aM (by omega),aI hb];rfl
  ·rw[zG (by simp;omega),aH (by simpa using hb),List.length_map,List.length_range,bB];congr 1;omega
theorem ywN{α:Type}{i:Int}{l r:List α}{u:α}(z:α){cf:α->Value}{o n b k:Nat}{cs:LV}(ts:TSz P T 1)(H:HS B S w L)(hp:e x = .pointer (some ⟨b,o+i.toNat*1,none⟩))(hk:lkR L k=some (.blk b cs T'))(hy:e y=cf u)(h1:(cf u).oneCell'=true) (hs:setL l i u=some r) (hn:l.length=n) (hc:piece cs o l.length=l.map cf) (hl:o+l.length<=cs.length):∃w',(execOp e ⟨none,.store T x y,ty,pos,aft,g⟩).run P w = .ok .skip w'/\HS B S w' (stR L k (.blk b (cs.take o++(((bR n).map fun j=>cf (r.getD j z))++cs.drop (o+n))) T')):=by obtain⟨h2,h3,_⟩:=zlB hs;have:=zbS (k:=k) (v:=cf u) (l:=[cf u]) (ty:=ty) (pos:=pos) (aft:=aft) (g:=g) ts H hp hk hy (cells_one h1) rfl (by simpa using h1) (by simp;omega);rw[bY,xeR z hs hn hc hl]at this;exact this
theorem zsC{n:Nat}{m:FM}{t k b o sz:Nat}{cs l:LV}(tg:TAgg P T sz)(H:HS B S w L)(hp:evO n m (.tmp t) = .pointer (some ⟨b,o,none⟩))(hk:lkR L k=some (.blk b cs T'))(hl:piece cs o sz=l) (hsz:bM (o+sz) cs.length=true):zyD P n m w (.cell t T) (.agg l.toArray):=by have hrun:=zpW (P:=P) (w:=w) tg (H.own k _ hk) hl (fun _=>aR hsz);unfold zyD resS;simp only[ycS,hp];simpa[Instr.loadAt,Instr.sureAddr,asAddr]using hrun
end
end
section
def EqR(P:Program)(n:Nat)(T:TypeId)(x y:Value)(t:Bool):Prop:=∀d w,(Op.equalIn (d+n) T x y).run P w = .ok t w
variable {P:Program}{n m:Nat}{T E:TypeId}{x y:Value}{t u:Bool}
theorem EqR.up(h:EqR P n T x y t)(k:Nat):EqR P (k+n) T x y t:=fun d w=>by have:=h (d+k) w;rwa[dL]at this
theorem EqR.le(h:EqR P n T x y t)(k:Nat)(hk:n<=k):EqR P k T x y t:=by have:=h.up (k-n);rwa[Nat.sub_add_cancel hk]at this
theorem eqI{k:IntKind}{a b:Int}(hu:P.underlying T=some (.int k))(h:(a==b)=t):EqR P 1 T (.int k a) (.int k b) t:=fun d w=>by rw[<-h];simp[Op.equalIn,Go.underlying,hu]
theorem eqB{a b:Bool}(hu:P.underlying T=some .bool):EqR P 1 T (.bool a) (.bool b) (a==b):=fun d w=>by simp[Op.equalIn,Go.underlying,hu]
theorem eqS{a b:Bs}(hu:P.underlying T=some .string):EqR P 1 T (str a) (str b) (a==b):=fun d w=>by
 have hb:((⟨a.toArray⟩:ByteArray)==⟨b.toArray⟩)=(a==b):=by show(a.toArray==b.toArray)=_;simp
 simp[Op.equalIn,Go.underlying,hu,str,hb]
theorem ywT{a b:UInt64}(hu:P.underlying T=some (.int .u64)):EqR P 1 T (.int .u64 (a.toNat:Int)) (.int .u64 (b.toNat:Int)) (a==b):=eqI hu (by
 by_cases h:a=b
 ·subst h;simp
 ·rw[beq_false_of_ne h,beq_false_of_ne];intro e;exact h (UInt64.toNat_inj.1 (by omega)))
inductive EqL (P:Program) (n:Nat) (xs ys:Array Value):List (TypeId×Nat)->Bool->Prop
 |nil:EqL P n xs ys [] true
 |cons {T o fs a b t u}:(∀w,(part T xs o).run P w = .ok a w)->(∀w,(part T ys o).run P w = .ok b w)->EqR P n T a b t->EqL P n xs ys fs u->EqL P n xs ys ((T,o)::fs) (t&&u)
theorem EqL.last{xs ys:Array Value}{T:TypeId}{o:Nat}{a b:Value}(h1:∀w,(part T xs o).run P w = .ok a w)(h2:∀w,(part T ys o).run P w = .ok b w)(h:EqR P n T a b t):EqL P n xs ys [(T,o)] t:=by
 have:=EqL.cons h1 h2 h EqL.nil
 rwa[Bool.and_true]at this
theorem yeA{l l':LV}{o sz:Nat}(tg:TAgg P T sz)(h:piece l o sz=l')(w:World):(part T l.toArray o).run P w = .ok (.agg l'.toArray) w:=by subst h;simp[part,tg.1,tg.2,zaL]
theorem zmQ{l:LV}{v:Value}{o:Nat}(tg:TOne P T)(h:l[o]? = some v)(w:World):(part T l.toArray o).run P w = .ok v w:=by simp[part,tg.1,h]
theorem eqFields {xs ys : Array Value} (d : Nat) : ∀ {fs : List Field} {t : Bool}, (∀ f ∈ fs, f.name ≠ "_") -> EqL P n xs ys (fs.map fun f => (f.type, f.offset)) t -> ∀ w : World,(do
   for f in fs do
    if f.name ≠ "_" then
     if !(<-Op.equalIn (d+n) f.type (<-part f.type xs f.offset) (<-part f.type ys f.offset))then return false
   pure true:Sem Bool).run P w = .ok t w
 |[],t,_,h,w=>by cases h;simp
 |f::fs,t,hn,h,w=>by
  have h0 : f.name ≠ "_" := hn f (by simp);cases h with
  |cons h1 h2 h3 h4=>have ih:=eqFields d (fun g hg=>hn g (by simp[hg])) h4 w;rename_i a b t u;cases t<;>simp_all [h3 d]
theorem EqR.str {xs ys : LV} {fs : Array Field} (hu : P.underlying T = some (.struct fs)) (hst : P.stoodInHeld T = false) (hn : fs.toList.all (fun f => f.name != "_") = true) {l:List (TypeId×Nat)} (hf:fs.toList.map (fun f=>(f.type,f.offset))=l) (h:EqL P n xs.toArray ys.toArray l t):EqR P (n+1) T (.agg xs.toArray) (.agg ys.toArray) t:=fun d w=>by subst hf;have:=eqFields d (fun f hf=>by have:=bH.1 hn f hf;simpa using this) h w;rw[<-dL];unfold Op.equalIn;simp only[Sem.run_bind,Go.underlying,run_program,Result.andThen_ok,hu,hst,Sem.run_pure,dH,if_false];simpa using this
theorem yoK{xs ys:Array Value}{sz:Nat}(d:Nat):∀{k i:Nat} {t:Bool},EqL P n xs ys ((cZ i k).map fun j=>(E,j*sz)) t->∀w:World,(do
   for i in cZ i k do
    if !(<-Op.equalIn (d+n) E (<-part E xs (i*sz)) (<-part E ys (i*sz)))then return false
   pure true:Sem Bool).run P w = .ok t w
 |0,i,t,h,w=>by cases h;simp
 |k+1,i,t,h,w=>by
  rw[eK,List.map_cons]at h;cases h with
  |cons h1 h2 h3 h4=>have ih:=yoK d h4 w;rename_i a b t u;rw[eK];cases t<;>simp_all [h3 d]
theorem EqR.arr{xs ys:LV}{k sz:Nat}(hu:P.underlying T=some (.array k E))(hs:∀w,(sizeOf E).run P w = .ok sz w) {l:List (TypeId×Nat)} (hf:(cZ 0 k).map (fun j=>(E,j*sz))=l) (h:EqL P n xs.toArray ys.toArray l t):EqR P (n+1) T (.agg xs.toArray) (.agg ys.toArray) t:=fun d w=>by subst hf;have:=yoK d h w;rw[<-dL];unfold Op.equalIn;simp only[Sem.run_bind,Go.underlying,run_program,Result.andThen_ok,hu,hs,Sem.run_pure];simpa[Std.Legacy.Range.forIn_eq_forIn_range',Std.Legacy.Range.size]using this
section
variable {w:World}{e:Operand->Value}{a b:Operand}{T' ty:TypeId}{pos:String}{aft:Array Edge}{dst:Option Tmp}{g:Option (Nat×Bool)}
theorem zwL{xs ys:Array Value}(hg:P.eqGuardType P.depth T=false)(hk:n<=10000)(h:EqR P n T (.agg xs) (.agg ys) t)(h1:e a = .agg xs)(h2:e b = .agg ys):(execOp e ⟨dst,.binOp .eql T a b T',ty,pos,aft,g⟩).run P w = .ok (.value (.bool t)) w:=by have key:(Op.equal T (.agg xs) (.agg ys)).run P w = .ok t w:=(h.le 10000 hk) 0 w;simp only[execOp,h1,h2,eqGuard,binOp,Sem.run_bind];simp[hg,key]
theorem yhM{xs ys:Array Value}(hg:P.eqGuardType P.depth T=false)(hk:n<=10000)(h:EqR P n T (.agg xs) (.agg ys) t)(h1:e a = .agg xs)(h2:e b = .agg ys):(execOp e ⟨dst,.binOp .neq T a b T',ty,pos,aft,g⟩).run P w = .ok (.value (.bool (!t))) w:=by have key:(Op.equal T (.agg xs) (.agg ys)).run P w = .ok t w:=(h.le 10000 hk) 0 w;simp only[execOp,h1,h2,eqGuard,binOp,Sem.run_bind];simp[hg,key]
end
section
variable {ops:Array Oper}{k d i:Nat}{m:FM}{nh:Nat}{Φ:zfD}{W:World}{vs:Nat->Gv}{Fin:Act->Prop}{rest:List Oper}{ty:TypeId}{pos:String}{aft:Array Edge}{S:Mem}
end
end
section
variable {P:Program}{w:World}{T T':TypeId}{e:Operand->Value}{x y:Operand}{dst:Option Tmp}{pos:String}{aft:Array Edge}{ty:TypeId}{g:Option (Nat×Bool)}{a b:Int}{k:IntKind}
theorem zkO(hx:e x = .int .i64 a)(hy:e y = .int .i64 b):(execOp e ⟨dst,.binOp .add T x y T',ty,pos,aft,g⟩).run P w = .ok (.value (.int .i64 (w64 (a+b)))) w:=zdD hx hy rfl
theorem zoX(hx:e x = .int .i64 a)(hy:e y = .int .i64 b):(execOp e ⟨dst,.binOp .sub T x y T',ty,pos,aft,g⟩).run P w = .ok (.value (.int .i64 (w64 (a-b)))) w:=zgR hx hy rfl
theorem yjI(hx:e x = .int .i64 a)(hy:e y = .int .i64 b):(execOp e ⟨dst,.binOp .mul T x y T',ty,pos,aft,g⟩).run P w = .ok (.value (.int .i64 (w64 (a*b)))) w:=zhH hx hy rfl
theorem zlK(hx:e x = .int k a)(hy:e y = .int k b):(execOp e ⟨dst,.binOp .lss T x y T',ty,pos,aft,g⟩).run P w = .ok (.value (.bool (decide (a<b)))) w:=zeT hx hy rfl
theorem zzM(hx:e x = .int k a)(hy:e y = .int k b):(execOp e ⟨dst,.binOp .gtr T x y T',ty,pos,aft,g⟩).run P w = .ok (.value (.bool (decide (b<a)))) w:=r_gtr hx hy rfl
theorem xdE(hx:e x = .int k a)(hy:e y = .int k b):(execOp e ⟨dst,.binOp .geq T x y T',ty,pos,aft,g⟩).run P w = .ok (.value (.bool (decide (b<=a)))) w:=zlI hx hy rfl
theorem zhB(hx:e x = .int k a)(hy:e y = .int k b):(execOp e ⟨dst,.binOp .eql T x y T',ty,pos,aft,g⟩).run P w = .ok (.value (.bool ((a==b)))) w:=yhF hx hy rfl
theorem zxU(hx:e x = .int k a)(hy:e y = .int k b):(execOp e ⟨dst,.binOp .neq T x y T',ty,pos,aft,g⟩).run P w = .ok (.value (.bool ((a != b)))) w:=ymX hx hy rfl
end
class RpC (α:Type) [Rp α]:Prop where
 cut:∀{S:Mem} {c:LV} {x:α},Rp.rep S c x->Rp.rep (Go.Proofs.YtmbcolbbekbccaaGreat.cut S) c x
section
variable {α β:Type}[Rp α][Rp β]{S S1:Mem}{w w':World}{L:List Res}
instance :RpC Bs:=⟨fun h=>h⟩
instance :RpC Int:=⟨fun h=>h⟩
instance :RpC UInt8:=⟨fun h=>h⟩
instance :RpC UInt32:=⟨fun h=>h⟩
instance :RpC UInt64:=⟨fun h=>h⟩
instance :RpC Bool:=⟨fun h=>h⟩
instance :RpC Unit:=⟨fun h=>h⟩
instance [RpC α] [RpC β]:RpC (α×β):=⟨fun⟨c1,c2,e,h1,h2⟩=>⟨c1,c2,e,RpC.cut h1,RpC.cut h2⟩⟩
theorem rlCut[RpC α]:∀{xs:List α} {cs:LV},RL S cs xs->RL (cut S) cs xs
 |[],_,h=>h|_::_,_,⟨c,d,h1,h2,h3⟩=>⟨c,d,h1,RpC.cut h2,rlCut h3⟩
theorem rdCut[RpC α]{v:Value}{xs:List α}(h:RdS S v xs):RdS (cut S) v xs:=by
 obtain⟨cs,h1,h2⟩:=h;refine⟨cs,?_,rlCut h2⟩;rcases h1 with h|⟨b,o,c,ds,E,fz,h1,h2,h3,h4,h5⟩
 ·exact .inl h
 ·exact .inr ⟨b,o,c,ds,E,fz,h1,h2,ydU h3 rfl,h4,h5⟩
instance (priority:=low) [RpC α]:RpC (List α):=⟨fun⟨v,e,h⟩=>⟨v,e,rdCut h⟩⟩
theorem rpGr[RpC α]{c:LV}{x:α}(h:Rp.rep S1 c x)(H:HS ⟨S,[],w⟩ S1 w' L):Rp.rep (gr S w w') c x:=Rp.mono (RpC.cut h) H.gr
end
section
variable {α β γ σ:Type}
theorem ycJ(p:UInt8->Bool)(h:(bR 256).all (fun n=>p (UInt8.ofNat n))=true)(b:UInt8):p b=true:=by have:=bH.1 h b.toNat (by have:=b.toNat_lt;simp only[bU];omega);simpa using this
theorem zaB(x:α)(f:α->Option β):(some x).bind f=f x:=rfl
theorem jn_l(a:α)(f:α->Option γ)(g:β->Option γ):jn (some (.inl a)) f g=f a:=rfl
theorem zpV{x:Int}(h:-9223372036854775808<=x)(h2:x<=9223372036854775807):w64 x=x:=wr64 h (by omega)
theorem zuW{l:List α}{i:Nat}{j:Int}(hj:j=(i:Int))(h:i<l.length):idx l j=some l[i]:=by subst hj;rw[idx_nat];exact aI h
theorem zkX{c:Bool}(h:c=true):chk c=some ():=by subst h;rfl
theorem zoI{c:Bool}{a b:α}(h:c=true):(bif c then a else b)=a:=by subst h;rfl
theorem zpA{c:Bool}{a b:α}(h:c=false):(bif c then a else b)=b:=by subst h;rfl
theorem ziR{p:Prop}[Decidable p]{a b:α}(h:p):(bif decide p then a else b)=a:=by simp[h]
theorem zjF{p:Prop}[Decidable p]{a b:α}(h:¬p):(bif decide p then a else b)=b:=by simp[h]
theorem zeV{body:σ->Option (σ⊕β)}(st:Nat->σ)(n:Nat)(hn:n<1099511627776)(b:β)(h:∀k,k<n->body (st k)=some (.inl (st (k+1))))(he:body (st n)=some (.inr b)):iter body (st 0)=some b:=by
 have key:∀j k,k<=n->n-k<j->zpU body j (st k)=some b:=by
  intro j;induction j with
  |zero=>intro k _ h;omega|succ j ih=>
   intro k hk hj;by_cases e:k=n
   ·subst e;exact zkR he
   ·rw[ziX (h k (by omega))];exact ih (k+1) (by omega) (by omega)
 exact key FU 0 (by omega) (by unfold FU;omega)
theorem ztJ{l:List α}{k:Nat}(h:k<l.length):l.take (k+1)=l.take k++[l[k]]:=by rw[List.take_add_one,aI h];rfl
theorem drop_at{l:List α}{k:Nat}(h:k<l.length):l.drop k=l[k]::l.drop (k+1):=fA h
end
abbrev W4:Type:=Qw
def nv(x:W4):Nat:=x.1.toNat+2^64*(x.2.1.toNat+2^64*(x.2.2.1.toNat+2^64*x.2.2.2.toNat))
def tv(A:Nat):W4:=(UInt64.ofNat (A/2^(64*0)),UInt64.ofNat (A/2^(64*1)),UInt64.ofNat (A/2^(64*2)),UInt64.ofNat (A/2^(64*3)))
theorem zsK(x:W4):nv x<zaC:=by have h0:=x.1.toNat_lt;have h1:=x.2.1.toNat_lt;have h2:=x.2.2.1.toNat_lt;have h3:=x.2.2.2.toNat_lt;unfold nv zaC;omega
def wd(x:W4)(i:Nat):UInt64:=if i=0 then x.1 else if i=1 then x.2.1 else if i=2 then x.2.2.1 else x.2.2.2
theorem ygE(x:W4){i:Nat}(hi:i<4):nv x/2^(64*i)%2^64=(wd x i).toNat:=by have h0:=x.1.toNat_lt;have h1:=x.2.1.toNat_lt;have h2:=x.2.2.1.toNat_lt;have h3:=x.2.2.2.toNat_lt;rcases(by omega:i=0∨i=1∨i=2∨i=3)with rfl|rfl|rfl|rfl<;>simp only[wd,nv,if_true,if_false,iK,iL,Nat.reduceEqDiff,fF]<;>first|omega|(simp;omega)
theorem tv_nv(x:W4):tv (nv x)=x:=by
 have e:∀(i:Nat) (u:UInt64),nv x/2^(64*i)%2^64=u.toNat->UInt64.ofNat (nv x/2^(64*i))=u:=fun i u h=>by apply UInt64.toNat_inj.1;rw[<-h];simp[UInt64.toNat_ofNat']
 unfold tv;rw[e 0 _ (ygE x (by decide)),e 1 _ (ygE x (by decide)),e 2 _ (ygE x (by decide)),e 3 _ (ygE x (by decide))];rfl
theorem zpJ{A:Nat}(h:A<zaC):nv (tv A)=A:=by unfold zaC at h;simp only[nv,tv,UInt64.toNat_ofNat',iK,iL,fF];omega
abbrev Pw:Type:=W4×W4×Bool
def apT(x:Pw):Ap:=(nv x.1,nv x.2.1,x.2.2)
def ptW(t:Ap):Pw:=(tv t.1,tv t.2.1,t.2.2)
theorem xfF{t:Ap}(h1:t.1<zaC)(h2:t.2.1<zaC):apT (ptW t)=t:=by simp[ptW,apT,zpJ h1,zpJ h2]
theorem nv_inj{x y:W4}(h:nv x=nv y):x=y:=by rw[<-tv_nv x,h,tv_nv]
theorem xbH(x y:W4):(x==y)=(nv x==nv y):=by
 by_cases h:x=y
 ·subst h;simp
 ·rw[beq_false_of_ne h,beq_false_of_ne fun e=>h (nv_inj e)]
section
theorem zeW{x:Nat}(h:x<zaC:=by first|exact aZ _ zbY|exact Mod.lt (zaV _)|assumption|exact zqK (by assumption)|exact bQ (aZ _ (zaV _).pos) (zaV _).lt|exact zpS _ _|exact zlW _ _|exact zeM _ _|exact zfT _ _|exact zeL _ _|exact zfF _|exact zyJ|exact ztT.1|exact ztT.2|exact(ziV _ _).1|exact(ziV _ _).2|exact(zgG _ _).1|exact(zgG _ _).2|exact(zjW _).1|exact(zjW _).2|exact(zjQ (by assumption)).1|exact(zjQ (by assumption)).2|exact zzP (by decide)):x<zaC:=h
theorem zeX{x:Int}(h:U x:=by first|exact U_lm _ _|exact U_sd _ _ _|exact U_ad _ _ _|exact U_ml _ _|assumption|exact U_0|exact hf' _|exact hf _):U x:=h
attribute [local irreducible] wpList wpT Code.wp Calls Code.rounds lm sd sb ad ac
theorem tg24:TAgg aD 24 4:=⟨fun _=>by kernel_rfl,fun _=>by kernel_rfl⟩
theorem to22:TOne aD 22:=⟨fun _=>by kernel_rfl,fun _=>by kernel_rfl⟩
theorem tz24:zoQ aD 24 (.agg #[uz,uz,uz,uz]):=fun _=>by kernel_rfl
theorem u22:Tryz.prog.underlying 22=some (.int .u64):=by kernel_rfl
theorem u24:Tryz.prog.underlying 24=some (.array 4 22):=by kernel_rfl
theorem ag22(w:World):(isAgg 22).run aD w = .ok false w:=by kernel_rfl
theorem eg24:Tryz.prog.eqGuardType Tryz.prog.depth 24=false:=by kernel_rfl
theorem is40:IsFn aD 40:=isFn Tryz.func40
theorem is49:IsFn aD 49:=isFn Tryz.func49
theorem is97:IsFn aD 97:=isFn Tryz.func97
theorem is98:IsFn aD 98:=isFn Tryz.func98
theorem is144:IsFn aD 144:=isFn Tryz.func144
theorem is145:IsFn aD 145:=isFn Tryz.func145
theorem is166:IsFn aD 166:=isFn Tryz.func166
theorem sz22(w:World):(sizeOf 22).run aD w = .ok 1 w:=by kernel_rfl
theorem tb24:zmS aD 24 (.agg #[uz,uz,uz,uz]) [(0,1),(1,1),(2,1),(3,1)]:=ybL u24 tz24 sz22 rfl
theorem zlN (m : Int) (w : World) :Calls aD 40 #[.int .i64 m] w fun e w'=>e = .returned (numV (modN m))/\Ext w w':=by
 refine enter (n:=7) Tryz.func40 rfl rfl rfl ?_;have H:=HP.start w;refine sr fun K1 hK1=>zbH (l:=[uz,uz,uz,uz]) H tz24 rfl fun w3 b2 H=>xk hK1<|wp_seq_k fun K4 hK4=>sr fun K5 hK5=>mvI rfl<|zaA (yhF rfl rfl rfl)<|xk hK5 ?_;refine zcF rfl (fun hc_1=>?_) fun hc_1=>?_
 ·refine sr fun K7 hK7=>?_;refine zaA (r_as (l':=numL (modN m)) (zbD (vals:=[(0,(.int _ _)),(1,(.int _ _)),(2,(.int _ _)),(3,(.int _ _))]) (l:=[_,_,_,_]) tb24 rfl rfl) (by rw[xcC];unfold modN;rw[hc_1];rfl)) ?_;refine zaH tg24 H rfl (k:=0) rfl rfl rfl rfl rfl fun w8 H=>xk hK7<|wp_ret<|zgF<|e_1 rfl (zbN tg24 H rfl (k:=0) rfl rfl) ?_;exact⟨rfl,H.below⟩
 ·refine wp_skip ?_;refine xn hK4<|sr fun K9 hK9=>zaA (r_as (l':=numL (modN m)) (zbD (vals:=[(0,(.int _ _)),(1,(.int _ _)),(2,(.int _ _)),(3,(.int _ _))]) (l:=[_,_,_,_]) tb24 rfl rfl) (by rw[xaZ];unfold modN;rw[hc_1];rfl)) ?_;refine zaH tg24 H rfl (k:=0) rfl rfl rfl rfl rfl fun w10 H=>xk hK9<|wp_ret<|e_1 rfl (zbN tg24 H rfl (k:=0) rfl rfl) ?_;exact⟨rfl,H.below⟩
theorem yoG (A B : Nat) (hA : A < zaC) (hB : B < zaC) (w : World) :Calls aD 145 #[numV A,numV B] w fun e w'=>e = .returned (.tuple #[numV ((A+(zaC-B))%zaC),.bool (decide (A<B))])/\Ext w w':=by refine enter (n:=28) Tryz.func145 rfl rfl rfl ?_;have H:=HP.start w;refine sr fun K1 hK1=>zeY (l:=_) H rfl fun w2 b3 H=>zeY (l:=_) H rfl fun w4 b5 H=>zbH (l:=[uz,uz,uz,uz]) H tz24 rfl fun w7 b6 H=>p_as (v:=(.bool _)) rfl<|xk hK1<|sr fun K8 hK8=>asI rfl<|xk hK8 ?_;refine wp_seq_k fun K9 hK9=>sr fun K10 hK10=>mvI rfl<|xk hK10<|wp_block<|wp_loop_rounds 5 ?_;rw[rounds_succ];refine sr fun K11 hK11=>zaA (zeT (t:=true) rfl rfl (by decide))<|xk hK11<|wp_seq_k fun K12 hK12=>zcE rfl rfl<|wp_skip<|xn hK12<|wp_seq_k fun K13 hK13=>wp_block ?_;refine sr fun K14 hK14=>mvI rfl<|asI rfl<|xk hK14 ?_;apply wrH H 13 [];intro vs16 H;refine tp (zaD (v:=(.int _ _)) rfl)<|tp (zaD (v:=(.int _ _)) rfl)<|tp (zaK u24 sz22 rfl (k:=.i64) (i:=0) rfl rfl (by decide) (by decide))<|t_v (fun w hx=>zbF (v:=(.int _ _)) to22 (H.ext hx) rfl (k:=2) rfl rfl)<|tp (zaD (v:=(.int _ _)) rfl)<|tp (zaK u24 sz22 rfl (k:=.i64) (i:=0) rfl rfl (by decide) (by decide)) ?_;refine t_v (fun w hx=>zbF (v:=(.int _ _)) to22 (H.ext hx) rfl (k:=1) rfl rfl)<|tp (zaD (v:=(.int _ _)) rfl)<|zoY (l:=[(.int _ _),(.int _ _),(.int _ _)]) rfl (fun w=>ztL zeX zeX (by first|exact C_sb _ _ _|exact C_ac _ _ _|exact C1_0|assumption) _) rfl rfl<|tp (zaD (v:=(.tuple _)) rfl)<|tp (zaG (v:=(.int _ _)) rfl rfl) ?_;refine zkN (fun w=>zaG (v:=(.int _ _)) rfl rfl) rfl rfl<|tp (zaK u24 sz22 rfl (k:=.i64) (i:=0) rfl rfl (by decide) (by decide))<|zbX<|H.tn fun w17 H=>zcS (v:=(.int _ _)) to22 H rfl (k:=2) rfl rfl rfl rfl fun w18 H=>asI rfl<|wpList_nil<|zaO<|zbE<|xn hK13<|wp_region_lit ?_;refine zaA (zdD (r:=1) rfl rfl rfl)<|mvI rfl<|wpList_nil<|zaM ?_;rw[rounds_succ];refine sr fun K19 hK19=>zaA (zeT (t:=true) rfl rfl (by decide))<|xk hK19<|wp_seq_k fun K20 hK20=>zcE rfl rfl<|wp_skip<|xn hK20<|wp_seq_k fun K21 hK21=>wp_block ?_;refine sr fun K22 hK22=>mvI rfl<|asI rfl<|xk hK22 ?_;apply wrH H 13 [];intro vs24 H;refine tp (zaD (v:=(.int _ _)) rfl)<|tp (zaD (v:=(.int _ _)) rfl)<|tp (zaK u24 sz22 rfl (k:=.i64) (i:=1) rfl rfl (by decide) (by decide))<|t_v (fun w hx=>zbF (v:=(.int _ _)) to22 (H.ext hx) rfl (k:=2) rfl rfl)<|tp (zaD (v:=(.int _ _)) rfl)<|tp (zaK u24 sz22 rfl (k:=.i64) (i:=1) rfl rfl (by decide) (by decide)) ?_;refine t_v (fun w hx=>zbF (v:=(.int _ _)) to22 (H.ext hx) rfl (k:=1) rfl rfl)<|tp (zaD (v:=(.int _ _)) rfl)<|zoY (l:=[(.int _ _),(.int _ _),(.int _ _)]) rfl (fun w=>ztL zeX zeX (by first|exact C_sb _ _ _|exact C_ac _ _ _|exact C1_0|assumption) _) rfl rfl<|tp (zaD (v:=(.tuple _)) rfl)<|tp (zaG (v:=(.int _ _)) rfl rfl) ?_;refine zkN (fun w=>zaG (v:=(.int _ _)) rfl rfl) rfl rfl<|tp (zaK u24 sz22 rfl (k:=.i64) (i:=1) rfl rfl (by decide) (by decide))<|zbX<|H.tn fun w25 H=>zcS (v:=(.int _ _)) to22 H rfl (k:=2) rfl rfl rfl rfl fun w26 H=>asI rfl<|wpList_nil<|zaO<|zbE<|xn hK21<|wp_region_lit ?_;refine zaA (zdD (r:=2) rfl rfl rfl)<|mvI rfl<|wpList_nil<|zaM ?_;rw[rounds_succ];refine sr fun K27 hK27=>zaA (zeT (t:=true) rfl rfl (by decide))<|xk hK27<|wp_seq_k fun K28 hK28=>zcE rfl rfl<|wp_skip<|xn hK28<|wp_seq_k fun K29 hK29=>wp_block ?_;refine sr fun K30 hK30=>mvI rfl<|asI rfl<|xk hK30 ?_;apply wrH H 13 [];intro vs32 H;refine tp (zaD (v:=(.int _ _)) rfl)<|tp (zaD (v:=(.int _ _)) rfl)<|tp (zaK u24 sz22 rfl (k:=.i64) (i:=2) rfl rfl (by decide) (by decide))<|t_v (fun w hx=>zbF (v:=(.int _ _)) to22 (H.ext hx) rfl (k:=2) rfl rfl)<|tp (zaD (v:=(.int _ _)) rfl)<|tp (zaK u24 sz22 rfl (k:=.i64) (i:=2) rfl rfl (by decide) (by decide)) ?_;refine t_v (fun w hx=>zbF (v:=(.int _ _)) to22 (H.ext hx) rfl (k:=1) rfl rfl)<|tp (zaD (v:=(.int _ _)) rfl)<|zoY (l:=[(.int _ _),(.int _ _),(.int _ _)]) rfl (fun w=>ztL zeX zeX (by first|exact C_sb _ _ _|exact C_ac _ _ _|exact C1_0|assumption) _) rfl rfl<|tp (zaD (v:=(.tuple _)) rfl)<|tp (zaG (v:=(.int _ _)) rfl rfl) ?_;refine zkN (fun w=>zaG (v:=(.int _ _)) rfl rfl) rfl rfl<|tp (zaK u24 sz22 rfl (k:=.i64) (i:=2) rfl rfl (by decide) (by decide))<|zbX<|H.tn fun w33 H=>zcS (v:=(.int _ _)) to22 H rfl (k:=2) rfl rfl rfl rfl fun w34 H=>asI rfl<|wpList_nil<|zaO<|zbE<|xn hK29<|wp_region_lit ?_;refine zaA (zdD (r:=3) rfl rfl rfl)<|mvI rfl<|wpList_nil<|zaM ?_;rw[rounds_succ];refine sr fun K35 hK35=>zaA (zeT (t:=true) rfl rfl (by decide))<|xk hK35<|wp_seq_k fun K36 hK36=>zcE rfl rfl<|wp_skip<|xn hK36<|wp_seq_k fun K37 hK37=>wp_block ?_;refine sr fun K38 hK38=>mvI rfl<|asI rfl<|xk hK38 ?_;apply wrH H 13 [];intro vs40 H;refine tp (zaD (v:=(.int _ _)) rfl)<|tp (zaD (v:=(.int _ _)) rfl)<|tp (zaK u24 sz22 rfl (k:=.i64) (i:=3) rfl rfl (by decide) (by decide))<|t_v (fun w hx=>zbF (v:=(.int _ _)) to22 (H.ext hx) rfl (k:=2) rfl rfl)<|tp (zaD (v:=(.int _ _)) rfl)<|tp (zaK u24 sz22 rfl (k:=.i64) (i:=3) rfl rfl (by decide) (by decide)) ?_;refine t_v (fun w hx=>zbF (v:=(.int _ _)) to22 (H.ext hx) rfl (k:=1) rfl rfl)<|tp (zaD (v:=(.int _ _)) rfl)<|zoY (l:=[(.int _ _),(.int _ _),(.int _ _)]) rfl (fun w=>ztL zeX zeX (by first|exact C_sb _ _ _|exact C_ac _ _ _|exact C1_0|assumption) _) rfl rfl<|tp (zaD (v:=(.tuple _)) rfl)<|tp (zaG (v:=(.int _ _)) rfl rfl) ?_;refine zkN (fun w=>zaG (v:=(.int _ _)) rfl rfl) rfl rfl<|tp (zaK u24 sz22 rfl (k:=.i64) (i:=3) rfl rfl (by decide) (by decide))<|zbX<|H.tn fun w41 H=>zcS (v:=(.int _ _)) to22 H rfl (k:=2) rfl rfl rfl rfl fun w42 H=>asI rfl<|wpList_nil<|zaO<|zbE<|xn hK37<|wp_region_lit ?_;refine zaA (zdD (r:=4) rfl rfl rfl)<|mvI rfl<|wpList_nil<|zaM ?_;rw[rounds_succ];refine sr fun K43 hK43=>zaA (zeT (t:=false) rfl rfl (by decide))<|xk hK43<|wp_seq_k fun K44 hK44=>ziE rfl rfl<|wp_exit<|zbG<|zbG<|zgE ?_;refine xn hK9<|sr fun K45 hK45=>zaA (zaE tg24 H rfl (k:=2) rfl rfl)<|mvI rfl<|zaA (yhF rfl rfl rfl)<|zaH tg24 H rfl (k:=0) rfl rfl rfl rfl rfl fun w47 H=>p_as (v:=(.bool _)) rfl<|xk hK45<|wp_ret ?_;refine e_2 rfl (zbN tg24 H rfl (k:=0) rfl rfl) (zcB (v:=(.bool _)) rfl) ?_;obtain⟨e1,e2⟩:=yxM A B hA hB;exact⟨by rw[numV,<-e1,<-e2];rfl,H.below⟩
theorem xaV (A p : Nat) (c : Int) (hA : A < zaC) (hp : p < zaC) (w : World) :Calls aD 144 #[numV A,.int .u64 c,numV p] w fun e w'=>e = .returned (numV (zzJ A p c))/\Ext w w':=by
 refine enter (n:=23) Tryz.func144 rfl rfl rfl ?_;have H:=HP.start w;refine sr fun K1 hK1=>zeY (l:=_) H rfl fun w2 b3 H=>zeY (l:=_) H rfl fun w4 b5 H=>zbH (l:=[uz,uz,uz,uz]) H tz24 rfl fun w7 b6 H=>xk hK1<|wp_seq_k fun K8 hK8=>sr fun K9 hK9=>zaA (zaE tg24 H rfl (k:=2) rfl rfl)<|zaA (zaE tg24 H rfl (k:=1) rfl rfl) ?_;refine zaQ is145 rfl<|(yoG _ _ zeW zeW _).mono<|H.xe fun w10 H=>p_mv (v:=(.tuple _)) rfl<|zaA (zaG (v:=(.agg (dG _))) rfl rfl)<|zaA (zaG (v:=(.bool _)) rfl rfl)<|zbH (l:=[uz,uz,uz,uz]) H tz24 rfl fun w12 b11 H=>zaH tg24 H rfl (k:=0) rfl rfl rfl rfl rfl fun w13 H=>p_as (v:=(.bool _)) rfl<|xk hK9 ?_;refine sr fun K14 hK14=>mvI rfl<|zaA (yhF rfl rfl rfl)<|p_mv (v:=(.bool _)) rfl ?_;refine p_gs (j:=2) rfl (fun hb_2_2=>?_) (fun hb_2_2=>?_)
 ·refine zdG rfl hb_2_2 ?_;rw[zaI];refine zdG rfl hb_2_2 ?_;rw[zaI];refine zaA (zbV (v:=(.bool _)) rfl hb_2_2 rfl)<|xk hK14<|zcE rfl rfl<|sr fun K16 hK16=>zaA (zaE tg24 H rfl (k:=0) rfl rfl)<|zaH tg24 H rfl (k:=1) rfl rfl rfl rfl rfl fun w17 H=>xk hK16<|wp_ret<|zgF ?_;refine e_1 rfl (zbN tg24 H rfl (k:=1) rfl rfl) ?_;exact⟨by rw[zzJ,zH (.inl (by simpa using hb_2_2))],H.below⟩
 ·refine zcX rfl hb_2_2 ?_;refine p_mv (v:=(.bool _)) rfl<|zcX rfl hb_2_2<|zaA (zrF (t:=_) rfl rfl)<|zaA (zaU (v:=(.bool _)) rfl hb_2_2 rfl)<|xk hK14 ?_;refine zcF rfl (fun hc_2=>?_) fun hc_2=>?_
  ·refine sr fun K19 hK19=>?_;refine zaA (zaE tg24 H rfl (k:=0) rfl rfl)<|zaH tg24 H rfl (k:=1) rfl rfl rfl rfl rfl fun w20 H=>xk hK19<|wp_ret<|zgF<|e_1 rfl (zbN tg24 H rfl (k:=1) rfl rfl) ?_;exact⟨by rw[zzJ,zH (.inr (by simpa using hc_2))],H.below⟩
  ·refine wp_skip ?_;refine xn hK8<|sr fun K21 hK21=>zaA (zaE tg24 H rfl (k:=3) rfl rfl)<|zaH tg24 H rfl (k:=1) rfl rfl rfl rfl rfl fun w22 H=>xk hK21<|wp_ret<|e_1 rfl (zbN tg24 H rfl (k:=1) rfl rfl) ?_;exact⟨by rw[zzJ,zG (by simp at hb_2_2 hc_2;omega)],H.below⟩
theorem zuJ (A p : Nat) (hA : A < zaC) (hp : Mod p) (w : World) :Calls aD 97 #[numV A,numV p] w fun e w'=>e = .returned (numV (A%p))/\Ext w w':=by refine enter (n:=8) Tryz.func97 rfl rfl rfl ?_;have H:=HP.start w;have hpl:=hp.lt;refine sr fun K1 hK1=>zeY (l:=_) H rfl fun w2 b3 H=>zeY (l:=_) H rfl fun w4 b5 H=>zbH (l:=[uz,uz,uz,uz]) H tz24 rfl fun w7 b6 H=>xk hK1<|sr fun K8 hK8=>zaA (zaE tg24 H rfl (k:=2) rfl rfl)<|zaA (zaE tg24 H rfl (k:=1) rfl rfl)<|zaQ is144 rfl ?_;refine(xaV _ _ _ zeW zeW _).mono<|H.xe fun w9 H=>zaH tg24 H rfl (k:=0) rfl rfl rfl rfl rfl fun w10 H=>xk hK8<|wp_ret<|e_1 rfl (zbN tg24 H rfl (k:=0) rfl rfl) ?_;exact⟨by rw[<-xeH hA hp],H.below⟩
theorem sum_c (A B p : Nat) (hp : Mod p) (hA : A < p) (hB : B < p) (w : World) :Calls aD 98 #[numV A,numV B,numV p] w fun e w'=>e = .returned (numV ((A+B)%p))/\Ext w w':=by
 refine enter (n:=30) Tryz.func98 rfl rfl rfl ?_;have H:=HP.start w;have hpl:=hp.lt;have hA':A<zaC:=by omega
 have hB':B<zaC:=by omega
 refine sr fun K1 hK1=>zeY (l:=_) H rfl fun w2 b3 H=>zeY (l:=_) H rfl fun w4 b5 H=>zeY (l:=_) H rfl fun w6 b7 H=>zbH (l:=[uz,uz,uz,uz]) H tz24 rfl fun w9 b8 H=>xk hK1<|sr fun K10 hK10=>asI rfl<|xk hK10 ?_;refine wp_seq_k fun K11 hK11=>sr fun K12 hK12=>mvI rfl<|xk hK12<|wp_block<|wp_loop_rounds 5 ?_;rw[rounds_succ];refine sr fun K13 hK13=>zaA (zeT (t:=true) rfl rfl (by decide))<|xk hK13<|wp_seq_k fun K14 hK14=>zcE rfl rfl<|wp_skip<|xn hK14<|wp_seq_k fun K15 hK15=>wp_block ?_;refine sr fun K16 hK16=>mvI rfl<|asI rfl<|xk hK16 ?_;apply wrH H 13 [];intro vs18 H;refine tp (zaD (v:=(.int _ _)) rfl)<|tp (zaD (v:=(.int _ _)) rfl)<|tp (zaK u24 sz22 rfl (k:=.i64) (i:=0) rfl rfl (by decide) (by decide))<|t_v (fun w hx=>zbF (v:=(.int _ _)) to22 (H.ext hx) rfl (k:=3) rfl rfl)<|tp (zaD (v:=(.int _ _)) rfl)<|tp (zaK u24 sz22 rfl (k:=.i64) (i:=0) rfl rfl (by decide) (by decide)) ?_;refine t_v (fun w hx=>zbF (v:=(.int _ _)) to22 (H.ext hx) rfl (k:=2) rfl rfl)<|tp (zaD (v:=(.int _ _)) rfl)<|zoY (l:=[(.int _ _),(.int _ _),(.int _ _)]) rfl (fun w=>zeP zeX zeX (by first|exact C_sb _ _ _|exact C_ac _ _ _|exact C1_0|assumption) _) rfl rfl<|tp (zaD (v:=(.tuple _)) rfl)<|tp (zaG (v:=(.int _ _)) rfl rfl) ?_;refine zkN (fun w=>zaG (v:=(.int _ _)) rfl rfl) rfl rfl<|tp (zaK u24 sz22 rfl (k:=.i64) (i:=0) rfl rfl (by decide) (by decide))<|zbX<|H.tn fun w19 H=>zcS (v:=(.int _ _)) to22 H rfl (k:=3) rfl rfl rfl rfl fun w20 H=>asI rfl<|wpList_nil<|zaO<|zbE<|xn hK15<|wp_region_lit ?_;refine zaA (zdD (r:=1) rfl rfl rfl)<|mvI rfl<|wpList_nil<|zaM ?_;rw[rounds_succ];refine sr fun K21 hK21=>zaA (zeT (t:=true) rfl rfl (by decide))<|xk hK21<|wp_seq_k fun K22 hK22=>zcE rfl rfl<|wp_skip<|xn hK22<|wp_seq_k fun K23 hK23=>wp_block ?_;refine sr fun K24 hK24=>mvI rfl<|asI rfl<|xk hK24 ?_;apply wrH H 13 [];intro vs26 H;refine tp (zaD (v:=(.int _ _)) rfl)<|tp (zaD (v:=(.int _ _)) rfl)<|tp (zaK u24 sz22 rfl (k:=.i64) (i:=1) rfl rfl (by decide) (by decide))<|t_v (fun w hx=>zbF (v:=(.int _ _)) to22 (H.ext hx) rfl (k:=3) rfl rfl)<|tp (zaD (v:=(.int _ _)) rfl)<|tp (zaK u24 sz22 rfl (k:=.i64) (i:=1) rfl rfl (by decide) (by decide)) ?_;refine t_v (fun w hx=>zbF (v:=(.int _ _)) to22 (H.ext hx) rfl (k:=2) rfl rfl)<|tp (zaD (v:=(.int _ _)) rfl)<|zoY (l:=[(.int _ _),(.int _ _),(.int _ _)]) rfl (fun w=>zeP zeX zeX (by first|exact C_sb _ _ _|exact C_ac _ _ _|exact C1_0|assumption) _) rfl rfl<|tp (zaD (v:=(.tuple _)) rfl)<|tp (zaG (v:=(.int _ _)) rfl rfl) ?_;refine zkN (fun w=>zaG (v:=(.int _ _)) rfl rfl) rfl rfl<|tp (zaK u24 sz22 rfl (k:=.i64) (i:=1) rfl rfl (by decide) (by decide))<|zbX<|H.tn fun w27 H=>zcS (v:=(.int _ _)) to22 H rfl (k:=3) rfl rfl rfl rfl fun w28 H=>asI rfl<|wpList_nil<|zaO<|zbE<|xn hK23<|wp_region_lit ?_;refine zaA (zdD (r:=2) rfl rfl rfl)<|mvI rfl<|wpList_nil<|zaM ?_;rw[rounds_succ];refine sr fun K29 hK29=>zaA (zeT (t:=true) rfl rfl (by decide))<|xk hK29<|wp_seq_k fun K30 hK30=>zcE rfl rfl<|wp_skip<|xn hK30<|wp_seq_k fun K31 hK31=>wp_block ?_;refine sr fun K32 hK32=>mvI rfl<|asI rfl<|xk hK32 ?_;apply wrH H 13 [];intro vs34 H;refine tp (zaD (v:=(.int _ _)) rfl)<|tp (zaD (v:=(.int _ _)) rfl)<|tp (zaK u24 sz22 rfl (k:=.i64) (i:=2) rfl rfl (by decide) (by decide))<|t_v (fun w hx=>zbF (v:=(.int _ _)) to22 (H.ext hx) rfl (k:=3) rfl rfl)<|tp (zaD (v:=(.int _ _)) rfl)<|tp (zaK u24 sz22 rfl (k:=.i64) (i:=2) rfl rfl (by decide) (by decide)) ?_;refine t_v (fun w hx=>zbF (v:=(.int _ _)) to22 (H.ext hx) rfl (k:=2) rfl rfl)<|tp (zaD (v:=(.int _ _)) rfl)<|zoY (l:=[(.int _ _),(.int _ _),(.int _ _)]) rfl (fun w=>zeP zeX zeX (by first|exact C_sb _ _ _|exact C_ac _ _ _|exact C1_0|assumption) _) rfl rfl<|tp (zaD (v:=(.tuple _)) rfl)<|tp (zaG (v:=(.int _ _)) rfl rfl) ?_;refine zkN (fun w=>zaG (v:=(.int _ _)) rfl rfl) rfl rfl<|tp (zaK u24 sz22 rfl (k:=.i64) (i:=2) rfl rfl (by decide) (by decide))<|zbX<|H.tn fun w35 H=>zcS (v:=(.int _ _)) to22 H rfl (k:=3) rfl rfl rfl rfl fun w36 H=>asI rfl<|wpList_nil<|zaO<|zbE<|xn hK31<|wp_region_lit ?_;refine zaA (zdD (r:=3) rfl rfl rfl)<|mvI rfl<|wpList_nil<|zaM ?_;rw[rounds_succ];refine sr fun K37 hK37=>zaA (zeT (t:=true) rfl rfl (by decide))<|xk hK37<|wp_seq_k fun K38 hK38=>zcE rfl rfl<|wp_skip<|xn hK38<|wp_seq_k fun K39 hK39=>wp_block ?_;refine sr fun K40 hK40=>mvI rfl<|asI rfl<|xk hK40 ?_;apply wrH H 13 [];intro vs42 H;refine tp (zaD (v:=(.int _ _)) rfl)<|tp (zaD (v:=(.int _ _)) rfl)<|tp (zaK u24 sz22 rfl (k:=.i64) (i:=3) rfl rfl (by decide) (by decide))<|t_v (fun w hx=>zbF (v:=(.int _ _)) to22 (H.ext hx) rfl (k:=3) rfl rfl)<|tp (zaD (v:=(.int _ _)) rfl)<|tp (zaK u24 sz22 rfl (k:=.i64) (i:=3) rfl rfl (by decide) (by decide)) ?_;refine t_v (fun w hx=>zbF (v:=(.int _ _)) to22 (H.ext hx) rfl (k:=2) rfl rfl)<|tp (zaD (v:=(.int _ _)) rfl)<|zoY (l:=[(.int _ _),(.int _ _),(.int _ _)]) rfl (fun w=>zeP zeX zeX (by first|exact C_sb _ _ _|exact C_ac _ _ _|exact C1_0|assumption) _) rfl rfl<|tp (zaD (v:=(.tuple _)) rfl)<|tp (zaG (v:=(.int _ _)) rfl rfl) ?_;refine zkN (fun w=>zaG (v:=(.int _ _)) rfl rfl) rfl rfl<|tp (zaK u24 sz22 rfl (k:=.i64) (i:=3) rfl rfl (by decide) (by decide))<|zbX<|H.tn fun w43 H=>zcS (v:=(.int _ _)) to22 H rfl (k:=3) rfl rfl rfl rfl fun w44 H=>asI rfl<|wpList_nil<|zaO<|zbE<|xn hK39<|wp_region_lit ?_;refine zaA (zdD (r:=4) rfl rfl rfl)<|mvI rfl<|wpList_nil<|zaM ?_;rw[rounds_succ];refine sr fun K45 hK45=>zaA (zeT (t:=false) rfl rfl (by decide))<|xk hK45<|wp_seq_k fun K46 hK46=>ziE rfl rfl<|wp_exit<|zbG<|zbG<|zgE ?_;refine xn hK11<|sr fun K47 hK47=>zaA (r_as (l':=numL ((A+B)%zaC)) (zaE tg24 H rfl (k:=3) rfl rfl) ((ypH A B hA' hB').1))<|p_mv (v:=.int .u64 (((A+B)/zaC:Nat):Int)) (congrArg (Value.int .u64) (ypH A B hA' hB').2)<|zaA (zaE tg24 H rfl (k:=1) rfl rfl)<|zaQ is144 rfl<|(xaV _ _ _ zeW zeW _).mono<|H.xe fun w48 H=>?_;refine zaH tg24 H rfl (k:=0) rfl rfl rfl rfl rfl fun w49 H=>xk hK47<|wp_ret<|e_1 rfl (zbN tg24 H rfl (k:=0) rfl rfl) ?_;exact⟨by rw[<-sum_eq hp hA hB],H.below⟩
theorem add_c (m : Int) (A B : Nat) (hA : A < zaC) (hB : B < zaC) (w : World) :Calls aD 49 #[.int .i64 m,numV A,numV B] w fun e w'=>e = .returned (numV ((A+B)%modN m))/\Ext w w':=by refine enter (n:=18) Tryz.func49 rfl rfl rfl ?_;have H:=HP.start w;refine sr fun K1 hK1=>zeY (l:=_) H rfl fun w2 b3 H=>zeY (l:=_) H rfl fun w4 b5 H=>zbH (l:=[uz,uz,uz,uz]) H tz24 rfl fun w7 b6 H=>xk hK1<|sr fun K8 hK8=>mvI rfl<|zaQ is40 rfl<|(zlN _ _).mono<|H.xe fun w9 H=>?_;refine zbH (l:=[uz,uz,uz,uz]) H tz24 rfl fun w11 b10 H=>zaH tg24 H rfl (k:=0) rfl rfl rfl rfl rfl fun w12 H=>xk hK8<|wp_seq_k fun K13 hK13=>?_;apply wrH H 8 [(2,.inl _),(5,.inl _),(7,.inl _)];intro vs15 H;refine t_v (fun w hx=>zaE tg24 (H.ext hx) rfl (k:=3) rfl rfl)<|t_v (fun w hx=>zaE tg24 (H.ext hx) rfl (k:=0) rfl rfl)<|tcl is97 (zuJ _ _ zeW (by first|assumption|exact zaV _))<|t_v (fun w hx=>zaE tg24 (H.ext hx) rfl (k:=2) rfl rfl)<|t_v (fun w hx=>zaE tg24 (H.ext hx) rfl (k:=0) rfl rfl) ?_;refine tcl is97 (zuJ _ _ zeW (by first|assumption|exact zaV _))<|t_v (fun w hx=>zaE tg24 (H.ext hx) rfl (k:=0) rfl rfl) ?_;refine tcl is98 (sum_c _ _ _ (by first|assumption|exact zaV _) (by first|assumption|exact aZ _ (Mod.pos (by first|assumption|exact zaV _))) (by first|assumption|exact aZ _ (Mod.pos (by first|assumption|exact zaV _))))<|zbX<|H.tn fun w16 H=>zaH tg24 H rfl (k:=1) rfl rfl rfl rfl rfl fun w17 H=>wpList_nil<|zaO<|xn hK13<|wp_ret ?_;refine e_1 rfl (zbN tg24 H rfl (k:=1) rfl rfl) ?_;exact⟨by rw[<-Nat.add_mod],H.below⟩
theorem neg_c (m : Int) (A : Nat) (hA : A < zaC) (w : World) :Calls aD 166 #[.int .i64 m,numV A] w fun e w'=>e = .returned (numV ((modN m-A%modN m)%modN m))/\Ext w w':=by
 refine enter (n:=24) Tryz.func166 rfl rfl rfl ?_;have H:=HP.start w;have hp:=zaV m;have hpl:=hp.lt;have hAp:A%modN m<zaC:=bQ (aZ _ hp.pos) hpl;refine sr fun K1 hK1=>zeY (l:=_) H rfl fun w2 b3 H=>zbH (l:=[uz,uz,uz,uz]) H tz24 rfl fun w5 b4 H=>xk hK1<|sr fun K6 hK6=>mvI rfl<|zaQ is40 rfl<|(zlN _ _).mono<|H.xe fun w7 H=>zbH (l:=[uz,uz,uz,uz]) H tz24 rfl fun w9 b8 H=>?_;refine zaH tg24 H rfl (k:=0) rfl rfl rfl rfl rfl fun w10 H=>xk hK6<|sr fun K11 hK11=>zaA (zaE tg24 H rfl (k:=2) rfl rfl)<|zaA (zaE tg24 H rfl (k:=0) rfl rfl)<|zaQ is97 rfl<|(zuJ _ _ zeW (by first|assumption|exact zaV _) _).mono<|H.xe fun w12 H=>zaH tg24 H rfl (k:=2) rfl rfl rfl rfl rfl fun w13 H=>xk hK11 ?_;refine wp_seq_k fun K14 hK14=>sr fun K15 hK15=>zaA (zaE tg24 H rfl (k:=2) rfl rfl)<|zaA (r_as (l':=numL 0) (zbD (vals:=[]) (l:=[_,_,_,_]) tb24 rfl rfl) (zlO))<|zaA (zsA u24 u22 sz22 ag22 eg24 rfl rfl zeW zeW rfl)<|xk hK15 ?_;refine zcF rfl (fun hc_3=>?_) fun hc_3=>?_
 ·refine sr fun K17 hK17=>?_;refine zaA (zaE tg24 H rfl (k:=2) rfl rfl)<|zaH tg24 H rfl (k:=1) rfl rfl rfl rfl rfl fun w18 H=>xk hK17<|wp_ret<|zgF<|e_1 rfl (zbN tg24 H rfl (k:=1) rfl rfl) ?_;have e0:A%modN m=0:=by simpa using hc_3
  exact⟨by rw[e0,Nat.sub_zero,Nat.mod_self],H.below⟩
 ·refine wp_skip ?_;refine xn hK14<|sr fun K19 hK19=>zaA (zaE tg24 H rfl (k:=0) rfl rfl)<|zaA (zaE tg24 H rfl (k:=2) rfl rfl)<|zaQ is145 rfl<|(yoG _ _ zeW zeW _).mono<|H.xe fun w20 H=>p_mv (v:=(.tuple _)) rfl<|zaA (zaG (v:=(.agg (dG _))) rfl rfl)<|zaA (zaG (v:=(.bool _)) rfl rfl) ?_;refine zbH (l:=[uz,uz,uz,uz]) H tz24 rfl fun w22 b21 H=>zaH tg24 H rfl (k:=0) rfl rfl rfl rfl rfl fun w23 H=>p_as (v:=(.bool _)) rfl<|xk hK19<|sr fun K24 hK24=>zaA (zaE tg24 H rfl (k:=0) rfl rfl)<|zaH tg24 H rfl (k:=2) rfl rfl rfl rfl rfl fun w25 H=>xk hK24<|wp_ret ?_;refine e_1 rfl (zbN tg24 H rfl (k:=2) rfl rfl) ?_;exact⟨by rw[<-neg_eq hp (aZ _ hp.pos) (by simpa using hc_3)],H.below⟩
theorem sub_c (m : Int) (A B : Nat) (hA : A < zaC) (hB : B < zaC) (w : World) :Calls aD 151 #[.int .i64 m,numV A,numV B] w fun e w'=>e = .returned (numV ((A+(modN m-B%modN m))%modN m))/\Ext w w':=by refine enter (n:=13) Tryz.func151 rfl rfl rfl ?_;have H:=HP.start w;have hp:=zaV m;have hl:∀X,X%modN m<zaC:=fun X=>bQ (aZ _ hp.pos) hp.lt;refine sr fun K1 hK1=>zeY (l:=_) H rfl fun w2 b3 H=>zeY (l:=_) H rfl fun w4 b5 H=>zbH (l:=[uz,uz,uz,uz]) H tz24 rfl fun w7 b6 H=>xk hK1<|wp_seq_k fun K8 hK8=>?_;apply wrH H 6 [(4,.inl _),(5,.inl _)];intro vs10 H;refine tp (zaD (v:=(.int _ _)) rfl)<|t_v (fun w hx=>zaE tg24 (H.ext hx) rfl (k:=2) rfl rfl)<|tp (zaD (v:=(.int _ _)) rfl)<|t_v (fun w hx=>zaE tg24 (H.ext hx) rfl (k:=1) rfl rfl)<|tcl is166 (neg_c _ _ zeW)<|tcl is49 (add_c _ _ _ hA (hl _))<|zbX<|H.tn fun w11 H=>zaH tg24 H rfl (k:=0) rfl rfl rfl rfl rfl fun w12 H=>wpList_nil<|zaO ?_;refine xn hK8<|wp_ret<|e_1 rfl (zbN tg24 H rfl (k:=0) rfl rfl) ?_;exact⟨by rw[Nat.add_mod_mod],H.below⟩
theorem one_c (p : Nat) (hp : Mod p) (w : World) :Calls aD 101 #[numV p] w fun e w'=>e = .returned (numV (zaC-p))/\Ext w w':=by refine enter (n:=12) Tryz.func101 rfl rfl rfl ?_;have H:=HP.start w;have hpl:=hp.lt;refine sr fun K1 hK1=>zeY (l:=_) H rfl fun w2 b3 H=>zbH (l:=[uz,uz,uz,uz]) H tz24 rfl fun w5 b4 H=>xk hK1<|sr fun K6 hK6=>zaA (r_as (l':=numL 0) (zbD (vals:=[]) (l:=[_,_,_,_]) tb24 rfl rfl) (zlO))<|zaA (zaE tg24 H rfl (k:=1) rfl rfl)<|zaQ is145 rfl<|(yoG _ _ zeW zeW _).mono<|H.xe fun w7 H=>?_;refine p_mv (v:=(.tuple _)) rfl<|zaA (zaG (v:=(.agg (dG _))) rfl rfl)<|zaA (zaG (v:=(.bool _)) rfl rfl)<|zbH (l:=[uz,uz,uz,uz]) H tz24 rfl fun w9 b8 H=>zaH tg24 H rfl (k:=0) rfl rfl rfl rfl rfl fun w10 H=>p_as (v:=(.bool _)) rfl<|xk hK6<|sr fun K11 hK11=>zaA (zaE tg24 H rfl (k:=0) rfl rfl) ?_;refine zaH tg24 H rfl (k:=1) rfl rfl rfl rfl rfl fun w12 H=>xk hK11<|wp_ret<|e_1 rfl (zbN tg24 H rfl (k:=1) rfl rfl) ?_;exact⟨by rw[aQ,aP (by have:=hp.pos;omega)],H.below⟩
end
end Go.Proofs.YtmbcolbbekbccaaGreat
