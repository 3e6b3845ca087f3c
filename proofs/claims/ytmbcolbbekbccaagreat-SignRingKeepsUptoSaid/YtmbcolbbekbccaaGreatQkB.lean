/- Parts of one proof. Conditions: as each theorem says. -/
import Derived.Laws.AppendOwn
import Derived.Laws.MakeOwn
import Derived.Laws.CopyRow
import Derived.Laws.BytesArg
import Derived.Test.YtmbcolbbekbccaaGreatRows
import Derived.Shelf.Spec.BitsCarry
import Derived.Shelf.Strings.Builder1
import Derived.Shelf.Strings.Builder2
import Derived.Shelf.Strings.BuilderF
import Derived.Shelf.Strings.BuilderK
import Derived.Shelf.Strings.Prefix
import Derived.Shelf.Bits.Mul64
import Derived.Shelf.Strings.Repeat
import Derived.Test.YtmbcolbbekbccaaGreatProg
import Derived.Test.YtmbcolbbekbccaaGreatQkA
open Array renaming ext'->dS,range->eO
open Bool renaming and_eq_true->aK,eq_iff_iff->fQ,false_eq_true->dH
open Int renaming eq_ofNat_of_zero_le->cH,ofNat_tmod->fX,toNat_natCast->cU
open List renaming append_nil->cC,dropLast_concat_getLast->iA,drop_drop->eC,drop_take->iE,getElem?_drop->bB,getElem?_eq_some_iff->aC,getElem?_take->bK,length_append->aE,length_cons->aN,length_drop->bO,length_eq_zero_iff->cV,length_nil->aV,length_pos_iff->jB,length_take->bZ,mem_cons->aT,not_mem_nil->cT,range'->cZ,range->bR,replicate->aO,take_append_drop->dO
open Nat renaming Coprime->iY,add_assoc->dL,add_mod->eS,add_mod_right->iM,add_mul->bD,add_mul_mod_self_left->dB,add_zero->cQ,div_add_mod->dQ,div_div_eq_div_mul->eD,div_eq_of_lt->fG,div_le_self->eW,div_lt_self->fR,div_one->fF,dvd_trans->gQ,gcd->iO,le_of_dvd->gC,le_of_lt->cW,le_refl->aJ,lt_of_le_of_lt->cG,lt_of_lt_of_le->bE,lt_of_not_le->dU,lt_or_ge->fY,lt_trans->bQ,min_eq_left->gG,mod_add_mod->gV,mod_eq_of_lt->aP,mod_eq_zero_of_dvd->eE,mod_lt->aZ,mod_mod->gP,mod_mul_mod->iS,mod_mul_right_div_self->iJ,mod_mul_right_mod->iX,mul_add->dC,mul_assoc->dD,mul_comm->cA,mul_le_mul->dE,mul_left_comm->iN,mul_mod->cS,mul_one->bY,one_mul->cR,or_lt_two_pow->fS,pos_of_ne_zero->cN,pow_add->eQ,pow_le_pow_right->gS,pow_mod->gI,pow_mul->gH,pow_pos->jJ,pow_succ->cK,pow_zero->eP,reduceMul->iK,reducePow->iL,strongRecOn->eN,zero_add->aQ,zero_mod->gK,zero_mul->eI,zero_pow->jG
open Go.Proofs.Tryz renaming prog->aD
namespace Go.Proofs.YtmbcolbbekbccaaGreat
open Go Go.RowKit
abbrev sl(b o n c:Nat):Value:=.slice (some ⟨b,o,none⟩) n c
structure TSl (P:Program) (T E:TypeId) (z:Value) (nb:Nat):Prop where
 und:P.underlying T=some (.slice E)
 info:∃i,P.info? E=some i/\i.zero=some z/\i.size=1/\i.bytes=nb
 one:z.cells = #[z]
theorem TSl.size{P:Program}{T E:TypeId}{z:Value}{nb:Nat}(h:TSl P T E z nb)(w:World):(sizeOf E).run P w = .ok 1 w:=by obtain⟨i,h1,_,h3,_⟩:=h.info;simp[sizeOf,typeInfo,h1,h3]
def Rd(w:World)(v:Value)(l:LV):Prop:=
 (v = .slice none 0 0/\l=[])∨∃b o c cs T fz,v=sl b o l.length c/\l.length<=c/\w.heap[b]? = some (.cells cs.toArray T fz)/\o+l.length<=cs.length/\piece cs o l.length=l
theorem Rd.ext{w w':World}{v:Value}{l:LV}(h:Rd w v l)(hx:Ext w w'):Rd w' v l:=by
 rcases h with h|⟨b,o,c,cs,T,fz,h1,h2,h3,h4,h5⟩
 ·exact .inl h
 ·exact .inr ⟨b,o,c,cs,T,fz,h1,h2,by rw[Below.block hx b (zeO h3)];exact h3,h4,h5⟩
theorem Rd.hp{w0 w:World}{L:List Ent}{v:Value}{l:LV}(h:Rd w0 v l)(H:HP w0 w L):Rd w v l:=h.ext H.below
theorem Rd.nil(w:World):Rd w (.slice none 0 0) []:=.inl ⟨rfl,rfl⟩
theorem Rd.own{w0 w:World}{L:List Ent}(H:HP w0 w L){k b o n c:Nat}{cs l:LV}{T:TypeId}(hk:lk L k=some (b,cs,T))(hl:piece cs o n=l)(hn:o+n<=cs.length)(hc:n<=c):Rd w (sl b o n c) l:=by
 have hlen:l.length=n:=by rw[<-hl,zaL];simp;omega
 subst hlen;exact .inr ⟨b,o,c,cs,T,(0,0),rfl,hc,(H.blk k b cs T hk).1,hn,hl⟩
def subv:Value->Nat->Nat->Value
 |.slice a _ c,lo,hi=>.slice (if c=lo then a else a.map (·.add lo)) (hi-lo) (c-lo)|v,_,_=>v
theorem Rd.sub{w:World}{v:Value}{l:LV}(h:Rd w v l){lo hi:Nat}(h1:lo<=hi)(h2:hi<=l.length):Rd w (subv v lo hi) ((l.drop lo).take (hi-lo)):=by
 have hlen:((l.drop lo).take (hi-lo)).length=hi-lo:=by simp;omega
 rcases h with⟨rfl,rfl⟩|⟨b,o,c,cs,T,fz,rfl,h3,h4,h5,h6⟩
 ·simp only[aV]at h2;have e1:lo=0:=by omega
  have e2:hi=0:=by omega
  subst e1;subst e2;exact .inl ⟨rfl,rfl⟩
 ·by_cases hc:c=lo
  ·have e1:hi=lo:=by omega
   refine .inr ⟨b,o,c-lo,cs,T,fz,?_,by rw[hlen];omega,h4,by rw[hlen];omega,?_⟩
   ·rw[hlen];simp[subv,sl,hc]
   ·rw[hlen,e1];simp[piece]
  ·refine .inr ⟨b,o+lo,c-lo,cs,T,fz,?_,by rw[hlen];omega,h4,by rw[hlen];omega,?_⟩
   ·rw[hlen];simp[subv,sl,hc,zbW]
   ·rw[hlen,zaL];rw[zaL]at h6
    conv=>rhs;rw[<-h6]
    rw[iE,eC,List.take_take];congr 1;omega
section
variable {P:Program}{w:World}{e:Operand->Value}{x y lo hi:Operand}{T E ty:TypeId}{z v u:Value}{nb i:Nat}{l:LV}{a:Int}{k:IntKind}{dst:Option Tmp}{pos:String}{aft:Array Edge}{g:Option (Nat×Bool)}
theorem zbB{P:Program}{w:World}{k:IntKind}{a:Int}{h y:Nat}{code:BoundsCode}(ha:a=(h:Int))(hh:h<=y):(Instr.sliceBound (.int k a) y code).run P w = .ok h w:=by
 subst ha;have h2:(0:Int)<=(h:Int)/\(h:Int)<=(y:Int):=by omega
 simp[Instr.sliceBound,asIntOf,h2]
end
theorem HP.moved{w0 w:World}{L:List Ent}{x e:Ent}{k:Nat}(hk:lk L k=some x)(h:HP w0 w (e::L)):HP w0 w (st L k e):=by
 obtain⟨b,cs,T⟩:=e;refine⟨h.below,?_,?_⟩
 ·intro j b' c T' hj;by_cases hjk:j=k
  ·subst hjk;rw[zmW hk]at hj;exact h.blk 0 b' c T' hj
  ·rw[zlH hjk]at hj;exact h.blk (j+1) b' c T' hj
 ·intro i j b' c1 T1 c2 T2 hi hj
  have key:∀i c T1,lk (st L k (b,cs,T)) i=some (b',c,T1)->∃i',(i=k/\i'=0∨i≠k/\i'=i+1)/\lk ((b,cs,T)::L) i'=some (b',c,T1):=fun i c T1 hi=>by
   by_cases hik:i=k
   ·subst hik;rw[zmW hk]at hi;exact⟨0,.inl ⟨rfl,rfl⟩,hi⟩
   ·rw[zlH hik]at hi;exact⟨i+1,.inr ⟨hik,rfl⟩,hi⟩
  obtain⟨i',hi1,hi2⟩:=key i _ _ hi;obtain⟨j',hj1,hj2⟩:=key j _ _ hj;have:=h.inj i' j' b' c1 T1 c2 T2 hi2 hj2;omega
section
variable {P:Program}{ops:Array Oper}{Q:Exit->Act->World->Prop}{rest:List Oper}{n:Nat}{m:FM}{w w0:World}{L:List Ent}
variable {d:Nat}{ty:TypeId}{pos:String}{aft:Array Edge}{x y:Operand}{T E:TypeId}{z:Value}{nb:Nat}
theorem zuH{b len c k:Nat}{xs rs news:LV}{v2:Value}(hT:TSl P T E z nb)(H:HP w0 w L)(hk:lk L k=some (b,xs++rs,E))(hlen:xs.length=len)(hcap:(xs++rs).length=c) (hr:Rd w v2 news) (h1:∀v∈news,v.oneCell'=true) (hb:(len+news.length)*nb<=140737488355328) (hb':len+news.length<=140737488355328):∃b' rs' w',(Builtin.append_ #[T,T] ty #[sl b 0 len c,v2]).run P w = .ok (sl b' 0 (len+news.length) (xs++news++rs').length) w'/\HP w0 w' (st L k (b',xs++news++rs',E)):=by
 obtain⟨i,hi1,hi2,hi3,hi4⟩:=hT.info;have hblk:=(H.blk k b _ E hk).1;subst hlen;rcases hr with⟨rfl,rfl⟩|⟨b2,o2,c2,cs2,T2,fz2,rfl,hc2,hb2,ho2,hp2⟩
 ·refine⟨b,rs,w,?_,?_⟩
  ·have hroom:xs.length+0<=c:=by rw[<-hcap];simp
   have hst:=run_storeCells_at P b (xs.length*1) E [] 0 (xs++rs).toArray w hblk (by simp) (fun v hv=>by simp at hv);simp only[Builtin.append_,Go.underlying,sizeOf,typeInfo,Builtin.lenOf,hcap,aV,cC];simp[Builtin.firstCells,hi1,hi3,storeCells,hT.und];intro hh;simp at hroom;omega
  ·simp only[cC];exact H.set hk rfl rfl rfl rfl hblk (fun _ _=>rfl)
 ·have hnews:∀j u,news[j]? = some u->w.cell? ((⟨b2,o2,none⟩:Addr).add j)=some u:=fun j u hj=>by rw[zbW,zhV hb2];have hjl:=(aC.1 hj).1;rw[<-hp2,zaL,bK,zH hjl,bB]at hj;exact hj
  by_cases hroom:xs.length+news.length<=c
  ·refine⟨b,rs.drop news.length,w.setRow b ((xs++rs).take (xs.length*i.size)++news++(xs++rs).drop (xs.length*i.size+news.length)).toArray,?_,?_⟩
   ·have hrun:=run_append_room (P:=P) w T ty E i hT.und hi1 b xs.length c (xs++rs).toArray hblk ⟨b2,o2,none⟩ news.length c2 news (by rw[hi3];omega) hnews h1 hroom (by rw[hi3,bY];simpa[<-hcap]using hroom);have hcl:(xs++news++rs.drop news.length).length=c:=by rw[<-hcap];simp only[aE,bO];rw[<-hcap,aE]at hroom;omega
    rw[hcl];exact hrun
   ·have e1:(xs++rs).take (xs.length*i.size)++news++(xs++rs).drop (xs.length*i.size+news.length)=xs++news++rs.drop news.length:=by rw[hi3,bY,List.take_left,<-eC,List.drop_left]
    rw[e1];exact H.set hk (setRow_size w b _) rfl rfl rfl (setRow_heap w b _ _ E (0,0) hblk) (fun j hj=>setRow_other w b j _ hj)
  ·have hnb:nb<=140737488355328∨True:=.inr trivial;have hfit:=growslice_fits (bytes:=nb) (dU hroom) hb;have holds:∀j u,xs[j]? = some u->w.cell? ((⟨b,0,none⟩:Addr).add j)=some u:=fun j u hj=>by rw[zbW,zhV hblk,aQ,List.getElem?_append_left (aC.1 hj).1];exact hj
   have hrun:=run_append_grow (P:=P) w T ty E i z hT.und hi1 hi2 ⟨b,0,none⟩ xs.length c xs (by rw[hi3];omega) holds ⟨b2,o2,none⟩ news.length c2 news (by rw[hi3];omega) hnews (dU hroom) (by omega) (by rw[hi4];exact hfit);have hge:=grownCap_ge w (xs.length+news.length) c E;have hsz:=size_zeroCells z.cells (grownCap w (xs.length+news.length) c E-(xs.length+news.length));rw[hT.one]at hsz hrun;generalize hG:grownCap w (xs.length+news.length) c E=G at hrun hge hsz;generalize hZ:Builtin.zeroCells #[z] (G-(xs.length+news.length))=Z at hrun hsz;have hZl:Z.toList.length=G-(xs.length+news.length):=by simpa using hsz
   have hcl:(xs++news++Z.toList).length=G:=by simp only[aE,hZl];omega
   have hcells:xs.toArray++news.toArray++Z=(xs++news++Z.toList).toArray:=by apply dS;simp
   refine⟨w.heap.size,Z.toList,w.drew.alloc (.cells (xs++news++Z.toList).toArray E),?_,HP.moved hk ?_⟩
   ·rw[hcl,<-hcells];exact hrun
   ·exact H.push ((Ext.drew w).trans (Ext.alloc w.drew _)) (aJ _) (zaR w.drew _)
theorem tslMk{P:Program}{T E:TypeId}{z:Value}{nb:Nat}(h1:P.underlying T=some (.slice E))(h2:(P.info? E).map (fun i=>(i.zero,i.size,i.bytes))=some (some z,1,nb))(h3:z.cells = #[z]):TSl P T E z nb:=by
 refine⟨h1,?_,h3⟩;cases hi:P.info? E with
 |none=>simp[hi]at h2|some i=>simp only[hi,Option.map_some,Option.some.injEq,Prod.mk.injEq]at h2;exact⟨i,rfl,h2.1,h2.2.1,h2.2.2⟩
theorem Rd.ownA{w0 w:World}{L:List Ent}(H:HP w0 w L){k b n c:Nat}{xs rs:LV}{T:TypeId}(hk:lk L k=some (b,xs++rs,T))(hn:xs.length=n)(hc:(xs++rs).length=c):Rd w (sl b 0 n c) xs:=
 Rd.own H hk (by subst hn;rw[zaL];simp) (by rw[aQ,aE];omega) (by rw[aE]at hc;omega)
theorem zrH{k:IntKind}{a:Int}:∀v∈[Value.int k a],v.oneCell'=true:=fun v hv=>by simp only[List.mem_singleton]at hv;subst hv;rfl
theorem zfJ{b len c k:Nat}{xs rs news ys:LV}{v2:Value}(hT:TSl P T E z nb)(H:HP w0 w L)(hx:evO n m x=sl b 0 len c)(hk:lk L k=some (b,xs++rs,E))(hlen:xs.length=len)(hcap:(xs++rs).length=c) (hy:evO n m y=v2) (hr:Rd w v2 news) (h1:∀v∈news,v.oneCell'=true) (hys:xs++news=ys) (hb:ys.length*nb<=140737488355328/\ys.length<=140737488355328) (h:∀w' b' rs',HP w0 w' (st L k (b',ys++rs',E))->wpList P ops Q rest (fr n ((d,sl b' 0 ys.length (ys++rs').length)::m)) w'):
  wpList P ops Q (⟨some d,.call ⟨.builtin .append,#[x,y],#[T,T]⟩,ty,pos,aft,none⟩::rest) (fr n m) w:=
 wpList_plain rfl fun K hK=>by
  subst hys;have hl:(xs++news).length=len+news.length:=by rw[aE,hlen]
  rw[hl]at hb h;obtain⟨b',rs',w',hrun,H'⟩:=zuH (ty:=ty) hT H hk hlen hcap hr h1 hb.1 hb.2;have hrun':(execOp (evO n m) ⟨some d,.call ⟨.builtin .append,#[x,y],#[T,T]⟩,ty,pos,aft,none⟩).run P w = .ok (.value (sl b' 0 (len+news.length) (xs++news++rs').length)) w':=by simp[execOp,resolve,invoke,builtin,hx,hy,hrun]
  unfold Oper.wp;rw[zdF,hrun'];simp only[Oper.upon,zaI];exact hK _ _ (h w' b' rs' H')
theorem append_nil{news:LV}{v2:Value}(hT:TSl P T E z nb)(H:HP w0 w L)(hr:Rd w v2 news)(h0:0<news.length)(hb:news.length*nb<=140737488355328)(hb':news.length<=140737488355328):∃b' rs' w',(Builtin.append_ #[T,T] ty #[.slice none 0 0,v2]).run P w = .ok (sl b' 0 news.length (news++rs').length) w'/\HP w0 w' ((b',news++rs',E)::L):=by
 obtain⟨i,hi1,hi2,hi3,hi4⟩:=hT.info;rcases hr with⟨rfl,rfl⟩|⟨b2,o2,c2,cs2,T2,fz2,rfl,hc2,hb2,ho2,hp2⟩
 ·exact absurd h0 (by decide)
 ·have hnews:∀j u,news[j]? = some u->w.cell? ((⟨b2,o2,none⟩:Addr).add j)=some u:=fun j u hj=>by rw[zbW,zhV hb2];have hjl:=(aC.1 hj).1;rw[<-hp2,zaL,bK,zH hjl,bB]at hj;exact hj
  have hrun:=run_append_nil (P:=P) w T ty E i z hT.und hi1 hi2 ⟨b2,o2,none⟩ news.length c2 news (by rw[hi3];omega) hnews h0 (by omega) (by rw[hi4];omega);have hge:=grownCap_ge w news.length 0 E;have hsz:=size_zeroCells z.cells (grownCap w news.length 0 E-news.length);rw[hT.one]at hsz hrun;generalize hG:grownCap w news.length 0 E=G at hrun hge hsz;generalize hZ:Builtin.zeroCells #[z] (G-news.length)=Z at hrun hsz;have hZl:Z.toList.length=G-news.length:=by simpa using hsz
  have hcl:(news++Z.toList).length=G:=by simp only[aE,hZl];omega
  have hcells:news.toArray++Z=(news++Z.toList).toArray:=by apply dS;simp
  refine⟨w.heap.size,Z.toList,w.drew.alloc (.cells (news++Z.toList).toArray E),?_,?_⟩
  ·rw[hcl,<-hcells];exact hrun
  ·exact H.push ((Ext.drew w).trans (Ext.alloc w.drew _)) (aJ _) (zaR w.drew _)
theorem ysZ{news ys:LV}{v2:Value}(hT:TSl P T E z nb)(H:HP w0 w L)(hx:evO n m x = .slice none 0 0) (hy:evO n m y=v2) (hr:Rd w v2 news) (hys:news=ys) (h0:0<ys.length) (hb:ys.length*nb<=140737488355328/\ys.length<=140737488355328) (h:∀w' b' rs',HP w0 w' ((b',ys++rs',E)::L)->wpList P ops Q rest (fr n ((d,sl b' 0 ys.length (ys++rs').length)::m)) w'):
  wpList P ops Q (⟨some d,.call ⟨.builtin .append,#[x,y],#[T,T]⟩,ty,pos,aft,none⟩::rest) (fr n m) w:=
 wpList_plain rfl fun K hK=>by
  subst hys;obtain⟨b',rs',w',hrun,H'⟩:=append_nil (ty:=ty) hT H hr h0 hb.1 hb.2;have hrun':(execOp (evO n m) ⟨some d,.call ⟨.builtin .append,#[x,y],#[T,T]⟩,ty,pos,aft,none⟩).run P w = .ok (.value (sl b' 0 news.length (news++rs').length)) w':=by simp[execOp,resolve,invoke,builtin,hx,hy,hrun]
  unfold Oper.wp;rw[zdF,hrun'];simp only[Oper.upon,zaI];exact hK _ _ (h w' b' rs' H')
theorem zvO(z:Value)(n:Nat):((eO n).map fun x=>(#[z]:Array Value)[x%1]!).toList=aO n z:=by apply List.ext_getElem?;intro j;by_cases hj:j<n<;>simp[hj,Nat.mod_one]
theorem yhH{sz:Nat}{ps:List (Nat×Value)}{N:Nat}{cs l:LV}(h:znA ((cZ 0 N).map fun i=>(i*sz,sz)) cs ps=some l):Instr.fill (fun i=>some (i*sz,sz)) cs.toArray ps=some l.toArray:=
 zyC (fun i=>by simpa using zsQ sz N 0 i) ps cs l h
theorem ynJ{e:Operand->Value}{N:Nat}{ps:List (Nat×Operand)}{vals:List (Nat×Value)}{l:LV}{dst:Option Tmp}{g:Option (Nat×Bool)}(hT:TSl P T E z nb)(hp:zmB e ps=vals) (hl:znA ((cZ 0 N).map fun i=>(i*1,1)) (aO N z) vals=some l) (hN:N<=16777216):(execOp e ⟨dst,.buildSlice T N ps.toArray,ty,pos,aft,g⟩).run P w = .ok (.value (sl w.heap.size 0 N N)) (w.alloc (.cells l.toArray E)):=by
 obtain⟨i,hi1,hi2,hi3,hi4⟩:=hT.info;have e1:(ps.toArray.map fun(i,x)=>(i,e x))=vals.toArray:=by rw[<-hp,<-zwJ];simp
 have hf:=yhH hl;have hN':¬16777216<N:=by omega
 simp only[execOp,Sem.run_bind];rw[e1];by_cases h0:N=0
 ·subst h0;simp only[aO,bY]at hf;have hr':(Array.map (fun _=>(default:Value)) (eO 0)) = #[]:=by simp
  simp[Instr.buildSlice,Go.underlying,hT.und,hT.size,newRow,sl];rw[hr',hf];simp
 ·have hr:=zvO z N;have hr':((eO N).map fun x=>(#[z]:Array Value)[x%1]!)=(aO N z).toArray:=by rw[<-hr]
  simp at hr';simp only[bY]at hf;simp only[List.toArray_replicate]at hf;simp[Instr.buildSlice,Go.underlying,hT.und,hT.size,newRow,sl,h0,hN',zeroValue,typeInfo,hi1,hi2,hT.one];rw[hr',hf];simp
theorem zeU{N:Nat}{ps:List (Nat×Operand)}{vals:List (Nat×Value)}{l ys:LV}(hT:TSl P T E z nb)(H:HP w0 w L)(hp:zmB (evO n m) ps=vals) (hl:znA ((cZ 0 N).map fun i=>(i*1,1)) (aO N z) vals=some l) (hN:Nat.ble N 16777216=true) (hlen:l.length=N) (hys:l=ys) (h:∀w' b,HP w0 w' ((b,ys++[],E)::L)->wpList P ops Q rest (fr n ((d,sl b 0 ys.length (ys++[]).length)::m)) w'):
  wpList P ops Q (⟨some d,.buildSlice T N ps.toArray,ty,pos,aft,none⟩::rest) (fr n m) w:=
 wpList_plain rfl fun K hK=>by subst hys;have hrun:=ynJ (w:=w) (ty:=ty) (pos:=pos) (aft:=aft) (dst:=some d) (g:=none) hT hp hl (Nat.le_of_ble_eq_true hN);unfold Oper.wp;rw[zdF,hrun];simp only[Oper.upon,zaI];have hh:=h _ _ (by rw[cC];exact H.alloc l E);rw[cC,hlen]at hh;exact hK _ _ hh
theorem HP.of(h:Ext w0 w):HP w0 w []:=(HP.start w0).ext h
end
def Bk(w:World)(b:Nat)(cs:LV)(T:TypeId):Prop:=w.heap[b]? = some (.cells cs.toArray T (0,0))
theorem Bk.ext{w w':World}{b:Nat}{cs:LV}{T:TypeId}(h:Bk w b cs T)(hx:Ext w w'):Bk w' b cs T:=by have hb:=zeO h;unfold Bk at *;rw[Below.block hx b hb];exact h
theorem Bk.hp{w0 w:World}{L:List Ent}{b:Nat}{cs:LV}{T:TypeId}(h:Bk w0 b cs T)(H:HP w0 w L):Bk w b cs T:=h.ext H.below
theorem HP.bk{w0 w:World}{L:List Ent}{k b:Nat}{cs:LV}{T:TypeId}(H:HP w0 w L)(hk:lk L k=some (b,cs,T)):Bk w b cs T:=(H.blk k b cs T hk).1
section
variable {P:Program}{w w0:World}{e:Operand->Value}{dst:Option Tmp}{g:Option (Nat×Bool)}{ty:TypeId}{pos:String}{aft:Array Edge}{x y:Operand}{T T':TypeId}{b o sz:Nat}{cs l:LV}{v:Value}
end
theorem wrapN{k:IntKind}(hk:k.signed=false)(n:Nat):k.wrap (n:Int)=((n%2^k.bits:Nat):Int):=by simp only[IntKind.wrap,hk,Bool.false_and,dH,if_false];rw[Int.natCast_emod];congr 1
theorem ynU{k:IntKind}(hk:k.signed=false){n:Nat}(hn:n<2^k.bits):k.wrap (n:Int)=(n:Int):=by rw[wrapN hk,aP hn]
theorem shrN{n b m:Nat}(h:b<=m):(n:Int).fdiv (2^(min ((b:Int).toNat) m))=((n/2^b:Nat):Int):=by rw[cU,gG h];rw[show((2:Int)^b)=((2^b:Nat):Int) by rw[Int.natCast_pow];rfl];exact(Int.ofNat_fdiv n (2^b)).symm
theorem zmM(k:IntKind)(x:Nat)(hx:x<2^k.bits):(BitVec.ofInt k.bits (x:Int)).toNat=x:=by simp[aP hx]
theorem andN{k:IntKind}(hk:k.signed=false){x y:Nat}(hx:x<2^k.bits)(hy:y<2^k.bits):bits .and k (x:Int) (y:Int)=((x&&&y:Nat):Int):=by simp only[bits,BitVec.toNat_and,zmM k x hx,zmM k y hy];exact ynU hk (cG Nat.and_le_left hx)
theorem orN{k:IntKind}(hk:k.signed=false){x y:Nat}(hx:x<2^k.bits)(hy:y<2^k.bits):bits .or k (x:Int) (y:Int)=((x|||y:Nat):Int):=by simp only[bits,BitVec.toNat_or,zmM k x hx,zmM k y hy];exact ynU hk (fS hx hy)
theorem xorN{k:IntKind}(hk:k.signed=false){x y:Nat}(hx:x<2^k.bits)(hy:y<2^k.bits):bits .xor k (x:Int) (y:Int)=((x^^^y:Nat):Int):=by simp only[bits,BitVec.toNat_xor,zmM k x hx,zmM k y hy];exact ynU hk (Nat.xor_lt_two_pow hx hy)
theorem maskN{k:IntKind}(hk:k.signed=false){x:Nat}(n:Nat)(hx:x<2^k.bits)(hn:n<=k.bits):bits .and k (x:Int) ((2^n-1:Nat):Int)=((x%2^n:Nat):Int):=by have hp:2^n<=2^k.bits:=gS (by decide) hn;have:0<2^n:=jJ (by decide);rw[andN hk hx (by omega),Nat.and_two_pow_sub_one_eq_mod]
theorem joinN{k:IntKind}(hk:k.signed=false){x y n:Nat}(hy:y<2^n)(h:x*2^n+y<2^k.bits):bits .or k ((x*2^n:Nat):Int) (y:Int)=((x*2^n+y:Nat):Int):=by
 have h1:x*2^n<2^k.bits:=by omega
 have h2:y<2^k.bits:=by omega
 rw[orN hk h1 h2,cA x,Nat.two_pow_add_eq_or_of_lt hy]
abbrev str(l:Bs):Value:=.string ⟨l.toArray⟩
def u8s(l:Bs):LV:=l.map fun b=>Value.int .u8 (b.toNat:Int)
theorem zaY(l:Bs):(u8s l).length=l.length:=by simp[u8s]
theorem u8s_get{l:Bs}{i:Nat}{b:UInt8}(h:l[i]? = some b):(u8s l)[i]? = some (.int .u8 (b.toNat:Int)):=by simp[u8s,h]
theorem zfM(a:Bs)(b:UInt8):u8s a++[.int .u8 (b.toNat:Int)]=u8s (a++[b]):=by simp[u8s]
theorem ywO(l:Bs):∀v∈u8s l,v.oneCell'=true:=by intro v hv;simp only[u8s,List.mem_map]at hv;obtain⟨b,_,rfl⟩:=hv;rfl
theorem zjZ(l:Bs):(⟨l.toArray⟩:ByteArray).size=l.length:=by simp[ByteArray.size]
theorem ynD(a b:Bs):(⟨a.toArray⟩:ByteArray)++⟨b.toArray⟩=⟨(a++b).toArray⟩:=by apply ByteArray.ext;simp
theorem zjG(l:Bs)(p h:Nat):(⟨l.toArray⟩:ByteArray).extract p h=⟨((l.take h).drop p).toArray⟩:=by apply ByteArray.ext;simp[ByteArray.data_extract,List.extract_toArray,List.extract_eq_take_drop,iE]
theorem ycG{a b:Bs}(h:str a=str b):a=b:=by
 have h1:(⟨a.toArray⟩:ByteArray)=⟨b.toArray⟩:=by injection h
 have h2:=congrArg (fun x=>x.data.toList) h1;simpa using h2
section
variable {P:Program}{w:World}{e:Operand->Value}{dst:Option Tmp}{g:Option (Nat×Bool)}{ty:TypeId}{pos:String}{aft:Array Edge}{x y lo hi:Operand}{T:TypeId}{k k':IntKind}{a b:Int}{l r:Bs}{t:Bool}
theorem zmX{N:Nat}(h1:P.underlying T=some .string)(hx:e x=str l)(hN:l.length=N):(execOp e ⟨dst,.call ⟨.builtin .len,#[x],#[T]⟩,ty,pos,aft,g⟩).run P w = .ok (.value (.int .i64 (N:Int))) w:=by subst hN;have:=r_lenS (P:=P) (w:=w) (e:=e) (dst:=dst) (g:=g) (ty:=ty) (pos:=pos) (aft:=aft) (args:=[]) (at_:=[]) h1 hx;rw[this,zjZ]
theorem zsG{i:Nat}{u:UInt8}(h1:P.underlying T=some .string)(hx:e x=str l)(hy:e y = .int k a)(ha:a=(i:Int))(hv:l[i]? = some u):(execOp e ⟨dst,.index T x y,ty,pos,aft,g⟩).run P w = .ok (.value (.int .u8 (u.toNat:Int))) w:=by
 subst ha;have hi:=(aC.1 hv).1;have hv':=(aC.1 hv).2;have h2:(⟨l.toArray⟩:ByteArray)[i]? = some u:=by rw[getElem?_pos (⟨l.toArray⟩:ByteArray) i (by simpa[ByteArray.size]using hi)];exact congrArg some hv'
 simp[execOp,Instr.index,asIntOf,Go.underlying,h1,hx,hy,h2]
theorem ztB{p h:Nat}(h1:P.underlying T=some .string)(hx:e x=str l)(hz:e lo = .int k' b)(hy:e hi = .int k a)(hb:b=(p:Int))(ha:a=(h:Int))(hp:p<=h)(hh:h<=l.length)(hr:(l.take h).drop p=r):(execOp e ⟨dst,.slice T x (some lo) (some hi) none,ty,pos,aft,g⟩).run P w = .ok (.value (str r)) w:=by simp[execOp,Instr.sliceAt,Instr.slice,Instr.sliceBounds,Go.underlying,h1,hx,hz,hy,zbB (P:=P) (w:=w) ha (y:=l.length) hh,zbB (P:=P) (w:=w) hb hp,zjZ,zjG,hr]
theorem zwS{p:Nat}(h1:P.underlying T=some .string)(hx:e x=str l)(hz:e lo = .int k' b)(hb:b=(p:Int))(hp:p<=l.length)(hr:l.drop p=r):(execOp e ⟨dst,.slice T x (some lo) none none,ty,pos,aft,g⟩).run P w = .ok (.value (str r)) w:=by simp[execOp,Instr.sliceAt,Instr.slice,Instr.sliceBounds,Go.underlying,h1,hx,hz,zbB (P:=P) (w:=w) hb hp,zjZ,zjG,hr]
theorem ztG{h:Nat}(h1:P.underlying T=some .string)(hx:e x=str l)(hy:e hi = .int k a)(ha:a=(h:Int))(hh:h<=l.length)(hr:l.take h=r):(execOp e ⟨dst,.slice T x none (some hi) none,ty,pos,aft,g⟩).run P w = .ok (.value (str r)) w:=by simp[execOp,Instr.sliceAt,Instr.slice,Instr.sliceBounds,Go.underlying,h1,hx,hy,zbB (P:=P) (w:=w) ha (y:=l.length) hh,zjZ,zjG,hr]
theorem yeD(l:Bs):strOfNums (l.map fun b=>(b.toNat:Int))=⟨l.toArray⟩:=by apply ByteArray.ext;apply Array.toList_inj.1;rw[strOfNums_data];simp[Function.comp_def]
theorem ytQ{E T2:TypeId}{v:Value}(hs:P.underlying T=some (.slice E))(he:P.underlying E=some (.int .u8))(hd:P.underlying T2=some .string)(hx:e x=v)(hr:Rd w v (u8s l)):(execOp e ⟨dst,.convert T T2 x,ty,pos,aft,g⟩).run P w = .ok (.value (str l)) w:=by
 have key:(convert T T2 v).run P w = .ok (str l) w:=by
  rcases hr with⟨rfl,h2⟩|⟨b,o,c,cs,T',fz,rfl,h3,h4,h5,h6⟩
  ·have:l=[]:=by simpa[u8s]using h2
   subst this;rw[run_convert_bytes_string w T T2 E none 0 0 hs he hd];simp[Conv.bytesToString];rfl
  ·have h7:=run_convert_bytes_arg (P:=P) w T E hs he b o (u8s l).length c (l.map fun b=>(b.toNat:Int)) (by simp[u8s]) (fun i hi=>by
    rw[zhV h4];rw[zaL]at h6;have h8:((cs.drop o).take (u8s l).length)[i]? = (u8s l)[i]?:=by rw[h6]
    rw[bK,zH hi,bB]at h8;rw[h8];rw[zaY]at hi
    simp[u8s,hi]) T2 hd
   rw[h7,yeD]
 simp[execOp,hx,key]
variable {l1 l2:Bs}{T':TypeId}
theorem run_cat(hn:l1.length+l2.length<=9223372036854775807):(Op.stringOp .add ⟨l1.toArray⟩ ⟨l2.toArray⟩).run P w = .ok (str (l1++l2)) w:=by
 simp only[Op.stringOp,zjZ,ynD]
 rw[zG (by
  have:IntKind.i64.max=9223372036854775807:=by decide
  rw[this];omega)]
 rfl
theorem yaN(hx:e x=str l1)(hy:e y=str l2)(hn:l1.length+l2.length<=9223372036854775807)(hr:l1++l2=r):(execOp e ⟨dst,.binOp .add T x y T',ty,pos,aft,g⟩).run P w = .ok (.value (str r)) w:=by have:=run_cat (P:=P) (w:=w) hn;simp[execOp,eqGuard,binOp,hx,hy,this,hr]
theorem r_eqT(hx:e x=str l1)(hy:e y=str l2)(h:(l1==l2)=t):(execOp e ⟨dst,.binOp .eql T x y T',ty,pos,aft,g⟩).run P w = .ok (.value (.bool t)) w:=by simp[execOp,eqGuard,binOp,hx,hy,Op.stringOp,<-h]
theorem r_neT(hx:e x=str l1)(hy:e y=str l2)(h:(l1 != l2)=t):(execOp e ⟨dst,.binOp .neq T x y T',ty,pos,aft,g⟩).run P w = .ok (.value (.bool t)) w:=by simp[execOp,eqGuard,binOp,hx,hy,Op.stringOp,<-h,bne]
end
def U(x:Int):Prop:=0<=x/\x<18446744073709551616
def C1(x:Int):Prop:=x=0∨x=1
theorem C1_0:C1 0:=.inl rfl
theorem U_0:U 0:=by unfold U;omega
theorem C1.U{x:Int}(h:C1 x):U x:=by unfold C1 at h;unfold Proofs.YtmbcolbbekbccaaGreat.U;omega
def lm(A i:Nat):Int:=((A/2^(64*i)%2^64:Nat):Int)
theorem U_lm(A i:Nat):U (lm A i):=by unfold U lm;have:=aZ (A/2^(64*i)) (show 0<2^64 by decide);omega
def numL(A:Nat):LV:=[.int .u64 (lm A 0),.int .u64 (lm A 1),.int .u64 (lm A 2),.int .u64 (lm A 3)]
abbrev numV(A:Nat):Value:=.agg (numL A).toArray
def zaC:Nat:=115792089237316195423570985008687907853269984665640564039457584007913129639936
theorem zbY:0<zaC:=by decide
theorem zyL(A:Nat):lm A 0+lm A 1*18446744073709551616+lm A 2*340282366920938463463374607431768211456+lm A 3*6277101735386680763835789423207666416102355444464034512896=((A%zaC:Nat):Int):=by unfold lm zaC;simp only[iK,iL,eP,fF];omega
theorem lm_of{a b c d:Int}(ha:U a)(hb:U b)(hc:U c)(hd:U d){A:Nat}(h:a+b*18446744073709551616+c*340282366920938463463374607431768211456+d*6277101735386680763835789423207666416102355444464034512896=(A:Int)):
  lm A 0=a/\lm A 1=b/\lm A 2=c/\lm A 3=d:=by
 unfold lm U at *;simp only[iK,iL,eP,fF];omega
theorem ygX{a b c d:Int}(ha:U a)(hb:U b)(hc:U c)(hd:U d){A:Nat}(h:a+b*18446744073709551616+c*340282366920938463463374607431768211456+d*6277101735386680763835789423207666416102355444464034512896=(A:Int)):([.int .u64 a,.int .u64 b,.int .u64 c,.int .u64 d]:LV)=numL A:=by obtain⟨h1,h2,h3,h4⟩:=lm_of ha hb hc hd h;unfold numL;rw[h1,h2,h3,h4]
theorem yxC{A B:Nat}(h:numL A=numL B):A%zaC=B%zaC:=by unfold numL at h;simp only[List.cons.injEq,Value.int.injEq,true_and,and_true]at h;have h1:=zyL A;have h2:=zyL B;rw[h.1,h.2.1,h.2.2.1,h.2.2.2,h2]at h1;exact Int.ofNat.inj h1.symm
def sd(x y b:Int):Int:=(x-y-b)%18446744073709551616
def sb(x y b:Int):Int:=if x<y+b then 1 else 0
def ad(x y c:Int):Int:=(x+y+c)%18446744073709551616
def ac(x y c:Int):Int:=if x+y+c<18446744073709551616 then 0 else 1
theorem U_sd(x y b:Int):U (sd x y b):=by unfold U sd;omega
theorem C_sb(x y b:Int):C1 (sb x y b):=by unfold C1 sb;split<;>omega
theorem U_ad(x y b:Int):U (ad x y b):=by unfold U ad;omega
theorem C_ac(x y c:Int):C1 (ac x y c):=by unfold C1 ac;split<;>omega
theorem ac_eq{x y c:Int}(hx:U x)(hy:U y)(hc:C1 c):(x+y+c)/18446744073709551616=ac x y c:=by unfold C1 U ac at *;split<;>omega
theorem xaC{x y b:Int}(hx:U x)(hy:U y)(hb:C1 b):sd x y b=x-y-b+18446744073709551616*sb x y b:=by unfold sd sb U C1 at *;split<;>omega
theorem zsR{x y c:Int}(hx:U x)(hy:U y)(hc:C1 c):ad x y c+18446744073709551616*ac x y c=x+y+c:=by rw[<-ac_eq hx hy hc];unfold ad;omega
def lessL(a0 a1 a2 a3 b0 b1 b2 b3:Int):LV:=
 [.int .u64 (sd a0 b0 0),.int .u64 (sd a1 b1 (sb a0 b0 0)),.int .u64 (sd a2 b2 (sb a1 b1 (sb a0 b0 0))),.int .u64 (sd a3 b3 (sb a2 b2 (sb a1 b1 (sb a0 b0 0))))]
def lessB(a0 a1 a2 a3 b0 b1 b2 b3:Int):Int:=sb a3 b3 (sb a2 b2 (sb a1 b1 (sb a0 b0 0)))
theorem yxM(A B:Nat)(hA:A<zaC)(hB:B<zaC):
  lessL (lm A 0) (lm A 1) (lm A 2) (lm A 3) (lm B 0) (lm B 1) (lm B 2) (lm B 3)=numL ((A+(zaC-B))%zaC) /\
  (lessB (lm A 0) (lm A 1) (lm A 2) (lm A 3) (lm B 0) (lm B 1) (lm B 2) (lm B 3)==1)=decide (A<B):=by
 have eA:=zyL A;have eB:=zyL B;rw[aP hA]at eA;rw[aP hB]at eB;have a0:=U_lm A 0;have a1:=U_lm A 1;have a2:=U_lm A 2;have a3:=U_lm A 3;have b0:=U_lm B 0;have b1:=U_lm B 1;have b2:=U_lm B 2;have b3:=U_lm B 3;unfold lessL lessB;generalize lm A 0=x0 at *;generalize lm A 1=x1 at *;generalize lm A 2=x2 at *;generalize lm A 3=x3 at *;generalize lm B 0=y0 at *;generalize lm B 1=y1 at *;generalize lm B 2=y2 at *;generalize lm B 3=y3 at *;have c0:=C_sb x0 y0 0;have e0:=xaC a0 b0 C1_0;have u0:=U_sd x0 y0 0;generalize sb x0 y0 0=s0 at *;generalize sd x0 y0 0=d0 at *;have c1:=C_sb x1 y1 s0;have e1:=xaC a1 b1 c0;have u1:=U_sd x1 y1 s0;generalize sb x1 y1 s0=s1 at *;generalize sd x1 y1 s0=d1 at *;have c2:=C_sb x2 y2 s1;have e2:=xaC a2 b2 c1;have u2:=U_sd x2 y2 s1;generalize sb x2 y2 s1=s2 at *;generalize sd x2 y2 s1=d2 at *;have c3:=C_sb x3 y3 s2;have e3:=xaC a3 b3 c2;have u3:=U_sd x3 y3 s2;generalize sb x3 y3 s2=s3 at *;generalize sd x3 y3 s2=d3 at *;unfold zaC at *;refine⟨ygX u0 u1 u2 u3 ?_,?_⟩
 ·unfold C1 U at *;by_cases h:A<B
  ·rw[aP (by omega)];omega
  ·rw[show A+(115792089237316195423570985008687907853269984665640564039457584007913129639936-B)=(A-B)+115792089237316195423570985008687907853269984665640564039457584007913129639936 by omega,iM,aP (by omega)];omega
 ·rw[fQ];simp only[beq_iff_eq,zD];unfold C1 U at *;omega
def PP:Nat:=115792089210356248762697446949407573530086143415290314195533631308867097853951
def NN:Nat:=115792089210356248762697446949407573529996955224135760342422259061068512044369
def modN(m:Int):Nat:=bif m==0 then PP else NN
theorem zkK(m:Int):modN m=PP∨modN m=NN:=by unfold modN;cases m==0<;>simp
def Mod(p:Nat):Prop:=zaC<2*p/\p<zaC
theorem xbF:Mod PP:=by unfold Mod zaC PP;omega
theorem mod_NN:Mod NN:=by unfold Mod zaC NN;omega
theorem zaV(m:Int):Mod (modN m):=by rcases zkK m with h|h<;>rw[h];exact xbF;exact mod_NN
theorem Mod.lt{p:Nat}(h:Mod p):p<zaC:=h.2
theorem Mod.pos{p:Nat}(h:Mod p):0<p:=by unfold Mod zaC at h;omega
theorem zzP{a:Nat}(h:Nat.blt a zaC=true):a<zaC:=by rw[zhR]at h;simpa using h
theorem ziD{a b c d:Nat}(A:Nat)(ha:a<18446744073709551616)(hb:b<18446744073709551616)(hc:c<18446744073709551616)(hd:d<18446744073709551616)(h:a+b*18446744073709551616+c*340282366920938463463374607431768211456+d*6277101735386680763835789423207666416102355444464034512896=A):([.int .u64 (a:Int),.int .u64 (b:Int),.int .u64 (c:Int),.int .u64 (d:Int)]:LV)=numL A:=
 ygX (by unfold U;omega) (by unfold U;omega) (by unfold U;omega) (by unfold U;omega) (by omega)
theorem xcC:([.int .u64 18446744073709551615,.int .u64 4294967295,.int .u64 0,.int .u64 18446744069414584321]:LV)=numL PP:=
 ziD (a:=18446744073709551615) (b:=4294967295) (c:=0) (d:=18446744069414584321) PP (by decide) (by decide) (by decide) (by decide) (by unfold PP;decide)
theorem xaZ:([.int .u64 17562291160714782033,.int .u64 13611842547513532036,.int .u64 18446744073709551615,.int .u64 18446744069414584320]:LV)=numL NN:=
 ziD (a:=17562291160714782033) (b:=13611842547513532036) (c:=18446744073709551615) (d:=18446744069414584320) NN (by decide) (by decide) (by decide) (by decide) (by unfold NN;decide)
theorem zlO:([.int .u64 0,.int .u64 0,.int .u64 0,.int .u64 0]:LV)=numL 0:=ziD (a:=0) (b:=0) (c:=0) (d:=0) 0 (by decide) (by decide) (by decide) (by decide) (by decide)
theorem zpB(a:Nat)(ha:a<18446744073709551616):([.int .u64 (a:Int),.int .u64 0,.int .u64 0,.int .u64 0]:LV)=numL a:=
 ziD (b:=0) (c:=0) (d:=0) a ha (by decide) (by decide) (by decide) (by omega)
def zzJ(A p:Nat)(c:Int):Nat:=if c=1∨p<=A then(A+(zaC-p))%zaC else A
theorem ykJ{A p:Nat}{c:Int}(hA:A<zaC)(hp:Mod p)(hc:C1 c)(h:A+c.toNat*zaC<2*p):zzJ A p c=(A+c.toNat*zaC)%p:=by
 have hpl:=hp.2;have hsub:∀X,p<=X->X<2*p->X%p=X-p:=fun X h1 h2=>by rw[Nat.mod_eq_sub_mod h1];exact aP (by omega)
 unfold zzJ;rcases hc with rfl|rfl
 ·have h':A<2*p:=by simpa using h
  simp only[Int.toNat_zero,eI,cQ];by_cases h1:p<=A
  ·rw[zH (.inr h1),hsub A h1 h',show A+(zaC-p)=(A-p)+zaC by omega,iM];exact aP (by omega)
  ·rw[zG (by omega)];exact(aP (by omega)).symm
 ·have h':A+zaC<2*p:=by simpa using h
  have h1:p<=A+zaC:=by omega
  simp only[Int.toNat_one,cR,true_or,if_true];rw[hsub _ h1 h'];have e:(A+(zaC-p))%zaC=A+(zaC-p):=aP (by omega);omega
theorem xeH{A p:Nat}(hA:A<zaC)(hp:Mod p):zzJ A p 0=A%p:=by have:=ykJ (c:=0) hA hp C1_0 (by simp;unfold Mod at hp;omega);simpa using this
theorem zqK{A p:Nat}{c:Int}(hA:A<zaC):zzJ A p c<zaC:=by
 unfold zzJ;split
 ·exact aZ _ (by decide)
 ·exact hA
def addL(a0 a1 a2 a3 b0 b1 b2 b3:Int):LV:=
 [.int .u64 (ad a0 b0 0),.int .u64 (ad a1 b1 (ac a0 b0 0)),.int .u64 (ad a2 b2 (ac a1 b1 (ac a0 b0 0))),.int .u64 (ad a3 b3 (ac a2 b2 (ac a1 b1 (ac a0 b0 0))))]
def addC(a0 a1 a2 a3 b0 b1 b2 b3:Int):Int:=ac a3 b3 (ac a2 b2 (ac a1 b1 (ac a0 b0 0)))
theorem ypH(A B:Nat)(hA:A<zaC)(hB:B<zaC):
  addL (lm A 0) (lm A 1) (lm A 2) (lm A 3) (lm B 0) (lm B 1) (lm B 2) (lm B 3)=numL ((A+B)%zaC) /\
  addC (lm A 0) (lm A 1) (lm A 2) (lm A 3) (lm B 0) (lm B 1) (lm B 2) (lm B 3)=((A+B)/zaC:Nat):=by
 have eA:=zyL A;have eB:=zyL B;rw[aP hA]at eA;rw[aP hB]at eB;have a0:=U_lm A 0;have a1:=U_lm A 1;have a2:=U_lm A 2;have a3:=U_lm A 3;have b0:=U_lm B 0;have b1:=U_lm B 1;have b2:=U_lm B 2;have b3:=U_lm B 3;unfold addL addC;generalize lm A 0=x0 at *;generalize lm A 1=x1 at *;generalize lm A 2=x2 at *;generalize lm A 3=x3 at *;generalize lm B 0=y0 at *;generalize lm B 1=y1 at *;generalize lm B 2=y2 at *;generalize lm B 3=y3 at *;have c0:=C_ac x0 y0 0;have e0:=zsR a0 b0 C1_0;have u0:=U_ad x0 y0 0;generalize ac x0 y0 0=s0 at *;generalize ad x0 y0 0=d0 at *;have c1:=C_ac x1 y1 s0;have e1:=zsR a1 b1 c0;have u1:=U_ad x1 y1 s0;generalize ac x1 y1 s0=s1 at *;generalize ad x1 y1 s0=d1 at *;have c2:=C_ac x2 y2 s1;have e2:=zsR a2 b2 c1;have u2:=U_ad x2 y2 s1;generalize ac x2 y2 s1=s2 at *;generalize ad x2 y2 s1=d2 at *;have c3:=C_ac x3 y3 s2;have e3:=zsR a3 b3 c2;have u3:=U_ad x3 y3 s2;generalize ac x3 y3 s2=s3 at *;generalize ad x3 y3 s2=d3 at *;unfold zaC at *;have key:((A+B:Nat):Int)=d0+d1*18446744073709551616+d2*340282366920938463463374607431768211456+d3*6277101735386680763835789423207666416102355444464034512896+s3*115792089237316195423570985008687907853269984665640564039457584007913129639936:=by omega
 have hb:0<=d0+d1*18446744073709551616+d2*340282366920938463463374607431768211456+d3*6277101735386680763835789423207666416102355444464034512896/\d0+d1*18446744073709551616+d2*340282366920938463463374607431768211456+d3*6277101735386680763835789423207666416102355444464034512896<115792089237316195423570985008687907853269984665640564039457584007913129639936:=by unfold U at *;omega
 clear eA eB e0 e1 e2 e3;refine⟨ygX u0 u1 u2 u3 ?_,?_⟩
 ·unfold C1 at *;omega
 ·unfold C1 at *;omega
theorem sum_eq{A B p:Nat}(hp:Mod p)(hA:A<p)(hB:B<p):zzJ ((A+B)%zaC) p ((A+B)/zaC:Nat)=(A+B)%p:=by
 have hpl:=hp.2;have h2:(A+B)/zaC<=1:=Nat.le_of_lt_succ (Nat.div_lt_of_lt_mul (by omega));rw[ykJ (aZ _ (by decide)) hp (by unfold C1;generalize (A+B)/zaC=q at *;omega)]
 ·congr 1;have:=Nat.mod_add_div (A+B) zaC;simp only[cU];rw[cA];exact this
 ·have:=Nat.mod_add_div (A+B) zaC;simp only[cU];rw[cA,this];omega
theorem neg_eq{A p:Nat}(hp:Mod p)(hA:A<p)(h0:A≠0):(p+(zaC-A))%zaC=(p-A)%p:=by have hpl:=hp.2;rw[show p+(zaC-A)=(p-A)+zaC by omega,iM,aP (by omega),aP (by omega)]
section
def dval:List Nat->Nat
 |[]=>0|d::l=>d+65536*dval l
def digs(n:Nat):List Nat:=if h:n=0 then []else n%65536::digs (n/65536)
termination_by n
decreasing_by exact fR (cN h) (by decide)
def DL(l:List Nat):Prop:=∀d∈l,d<65536
theorem zuU:digs 0=[]:=by rw[digs];simp
theorem znY{n:Nat}(h:n≠0):digs n=n%65536::digs (n/65536):=by rw[digs];simp[h]
theorem digs_DL(n:Nat):DL (digs n):=by
 induction n using eN with
 |_ n ih=>
  by_cases h:n=0
  ·subst h;rw[zuU];intro d hd;cases hd
  ·rw[znY h];intro d hd;rcases aT.1 hd with rfl|hd
   ·exact aZ _ (by decide)
   ·exact ih (n/65536) (fR (cN h) (by decide)) d hd
theorem ydO(n:Nat):dval (digs n)=n:=by
 induction n using eN with
 |_ n ih=>
  by_cases h:n=0
  ·subst h;rw[zuU];rfl
  ·rw[znY h,dval,ih (n/65536) (fR (cN h) (by decide))];omega
theorem DL.nil:DL []:=fun d hd=>by cases hd
theorem DL.cons{d:Nat}{l:List Nat}(h:d<65536)(hl:DL l):DL (d::l):=fun x hx=>by
 rcases aT.1 hx with rfl|hx
 ·exact h
 ·exact hl x hx
theorem DL.tail{d:Nat}{l:List Nat}(h:DL (d::l)):d<65536/\DL l:=⟨h d (by simp),fun x hx=>h x (by simp[hx])⟩
theorem DL.append{a b:List Nat}(ha:DL a)(hb:DL b):DL (a++b):=fun x hx=>by
 rcases List.mem_append.1 hx with h|h
 ·exact ha x h
 ·exact hb x h
theorem DL.take{a:List Nat}(ha:DL a)(n:Nat):DL (a.take n):=fun x hx=>ha x (List.mem_of_mem_take hx)
theorem DL.get{l:List Nat}(h:DL l){i d:Nat}(hi:l[i]? = some d):d<65536:=h d (List.mem_of_getElem? hi)
theorem yqE:∀{l:List Nat},DL l->dval l<65536^l.length
 |[],_=>by simp[dval]
 |d::l,h=>by have:=yqE h.tail.2;have:=h.tail.1;simp only[dval,aN,cK];omega
theorem yhY(a b:List Nat):dval (a++b)=dval a+65536^a.length*dval b:=by
 induction a with
 |nil=>simp[dval]|cons d a ih=>simp only[List.cons_append,dval,ih,aN,cK,dC,dL];congr 2;rw[<-dD,cA 65536]
theorem zyU:∀{l:List Nat},DL l->l.getLast? ≠ some 0->digs (dval l)=l
 |[],_,_=>by rw[dval,zuU]
 |[d],h,ht=>by have hd:d≠0:=fun e=>ht (by simp[e]);have:=h.tail.1;rw[dval,dval,Nat.mul_zero,cQ,znY hd,fG this,zuU,aP this]
 |d::d'::l,h,ht=>by
  have ih:=zyU h.tail.2 (by simpa using ht);have hd:=h.tail.1;have hv:dval (d'::l)≠0:=fun e=>by rw[e,zuU]at ih;cases ih
  have h1:dval (d::d'::l)=d+65536*dval (d'::l):=rfl;rw[h1,znY (by omega),dB,aP hd,Nat.add_mul_div_left _ _ (by decide),fG hd,aQ,ih]
theorem yzF{n:Nat}:(digs n).getLast? ≠ some 0:=by
 induction n using eN with
 |_ n ih=>
  by_cases h:n=0
  ·subst h;rw[zuU];simp
  ·rw[znY h];by_cases h2:n/65536=0
   ·rw[h2,zuU];simp;omega
   ·have:=ih (n/65536) (fR (cN h) (by decide));rw[znY h2]at this ⊢;simpa using this
theorem digs_lt(n:Nat):n<65536^(digs n).length:=by have:=yqE (digs_DL n);rwa[ydO]at this
theorem digs_ge{n:Nat}(h:n≠0):65536^((digs n).length-1)<=n:=by
 have hne:digs n≠[]:=by rw[znY h];simp
 have h1:=yhY ((digs n).take ((digs n).length-1)) ((digs n).drop ((digs n).length-1));have hlen:0<(digs n).length:=jB.2 hne;have hl:((digs n).take ((digs n).length-1)).length=(digs n).length-1:=by simp
 rw[dO,ydO,hl]at h1;have h2:dval ((digs n).drop ((digs n).length-1))≠0:=by have ht:=yzF (n:=n);rw[List.getLast?_eq_getElem?]at ht;rw[List.drop_eq_getElem_cons (by omega),List.drop_of_length_le (by omega),dval,dval];rw[List.getElem?_eq_getElem (by omega)]at ht;intro e;exact ht (by congr 1)
 have h3:65536^((digs n).length-1)*1<=65536^((digs n).length-1)*dval ((digs n).drop ((digs n).length-1)):=Nat.mul_le_mul_left _ (cN h2);omega
theorem yhQ{n k:Nat}(h:n<65536^k):(digs n).length<=k:=by
 by_cases h0:n=0
 ·subst h0;rw[zuU];simp
 ·rcases fY k (digs n).length with h2|h2
  ·have:=digs_ge h0;have h3:65536^k<=65536^((digs n).length-1):=gS (by decide) (by omega);omega
  ·exact h2
theorem ztK{a b:Nat}(h:a<=b):(digs a).length<=(digs b).length:=yhQ (cG h (digs_lt b))
def cmpI(a b:Nat):Int:=if a<b then -1 else if a=b then 0 else 1
theorem yuB{m:Int}(h:m=0):digs (modN m)=[65535,65535,65535,65535,65535,65535,0,0,0,0,0,0,1,0,65535,65535]:=by
 have e:modN m=dval [65535,65535,65535,65535,65535,65535,0,0,0,0,0,0,1,0,65535,65535]:=by unfold modN;rw[show(m==0)=true by simpa using h];rfl
 rw[e];exact zyU (by intro d hd;revert d hd;decide) (by decide)
theorem yoF{m:Int}(h:m≠0):digs (modN m)=[9553,64611,51906,62393,40580,42775,64173,48358,65535,65535,65535,65535,0,0,65535,65535]:=by
 have e:modN m=dval [9553,64611,51906,62393,40580,42775,64173,48358,65535,65535,65535,65535,0,0,65535,65535]:=by unfold modN;rw[show(m==0)=false by simpa using h];rfl
 rw[e];exact zyU (by intro d hd;revert d hd;decide) (by decide)
theorem DL.snoc{l:List Nat}(h:DL l){d:Nat}(hd:d<65536):DL (l++[d]):=h.append (DL.cons hd DL.nil)
end
section
def fl(f:Nat->Nat)(n:Nat):List Nat:=(bR n).map f
end
section
theorem yzC(m:Int):(digs (modN m)).length=16:=by
 by_cases h:m=0
 ·rw[yuB h];rfl
 ·rw[yoF h];rfl
end
section
theorem quoI{k d:Nat}(hk:0<k)(_hd:0<d)(h:k<4611686018427387904):IntKind.i64.wrap (((k:Int)-1).tdiv (d:Int))=(((k-1)/d:Nat):Int):=by rw[show(k:Int)-1=((k-1:Nat):Int) by omega,<-Int.ofNat_tdiv];have:(k-1)/d<=k-1:=eW _ _;generalize (k-1)/d=q at *;exact wr64 (by omega) (by omega)
theorem remI{k d:Nat}(hk:0<k):((k:Int)-1).tmod (d:Int)=(((k-1)%d:Nat):Int):=by rw[show(k:Int)-1=((k-1:Nat):Int) by omega,<-fX]
theorem bit_t{n:Nat}(h:((n:Int)==1)=true):n=1:=by have:=eq_of_beq h;omega
theorem bit_f{n:Nat}(h:((n:Int)==1)=false):n≠1:=fun e=>by subst e;cases h
theorem ycF(E k:Nat)(hk:0<k):E/2^(k-1)=E/2^k*2+E/2^(k-1)%2:=by
 have e1:E/2^k=E/2^(k-1)/2:=by
  conv=>lhs;rw[show k=k-1+1 by omega]
  rw[cK,eD]
 rw[e1];omega
theorem pow_b0{A E k p:Nat}(hk:0<k)(hb:E/2^(k-1)%2≠1):A^(E/2^k)%p*(A^(E/2^k)%p)%p=A^(E/2^(k-1))%p:=by
 rw[<-cS,<-eQ];congr 2;have:=ycF E k hk;have:E/2^(k-1)%2=0:=by omega
 omega
theorem pow_b1{A E k p:Nat}(hk:0<k)(hb:E/2^(k-1)%2=1):A^(E/2^k)%p*(A^(E/2^k)%p)%p*A%p=A^(E/2^(k-1))%p:=by rw[<-cS,<-eQ,cS,gP,<-cS,<-cK];congr 2;have:=ycF E k hk;omega
theorem zoB(m:Int):1<modN m:=by rcases zkK m with h|h<;>rw[h]<;>decide
end
theorem ztL{x y b:Int}(hx:U x)(hy:U y)(hb:C1 b)(w:World):(callFunc 161 ([.int .u64 x,.int .u64 y,.int .u64 b]:LV).toArray).run aD w = .ok (.value (.tuple ([.int .u64 (sd x y b),.int .u64 (sb x y b)]:LV).toArray)) w:=by
 obtain⟨X,rfl⟩:=cH hx.1;obtain⟨Y,rfl⟩:=cH hy.1
 have key:∀B:Nat,B<=1->(callFunc 161 #[.int .u64 X,.int .u64 Y,.int .u64 (B:Int)]).run aD w = .ok (.value (.tuple #[.int .u64 (sd X Y B),.int .u64 (sb X Y B)])) w:=fun B hB=>by
  rw[run_callFunc_extern (f:=161) Tryz.func161 (by kernel_rfl) (by kernel_rfl) (by kernel_rfl) (e:=sub64Entry) (by kernel_rfl),run_sub64 X Y B hB];simp only[Result.andThen];have h1:(((X+18446744073709551616-Y-B)%18446744073709551616:Nat):Int)=sd X Y B:=by unfold sd U at *;omega
  have h2:((if X<Y+B then 1 else 0:Nat):Int)=sb X Y B:=by unfold sb;split<;>split<;>omega
  rw[h1,h2]
 rcases hb with rfl|rfl
 ·exact key 0 (by omega)
 ·exact key 1 (by omega)
theorem zeP{x y b:Int}(hx:U x)(hy:U y)(hb:C1 b)(w:World):(callFunc 102 ([.int .u64 x,.int .u64 y,.int .u64 b]:LV).toArray).run aD w = .ok (.value (.tuple ([.int .u64 (ad x y b),.int .u64 (ac x y b)]:LV).toArray)) w:=by show(callFunc 102 #[.int .u64 x,.int .u64 y,.int .u64 b]).run aD w=_;rw[run_callFunc_extern (f:=102) Tryz.func102 (by kernel_rfl) (by kernel_rfl) (by kernel_rfl) (e:=add64Entry) (by kernel_rfl),run_add64 x y b hx.1 hy.1 (by unfold C1 at hb;omega) (by unfold C1 at hb;omega),ac_eq hx hy hb];rfl
theorem yhZ{A B:Nat}(hA:A<zaC)(hB:B<zaC):(numL A=numL B)↔A=B:=by
 refine⟨fun h=>?_,fun h=>by rw[h]⟩;have:=yxC h
 rwa[aP hA,aP hB]at this
theorem zrT{P:Program}{T E:TypeId}(hu:P.underlying T=some (.array 4 E))(he:P.underlying E=some (.int .u64))(hs:∀w,(sizeOf E).run P w = .ok 1 w)(ha:∀w,(isAgg E).run P w = .ok false w) (A B:Nat) (hA:A<zaC) (hB:B<zaC) (d:Nat) (w:World):(Op.equalIn (d+2) T (.agg (numL A).toArray) (.agg (numL B).toArray)).run P w = .ok (A==B) w:=by
 have key:(lm A 0=lm B 0/\lm A 1=lm B 1/\lm A 2=lm B 2/\lm A 3=lm B 3)↔A=B:=by rw[<-yhZ hA hB];unfold numL;simp
 have e2:∀(a b:Int) (w:World),(Op.equalIn (d+1) E (.int .u64 a) (.int .u64 b)).run P w = .ok (a==b) w:=fun a b w=>by simp[Op.equalIn,Go.underlying,he]
 have hb:(A==B)=(lm A 0==lm B 0&&(lm A 1==lm B 1&&(lm A 2==lm B 2&&lm A 3==lm B 3))):=by rw[fQ];simp only[beq_iff_eq,aK];exact key.symm
 rw[hb];unfold Op.equalIn;simp only[Sem.run_bind,Go.underlying,run_program,Result.andThen_ok,hu,Sem.run_pure,hs];simp only[numL,part,Std.Legacy.Range.forIn_eq_forIn_range',Std.Legacy.Range.size];simp[e2,ha,List.range'_succ];cases h0:lm A 0==lm B 0<;>cases h1:lm A 1==lm B 1<;>cases h2:lm A 2==lm B 2<;>cases h3:lm A 3==lm B 3<;>simp_all
theorem ydX{P:Program}{T E:TypeId}(hu:P.underlying T=some (.array 4 E))(he:P.underlying E=some (.int .u64))(hs:∀w,(sizeOf E).run P w = .ok 1 w)(ha:∀w,(isAgg E).run P w = .ok false w) (A B:Nat) (hA:A<zaC) (hB:B<zaC) (w:World):(Op.equal T (.agg (numL A).toArray) (.agg (numL B).toArray)).run P w = .ok (A==B) w:=
 zrT hu he hs ha A B hA hB 9998 w
section
variable {P:Program}{w:World}{e:Operand->Value}{x y:Operand}{T T' E:TypeId}{ty:TypeId}{pos:String}{aft:Array Edge}{dst:Option Tmp}{g:Option (Nat×Bool)}{t:Bool}
theorem zsA(hu:P.underlying T=some (.array 4 E))(he:P.underlying E=some (.int .u64))(hs:∀w,(sizeOf E).run P w = .ok 1 w)(ha:∀w,(isAgg E).run P w = .ok false w)(hg:P.eqGuardType P.depth T=false) {A B:Nat} (hx:e x = .agg (numL A).toArray) (hy:e y = .agg (numL B).toArray) (hA:A<zaC) (hB:B<zaC) (h:(A==B)=t):(execOp e ⟨dst,.binOp .eql T x y T',ty,pos,aft,g⟩).run P w = .ok (.value (.bool t)) w:=by simp only[execOp,hx,hy,eqGuard,binOp,Sem.run_bind,Result.andThen_ok,ydX hu he hs ha A B hA hB,Sem.run_pure,h];simp[hg]
theorem yaM(hu:P.underlying T=some (.array 4 E))(he:P.underlying E=some (.int .u64))(hs:∀w,(sizeOf E).run P w = .ok 1 w)(ha:∀w,(isAgg E).run P w = .ok false w)(hg:P.eqGuardType P.depth T=false) {A B:Nat} (hx:e x = .agg (numL A).toArray) (hy:e y = .agg (numL B).toArray) (hA:A<zaC) (hB:B<zaC) (h:(A != B)=t):(execOp e ⟨dst,.binOp .neq T x y T',ty,pos,aft,g⟩).run P w = .ok (.value (.bool t)) w:=by have h':(!(A==B))=t:=h;simp only[execOp,hx,hy,eqGuard,binOp,Sem.run_bind,Result.andThen_ok,ydX hu he hs ha A B hA hB,Sem.run_pure,h'];simp[hg]
end
end Go.Proofs.YtmbcolbbekbccaaGreat
namespace Go.Proofs
open Go.Shelf
def Tryz.lays264_ren:Go.Shelf.Ren:=⟨fun|264=>139|n=>n,fun|53=>22|46=>129|n=>n,fun|n=>n⟩
theorem Tryz.lays264:Go.Proofs.Lays.n264 aD Tryz.lays264_ren:={mixed:=by kernel_rfl,f264:=Tryz.func139.trans (congrArg some (by kernel_rfl)),t46:=Tryz.underlying129,a46:=Tryz.isAgg129,z46:=Tryz.sizeOf129,v46:=Tryz.zeroValue129,t53:=Tryz.underlying22,a53:=Tryz.isAgg22,z53:=Tryz.sizeOf22,v53:=Tryz.zeroValue22 }
open Go.RowKit Go.Lib in
theorem Tryz.bits_Mul64(x y:Nat)(hx:x<18446744073709551616)(hy:y<18446744073709551616)(w:World):Calls aD 139 #[.int .u64 x,.int .u64 y] w fun e w'=>e = .returned (.tuple #[.int .u64 ((x*y/18446744073709551616:Nat):Int),.int .u64 ((x*y%18446744073709551616:Nat):Int)])/\w'=w:=Any.bits_Mul64 Tryz.lays264 x y hx hy w
def Tryz.lays105_ren:Go.Shelf.Ren:=⟨fun|105=>44|212=>89|99=>90|165=>91|166=>92|170=>93|169=>94|263=>138|264=>139|206=>140|240=>141|241=>142|276=>160|277=>143|n=>n,fun|9=>9|3=>3|4=>4|20=>20|0=>0|46=>129|109=>130|5=>5|72=>134|76=>138|51=>107|146=>174|53=>22|148=>147|70=>132|37=>127|75=>137|127=>177|164=>190|80=>121|n=>n,fun|n=>n⟩
theorem Tryz.lays105:Go.Proofs.Lays.n105 aD Tryz.lays105_ren:={mixed:=by kernel_rfl,f99:=Tryz.func90.trans (congrArg some (by kernel_rfl)),f105:=Tryz.func44.trans (congrArg some (by kernel_rfl)),f165:=Tryz.func91.trans (congrArg some (by kernel_rfl)),f166:=Tryz.func92.trans (congrArg some (by kernel_rfl)),f169:=Tryz.func94.trans (congrArg some (by kernel_rfl)),f170:=Tryz.func93.trans (congrArg some (by kernel_rfl)),f206:=Tryz.func140.trans (congrArg some (by kernel_rfl)),f212:=Tryz.func89.trans (congrArg some (by kernel_rfl)),f240:=Tryz.func141.trans (congrArg some (by kernel_rfl)),f241:=Tryz.func142.trans (congrArg some (by kernel_rfl)),f263:=Tryz.func138.trans (congrArg some (by kernel_rfl)),f264:=Tryz.func139.trans (congrArg some (by kernel_rfl)),f276:=Tryz.func160.trans (congrArg some (by kernel_rfl)),f277:=Tryz.func143.trans (congrArg some (by kernel_rfl)),t0:=Tryz.underlying0,a0:=Tryz.isAgg0,z0:=Tryz.sizeOf0,v0:=Tryz.zeroValue0,t3:=Tryz.underlying3,a3:=Tryz.isAgg3,z3:=Tryz.sizeOf3,v3:=Tryz.zeroValue3,t4:=Tryz.underlying4,a4:=Tryz.isAgg4,z4:=Tryz.sizeOf4,v4:=Tryz.zeroValue4,t5:=Tryz.underlying5,a5:=Tryz.isAgg5,z5:=Tryz.sizeOf5,v5:=Tryz.zeroValue5,t9:=Tryz.underlying9,a9:=Tryz.isAgg9,z9:=Tryz.sizeOf9,v9:=Tryz.zeroValue9,t20:=Tryz.underlying20,a20:=Tryz.isAgg20,z20:=Tryz.sizeOf20,v20:=Tryz.zeroValue20,t37:=Tryz.underlying127,a37:=Tryz.isAgg127,z37:=Tryz.sizeOf127,v37:=Tryz.zeroValue127,t46:=Tryz.underlying129,a46:=Tryz.isAgg129,z46:=Tryz.sizeOf129,v46:=Tryz.zeroValue129,t51:=Tryz.underlying107,a51:=Tryz.isAgg107,z51:=Tryz.sizeOf107,v51:=Tryz.zeroValue107,t53:=Tryz.underlying22,a53:=Tryz.isAgg22,z53:=Tryz.sizeOf22,v53:=Tryz.zeroValue22,t70:=Tryz.underlying132,a70:=Tryz.isAgg132,z70:=Tryz.sizeOf132,v70:=Tryz.zeroValue132,t72:=Tryz.underlying134,a72:=Tryz.isAgg134,z72:=Tryz.sizeOf134,v72:=Tryz.zeroValue134,t75:=Tryz.underlying137,a75:=Tryz.isAgg137,z75:=Tryz.sizeOf137,v75:=Tryz.zeroValue137,t76:=Tryz.underlying138,a76:=Tryz.isAgg138,z76:=Tryz.sizeOf138,v76:=Tryz.zeroValue138,t109:=Tryz.underlying130,a109:=Tryz.isAgg130,z109:=Tryz.sizeOf130,v109:=Tryz.zeroValue130,t127:=Tryz.underlying177,a127:=Tryz.isAgg177,z127:=Tryz.sizeOf177,v127:=Tryz.zeroValue177,t146:=Tryz.underlying174,a146:=Tryz.isAgg174,z146:=Tryz.sizeOf174,v146:=Tryz.zeroValue174,t148:=Tryz.underlying147,a148:=Tryz.isAgg147,z148:=Tryz.sizeOf147,v148:=Tryz.zeroValue147,t164:=Tryz.underlying190,a164:=Tryz.isAgg190,z164:=Tryz.sizeOf190,v164:=Tryz.zeroValue190 }
theorem Tryz.Builder_Extra_105:Builder.Extra aD Tryz.lays105_ren:={sizeBuilder:=by kernel_rfl,liesBuilder:=by kernel_rfl,t5:=Tryz.underlying5,a5:=Tryz.isAgg5,z5:=Tryz.sizeOf5,v5:=Tryz.zeroValue5,infoByte:=by kernel_rfl,cellsByte:=by kernel_rfl,sizeByte:=by kernel_rfl,neB5:=by decide }
open Go.RowKit Go.Lib in
theorem Tryz.strings_Repeat(s:ByteArray)(c:Nat)(w:World)(hc:c<=9223372036854775807)(hlen:s.size*c<=140737488355328):Calls aD 44 #[.string s,.int .i64 c] w fun e w'=>e = .returned (.string ⟨(Lib.repeatL s.data.toList c).toArray⟩)/\Below w.heap.size w w':=Any.strings_Repeat Tryz.lays105 Tryz.Builder_Extra_105 s c w hc hlen
end Go.Proofs
namespace Go.Proofs.YtmbcolbbekbccaaGreat
open Go Go.RowKit
def mh(x y:Int):Int:=x*y/18446744073709551616
def ml(x y:Int):Int:=x*y%18446744073709551616
theorem xbZ{x y:Int}(hx:U x)(hy:U y):0<=x*y/\x*y<=340282366920938463426481119284349108225:=by
 refine⟨Int.mul_nonneg hx.1 hy.1,?_⟩;have h1:x<=18446744073709551615:=by have:=hx.2;omega
 have h2:y<=18446744073709551615:=by have:=hy.2;omega
 have:=Int.mul_le_mul h1 h2 hy.1 (by decide);simpa using this
theorem U_mh{x y:Int}(hx:U x)(hy:U y):0<=mh x y/\mh x y<=18446744073709551614:=by have:=xbZ hx hy;unfold mh;generalize x*y=p at *;omega
theorem U_ml(x y:Int):U (ml x y):=by unfold U ml;omega
theorem yuC(x y:Int):mh x y*18446744073709551616+ml x y=x*y:=by unfold mh ml;omega
theorem xdQ{x y:Int}(hx:U x)(hy:U y)(w:World):Calls aD 139 #[.int .u64 x,.int .u64 y] w fun e w'=>e = .returned (.tuple ([.int .u64 (mh x y),.int .u64 (ml x y)]:LV).toArray)/\Ext w w':=by obtain⟨X,rfl⟩:=cH hx.1;obtain⟨Y,rfl⟩:=cH hy.1;refine(Tryz.bits_Mul64 X Y (by have:=hx.2;omega) (by have:=hy.2;omega) w).mono ?_;rintro e w' ⟨he,rfl⟩;refine⟨?_,Ext.refl _⟩;rw[he];rfl
theorem wide_w1{x y c:Int}(hx:U x)(hy:U y)(_hc:U c):IntKind.u64.wrap (mh x y+ac (ml x y) c 0)=mh x y+ac (ml x y) c 0:=by
 have h1:=U_mh hx hy;have h2:=C_ac (ml x y) c 0;refine wru rfl ?_ ?_
 ·unfold C1 at h2;omega
 ·show _<(2:Int)^64;unfold C1 at h2;omega
theorem zyO{x y c o:Int}(hx:U x)(hy:U y)(hc:U c)(ho:U o):
  IntKind.u64.wrap (mh x y+ac (ml x y) c 0+ac o (ad (ml x y) c 0) 0)=mh x y+ac (ml x y) c 0+ac o (ad (ml x y) c 0) 0 /\
  U (mh x y+ac (ml x y) c 0+ac o (ad (ml x y) c 0) 0) /\
  (mh x y+ac (ml x y) c 0+ac o (ad (ml x y) c 0) 0)*18446744073709551616+ad o (ad (ml x y) c 0) 0=x*y+c+o:=by
 have h1:=xbZ hx hy;have h2:=yuC x y;have h3:=U_ml x y;have h4:=U_mh hx hy;have e1:=zsR h3 hc C1_0;have u1:=U_ad (ml x y) c 0;have c1:=C_ac (ml x y) c 0;have e2:=zsR ho u1 C1_0;have u2:=U_ad o (ad (ml x y) c 0) 0;have c2:=C_ac o (ad (ml x y) c 0) 0;generalize ad o (ad (ml x y) c 0) 0=o' at *;generalize ac o (ad (ml x y) c 0) 0=k2 at *;generalize ad (ml x y) c 0=l1 at *;generalize ac (ml x y) c 0=k1 at *;generalize mh x y=hi at *;generalize ml x y=lo at *;generalize x*y=p at *;have hb:U (hi+k1+k2):=by unfold U C1 at *;omega
 refine⟨wru rfl hb.1 hb.2,hb,by omega⟩
theorem pw64:(2:Nat)^64=18446744073709551616:=by kernel_rfl
theorem pw0:(2:Nat)^(64*0)=1:=by kernel_rfl
theorem pw1:(2:Nat)^(64*1)=18446744073709551616:=by kernel_rfl
theorem pw2:(2:Nat)^(64*2)=340282366920938463463374607431768211456:=by kernel_rfl
theorem pw3:(2:Nat)^(64*3)=6277101735386680763835789423207666416102355444464034512896:=by kernel_rfl
theorem pw4:(2:Nat)^(64*4)=115792089237316195423570985008687907853269984665640564039457584007913129639936:=by kernel_rfl
theorem pw5:(2:Nat)^(64*5)=2135987035920910082395021706169552114602704522356652769947041607822219725780640550022962086936576:=by kernel_rfl
theorem pw6:(2:Nat)^(64*6)=39402006196394479212279040100143613805079739270465446667948293404245721771497210611414266254884915640806627990306816:=by kernel_rfl
theorem pw7:(2:Nat)^(64*7)=726838724295606890549323807888004534353641360687318060281490199180639288113397923326191050713763565560762521606266177933534601628614656:=by kernel_rfl
def outL(f:Nat->Int):LV:=[.int .u64 (f 0),.int .u64 (f 1),.int .u64 (f 2),.int .u64 (f 3),.int .u64 (f 4),.int .u64 (f 5),.int .u64 (f 6),.int .u64 (f 7)]
def wv(t:Nat):Int:=18446744073709551616^t
theorem xfA(t:Nat):wv (t+1)=wv t*18446744073709551616:=by unfold wv;rw[Int.pow_succ]
theorem wv_0:wv 0=1:=rfl
def val8(f:Nat->Int):Int:=f 0+f 1*wv 1+f 2*wv 2+f 3*wv 3+f 4*wv 4+f 5*wv 5+f 6*wv 6+f 7*wv 7
def upd(f:Nat->Int)(t:Nat)(v:Int):Nat->Int:=fun s=>if s=t then v else f s
theorem yeL{f:Nat->Int}{t s:Nat}{v:Int}(h:s≠t):upd f t v s=f s:=by simp[upd,h]
theorem U_upd{f:Nat->Int}{t:Nat}{v:Int}(hf:∀s,U (f s))(hv:U v):∀s,U (upd f t v s):=fun s=>by unfold upd;split;exact hv;exact hf s
theorem ytC{t:Nat}(h:t<8):t=0∨t=1∨t=2∨t=3∨t=4∨t=5∨t=6∨t=7:=by omega
theorem ylW(f:Nat->Int)(t:Nat)(v:Int)(h:t<8):val8 (upd f t v)=val8 f+(v-f t)*wv t:=by rcases ytC h with rfl|rfl|rfl|rfl|rfl|rfl|rfl|rfl<;>simp only[val8,upd,Nat.reduceEqDiff,if_true,if_false,wv_0]<;>grind
theorem yuM(f:Nat->Int)(t:Nat)(h:t<8):piece (outL f) t 1=[.int .u64 (f t)]:=by rcases ytC h with rfl|rfl|rfl|rfl|rfl|rfl|rfl|rfl<;>rfl
theorem yrO(f:Nat->Int)(t:Nat)(v:Int)(h:t<8):lay (outL f) t [.int .u64 v]=outL (upd f t v):=by rcases ytC h with rfl|rfl|rfl|rfl|rfl|rfl|rfl|rfl<;>rfl
theorem zqC(A t:Nat)(h:t<4):piece (numL A) t 1=[.int .u64 (lm A t)]:=by rcases(by omega:t=0∨t=1∨t=2∨t=3)with rfl|rfl|rfl|rfl<;>rfl
def low(A t:Nat):Int:=((A%(18446744073709551616^t):Nat):Int)
theorem yjX(A t:Nat):low A (t+1)=low A t+lm A t*wv t:=by
 unfold low lm wv;have e:(2:Nat)^(64*t)=18446744073709551616^t:=by rw[gH]
 rw[e,show(2:Nat)^64=18446744073709551616 from rfl,cK,Nat.mod_mul];rw[Int.natCast_add,Int.natCast_mul,Int.natCast_pow];rw[Int.mul_comm];rfl
theorem low_0(A:Nat):low A 0=0:=by unfold low;simp[Nat.mod_one]
theorem low_4{A:Nat}(h:A<zaC):low A 4=(A:Int):=by unfold low;rw[show(18446744073709551616:Nat)^4=zaC from rfl,aP h]
theorem wv_add(k j:Nat):wv (k+j)=wv k*wv j:=by unfold wv;rw[Int.pow_add]
theorem xaH{f f':Nat->Int}{x c c' o':Int}{k j B:Nat}(h:val8 f'+c*wv (k+j)=val8 f+x*low B j*wv k)(hs:c'*18446744073709551616+o'=x*lm B j+c+f' (k+j))(hkj:k+j<8):
  val8 (upd f' (k+j) o')+c'*wv (k+(j+1))=val8 f+x*low B (j+1)*wv k:=by
 rw[ylW _ _ _ hkj,<-dL,xfA,yjX];have e:=wv_add k j;generalize wv (k+j)=p at *;generalize wv k=q at *;generalize wv j=r at *;generalize val8 f'=v' at *;generalize val8 f=v at *;generalize f' (k+j)=o at *;generalize lm B j=y at *;generalize low B j=l at *
 grind
theorem yxY{f f':Nat->Int}{c:Int}{k A B:Nat}(h:val8 f'+c*wv (k+4)=val8 f+lm A k*low B 4*wv k)(h0:val8 f=low A k*(B:Int))(hB:B<zaC)(hz:f' (k+4)=0)(hk:k<4):
  val8 (upd f' (k+4) c)=low A (k+1)*(B:Int):=by
 rw[ylW _ _ _ (by omega),yjX,hz];rw[low_4 hB]at h;generalize wv (k+4)=p at *;generalize wv k=q at *;generalize val8 f'=v' at *;generalize val8 f=v at *;generalize low A k=l at *;generalize lm A k=x at *
 grind
theorem ypF{f:Nat->Int}(hf:∀s,U (f s)){X:Nat}(h:val8 f=(X:Int)):outL f=outL (lm X):=by have e1:wv 1=18446744073709551616:=rfl;have e2:wv 2=340282366920938463463374607431768211456:=rfl;have e3:wv 3=6277101735386680763835789423207666416102355444464034512896:=rfl;have e4:wv 4=115792089237316195423570985008687907853269984665640564039457584007913129639936:=rfl;have e5:wv 5=2135987035920910082395021706169552114602704522356652769947041607822219725780640550022962086936576:=rfl;have e6:wv 6=39402006196394479212279040100143613805079739270465446667948293404245721771497210611414266254884915640806627990306816:=rfl;have e7:wv 7=726838724295606890549323807888004534353641360687318060281490199180639288113397923326191050713763565560762521606266177933534601628614656:=rfl;unfold val8 at h;rw[e1,e2,e3,e4,e5,e6,e7]at h;have h0:=hf 0;have h1:=hf 1;have h2:=hf 2;have h3:=hf 3;have h4:=hf 4;have h5:=hf 5;have h6:=hf 6;have h7:=hf 7;unfold outL lm U at *;simp only[pw0,pw1,pw2,pw3,pw4,pw5,pw6,pw7,pw64,fF];generalize f 0=a0 at *;generalize f 1=a1 at *;generalize f 2=a2 at *;generalize f 3=a3 at *;generalize f 4=a4 at *;generalize f 5=a5 at *;generalize f 6=a6 at *;generalize f 7=a7 at *;clear e1 e2 e3 e4 e5 e6 e7;simp only[List.cons.injEq,Value.int.injEq,true_and,and_true];refine⟨?_,?_,?_,?_,?_,?_,?_,?_⟩<;>omega
theorem val8_lm{X:Nat}(h:X<zaC*zaC):val8 (lm X)=(X:Int):=by have e1:wv 1=18446744073709551616:=rfl;have e2:wv 2=340282366920938463463374607431768211456:=rfl;have e3:wv 3=6277101735386680763835789423207666416102355444464034512896:=rfl;have e4:wv 4=115792089237316195423570985008687907853269984665640564039457584007913129639936:=rfl;have e5:wv 5=2135987035920910082395021706169552114602704522356652769947041607822219725780640550022962086936576:=rfl;have e6:wv 6=39402006196394479212279040100143613805079739270465446667948293404245721771497210611414266254884915640806627990306816:=rfl;have e7:wv 7=726838724295606890549323807888004534353641360687318060281490199180639288113397923326191050713763565560762521606266177933534601628614656:=rfl;unfold val8 lm zaC at *;rw[e1,e2,e3,e4,e5,e6,e7];simp only[pw0,pw1,pw2,pw3,pw4,pw5,pw6,pw7,pw64,fF];clear e1 e2 e3 e4 e5 e6 e7;omega
def bval(l:Bs):Nat:=l.foldl (fun n b=>n*256+b.toNat) 0
theorem ycH:bval []=0:=rfl
theorem zmU(l:Bs)(b:UInt8):bval (l++[b])=bval l*256+b.toNat:=by simp[bval]
theorem ypP{l:Bs}{i:Nat}{b:UInt8}(h:l[i]? = some b):bval (l.take (i+1))=bval (l.take i)*256+b.toNat:=by rw[List.take_add_one,h];exact zmU _ _
theorem zrZ(a:Bs):∀b:Bs,bval (a++b)=bval a*256^b.length+bval b:=by
 intro b;induction h:b.length generalizing b with
 |zero=>obtain rfl:b=[]:=cV.1 h;simp[ycH]
 |succ n ih=>
  obtain⟨c,x,rfl⟩:∃c x,b=c++[x]:=by refine⟨b.dropLast,b.getLast (by intro e;subst e;cases h),(iA _).symm⟩
  have hn:c.length=n:=by simpa using h
  rw[<-List.append_assoc,zmU,ih c hn,zmU,cK,bD,dD,dL]
theorem ytF:∀(l:Bs),bval l<256^l.length:=by
 intro l;induction h:l.length generalizing l with
 |zero=>obtain rfl:l=[]:=cV.1 h;decide
 |succ n ih=>
  obtain⟨c,x,rfl⟩:∃c x,l=c++[x]:=by refine⟨l.dropLast,l.getLast (by intro e;subst e;cases h),(iA _).symm⟩
  have hn:c.length=n:=by simpa using h
  have h1:=ih c hn;have h2:=x.toNat_lt;rw[zmU,cK];omega
theorem zqN{l:Bs}{n:Nat}(h:l.length<=n):bval l<256^n:=bE (ytF l) (gS (by decide) h)
theorem ynN(l:Bs):∀j:Nat,bval (aO j 0++l)=bval l:=by
 intro j;have h:∀j,bval (aO j 0)=0:=by
  intro j;induction j with
  |zero=>rfl|succ j ih=>rw[List.replicate_succ',zmU,ih];rfl
 rw[zrZ,h,eI,aQ]
theorem yaD(l:Bs)(i:Nat):bval l=bval (l.take i)*256^(l.length-i)+bval (l.drop i):=by
 conv=>lhs;rw[<-dO i l]
 rw[zrZ,bO]
theorem ynS{n:Nat}(h:n<72057594037927936):IntKind.u64.wrap ((n:Int)*2^(min ((8:Int).toNat) IntKind.u64.bits))=((n*256:Nat):Int):=by
 have e:(2:Int)^(min ((8:Int).toNat) IntKind.u64.bits)=256:=by decide
 rw[e,show(n:Int)*256=((n*256:Nat):Int) by omega]
 exact ynU rfl (by
  have:(2:Nat)^IntKind.u64.bits=18446744073709551616:=by decide
  omega)
theorem yyZ{n:Nat}{b:UInt8}(h:n<72057594037927936):bits .or .u64 ((n*256:Nat):Int) (b.toNat:Int)=((n*256+b.toNat:Nat):Int):=by
 have h2:=b.toNat_lt
 exact joinN (n:=8) rfl h2 (by
  have:(2:Nat)^IntKind.u64.bits=18446744073709551616:=by decide
  omega)
theorem u8_64(b:UInt8):IntKind.u64.wrap (b.toNat:Int)=(b.toNat:Int):=ynU rfl (bQ b.toNat_lt (by decide))
theorem to8(n:Nat):IntKind.u8.wrap (n:Int)=((UInt8.ofNat n).toNat:Int):=by rw[wrapN rfl];simp[UInt8.toNat_ofNat'];rfl
theorem ypK{l:Bs}{i:Nat}(hi:i<l.length)(hl:l.length<=8):bval (l.take i)<72057594037927936:=
 zqN (n:=7) (by rw[bZ];omega)
theorem lm_nat{A i n:Nat}(h:A/2^(64*i)%2^64=n):lm A i=(n:Int):=by unfold lm;rw[h]
theorem ysP{l:Bs}(hl:l.length=32){p:Nat}(hp:p+8<=32):bval l/256^(24-p)%256^8=bval ((l.take (p+8)).drop p):=by have h1:=yaD l (p+8);have h2:=yaD (l.take (p+8)) p;rw[List.take_take,gG (by omega),bZ,gG (by omega),show p+8-p=8 by omega]at h2;have h3:bval (l.drop (p+8))<256^(24-p):=zqN (by rw[bO];omega);have h4:bval ((l.take (p+8)).drop p)<256^8:=zqN (by simp;omega);rw[hl,show 32-(p+8)=24-p by omega]at h1;rw[h1,cA,Nat.mul_add_div (jJ (by decide)),fG h3,cQ,h2,cA,Nat.mul_add_mod,aP h4]
theorem ymG{l:Bs}(hl:l.length=32):([.int .u64 (bval ((l.take 32).drop 24):Int),.int .u64 (bval ((l.take 24).drop 16):Int),.int .u64 (bval ((l.take 16).drop 8):Int),.int .u64 (bval ((l.take 8).drop 0):Int)]:LV)=numL (bval l):=by
 have e:∀i p,p+8<=32->8*i=24-p->lm (bval l) i=(bval ((l.take (p+8)).drop p):Int):=fun i p hp hi=>by refine lm_nat ?_;rw[<-ysP hl hp,show(256:Nat)=2^8 from rfl,<-gH,<-gH,<-hi,<-dD]
 unfold numL;rw[e 0 24 (by decide) rfl,e 1 16 (by decide) rfl,e 2 8 (by decide) rfl,e 3 0 (by decide) rfl]
theorem zyA{l:Bs}(hl:l.length=32):bval l<zaC:=by have:=ytF l;rw[hl]at this;exact this
def ofOK(m:Int)(l:Bs):Bool:=l.length==32&&decide (bval l<modN m)
def ofV(m:Int)(l:Bs):Nat:=bif ofOK m l then bval l else 0
def ofE(m:Int)(l:Bs):Int:=bif ofOK m l then 0 else 60
theorem of_len{m:Int}{l:Bs}(h:l.length≠32):ofOK m l=false:=by simp[ofOK,h]
theorem of_f{m:Int}{l:Bs}(h:ofOK m l=false):ofV m l=0/\ofE m l=60:=by simp[ofV,ofE,h]
theorem of_t{m:Int}{l:Bs}(h:ofOK m l=true):ofV m l=bval l/\ofE m l=0:=by simp[ofV,ofE,h]
theorem of_ne{m:Int}{l:Bs}(h:(bval l%modN m != bval l)=true):ofOK m l=false:=by have h1:bval l%modN m≠bval l:=bne_iff_ne.1 h;have h2:¬bval l<modN m:=fun hlt=>h1 (aP hlt);simp[ofOK,h2]
theorem of_eq{m:Int}{l:Bs}(hl:l.length=32)(h:(bval l%modN m != bval l)=false):ofOK m l=true:=by
 have h1:bval l%modN m=bval l:=by simpa using h
 have h2:bval l<modN m:=by rw[<-h1];exact aZ _ (zaV m).pos
 simp[ofOK,hl,h2]
theorem yfX(m:Int)(l:Bs):ofV m l<modN m:=by
 unfold ofV;cases h:ofOK m l with
 |false=>exact(zaV m).pos|true=>simp only[ofOK,aK,zD]at h;exact h.2
theorem zpS(m:Int)(l:Bs):ofV m l<zaC:=bQ (yfX m l) (zaV m).lt
theorem word_0{A n p:Nat}(hA:A<p)(hn:n<18446744073709551616):(A*2^(64-64)+n/2^64)%p=A:=by rw[fG hn];simp[aP hA]
theorem ywC{A n p k:Nat}(hk:0<k)(hk2:k<=64):(((A*2^(64-k)+n/2^k)%p+(A*2^(64-k)+n/2^k)%p)%p+n/2^(k-1)%2)%p=(A*2^(64-(k-1))+n/2^(k-1))%p:=by
 have h1:=ycF n k hk;rw[gV,dL,gV,Nat.add_left_comm,gV];congr 1;have h2:2^(64-(k-1))=2^(64-k)*2:=by rw[<-cK];congr 1;omega
 rw[h2,<-dD];omega
theorem yxS(n k:Nat)(hk:0<k)(hk2:k<=64):((n:Nat):Int).fdiv (2^(min (((k:Int)-1).toNat) IntKind.u64.bits))=((n/2^(k-1):Nat):Int):=by
 rw[show((k:Int)-1).toNat=((k-1:Nat):Int).toNat by omega]
 exact shrN (by
  have:IntKind.u64.bits=64:=rfl
  omega)
theorem yrV{n:Nat}(hn:n<18446744073709551616):bits .and .u64 (n:Int) 1=((n%2:Nat):Int):=
 maskN (k:=.u64) rfl 1 (by
  have:(2:Nat)^IntKind.u64.bits=18446744073709551616:=by decide
  omega) (by decide)
theorem ygP(m:Int):2<modN m:=by rcases zkK m with h|h<;>rw[h]<;>decide
theorem rem8(n:Nat):(n:Int).tmod 8=((n%8:Nat):Int):=(fX n 8).symm
theorem yzS(j:Nat)(l:Bs):[0]++(aO j 0++l)=aO (j+1) 0++l:=by rw[List.replicate_succ];rfl
theorem yyB{s:Bs}{n p:Nat}(hn:8*n+8<=s.length):(bval (s.take (8*n))%p*2^64+bval ((s.drop (8*n)).take 8))%p=bval (s.take (8*(n+1)))%p:=by
 have h:s.take (8*(n+1))=s.take (8*n)++(s.drop (8*n)).take 8:=by rw[dC,List.take_add]
 have hl:((s.drop (8*n)).take 8).length=8:=by simp;omega
 rw[h,zrZ,hl,eS,cS,gP,<-cS,<-eS]
theorem red_t{s:Bs}{n q:Nat}(hs:s.length=8*q)(h:(s.drop (8*n) != [])=true):8*n+8<=s.length:=by
 have h1:s.drop (8*n)≠[]:=by simpa using h
 have h2:0<(s.drop (8*n)).length:=jB.2 h1;rw[bO]at h2;omega
theorem red_f{s:Bs}{n:Nat}(h:(s.drop (8*n) != [])=false):s.take (8*n)=s:=by
 have h1:s.drop (8*n)=[]:=by simpa using h
 rw[List.drop_eq_nil_iff]at h1;exact List.take_of_length_le h1
theorem yxE{l:Bs}(h:l.length<=8):bval l<18446744073709551616:=zqN (n:=8) h
def be(n A:Nat):Bs:=(bR n).map fun i=>UInt8.ofNat (A/2^(8*(n-1-i)))
theorem zgP(n A:Nat):(be n A).length=n:=by simp[be]
theorem zrR(n:Nat):(UInt8.ofNat n).toNat=n%256:=by simp[UInt8.toNat_ofNat']
theorem be_8(A:Nat):be 8 A=[UInt8.ofNat (A/2^56),UInt8.ofNat (A/2^48),UInt8.ofNat (A/2^40),UInt8.ofNat (A/2^32),UInt8.ofNat (A/2^24),UInt8.ofNat (A/2^16),UInt8.ofNat (A/2^8),UInt8.ofNat (A/2^0)]:=rfl
theorem zmA(A i r:Nat)(hr:r<8):UInt8.ofNat (A/2^(64*i)%2^64/2^(8*r))=UInt8.ofNat (A/2^(64*i+8*r)):=by
 apply UInt8.toNat_inj.1;rw[zrR,zrR,eQ,<-eD];generalize A/2^(64*i)=B;have e1:(2:Nat)^64=2^(8*r)*2^(64-8*r):=by rw[<-eQ];congr 1;omega
 rw[e1,iJ,show(2:Nat)^(64-8*r)=256*2^(56-8*r) by
  rw[show(256:Nat)=2^8 from rfl,<-eQ];congr 1;omega,iX]
theorem be_32(A:Nat):be 32 A=be 8 (lm A 3).toNat++be 8 (lm A 2).toNat++be 8 (lm A 1).toNat++be 8 (lm A 0).toNat:=by
 have e:∀i,(lm A i).toNat=A/2^(64*i)%2^64:=fun i=>by unfold lm;omega
 rw[e,e,e,e];have f:∀i,be 8 (A/2^(64*i)%2^64)=[UInt8.ofNat (A/2^(64*i+8*7)),UInt8.ofNat (A/2^(64*i+8*6)),UInt8.ofNat (A/2^(64*i+8*5)),UInt8.ofNat (A/2^(64*i+8*4)),UInt8.ofNat (A/2^(64*i+8*3)),UInt8.ofNat (A/2^(64*i+8*2)),UInt8.ofNat (A/2^(64*i+8*1)),UInt8.ofNat (A/2^(64*i+8*0))]:=fun i=>by rw[<-zmA A i 7 (by decide),<-zmA A i 6 (by decide),<-zmA A i 5 (by decide),<-zmA A i 4 (by decide),<-zmA A i 3 (by decide),<-zmA A i 2 (by decide),<-zmA A i 1 (by decide),<-zmA A i 0 (by decide)];rfl
 rw[f,f,f,f];rfl
theorem xeT(n A:Nat):be (n+1) A=be n (A/256)++[UInt8.ofNat A]:=by
 unfold be;rw[List.range_succ,List.map_append,List.map_singleton];congr 1
 ·apply List.map_congr_left;intro i hi;rw[List.mem_range]at hi;rw[show n+1-1-i=1+(n-1-i) by omega,dC,eQ,<-eD]
 ·simp
theorem ywB:∀(n A:Nat),A<256^n->bval (be n A)=A
 |0,A,h=>by
  obtain rfl:A=0:=by omega
  rfl
 |n+1,A,h=>by rw[xeT,zmU,ywB n (A/256) (by rw[cK]at h;omega),zrR];omega
theorem HP.skip{w0 w:World}{x y:Ent}{L:List Ent}(h:HP w0 w (x::y::L)):HP w0 w (x::L):=by
 refine⟨h.below,fun k b cs T hk=>?_,fun i j b cs T cs' T' hi hj=>?_⟩
 ·cases k with
  |zero=>exact h.blk 0 b cs T hk|succ k=>exact h.blk (k+2) b cs T hk
 ·cases i with
  |zero=>cases j with
   |zero=>rfl|succ j=>have:=h.inj 0 (j+2) b cs T cs' T' hi hj;omega
  |succ i=>cases j with
   |zero=>have:=h.inj (i+2) 0 b cs T cs' T' hi hj;omega|succ j=>have:=h.inj (i+2) (j+2) b cs T cs' T' hi hj;omega
theorem bshr{x:Int}(hx:U x)(n:Nat)(hn:n<=64):x.fdiv (2^(min ((n:Int).toNat) IntKind.u64.bits))=((x.toNat/2^n:Nat):Int):=by
 have h:x=(x.toNat:Int):=by have:=hx.1;omega
 conv=>lhs;rw[h]
 exact shrN hn
theorem big_fin(X:Bs)(N:Nat):X++be 8 N=X++[UInt8.ofNat (N/2^56)]++[UInt8.ofNat (N/2^48)]++[UInt8.ofNat (N/2^40)]++[UInt8.ofNat (N/2^32)]++[UInt8.ofNat (N/2^24)]++[UInt8.ofNat (N/2^16)]++[UInt8.ofNat (N/2^8)]++[UInt8.ofNat (N/2^0)]:=by rw[be_8];simp
theorem yyS(N:Nat):be 8 N=[UInt8.ofNat (N/2^56)]++[UInt8.ofNat (N/2^48)]++[UInt8.ofNat (N/2^40)]++[UInt8.ofNat (N/2^32)]++[UInt8.ofNat (N/2^24)]++[UInt8.ofNat (N/2^16)]++[UInt8.ofNat (N/2^8)]++[UInt8.ofNat (N/2^0)]:=by rw[be_8];simp
theorem yoL{A E:Nat}(m:Int)(hE:E<zaC):A^(E/2^256)%modN m=1:=by rw[fG (show E<2^256 from hE),eP,aP (zoB m)]
theorem yvV{k:Nat}(hk:0<k)(h:k<=256):IntKind.i64.wrap (((k:Int)-1).tdiv 64)=(((k-1)/64:Nat):Int):=quoI hk (by decide) (by omega)
theorem ysI{k:Nat}(hk:0<k):((k:Int)-1).tmod 64=(((k-1)%64:Nat):Int):=remI hk
theorem ypZ(E i r:Nat)(hr:r<64):(lm E i).fdiv (2^(min ((r:Int).toNat) IntKind.u64.bits))=((E/2^(64*i)%2^64/2^r:Nat):Int):=by
 unfold lm
 exact shrN (by
  have:IntKind.u64.bits=64:=rfl
  omega)
theorem pow_bit(E i:Nat):E/2^(64*(i/64))%2^64/2^(i%64)%2=E/2^i%2:=by
 have e:(2:Nat)^i=2^(64*(i/64))*2^(i%64):=by rw[<-eQ];congr 1;omega
 rw[e,<-eD];generalize E/2^(64*(i/64))=X;have h:i%64<64:=aZ _ (by decide);generalize i%64=r at h;have e3:(2:Nat)^64=2^r*2^(64-r):=by rw[<-eQ];congr 1;omega
 rw[e3,iJ,show(2:Nat)^(64-r)=2*2^(63-r) by rw[<-Nat.pow_succ'];congr 1;omega,iX]
theorem yrL(E i:Nat):bits .and .u64 ((E/2^(64*(i/64))%2^64/2^(i%64):Nat):Int) 1=((E/2^i%2:Nat):Int):=by rw[yrV (cG (eW _ _) (aZ _ (by decide))),pow_bit]
def invV(m:Int)(A:Nat):Nat:=if A%modN m=0 then 0 else A^(modN m-2)%modN m
def invE(m:Int)(A:Nat):Int:=if A%modN m=0 then 61 else 0
theorem zlW(m:Int)(A:Nat):invV m A<zaC:=by
 unfold invV;split
 ·exact zbY
 ·exact bQ (aZ _ (zaV m).pos) (zaV m).lt
theorem low_sub(m:Int):lay (numL (modN m)) 0 [.int .u64 (IntKind.u64.wrap (lm (modN m) 0-2))]=numL (modN m-2):=by
 rcases zkK m with h|h<;>rw[h]
 ·rw[show numL PP=([.int .u64 18446744073709551615,.int .u64 4294967295,.int .u64 0,.int .u64 18446744069414584321]:LV)from xcC.symm,show lm PP 0=18446744073709551615 from rfl];exact(ziD (a:=18446744073709551613) (b:=4294967295) (c:=0) (d:=18446744069414584321) (PP-2) (by decide) (by decide) (by decide) (by decide) (by decide))
 ·rw[show numL NN=([.int .u64 17562291160714782033,.int .u64 13611842547513532036,.int .u64 18446744073709551615,.int .u64 18446744069414584320]:LV)from xaZ.symm,show lm NN 0=17562291160714782033 from rfl];exact(ziD (a:=17562291160714782031) (b:=13611842547513532036) (c:=18446744073709551615) (d:=18446744069414584320) (NN-2) (by decide) (by decide) (by decide) (by decide) (by decide))
theorem low_lt(m:Int):modN m-2<zaC:=cG (Nat.sub_le _ _) (zaV m).lt
theorem beqN{a b:Nat}(h:(a==b)=true):a=b:=by simpa using h
theorem bneN{a b:Nat}(h:(a==b)=false):a≠b:=by simpa using h
def Pr(p:Nat):Prop:=2<=p/\∀d,d ∣ p->d=1∨d=p
theorem Pr.cop{p a:Nat}(h:Pr p)(ha:¬p ∣ a):iY p a:=by
 rcases h.2 _ (Nat.gcd_dvd_left p a)with h1|h1
 ·exact h1
 ·exact absurd (h1▸Nat.gcd_dvd_right p a) ha
theorem Pr.mul{p a b:Nat}(h:Pr p)(hab:p ∣ a*b):p ∣ a∨p ∣ b:=by
 by_cases ha:p ∣ a
 ·exact .inl ha
 ·exact .inr ((h.cop ha).dvd_of_dvd_mul_left hab)
def chs:Nat->Nat->Nat
 |_,0=>1|0,_+1=>0|n+1,k+1=>chs n k+chs n (k+1)
theorem yzI(n:Nat):chs n 0=1:=by cases n<;>rfl
theorem zzT:∀{n k:Nat},n<k->chs n k=0
 |_,0,h=>absurd h (Nat.not_lt_zero _)|0,_+1,_=>rfl|n+1,k+1,h=>by rw[chs,zzT (by omega),zzT (by omega)]
theorem yiZ:∀n:Nat,chs n n=1
 |0=>rfl|n+1=>by rw[chs,yiZ n,zzT (by omega)]
theorem ybM:∀n k:Nat,(k+1)*chs (n+1) (k+1)=(n+1)*chs n k
 |0,0=>rfl|0,k+1=>by rw[zzT (by omega),zzT (by omega)];simp
 |n+1,0=>by have h:=ybM n 0;have e:chs (n+1+1) (0+1)=chs (n+1) 0+chs (n+1) (0+1):=rfl;rw[yzI]at h;rw[e,yzI];omega
 |n+1,k+1=>by
  have h1:=ybM n k;have h2:=ybM n (k+1)
  rw[show chs (n+1+1) (k+1+1)=chs (n+1) (k+1)+chs (n+1) (k+1+1)from rfl,dC,h2,show(k+1+1)*chs (n+1) (k+1)=(k+1)*chs (n+1) (k+1)+chs (n+1) (k+1) by rw[Nat.succ_mul],h1,
   show chs (n+1) (k+1)=chs n k+chs n (k+1)from rfl]
  rw[show n+1+1=(n+1)+1 from rfl,Nat.succ_mul (n+1),dC];omega
def sm(f:Nat->Nat):Nat->Nat
 |0=>0|n+1=>sm f n+f n
theorem ylD{f g:Nat->Nat}:∀{n:Nat},(∀i,i<n->f i=g i)->sm f n=sm g n
 |0,_=>rfl|n+1,h=>by rw[sm,sm,ylD fun i hi=>h i (by omega),h n (by omega)]
theorem xcW(f g:Nat->Nat):∀n:Nat,sm (fun i=>f i+g i) n=sm f n+sm g n
 |0=>rfl|n+1=>by rw[sm,sm,sm,xcW f g n];omega
theorem xaS(f:Nat->Nat)(c:Nat):∀n:Nat,sm (fun i=>c*f i) n=c*sm f n
 |0=>rfl|n+1=>by rw[sm,sm,xaS f c n,dC]
theorem yaO(f:Nat->Nat):∀n:Nat,sm f (n+1)=f 0+sm (fun i=>f (i+1)) n
 |0=>by simp[sm]
 |n+1=>by rw[sm,yaO f n,sm];omega
theorem binom(a:Nat):∀n:Nat,(a+1)^n=sm (fun k=>chs n k*a^k) (n+1)
 |0=>by simp[sm,chs]
 |n+1=>by
  have h1:=yaO (fun k=>chs (n+1) k*a^k) (n+1);have h2:sm (fun i=>chs (n+1) (i+1)*a^(i+1)) (n+1)=sm (fun i=>a*(chs n i*a^i)+chs n (i+1)*a^(i+1)) (n+1):=ylD fun i _=>by show(chs n i+chs n (i+1))*a^(i+1)=_;rw[bD,cK,cA (a^i) a,iN]
  rw[xcW,xaS]at h2;have h3:=yaO (fun k=>chs n k*a^k) (n+1);have h4:sm (fun k=>chs n k*a^k) (n+1+1)=sm (fun k=>chs n k*a^k) (n+1)+0:=by rw[sm,zzT (by omega:n<n+1),eI]
  simp only[yzI,eP]at h1 h3;rw[cK,binom a n,h1,h2,dC,bY,cA];omega
theorem xdG{p:Nat}{f:Nat->Nat}:∀{n:Nat},(∀i,i<n->p ∣ f i)->p ∣ sm f n
 |0,_=>⟨0,rfl⟩|n+1,h=>Nat.dvd_add (xdG fun i hi=>h i (by omega)) (h n (by omega))
theorem Pr.chs{p k:Nat}(h:Pr p)(hk:k+1<p):p ∣ chs p (k+1):=by
 obtain⟨q,rfl⟩:∃q,p=q+1:=⟨p-1,by have:=h.1;omega⟩;have h1:=ybM q k;have h2:q+1 ∣ (k+1)*Go.Proofs.YtmbcolbbekbccaaGreat.chs (q+1) (k+1):=⟨_,h1⟩;rcases h.mul h2 with h3|h3
 ·exact absurd (gC (by omega) h3) (by omega)
 ·exact h3
theorem Pr.dream{p:Nat}(h:Pr p)(a:Nat):(a+1)^p%p=(a^p+1)%p:=by obtain⟨q,rfl⟩:∃q,p=q+1:=⟨p-1,by have:=h.1;omega⟩;rw[binom,sm,yaO,yzI,yiZ];obtain⟨c,hc⟩:=xdG (p:=q+1) (f:=fun i=>Go.Proofs.YtmbcolbbekbccaaGreat.chs (q+1) (i+1)*a^(i+1)) (n:=q) (fun i hi=>gQ (h.chs (by omega)) ⟨_,rfl⟩);rw[hc,show 1*a^0+(q+1)*c+1*a^(q+1)=(a^(q+1)+1)+(q+1)*c by simp;omega,dB]
theorem Pr.fermat{p:Nat}(h:Pr p):∀a:Nat,a^p%p=a%p
 |0=>by rw[jG (by have:=h.1;omega)]
 |a+1=>by rw[h.dream,eS,h.fermat a,<-eS]
theorem zqY{p a b:Nat}(h:a%p=b%p):p ∣ a-b:=by
 by_cases hab:b<=a
 ·exact(Nat.dvd_iff_mod_eq_zero).2 (Nat.sub_mod_eq_zero_of_mod_eq h)
 ·rw[Nat.sub_eq_zero_of_le (by omega)];exact⟨0,rfl⟩
theorem Pr.fermat1{p a:Nat}(h:Pr p)(ha:¬p ∣ a):a^(p-1)%p=1:=by
 have h1:=h.fermat a;have hp:=h.1;have h2:a^p=a*a^(p-1):=by rw[<-Nat.pow_succ'];congr 1;omega
 have h3:p ∣ a*(a^(p-1)-1):=by rw[Nat.mul_sub,bY,<-h2];exact zqY h1
 have h4:=(h.mul h3).resolve_left ha;have h5:0<a:=cN fun h0=>ha (h0▸⟨0,rfl⟩);have h6:0<a^(p-1):=jJ h5;obtain⟨c,hc⟩:=h4;have h7:a^(p-1)=1+p*c:=by omega
 rw[h7,dB,aP (by omega)]
theorem pow_gcd{a d x y:Nat}(hx:a^x%d=1%d)(hy:a^y%d=1%d):a^(iO x y)%d=1%d:=by
 induction x,y using Nat.gcd.induction with
 |H0 n=>rw[Nat.gcd_zero_left];exact hy|H1 m n hm ih=>
  rw[Nat.gcd_rec];refine ih ?_ hx;have h1:a^n=(a^m)^(n/m)*a^(n%m):=by rw[<-gH,<-eQ,dQ]
  rw[h1,cS,gI,hx,<-gI,Nat.one_pow,<-cS,cR]at hy;exact hy
theorem zvE:∀(n:Nat),2<=n->∃p,Pr p/\p ∣ n:=by
 intro n;induction n using eN with
 |_ n ih=>
  intro h2;by_cases h:Pr n
  ·exact⟨n,h,Nat.dvd_refl _⟩
  ·have:∃d,d ∣ n/\d≠1/\d≠n:=by
    refine Classical.byContradiction fun hn=>h ⟨h2,fun d hd=>?_⟩;by_cases h1:d=1
    ·exact .inl h1
    ·exact .inr (Classical.byContradiction fun h3=>hn ⟨d,hd,h1,h3⟩)
   obtain⟨d,hd,h1,h3⟩:=this;have hle:=gC (by omega) hd;have h0:d≠0:=fun h0=>by subst h0;have:=Nat.eq_zero_of_zero_dvd hd;omega
   obtain⟨p,hp,hpd⟩:=ih d (by omega) (by omega);exact⟨p,hp,gQ hpd hd⟩
theorem ykV{n:Nat}(h2:2<=n)(h:∀d,Pr d->d ∣ n->n<d*d):Pr n:=by
 refine⟨h2,fun d hd=>?_⟩;by_cases h1:d=1
 ·exact .inl h1
 by_cases h3:d=n
 ·exact .inr h3
 exfalso;obtain⟨e,he⟩:=hd;have hd0:d≠0:=fun h0=>by subst h0;simp at he;omega
 have he0:e≠0:=fun h0=>by subst h0;simp at he;omega
 have he1:e≠1:=fun h0=>by subst h0;simp at he;omega
 obtain⟨p,hp,hpd⟩:=zvE d (by omega);obtain⟨q,hq,hqe⟩:=zvE e (by omega);have hp2:=h p hp (gQ hpd ⟨e,he⟩);have hq2:=h q hq (gQ hqe ⟨d,by rw[he,cA]⟩);have hp3:=gC (by omega) hpd;have hq3:=gC (by omega) hqe;have h4:n<d*d:=bE hp2 (dE hp3 hp3);have h5:n<e*e:=bE hq2 (dE hq3 hq3);rw[he]at h4 h5;have h6:=Nat.lt_of_mul_lt_mul_left h4;have h7:=Nat.lt_of_mul_lt_mul_right h5;omega
def pm(a n:Nat):Nat->Nat->Nat
 |0,_=>1%n|f+1,e=>if e=0 then 1%n else if e%2=1 then(pm a n f (e/2))^2*a%n else(pm a n f (e/2))^2%n
theorem xfC(a n:Nat):∀(f e:Nat),e<2^f->pm a n f e=a^e%n
 |0,e,h=>by
  obtain rfl:e=0:=by omega
  rfl
 |f+1,e,h=>by
  rw[pm];split
  ·next h0=>subst h0;rfl
  ·have hd:e/2<2^f:=by rw[cK]at h;omega
   rw[xfC a n f _ hd];have hm:=dQ e 2;split
   ·next h1=>
    have e1:e/2*2+1=e:=by omega
    rw[<-iS,<-gI,iS,<-gH,<-cK];show a^(e/2*2+1)%n=_;rw[e1]
   ·next h1=>
    have e1:e/2*2=e:=by omega
    rw[<-gI,<-gH,e1]
def pl:List Nat->Nat
 |[]=>1|q::l=>q*pl l
theorem pock{n:Nat}(a:Nat)(l:List Nat)(R f:Nat)(h2:2<=n)(hl:∀q∈l,Pr q)(hF:pl l*R+1=n)(hs:n<pl l*pl l)(hf:n<2^f)(h1:pm a n f (n-1)=1) (hg:l.all (fun q=>iO (pm a n f ((n-1)/q)+n-1) n==1)=true):Pr n:=by
 refine ykV h2 fun d hd hdn=>?_;have hd2:=hd.1;have hdv:∀x,x%n%d=x%d:=fun x=>Nat.mod_mod_of_dvd x hdn;rw[xfC _ _ _ _ (by omega)]at h1;have hy:a^(n-1)%d=1%d:=by rw[<-hdv,h1]
 have had:¬d ∣ a:=fun h=>by
  have h3:a^(n-1)%d=0:=by rw[gI,eE h,jG (by omega),gK]
  rw[hy,aP (by omega)]at h3;exact absurd h3 (by decide)
 have hx:a^(d-1)%d=1%d:=by rw[hd.fermat1 had,aP (by omega)]
 have hG:=pow_gcd hx hy;obtain⟨h,hh⟩:=Nat.gcd_dvd_right (d-1) (n-1);have key:∀q∈l,¬q ∣ h:=by
  intro q hq hqh;obtain⟨c,hc⟩:=hqh;have hq0:0<q:=by have:=(hl q hq).1;omega
  have h3:(n-1)/q=iO (d-1) (n-1)*c:=by rw[hh,hc,show iO (d-1) (iO (d-1) (n-1)*(q*c))=iO (d-1) (n-1) by rw[<-hc,<-hh],iN,Nat.mul_div_cancel_left _ hq0]
  have h4:a^((n-1)/q)%d=1%d:=by rw[h3,gH,gI,hG,<-gI,Nat.one_pow]
  have h5:=List.all_eq_true.1 hg q hq;rw[xfC _ _ _ _ (by have:=eW (n-1) q;omega)]at h5;have h6:d ∣ a^((n-1)/q)%n+n-1:=by
   have h7:(a^((n-1)/q)%n)%d=1%d:=by rw[hdv,h4]
   rw[aP (show 1<d by omega)]at h7;have h8:1<=a^((n-1)/q)%n:=by
    rcases Nat.eq_zero_or_pos (a^((n-1)/q)%n)with h0|h0
    ·rw[h0,gK]at h7;exact absurd h7 (by decide)
    ·exact h0
   have h9:d ∣ a^((n-1)/q)%n-1:=zqY (by rw[h7,aP (by omega)]);have:=Nat.dvd_add h9 hdn
   rwa[show a^((n-1)/q)%n-1+n=a^((n-1)/q)%n+n-1 by omega]at this
  have h10:=Nat.dvd_gcd h6 hdn;rw[beq_iff_eq.1 h5]at h10;have:=gC (by decide) h10;omega
 have hcop:∀l:List Nat,(∀q∈l,Pr q)->(∀q∈l,¬q ∣ h)->iY (pl l) h:=by
  intro l;induction l with
  |nil=>intro _ _;exact Nat.coprime_one_left _|cons q l ih=>intro hp hk;exact Nat.Coprime.mul_left ((hp q (by simp)).cop (hk q (by simp))) (ih (fun q hq=>hp q (by simp[hq])) (fun q hq=>hk q (by simp[hq])))
 have hFg:pl l ∣ iO (d-1) (n-1):=by refine(hcop l hl key).dvd_of_dvd_mul_right (m:=iO (d-1) (n-1)) ?_;rw[<-hh];exact⟨R,by omega⟩
 have hFd:pl l ∣ d-1:=gQ hFg (Nat.gcd_dvd_left _ _);have hle:=gC (by omega) hFd;exact bE hs (dE (by omega) (by omega))
def ymI(n:Nat):Nat->Nat->Bool
 |0,_=>false|f+1,d=>if n<d*d then true else if n%d=0 then false else ymI n f (d+1)
theorem yjK{n:Nat}:∀(f d:Nat),ymI n f d=true->(∀e,2<=e->e<d->¬e ∣ n)->∀e,2<=e->e ∣ n->n<e*e
 |0,d,h,_=>by simp[ymI]at h
 |f+1,d,h,hd=>by
  rw[ymI]at h;split at h
  ·next h1=>
   intro e he hen;rcases fY e d with h2|h2
   ·exact absurd hen (hd e he h2)
   ·exact bE h1 (dE h2 h2)
  ·split at h
   ·cases h
   ·next h1 h2=>
    refine yjK f (d+1) h fun e he hlt hen=>?_;rcases fY e d with h3|h3
    ·exact hd e he h3 hen
    ·obtain rfl:e=d:=by omega
     exact h2 (eE hen)
theorem znS{n:Nat}(f:Nat)(h2:2<=n)(h:ymI n f 2=true):Pr n:=
 ykV h2 fun d hd hdn=>yjK f 2 h (fun e h1 h2=>absurd h1 (by omega)) d hd.1 hdn
theorem pr_197:Pr 197:=znS 19 (by decide) (by kernel_rfl)
theorem pr_3677:Pr 3677:=znS 65 (by decide) (by kernel_rfl)
theorem zzG:Pr 66417393611:=by
 refine pock 2 [3677,197] 91690 256 (by decide) ?_ (by kernel_rfl) (by decide) (by decide) (by kernel_rfl) (by kernel_rfl);intro q hq;simp only[aT,cT,or_false]at hq;rcases hq with rfl|rfl
 ·exact pr_3677
 ·exact pr_197
theorem ztR:Pr 11290956913871:=by
 refine pock 2 [66417393611] 170 256 (by decide) ?_ (by kernel_rfl) (by decide) (by decide) (by kernel_rfl) (by kernel_rfl);intro q hq;simp only[aT,cT,or_false]at hq;rcases hq with rfl
 ·exact zzG
theorem ypD:Pr 704251:=znS 844 (by decide) (by kernel_rfl)
theorem ywI:Pr 78283:=znS 284 (by decide) (by kernel_rfl)
theorem zqT:Pr 46076956964474543:=by
 refine pock 2 [704251,78283] 835774 256 (by decide) ?_ (by kernel_rfl) (by decide) (by decide) (by kernel_rfl) (by kernel_rfl);intro q hq;simp only[aT,cT,or_false]at hq;rcases hq with rfl|rfl
 ·exact ypD
 ·exact ywI
theorem zeK:Pr 774023187263532362759620327192479577272145303:=by
 refine pock 2 [46076956964474543,11290956913871] 1487782449629334 256 (by decide) ?_ (by kernel_rfl) (by decide) (by decide) (by kernel_rfl) (by kernel_rfl);intro q hq;simp only[aT,cT,or_false]at hq;rcases hq with rfl|rfl
 ·exact zqT
 ·exact ztR
theorem zdZ:Pr 835945042244614951780389953367877943453916927241:=by
 refine pock 2 [774023187263532362759620327192479577272145303] 1080 256 (by decide) ?_ (by kernel_rfl) (by decide) (by decide) (by kernel_rfl) (by kernel_rfl);intro q hq;simp only[aT,cT,or_false]at hq;rcases hq with rfl
 ·exact zeK
theorem zbT:Pr 115792089210356248762697446949407573530086143415290314195533631308867097853951:=by
 refine pock 2 [835945042244614951780389953367877943453916927241] 138516389665330497628477975950 256 (by decide) ?_ (by kernel_rfl) (by decide) (by decide) (by kernel_rfl) (by kernel_rfl);intro q hq;simp only[aT,cT,or_false]at hq;rcases hq with rfl
 ·exact zdZ
theorem ysR:Pr 104471:=znS 328 (by decide) (by kernel_rfl)
theorem ymR:Pr 3969899:=by
 refine pock 2 [104471] 38 256 (by decide) ?_ (by kernel_rfl) (by decide) (by decide) (by kernel_rfl) (by kernel_rfl);intro q hq;simp only[aT,cT,or_false]at hq;rcases hq with rfl
 ·exact ysR
theorem zvL:Pr 1002328039319:=by
 refine pock 2 [3969899] 252482 256 (by decide) ?_ (by kernel_rfl) (by decide) (by decide) (by kernel_rfl) (by kernel_rfl);intro q hq;simp only[aT,cT,or_false]at hq;rcases hq with rfl
 ·exact ymR
theorem pr_3023:Pr 3023:=znS 59 (by decide) (by kernel_rfl)
theorem ytT:Pr 155317:=znS 399 (by decide) (by kernel_rfl)
theorem yfD:Pr 191039911:=by
 refine pock 2 [155317] 1230 256 (by decide) ?_ (by kernel_rfl) (by decide) (by decide) (by kernel_rfl) (by kernel_rfl);intro q hq;simp only[aT,cT,or_false]at hq;rcases hq with rfl
 ·exact ytT
theorem zpI:Pr 208150935158385979:=by
 refine pock 2 [191039911,3023] 360426 256 (by decide) ?_ (by kernel_rfl) (by decide) (by decide) (by kernel_rfl) (by kernel_rfl);intro q hq;simp only[aT,cT,or_false]at hq;rcases hq with rfl|rfl
 ·exact yfD
 ·exact pr_3023
theorem zjB:Pr 2624747550333869278416773953:=by
 refine pock 2 [208150935158385979] 12609828288 256 (by decide) ?_ (by kernel_rfl) (by decide) (by decide) (by kernel_rfl) (by kernel_rfl);intro q hq;simp only[aT,cT,or_false]at hq;rcases hq with rfl
 ·exact zpI
theorem zbU:Pr 115792089210356248762697446949407573529996955224135760342422259061068512044369:=by
 refine pock 2 [2624747550333869278416773953,1002328039319] 44013050614219118277426053354358264624 256 (by decide) ?_ (by kernel_rfl) (by decide) (by decide) (by kernel_rfl) (by kernel_rfl);intro q hq;simp only[aT,cT,or_false]at hq;rcases hq with rfl|rfl
 ·exact zjB
 ·exact zvL
theorem ymA:Pr PP:=zbT
theorem pr_NN:Pr NN:=zbU
theorem ycU(m:Int):Pr (modN m):=by
 rcases zkK m with h|h<;>rw[h]
 ·exact ymA
 ·exact pr_NN
theorem cancel2{p X Y:Nat}(hp:p%2=1)(h:2*X%p=2*Y%p):X%p=Y%p:=by
 have e:∀Z,Z%p=(p+1)/2*(2*Z%p)%p:=fun Z=>by rw[cS,gP,<-cS,<-dD,show(p+1)/2*2=p+1 by omega,bD,cR,Nat.add_comm,dB]
 rw[e X,e Y,h]
theorem cancelA{p X Y v:Nat}(hp:0<p)(h:(X+v)%p=(Y+v)%p):X%p=Y%p:=by
 have hv:=aZ v hp
 have e:∀Z,Z%p=((Z+v)%p+(p-v%p))%p:=fun Z=>by
  rw[gV];have h1:=dQ v p;have:Z+v+(p-v%p)=Z+p*(v/p+1):=by rw[dC,bY];omega
  rw[this,dB]
 rw[e X,e Y,h]
def hav(p x:Nat):Nat:=(if x%2=1 then x+p else x)/2
theorem hav_lt{p x:Nat}(h:x<p):hav p x<p:=by unfold hav;split<;>omega
theorem xeI{p x a u:Nat}(hp:p%2=1)(hu:u%2=0)(h:x*a%p=u%p):hav p x*a%p=u/2%p:=by
 refine cancel2 hp ?_;rw[show 2*(u/2)=u by omega,<-h,<-dD];unfold hav;split
 ·rw[show 2*((x+p)/2)=x+p by omega,bD,dB]
 ·rw[show 2*(x/2)=x by omega]
def lev(p x y:Nat):Nat:=(if x<y then x+p else x)-y
theorem lev_lt{p x y:Nat}(h:x<p):lev p x y<p:=by unfold lev;split<;>omega
theorem lev_mod{p x y a u v:Nat}(hp:0<p)(hy:y<p)(hvu:v<=u)(hx:x*a%p=u%p)(hv:y*a%p=v%p):lev p x y*a%p=(u-v)%p:=by
 refine cancelA (v:=v) hp ?_;rw[show u-v+v=u by omega,<-hx,eS,<-hv,<-eS,<-bD];unfold lev;split
 ·rw[show x+p-y+y=x+p by omega,bD,dB]
 ·rw[show x-y+y=x by omega]
structure InvI (m:Int) (A u v x y:Nat):Prop where
 u0:0<u
 v0:0<v
 cop:iY u v
 ul:u<=modN m
 vl:v<=modN m
 xl:x<modN m
 yl:y<modN m
 xa:x*A%modN m=u%modN m
 ya:y*A%modN m=v%modN m
theorem ywR(m:Int):modN m%2=1:=by rcases zkK m with h|h<;>rw[h]<;>decide
theorem zgU(m:Int):0<modN m:=(zaV m).pos
theorem InvI.swap{m:Int}{A u v x y:Nat}(h:InvI m A u v x y):InvI m A v u y x:=⟨h.v0,h.u0,h.cop.symm,h.vl,h.ul,h.yl,h.xl,h.ya,h.xa⟩
theorem InvI.half{m:Int}{A u v x y:Nat}(h:InvI m A u v x y)(hu:u%2≠1):InvI m A (u/2) v (hav (modN m) x) y:=by
 have h0:=h.u0;have hl:=h.ul;have he:u%2=0:=by omega
 exact⟨by omega,h.v0,Nat.Coprime.coprime_dvd_left ⟨2,by omega⟩ h.cop,by omega,h.vl,hav_lt h.xl,h.yl,xeI (ywR m) he h.xa,h.ya⟩
theorem InvI.ne{m:Int}{A u v x y:Nat}(h:InvI m A u v x y)(hu:u≠1∨v≠1):u≠v:=fun e=>by have h1:=h.cop;rw[e,Nat.coprime_self]at h1;omega
theorem InvI.sub{m:Int}{A u v x y:Nat}(h:InvI m A u v x y)(hvu:v<u):InvI m A (u-v) v (lev (modN m) x y) y:=by have hl:=h.ul;have hv:=h.v0;refine⟨by omega,h.v0,?_,by omega,h.vl,lev_lt h.xl,h.yl,lev_mod (zgU m) h.yl (cW hvu) h.xa h.ya,h.ya⟩;have:=h.cop;unfold iY at *;rw[<-this,Nat.gcd_sub_self_left (cW hvu)]
theorem InvI.len{m:Int}{A u v x y:Nat}(h:InvI m A u v x y):(digs u).length<=16/\(digs v).length<=16/\(digs x).length<=16/\(digs y).length<=16:=by have e:=yzC m;exact⟨e▸ztK h.ul,e▸ztK h.vl,e▸ztK (cW h.xl),e▸ztK (cW h.yl)⟩
theorem ymB{p A x y:Nat}(_hp:Pr p)(hx:x<p)(hy:y<p)(h1:x*A%p=1)(h2:y*A%p=1):x=y:=by
 have e:∀z t:Nat,z<p->t*A%p=1->z=z*(t*A)%p:=fun z t hz h=>by rw[cS,h,bY,gP,aP hz]
 rw[e x y hx h2]
 conv=>rhs;rw[e y x hy h1]
 rw[iN]
theorem yhD{p A:Nat}(hp:Pr p)(hA:A%p≠0):A^(p-2)%p*A%p=1:=by have h2:=hp.1;rw[iS,<-cK,show(p-2).succ=p-1 by omega];exact hp.fermat1 fun hd=>hA (eE hd)
theorem InvI.fin{m:Int}{A u v x y:Nat}(h:InvI m A u v x y)(hA:A%modN m≠0)(hu:u=1):x=A^(modN m-2)%modN m:=by subst hu;refine ymB (ycU m) h.xl (aZ _ (zgU m)) ?_ (yhD (ycU m) hA);rw[h.xa,aP (zoB m)]
theorem eqT{a b:Nat}(h:a=b):(a==b)=true:=by simp[h]
theorem inv_f{m:Int}{A:Nat}(h:A%modN m≠0):invV m A=A^(modN m-2)%modN m/\invE m A=0:=by simp[invV,invE,h]
theorem ybA{m:Int}{A:Nat}(h:A%modN m≠0):A*invV m A%modN m=1:=by rw[(inv_f h).1,cA];exact yhD (ycU m) h
theorem zyN{a b:Int}(ha:U a)(hb:U b):bits .or .u64 a b=((a.toNat|||b.toNat:Nat):Int):=by
 obtain⟨A,rfl⟩:=cH ha.1;obtain⟨B,rfl⟩:=cH hb.1;have hA:A<2^64:=by have:=ha.2;omega
 have hB:B<2^64:=by have:=hb.2;omega
 have h:(BitVec.ofInt 64 (A:Int)|||BitVec.ofInt 64 (B:Int)).toNat=A|||B:=by simp[BitVec.toNat_or];rw[aP (by omega),aP (by omega)]
 have h2:=fS hA hB;simp only[bits,cU];show IntKind.u64.wrap ((BitVec.ofInt 64 (A:Int)|||BitVec.ofInt 64 (B:Int)).toNat:Int)=_;rw[h];exact wru rfl (by omega) (by show _<(2:Int)^64;omega)
theorem U_or{a b:Int}(ha:U a)(hb:U b):U (bits .or .u64 a b):=by rw[zyN ha hb];have:=fS (n:=64) (show a.toNat<2^64 by have:=ha.2;have:=ha.1;omega) (show b.toNat<2^64 by have:=hb.2;have:=hb.1;omega);unfold U;omega
theorem yhP{a b:Int}(ha:U a)(hb:U b):bits .or .u64 a b=0↔a=0/\b=0:=by rw[zyN ha hb];have h0:(a.toNat|||b.toNat)=0↔a.toNat=0/\b.toNat=0:=Nat.or_eq_zero_iff;have:=ha.1;have:=hb.1;omega
theorem or4_ne(X:Nat)(h:X<zaC*zaC):(bits .or .u64 (bits .or .u64 (bits .or .u64 (lm X 4) (lm X 5)) (lm X 6)) (lm X 7) != 0)=decide (zaC<=X):=by
 have h4:=U_lm X 4;have h5:=U_lm X 5;have h6:=U_lm X 6;have h7:=U_lm X 7;have e:bits .or .u64 (bits .or .u64 (bits .or .u64 (lm X 4) (lm X 5)) (lm X 6)) (lm X 7)=0↔lm X 4=0/\lm X 5=0/\lm X 6=0/\lm X 7=0:=by rw[yhP (U_or (U_or h4 h5) h6) h7,yhP (U_or h4 h5) h6,yhP h4 h5];simp only[and_assoc]
 have e2:(lm X 4=0/\lm X 5=0/\lm X 6=0/\lm X 7=0)↔X<zaC:=by unfold lm zaC at *;simp only[pw4,pw5,pw6,pw7,pw64];omega
 rw[fQ];simp only[bne_iff_ne,ne_eq,zD];rw[e,e2];omega
theorem yzN(X i:Nat):lm X (4+i)=lm (X/zaC) i:=by unfold lm;rw[show 64*(4+i)=256+64*i by omega,eQ,<-eD];rfl
theorem numL_hi(X:Nat):([.int .u64 (lm X 4),.int .u64 (lm X 5),.int .u64 (lm X 6),.int .u64 (lm X 7)]:LV)=numL (X/zaC):=by unfold numL;rw[<-yzN,<-yzN,<-yzN,<-yzN]
theorem xeP(X:Nat):([.int .u64 (lm X 0),.int .u64 (lm X 1),.int .u64 (lm X 2),.int .u64 (lm X 3)]:LV)=numL X:=rfl
theorem yyY{d0 d1 d2 d3 d4 d5 d6 d7:Int}(h0:U d0)(h1:U d1)(h2:U d2)(h3:U d3)(h4:U d4)(h5:U d5)(h6:U d6)(h7:U d7){X:Nat} (h:d0+d1*wv 1+d2*wv 2+d3*wv 3+d4*wv 4+d5*wv 5+d6*wv 6+d7*wv 7=(X:Int)):([.int .u64 d0,.int .u64 d1,.int .u64 d2,.int .u64 d3,.int .u64 d4,.int .u64 d5,.int .u64 d6,.int .u64 d7]:LV)=outL (lm X):=by
 let f:Nat->Int:=fun s=>if s=0 then d0 else if s=1 then d1 else if s=2 then d2 else if s=3 then d3 else if s=4 then d4 else if s=5 then d5 else if s=6 then d6 else d7
 have hf:∀s,U (f s):=fun s=>by
  show U (if s=0 then d0 else if s=1 then d1 else if s=2 then d2 else if s=3 then d3 else if s=4 then d4 else if s=5 then d5 else if s=6 then d6 else d7)
  repeat' (split;assumption)
  assumption
 exact ypF (f:=f) hf h
def add8L(y0 y1 y2 y3 y4 y5 y6 y7 x0 x1 x2 x3:Int):LV:=
 [.int .u64 (ad y0 x0 0),.int .u64 (ad y1 x1 (ac y0 x0 0)),.int .u64 (ad y2 x2 (ac y1 x1 (ac y0 x0 0))),.int .u64 (ad y3 x3 (ac y2 x2 (ac y1 x1 (ac y0 x0 0)))),
  .int .u64 (ad y4 0 (ac y3 x3 (ac y2 x2 (ac y1 x1 (ac y0 x0 0))))),.int .u64 (ad y5 0 (ac y4 0 (ac y3 x3 (ac y2 x2 (ac y1 x1 (ac y0 x0 0)))))),
  .int .u64 (ad y6 0 (ac y5 0 (ac y4 0 (ac y3 x3 (ac y2 x2 (ac y1 x1 (ac y0 x0 0))))))),.int .u64 (ad y7 0 (ac y6 0 (ac y5 0 (ac y4 0 (ac y3 x3 (ac y2 x2 (ac y1 x1 (ac y0 x0 0))))))))]
theorem yxJ(Y X:Nat)(hY:Y<zaC*zaC)(h:Y+X%zaC<zaC*zaC):
  add8L (lm Y 0) (lm Y 1) (lm Y 2) (lm Y 3) (lm Y 4) (lm Y 5) (lm Y 6) (lm Y 7) (lm X 0) (lm X 1) (lm X 2) (lm X 3)=outL (lm (Y+X%zaC)):=by
 have vY:=val8_lm hY;have vX:=zyL X;unfold val8 at vY;have y0:=U_lm Y 0;have y1:=U_lm Y 1;have y2:=U_lm Y 2;have y3:=U_lm Y 3;have y4:=U_lm Y 4;have y5:=U_lm Y 5;have y6:=U_lm Y 6;have y7:=U_lm Y 7;have x0:=U_lm X 0;have x1:=U_lm X 1;have x2:=U_lm X 2;have x3:=U_lm X 3;unfold add8L;generalize lm Y 0=a0 at *;generalize lm Y 1=a1 at *;generalize lm Y 2=a2 at *;generalize lm Y 3=a3 at *;generalize lm Y 4=a4 at *;generalize lm Y 5=a5 at *;generalize lm Y 6=a6 at *;generalize lm Y 7=a7 at *;generalize lm X 0=b0 at *;generalize lm X 1=b1 at *;generalize lm X 2=b2 at *;generalize lm X 3=b3 at *;have c0:=C_ac a0 b0 0;have e0:=zsR y0 x0 C1_0;have u0:=U_ad a0 b0 0;generalize ac a0 b0 0=s0 at *;generalize ad a0 b0 0=d0 at *;have c1:=C_ac a1 b1 s0;have e1:=zsR y1 x1 c0;have u1:=U_ad a1 b1 s0;generalize ac a1 b1 s0=s1 at *;generalize ad a1 b1 s0=d1 at *;have c2:=C_ac a2 b2 s1;have e2:=zsR y2 x2 c1;have u2:=U_ad a2 b2 s1;generalize ac a2 b2 s1=s2 at *;generalize ad a2 b2 s1=d2 at *;have c3:=C_ac a3 b3 s2;have e3:=zsR y3 x3 c2;have u3:=U_ad a3 b3 s2;generalize ac a3 b3 s2=s3 at *;generalize ad a3 b3 s2=d3 at *;have c4:=C_ac a4 0 s3;have e4:=zsR y4 U_0 c3;have u4:=U_ad a4 0 s3;generalize ac a4 0 s3=s4 at *;generalize ad a4 0 s3=d4 at *;have c5:=C_ac a5 0 s4;have e5:=zsR y5 U_0 c4;have u5:=U_ad a5 0 s4;generalize ac a5 0 s4=s5 at *;generalize ad a5 0 s4=d5 at *;have c6:=C_ac a6 0 s5;have e6:=zsR y6 U_0 c5;have u6:=U_ad a6 0 s5;generalize ac a6 0 s5=s6 at *;generalize ad a6 0 s5=d6 at *;have c7:=C_ac a7 0 s6;have e7:=zsR y7 U_0 c6;have u7:=U_ad a7 0 s6;generalize ac a7 0 s6=s7 at *;generalize ad a7 0 s6=d7 at *;refine yyY u0 u1 u2 u3 u4 u5 u6 u7 ?_;have w1:wv 1=18446744073709551616:=rfl;have w2:wv 2=340282366920938463463374607431768211456:=rfl;have w3:wv 3=6277101735386680763835789423207666416102355444464034512896:=rfl;have w4:wv 4=115792089237316195423570985008687907853269984665640564039457584007913129639936:=rfl;have w5:wv 5=2135987035920910082395021706169552114602704522356652769947041607822219725780640550022962086936576:=rfl;have w6:wv 6=39402006196394479212279040100143613805079739270465446667948293404245721771497210611414266254884915640806627990306816:=rfl;have w7:wv 7=726838724295606890549323807888004534353641360687318060281490199180639288113397923326191050713763565560762521606266177933534601628614656:=rfl;rw[w1,w2,w3,w4,w5,w6,w7]at vY ⊢;unfold zaC C1 U at *;clear w1 w2 w3 w4 w5 w6 w7;have hX:((X%115792089237316195423570985008687907853269984665640564039457584007913129639936:Nat):Int)=b0+b1*18446744073709551616+b2*340282366920938463463374607431768211456+b3*6277101735386680763835789423207666416102355444464034512896:=vX.symm;generalize X%115792089237316195423570985008687907853269984665640564039457584007913129639936=R at *;clear x0 x1 x2 x3 y0 y1 y2 y3 y4 y5 y6 y7 vX c0 c1 c2 c3 c4 c5 c6;omega
theorem xeM{X p:Nat}(hp:Mod p)(h:zaC<=X):X/zaC*(zaC-p)+X%zaC<X:=by
 have h1:=dQ X zaC;have h2:1<=X/zaC:=(Nat.le_div_iff_mul_le zbY).2 (by omega);have h3:=hp.lt;have h4:=hp.pos;have h5:X/zaC*(zaC-p)+X/zaC*p=X/zaC*zaC:=by rw[<-dC];congr 1;omega
 have h6:1<=X/zaC*p:=Nat.mul_pos h2 h4;rw[cA]at h1;omega
theorem yxU{X p:Nat}(hp:Mod p):(X/zaC*(zaC-p)+X%zaC)%p=X%p:=by
 have h1:=dQ X zaC;have h3:=hp.lt;have h5:X/zaC*(zaC-p)+X/zaC*p=X/zaC*zaC:=by rw[<-dC];congr 1;omega
 rw[cA]at h1;have h7:X=(X/zaC*(zaC-p)+X%zaC)+X/zaC*p:=by omega
 calc (X/zaC*(zaC-p)+X%zaC)%p=((X/zaC*(zaC-p)+X%zaC)+X/zaC*p)%p:=by rw[Nat.add_mul_mod_self_right]
  _=X%p:=by rw[<-h7]
theorem HP.recast{w0 w:World}{L:List Ent}{k b:Nat}{cs cs':LV}{T:TypeId}(h:HP w0 w L)(hk:lk L k=some (b,cs,T))(e:cs=cs'):HP w0 w (st L k (b,cs',T)):=by subst e;exact h.set hk rfl rfl rfl rfl (h.blk k b cs T hk).1 (fun _ _=>rfl)
instance :NeZero PP:=⟨by decide⟩
abbrev Fp:Type:=Fin PP
def cl(a:Nat):Fp:=Fin.ofNat PP a
theorem zoK(a:Nat):(cl a).val=a%PP:=rfl
theorem ygA{a b:Nat}:cl a=cl b↔a%PP=b%PP:=by
 constructor
 ·intro h;exact congrArg Fin.val h
 ·intro h;exact Fin.ext h
theorem yeI{a b:Nat}(ha:a<PP)(hb:b<PP)(h:cl a=cl b):a=b:=by
 have:=ygA.1 h
 rwa[aP ha,aP hb]at this
theorem zyT(a:Nat):cl (a%PP)=cl a:=ygA.2 (gP _ _)
theorem ycY(x:Fp):cl x.val=x:=Fin.ext (aP x.isLt)
theorem yfM(a b:Nat):cl (a+b)=cl a+cl b:=Fin.ext (by rw[zoK,Fin.val_add,zoK,zoK,<-eS])
theorem zyB(a b:Nat):cl (a*b)=cl a*cl b:=Fin.ext (by rw[zoK,Fin.val_mul,zoK,zoK,<-cS])
theorem cl_0:cl 0=0:=rfl
theorem cl_1:cl 1=1:=rfl
theorem cl_PP:cl PP=0:=ygA.2 (by rw[Nat.mod_self,gK])
theorem yeX{a:Nat}(h:a<=PP):cl (PP-a) = - cl a:=by
 have e:cl (PP-a)+cl a=0:=by rw[<-yfM,Nat.sub_add_cancel h,cl_PP]
 grind
theorem ykG{a:Nat}:cl a=0↔a%PP=0:=by rw[<-cl_0,ygA,gK]
theorem ykX{a:Nat}(h:a<PP):cl a=0↔a=0:=by rw[ykG,aP h]
theorem zrI{a b:Fp}(h:a*b=0):a=0∨b=0:=by
 have h1:a.val*b.val%PP=0:=by
  have:=congrArg Fin.val h
  rwa[Fin.val_mul]at this
 rcases ymA.mul (Nat.dvd_of_mod_eq_zero h1)with h2|h2
 ·left;exact Fin.ext ((aP a.isLt)▸eE h2)
 ·right;exact Fin.ext ((aP b.isLt)▸eE h2)
def fi(a:Fp):Fp:=cl (a.val^(PP-2))
theorem ydT{a:Fp}(h:a≠0):fi a*a=1:=by
 have h0:a.val%PP≠0:=fun e=>h (Fin.ext (by rw[aP a.isLt]at e;exact e));have e:fi a*a=cl (a.val^(PP-2)*a.val):=by rw[zyB,ycY];rfl
 rw[e];refine ygA.2 ?_;have h2:=ymA.1;rw[<-cK,show(PP-2).succ=PP-1 by omega,ymA.fermat1 fun hd=>h0 (eE hd)];rfl
theorem fi_0:fi 0=0:=by
 have h:0<PP-2:=by have:=ymA.1;unfold PP;decide
 have e:(0:Fp).val=0:=rfl;unfold fi;rw[e,jG h,cl_0]
theorem zlF{a b c:Fp}(hc:c≠0)(h:a*c=b*c):a=b:=by
 have h1:(a-b)*c=0:=by grind
 rcases zrI h1 with h2|h2
 ·grind
 ·exact absurd h2 hc
theorem yvG:(2:Fp)≠0:=fun h=>by have:cl 2=cl 0:=h;exact absurd (yeI (by decide) (by decide) this) (by decide)
theorem ytB{a i:Fp}(h:i*a=1):i=fi a:=by
 have ha:a≠0:=fun e=>by
  rw[e]at h;have:cl 0=cl 1:=by rw[cl_0,cl_1,<-h];grind
  exact absurd (yeI (by decide) (by decide) this) (by decide)
 exact zlF ha (by rw[h,ydT ha])
theorem xbI:(1:Fp)≠0:=fun h=>by have:cl 1=cl 0:=h;exact absurd (yeI (by decide) (by decide) this) (by decide)
end Go.Proofs.YtmbcolbbekbccaaGreat
