/- Parts of one proof. Conditions: as each theorem says. -/
import Derived.Laws.AppendOwn
import Derived.Laws.MakeOwn
import Derived.Laws.CopyRow
import Derived.Laws.BytesArg
import Derived.Test.YtmbcolbbekbccaaGreatRows
import Derived.Shelf.Spec.BitsCarry
import Derived.Shelf.Strings.Builder1
import Derived.Shelf.Strings.Builder2
import Derived.Shelf.Strings.BuilderF
import Derived.Shelf.Strings.BuilderK
import Derived.Shelf.Strings.Prefix
import Derived.Shelf.Bits.Mul64
import Derived.Shelf.Strings.Repeat
import Derived.Test.YtmbcolbbekbccaaGreatProg
import Derived.Test.YtmbcolbbekbccaaGreatQmA
open Array renaming ext'->dJ
open Bool renaming and_eq_true->aL,eq_iff_iff->fS,false_eq_true->cZ
open Int renaming eq_ofNat_of_zero_le->cF,ofNat_tmod->eT,toNat_natCast->cP
open List renaming append_nil->cC,dropLast_concat_getLast->gX,drop_drop->dP,drop_take->iA,getElem?_drop->bD,getElem?_eq_some_iff->aC,getElem?_take->bN,length_append->aF,length_cons->aO,length_drop->bU,length_eq_zero_iff->eH,length_nil->aZ,length_pos_iff->iX,mem_cons->aV,not_mem_nil->cJ,range->bQ,replicate->aN
open Nat renaming Coprime->iR,add_assoc->cS,add_mod->fV,add_mod_right->iH,add_mul->bI,add_mul_mod_self_left->dY,add_zero->eO,div_add_mod->fC,div_div_eq_div_mul->fB,div_eq_of_lt->fK,div_le_self->dQ,div_lt_self->fU,div_one->eV,dvd_trans->gJ,gcd->iJ,le_of_dvd->fN,le_of_lt->dU,le_refl->aJ,lt_of_le_of_lt->cE,lt_of_lt_of_le->bK,lt_of_not_le->dK,lt_or_ge->fZ,lt_trans->cA,mod_add_mod->gR,mod_eq_of_lt->aR,mod_eq_zero_of_dvd->dR,mod_lt->bJ,mod_mod->iF,mod_mul_mod->iP,mul_add->eG,mul_assoc->iW,mul_comm->dD,mul_le_mul->dE,mul_left_comm->iI,mul_mod->eJ,mul_one->cI,one_mul->dG,or_lt_two_pow->fE,pos_of_ne_zero->dA,pow_add->gI,pow_le_pow_right->fI,pow_mod->fW,pow_mul->iG,pow_succ->cQ,pow_zero->fH,reduceMul->fM,reducePow->dX,strongRecOn->eP,zero_add->aP,zero_mul->eN
open Go.Proofs.Tryz renaming prog->aD
namespace Go.Proofs.YtmbcolbbekbccaaGreat
open Go Go.RowKit
abbrev sl(b o n c:Nat):Value:=.slice (some ⟨b,o,none⟩) n c
structure TSl (P:Program) (T E:TypeId) (z:Value) (nb:Nat):Prop where
 und:P.underlying T=some (.slice E)
 info:∃i,P.info? E=some i/\i.zero=some z/\i.size=1/\i.bytes=nb
 one:z.cells = #[z]
theorem TSl.size{P:Program}{T E:TypeId}{z:Value}{nb:Nat}(h:TSl P T E z nb)(w:World):(sizeOf E).run P w = .ok 1 w:=by obtain⟨i,h1,_,h3,_⟩:=h.info;simp[sizeOf,typeInfo,h1,h3]
def Rd(w:World)(v:Value)(l:LV):Prop:=
 (v = .slice none 0 0/\l=[])∨∃b o c cs T fz,v=sl b o l.length c/\l.length<=c/\w.heap[b]? = some (.cells cs.toArray T fz)/\o+l.length<=cs.length/\piece cs o l.length=l
theorem Rd.ext{w w':World}{v:Value}{l:LV}(h:Rd w v l)(hx:Ext w w'):Rd w' v l:=by
 rcases h with h|⟨b,o,c,cs,T,fz,h1,h2,h3,h4,h5⟩
 ·exact .inl h
 ·exact .inr ⟨b,o,c,cs,T,fz,h1,h2,by rw[Below.block hx b (zeN h3)];exact h3,h4,h5⟩
theorem Rd.hp{w0 w:World}{L:List Ent}{v:Value}{l:LV}(h:Rd w0 v l)(H:HP w0 w L):Rd w v l:=h.ext H.below
theorem Rd.nil(w:World):Rd w (.slice none 0 0) []:=.inl ⟨rfl,rfl⟩
theorem Rd.own{w0 w:World}{L:List Ent}(H:HP w0 w L){k b o n c:Nat}{cs l:LV}{T:TypeId}(hk:lk L k=some (b,cs,T))(hl:piece cs o n=l)(hn:o+n<=cs.length)(hc:n<=c):Rd w (sl b o n c) l:=by
 have hlen:l.length=n:=by rw[<-hl,zaN];simp;omega
 subst hlen;exact .inr ⟨b,o,c,cs,T,(0,0),rfl,hc,(H.blk k b cs T hk).1,hn,hl⟩
def subv:Value->Nat->Nat->Value
 |.slice a _ c,lo,hi=>.slice (if c=lo then a else a.map (·.add lo)) (hi-lo) (c-lo)|v,_,_=>v
theorem Rd.sub{w:World}{v:Value}{l:LV}(h:Rd w v l){lo hi:Nat}(h1:lo<=hi)(h2:hi<=l.length):Rd w (subv v lo hi) ((l.drop lo).take (hi-lo)):=by
 have hlen:((l.drop lo).take (hi-lo)).length=hi-lo:=by simp;omega
 rcases h with⟨rfl,rfl⟩|⟨b,o,c,cs,T,fz,rfl,h3,h4,h5,h6⟩
 ·simp only[aZ]at h2;have e1:lo=0:=by omega
  have e2:hi=0:=by omega
  subst e1;subst e2;exact .inl ⟨rfl,rfl⟩
 ·by_cases hc:c=lo
  ·have e1:hi=lo:=by omega
   refine .inr ⟨b,o,c-lo,cs,T,fz,?_,by rw[hlen];omega,h4,by rw[hlen];omega,?_⟩
   ·rw[hlen];simp[subv,sl,hc]
   ·rw[hlen,e1];simp[piece]
  ·refine .inr ⟨b,o+lo,c-lo,cs,T,fz,?_,by rw[hlen];omega,h4,by rw[hlen];omega,?_⟩
   ·rw[hlen];simp[subv,sl,hc,zbX]
   ·rw[hlen,zaN];rw[zaN]at h6
    conv=>rhs;rw[<-h6]
    rw[iA,dP,List.take_take];congr 1;omega
section
variable {P:Program}{w:World}{e:Operand->Value}{x y lo hi:Operand}{T E ty:TypeId}{z v u:Value}{nb i:Nat}{l:LV}{a:Int}{k:IntKind}{dst:Option Tmp}{pos:String}{aft:Array Edge}{g:Option (Nat×Bool)}
theorem zbD{P:Program}{w:World}{k:IntKind}{a:Int}{h y:Nat}{code:BoundsCode}(ha:a=(h:Int))(hh:h<=y):(Instr.sliceBound (.int k a) y code).run P w = .ok h w:=by
 subst ha;have h2:(0:Int)<=(h:Int)/\(h:Int)<=(y:Int):=by omega
 simp[Instr.sliceBound,asIntOf,h2]
end
theorem HP.moved{w0 w:World}{L:List Ent}{x e:Ent}{k:Nat}(hk:lk L k=some x)(h:HP w0 w (e::L)):HP w0 w (st L k e):=by
 obtain⟨b,cs,T⟩:=e;refine⟨h.below,?_,?_⟩
 ·intro j b' c T' hj;by_cases hjk:j=k
  ·subst hjk;rw[zmO hk]at hj;exact h.blk 0 b' c T' hj
  ·rw[zkX hjk]at hj;exact h.blk (j+1) b' c T' hj
 ·intro i j b' c1 T1 c2 T2 hi hj
  have key:∀i c T1,lk (st L k (b,cs,T)) i=some (b',c,T1)->∃i',(i=k/\i'=0∨i≠k/\i'=i+1)/\lk ((b,cs,T)::L) i'=some (b',c,T1):=fun i c T1 hi=>by
   by_cases hik:i=k
   ·subst hik;rw[zmO hk]at hi;exact⟨0,.inl ⟨rfl,rfl⟩,hi⟩
   ·rw[zkX hik]at hi;exact⟨i+1,.inr ⟨hik,rfl⟩,hi⟩
  obtain⟨i',hi1,hi2⟩:=key i _ _ hi;obtain⟨j',hj1,hj2⟩:=key j _ _ hj;have:=h.inj i' j' b' c1 T1 c2 T2 hi2 hj2;omega
section
variable {P:Program}{ops:Array Oper}{Q:Exit->Act->World->Prop}{rest:List Oper}{n:Nat}{m:FM}{w w0:World}{L:List Ent}
variable {d:Nat}{ty:TypeId}{pos:String}{aft:Array Edge}{x y:Operand}{T E:TypeId}{z:Value}{nb:Nat}
theorem zzF{b len c k:Nat}{xs rs news:LV}{v2:Value}(hT:TSl P T E z nb)(H:HP w0 w L)(hk:lk L k=some (b,xs++rs,E))(hlen:xs.length=len)(hcap:(xs++rs).length=c) (hr:Rd w v2 news) (h1:∀v∈news,v.oneCell'=true) (hb:(len+news.length)*nb<=140737488355328) (hb':len+news.length<=140737488355328):∃b' rs' w',(Builtin.append_ #[T,T] ty #[sl b 0 len c,v2]).run P w = .ok (sl b' 0 (len+news.length) (xs++news++rs').length) w'/\HP w0 w' (st L k (b',xs++news++rs',E)):=by
 obtain⟨i,hi1,hi2,hi3,hi4⟩:=hT.info;have hblk:=(H.blk k b _ E hk).1;subst hlen;rcases hr with⟨rfl,rfl⟩|⟨b2,o2,c2,cs2,T2,fz2,rfl,hc2,hb2,ho2,hp2⟩
 ·refine⟨b,rs,w,?_,?_⟩
  ·have hroom:xs.length+0<=c:=by rw[<-hcap];simp
   have hst:=run_storeCells_at P b (xs.length*1) E [] 0 (xs++rs).toArray w hblk (by simp) (fun v hv=>by simp at hv);simp only[Builtin.append_,Go.underlying,sizeOf,typeInfo,Builtin.lenOf,hcap,aZ,cC];simp[Builtin.firstCells,hi1,hi3,storeCells,hT.und];intro hh;simp at hroom;omega
  ·simp only[cC];exact H.set hk rfl rfl rfl rfl hblk (fun _ _=>rfl)
 ·have hnews:∀j u,news[j]? = some u->w.cell? ((⟨b2,o2,none⟩:Addr).add j)=some u:=fun j u hj=>by rw[zbX,ziU hb2];have hjl:=(aC.1 hj).1;rw[<-hp2,zaN,bN,zH hjl,bD]at hj;exact hj
  by_cases hroom:xs.length+news.length<=c
  ·refine⟨b,rs.drop news.length,w.setRow b ((xs++rs).take (xs.length*i.size)++news++(xs++rs).drop (xs.length*i.size+news.length)).toArray,?_,?_⟩
   ·have hrun:=run_append_room (P:=P) w T ty E i hT.und hi1 b xs.length c (xs++rs).toArray hblk ⟨b2,o2,none⟩ news.length c2 news (by rw[hi3];omega) hnews h1 hroom (by rw[hi3,cI];simpa[<-hcap]using hroom);have hcl:(xs++news++rs.drop news.length).length=c:=by rw[<-hcap];simp only[aF,bU];rw[<-hcap,aF]at hroom;omega
    rw[hcl];exact hrun
   ·have e1:(xs++rs).take (xs.length*i.size)++news++(xs++rs).drop (xs.length*i.size+news.length)=xs++news++rs.drop news.length:=by rw[hi3,cI,List.take_left,<-dP,List.drop_left]
    rw[e1];exact H.set hk (setRow_size w b _) rfl rfl rfl (setRow_heap w b _ _ E (0,0) hblk) (fun j hj=>setRow_other w b j _ hj)
  ·have hnb:nb<=140737488355328∨True:=.inr trivial;have hfit:=growslice_fits (bytes:=nb) (dK hroom) hb;have holds:∀j u,xs[j]? = some u->w.cell? ((⟨b,0,none⟩:Addr).add j)=some u:=fun j u hj=>by rw[zbX,ziU hblk,aP,List.getElem?_append_left (aC.1 hj).1];exact hj
   have hrun:=run_append_grow (P:=P) w T ty E i z hT.und hi1 hi2 ⟨b,0,none⟩ xs.length c xs (by rw[hi3];omega) holds ⟨b2,o2,none⟩ news.length c2 news (by rw[hi3];omega) hnews (dK hroom) (by omega) (by rw[hi4];exact hfit);have hge:=grownCap_ge w (xs.length+news.length) c E;have hsz:=size_zeroCells z.cells (grownCap w (xs.length+news.length) c E-(xs.length+news.length));rw[hT.one]at hsz hrun;generalize hG:grownCap w (xs.length+news.length) c E=G at hrun hge hsz;generalize hZ:Builtin.zeroCells #[z] (G-(xs.length+news.length))=Z at hrun hsz;have hZl:Z.toList.length=G-(xs.length+news.length):=by simpa using hsz
   have hcl:(xs++news++Z.toList).length=G:=by simp only[aF,hZl];omega
   have hcells:xs.toArray++news.toArray++Z=(xs++news++Z.toList).toArray:=by apply dJ;simp
   refine⟨w.heap.size,Z.toList,w.drew.alloc (.cells (xs++news++Z.toList).toArray E),?_,HP.moved hk ?_⟩
   ·rw[hcl,<-hcells];exact hrun
   ·exact H.push ((Ext.drew w).trans (Ext.alloc w.drew _)) (aJ _) (zaP w.drew _)
theorem append_nil{news:LV}{v2:Value}(hT:TSl P T E z nb)(H:HP w0 w L)(hr:Rd w v2 news)(h0:0<news.length)(hb:news.length*nb<=140737488355328)(hb':news.length<=140737488355328):∃b' rs' w',(Builtin.append_ #[T,T] ty #[.slice none 0 0,v2]).run P w = .ok (sl b' 0 news.length (news++rs').length) w'/\HP w0 w' ((b',news++rs',E)::L):=by
 obtain⟨i,hi1,hi2,hi3,hi4⟩:=hT.info;rcases hr with⟨rfl,rfl⟩|⟨b2,o2,c2,cs2,T2,fz2,rfl,hc2,hb2,ho2,hp2⟩
 ·exact absurd h0 (by decide)
 ·have hnews:∀j u,news[j]? = some u->w.cell? ((⟨b2,o2,none⟩:Addr).add j)=some u:=fun j u hj=>by rw[zbX,ziU hb2];have hjl:=(aC.1 hj).1;rw[<-hp2,zaN,bN,zH hjl,bD]at hj;exact hj
  have hrun:=run_append_nil (P:=P) w T ty E i z hT.und hi1 hi2 ⟨b2,o2,none⟩ news.length c2 news (by rw[hi3];omega) hnews h0 (by omega) (by rw[hi4];omega);have hge:=grownCap_ge w news.length 0 E;have hsz:=size_zeroCells z.cells (grownCap w news.length 0 E-news.length);rw[hT.one]at hsz hrun;generalize hG:grownCap w news.length 0 E=G at hrun hge hsz;generalize hZ:Builtin.zeroCells #[z] (G-news.length)=Z at hrun hsz;have hZl:Z.toList.length=G-news.length:=by simpa using hsz
  have hcl:(news++Z.toList).length=G:=by simp only[aF,hZl];omega
  have hcells:news.toArray++Z=(news++Z.toList).toArray:=by apply dJ;simp
  refine⟨w.heap.size,Z.toList,w.drew.alloc (.cells (news++Z.toList).toArray E),?_,?_⟩
  ·rw[hcl,<-hcells];exact hrun
  ·exact H.push ((Ext.drew w).trans (Ext.alloc w.drew _)) (aJ _) (zaP w.drew _)
theorem HP.of(h:Ext w0 w):HP w0 w []:=(HP.start w0).ext h
end
def Bk(w:World)(b:Nat)(cs:LV)(T:TypeId):Prop:=w.heap[b]? = some (.cells cs.toArray T (0,0))
theorem Bk.ext{w w':World}{b:Nat}{cs:LV}{T:TypeId}(h:Bk w b cs T)(hx:Ext w w'):Bk w' b cs T:=by have hb:=zeN h;unfold Bk at *;rw[Below.block hx b hb];exact h
theorem Bk.hp{w0 w:World}{L:List Ent}{b:Nat}{cs:LV}{T:TypeId}(h:Bk w0 b cs T)(H:HP w0 w L):Bk w b cs T:=h.ext H.below
theorem HP.bk{w0 w:World}{L:List Ent}{k b:Nat}{cs:LV}{T:TypeId}(H:HP w0 w L)(hk:lk L k=some (b,cs,T)):Bk w b cs T:=(H.blk k b cs T hk).1
section
variable {P:Program}{w w0:World}{e:Operand->Value}{dst:Option Tmp}{g:Option (Nat×Bool)}{ty:TypeId}{pos:String}{aft:Array Edge}{x y:Operand}{T T':TypeId}{b o sz:Nat}{cs l:LV}{v:Value}
end
theorem wrapN{k:IntKind}(hk:k.signed=false)(n:Nat):k.wrap (n:Int)=((n%2^k.bits:Nat):Int):=by simp only[IntKind.wrap,hk,Bool.false_and,cZ,if_false];rw[Int.natCast_emod];congr 1
theorem ysG{k:IntKind}(hk:k.signed=false){n:Nat}(hn:n<2^k.bits):k.wrap (n:Int)=(n:Int):=by rw[wrapN hk,aR hn]
theorem shrN{n b m:Nat}(h:b<=m):(n:Int).fdiv (2^(min ((b:Int).toNat) m))=((n/2^b:Nat):Int):=by rw[cP,Nat.min_eq_left h];rw[show((2:Int)^b)=((2^b:Nat):Int) by rw[Int.natCast_pow];rfl];exact(Int.ofNat_fdiv n (2^b)).symm
theorem zlZ(k:IntKind)(x:Nat)(hx:x<2^k.bits):(BitVec.ofInt k.bits (x:Int)).toNat=x:=by simp[aR hx]
theorem andN{k:IntKind}(hk:k.signed=false){x y:Nat}(hx:x<2^k.bits)(hy:y<2^k.bits):bits .and k (x:Int) (y:Int)=((x&&&y:Nat):Int):=by simp only[bits,BitVec.toNat_and,zlZ k x hx,zlZ k y hy];exact ysG hk (cE Nat.and_le_left hx)
theorem orN{k:IntKind}(hk:k.signed=false){x y:Nat}(hx:x<2^k.bits)(hy:y<2^k.bits):bits .or k (x:Int) (y:Int)=((x|||y:Nat):Int):=by simp only[bits,BitVec.toNat_or,zlZ k x hx,zlZ k y hy];exact ysG hk (fE hx hy)
theorem xorN{k:IntKind}(hk:k.signed=false){x y:Nat}(hx:x<2^k.bits)(hy:y<2^k.bits):bits .xor k (x:Int) (y:Int)=((x^^^y:Nat):Int):=by simp only[bits,BitVec.toNat_xor,zlZ k x hx,zlZ k y hy];exact ysG hk (Nat.xor_lt_two_pow hx hy)
theorem maskN{k:IntKind}(hk:k.signed=false){x:Nat}(n:Nat)(hx:x<2^k.bits)(hn:n<=k.bits):bits .and k (x:Int) ((2^n-1:Nat):Int)=((x%2^n:Nat):Int):=by have hp:2^n<=2^k.bits:=fI (by decide) hn;have:0<2^n:=Nat.pow_pos (by decide);rw[andN hk hx (by omega),Nat.and_two_pow_sub_one_eq_mod]
theorem joinN{k:IntKind}(hk:k.signed=false){x y n:Nat}(hy:y<2^n)(h:x*2^n+y<2^k.bits):bits .or k ((x*2^n:Nat):Int) (y:Int)=((x*2^n+y:Nat):Int):=by
 have h1:x*2^n<2^k.bits:=by omega
 have h2:y<2^k.bits:=by omega
 rw[orN hk h1 h2,dD x,Nat.two_pow_add_eq_or_of_lt hy]
abbrev str(l:Bs):Value:=.string ⟨l.toArray⟩
def u8s(l:Bs):LV:=l.map fun b=>Value.int .u8 (b.toNat:Int)
theorem zdH(l:Bs):(u8s l).length=l.length:=by simp[u8s]
theorem xbT{l:Bs}{i:Nat}{b:UInt8}(h:l[i]? = some b):(u8s l)[i]? = some (.int .u8 (b.toNat:Int)):=by simp[u8s,h]
theorem ywJ(l:Bs):∀v∈u8s l,v.oneCell'=true:=by intro v hv;simp only[u8s,List.mem_map]at hv;obtain⟨b,_,rfl⟩:=hv;rfl
theorem zjY(l:Bs):(⟨l.toArray⟩:ByteArray).size=l.length:=by simp[ByteArray.size]
theorem ykR(a b:Bs):(⟨a.toArray⟩:ByteArray)++⟨b.toArray⟩=⟨(a++b).toArray⟩:=by apply ByteArray.ext;simp
theorem ziQ(l:Bs)(p h:Nat):(⟨l.toArray⟩:ByteArray).extract p h=⟨((l.take h).drop p).toArray⟩:=by apply ByteArray.ext;simp[ByteArray.data_extract,List.extract_toArray,List.extract_eq_take_drop,iA]
theorem ybC{a b:Bs}(h:str a=str b):a=b:=by
 have h1:(⟨a.toArray⟩:ByteArray)=⟨b.toArray⟩:=by injection h
 have h2:=congrArg (fun x=>x.data.toList) h1;simpa using h2
section
variable {P:Program}{w:World}{e:Operand->Value}{dst:Option Tmp}{g:Option (Nat×Bool)}{ty:TypeId}{pos:String}{aft:Array Edge}{x y lo hi:Operand}{T:TypeId}{k k':IntKind}{a b:Int}{l r:Bs}{t:Bool}
theorem zjR{N:Nat}(h1:P.underlying T=some .string)(hx:e x=str l)(hN:l.length=N):(execOp e ⟨dst,.call ⟨.builtin .len,#[x],#[T]⟩,ty,pos,aft,g⟩).run P w = .ok (.value (.int .i64 (N:Int))) w:=by subst hN;have:=xeN (P:=P) (w:=w) (e:=e) (dst:=dst) (g:=g) (ty:=ty) (pos:=pos) (aft:=aft) (_args:=[]) (_at_:=[]) h1 hx;rw[this,zjY]
theorem zoM{i:Nat}{u:UInt8}(h1:P.underlying T=some .string)(hx:e x=str l)(hy:e y = .int k a)(ha:a=(i:Int))(hv:l[i]? = some u):(execOp e ⟨dst,.index T x y,ty,pos,aft,g⟩).run P w = .ok (.value (.int .u8 (u.toNat:Int))) w:=by
 subst ha;have hi:=(aC.1 hv).1;have hv':=(aC.1 hv).2;have h2:(⟨l.toArray⟩:ByteArray)[i]? = some u:=by rw[getElem?_pos (⟨l.toArray⟩:ByteArray) i (by simpa[ByteArray.size]using hi)];exact congrArg some hv'
 simp[execOp,Instr.index,asIntOf,Go.underlying,h1,hx,hy,h2]
theorem yvL{p h:Nat}(h1:P.underlying T=some .string)(hx:e x=str l)(hz:e lo = .int k' b)(hy:e hi = .int k a)(hb:b=(p:Int))(ha:a=(h:Int))(hp:p<=h)(hh:h<=l.length)(hr:(l.take h).drop p=r):(execOp e ⟨dst,.slice T x (some lo) (some hi) none,ty,pos,aft,g⟩).run P w = .ok (.value (str r)) w:=by simp[execOp,Instr.sliceAt,Instr.slice,Instr.sliceBounds,Go.underlying,h1,hx,hz,hy,zbD (P:=P) (w:=w) ha (y:=l.length) hh,zbD (P:=P) (w:=w) hb hp,zjY,ziQ,hr]
theorem ycL{p:Nat}(h1:P.underlying T=some .string)(hx:e x=str l)(hz:e lo = .int k' b)(hb:b=(p:Int))(hp:p<=l.length)(hr:l.drop p=r):(execOp e ⟨dst,.slice T x (some lo) none none,ty,pos,aft,g⟩).run P w = .ok (.value (str r)) w:=by simp[execOp,Instr.sliceAt,Instr.slice,Instr.sliceBounds,Go.underlying,h1,hx,hz,zbD (P:=P) (w:=w) hb hp,zjY,ziQ,hr]
theorem zwO{h:Nat}(h1:P.underlying T=some .string)(hx:e x=str l)(hy:e hi = .int k a)(ha:a=(h:Int))(hh:h<=l.length)(hr:l.take h=r):(execOp e ⟨dst,.slice T x none (some hi) none,ty,pos,aft,g⟩).run P w = .ok (.value (str r)) w:=by simp[execOp,Instr.sliceAt,Instr.slice,Instr.sliceBounds,Go.underlying,h1,hx,hy,zbD (P:=P) (w:=w) ha (y:=l.length) hh,zjY,ziQ,hr]
theorem yrW(l:Bs):strOfNums (l.map fun b=>(b.toNat:Int))=⟨l.toArray⟩:=by apply ByteArray.ext;apply Array.toList_inj.1;rw[strOfNums_data];simp[Function.comp_def]
variable {l1 l2:Bs}{T':TypeId}
theorem xaO(hn:l1.length+l2.length<=9223372036854775807):(Op.stringOp .add ⟨l1.toArray⟩ ⟨l2.toArray⟩).run P w = .ok (str (l1++l2)) w:=by
 simp only[Op.stringOp,zjY,ykR]
 rw[zG (by
  have:IntKind.i64.max=9223372036854775807:=by decide
  rw[this];omega)]
 rfl
theorem ylK(hx:e x=str l1)(hy:e y=str l2)(hn:l1.length+l2.length<=9223372036854775807)(hr:l1++l2=r):(execOp e ⟨dst,.binOp .add T x y T',ty,pos,aft,g⟩).run P w = .ok (.value (str r)) w:=by have:=xaO (P:=P) (w:=w) hn;simp[execOp,eqGuard,binOp,hx,hy,this,hr]
theorem xeS(hx:e x=str l1)(hy:e y=str l2)(h:(l1==l2)=t):(execOp e ⟨dst,.binOp .eql T x y T',ty,pos,aft,g⟩).run P w = .ok (.value (.bool t)) w:=by simp[execOp,eqGuard,binOp,hx,hy,Op.stringOp,<-h]
theorem r_neT(hx:e x=str l1)(hy:e y=str l2)(h:(l1 != l2)=t):(execOp e ⟨dst,.binOp .neq T x y T',ty,pos,aft,g⟩).run P w = .ok (.value (.bool t)) w:=by simp[execOp,eqGuard,binOp,hx,hy,Op.stringOp,<-h,bne]
end
def U(x:Int):Prop:=0<=x/\x<18446744073709551616
def C1(x:Int):Prop:=x=0∨x=1
theorem C1_0:C1 0:=.inl rfl
theorem U_0:U 0:=by unfold U;omega
theorem C1.U{x:Int}(h:C1 x):U x:=by unfold C1 at h;unfold Proofs.YtmbcolbbekbccaaGreat.U;omega
def lm(A i:Nat):Int:=((A/2^(64*i)%2^64:Nat):Int)
theorem U_lm(A i:Nat):U (lm A i):=by unfold U lm;have:=bJ (A/2^(64*i)) (show 0<2^64 by decide);omega
def numL(A:Nat):LV:=[.int .u64 (lm A 0),.int .u64 (lm A 1),.int .u64 (lm A 2),.int .u64 (lm A 3)]
abbrev numV(A:Nat):Value:=.agg (numL A).toArray
def zaE:Nat:=115792089237316195423570985008687907853269984665640564039457584007913129639936
theorem zdG:0<zaE:=by decide
theorem zwP(A:Nat):lm A 0+lm A 1*18446744073709551616+lm A 2*340282366920938463463374607431768211456+lm A 3*6277101735386680763835789423207666416102355444464034512896=((A%zaE:Nat):Int):=by unfold lm zaE;simp only[fM,dX,fH,eV];omega
theorem lm_of{a b c d:Int}(ha:U a)(hb:U b)(hc:U c)(hd:U d){A:Nat}(h:a+b*18446744073709551616+c*340282366920938463463374607431768211456+d*6277101735386680763835789423207666416102355444464034512896=(A:Int)):
  lm A 0=a/\lm A 1=b/\lm A 2=c/\lm A 3=d:=by
 unfold lm U at *;simp only[fM,dX,fH,eV];omega
theorem yfX{a b c d:Int}(ha:U a)(hb:U b)(hc:U c)(hd:U d){A:Nat}(h:a+b*18446744073709551616+c*340282366920938463463374607431768211456+d*6277101735386680763835789423207666416102355444464034512896=(A:Int)):([.int .u64 a,.int .u64 b,.int .u64 c,.int .u64 d]:LV)=numL A:=by obtain⟨h1,h2,h3,h4⟩:=lm_of ha hb hc hd h;unfold numL;rw[h1,h2,h3,h4]
theorem yuJ{A B:Nat}(h:numL A=numL B):A%zaE=B%zaE:=by unfold numL at h;simp only[List.cons.injEq,Value.int.injEq,true_and,and_true]at h;have h1:=zwP A;have h2:=zwP B;rw[h.1,h.2.1,h.2.2.1,h.2.2.2,h2]at h1;exact Int.ofNat.inj h1.symm
def sd(x y b:Int):Int:=(x-y-b)%18446744073709551616
def sb(x y b:Int):Int:=if x<y+b then 1 else 0
def ad(x y c:Int):Int:=(x+y+c)%18446744073709551616
def ac(x y c:Int):Int:=if x+y+c<18446744073709551616 then 0 else 1
theorem U_sd(x y b:Int):U (sd x y b):=by unfold U sd;omega
theorem C_sb(x y b:Int):C1 (sb x y b):=by unfold C1 sb;split<;>omega
theorem U_ad(x y b:Int):U (ad x y b):=by unfold U ad;omega
theorem C_ac(x y c:Int):C1 (ac x y c):=by unfold C1 ac;split<;>omega
theorem ac_eq{x y c:Int}(hx:U x)(hy:U y)(hc:C1 c):(x+y+c)/18446744073709551616=ac x y c:=by unfold C1 U ac at *;split<;>omega
theorem yuY{x y b:Int}(hx:U x)(hy:U y)(hb:C1 b):sd x y b=x-y-b+18446744073709551616*sb x y b:=by unfold sd sb U C1 at *;split<;>omega
theorem zrW{x y c:Int}(hx:U x)(hy:U y)(hc:C1 c):ad x y c+18446744073709551616*ac x y c=x+y+c:=by rw[<-ac_eq hx hy hc];unfold ad;omega
def lessL(a0 a1 a2 a3 b0 b1 b2 b3:Int):LV:=
 [.int .u64 (sd a0 b0 0),.int .u64 (sd a1 b1 (sb a0 b0 0)),.int .u64 (sd a2 b2 (sb a1 b1 (sb a0 b0 0))),.int .u64 (sd a3 b3 (sb a2 b2 (sb a1 b1 (sb a0 b0 0))))]
def lessB(a0 a1 a2 a3 b0 b1 b2 b3:Int):Int:=sb a3 b3 (sb a2 b2 (sb a1 b1 (sb a0 b0 0)))
theorem ywF(A B:Nat)(hA:A<zaE)(hB:B<zaE):
  lessL (lm A 0) (lm A 1) (lm A 2) (lm A 3) (lm B 0) (lm B 1) (lm B 2) (lm B 3)=numL ((A+(zaE-B))%zaE) /\
  (lessB (lm A 0) (lm A 1) (lm A 2) (lm A 3) (lm B 0) (lm B 1) (lm B 2) (lm B 3)==1)=decide (A<B):=by
 have eA:=zwP A;have eB:=zwP B;rw[aR hA]at eA;rw[aR hB]at eB;have a0:=U_lm A 0;have a1:=U_lm A 1;have a2:=U_lm A 2;have a3:=U_lm A 3;have b0:=U_lm B 0;have b1:=U_lm B 1;have b2:=U_lm B 2;have b3:=U_lm B 3;unfold lessL lessB;generalize lm A 0=x0 at *;generalize lm A 1=x1 at *;generalize lm A 2=x2 at *;generalize lm A 3=x3 at *;generalize lm B 0=y0 at *;generalize lm B 1=y1 at *;generalize lm B 2=y2 at *;generalize lm B 3=y3 at *;have c0:=C_sb x0 y0 0;have e0:=yuY a0 b0 C1_0;have u0:=U_sd x0 y0 0;generalize sb x0 y0 0=s0 at *;generalize sd x0 y0 0=d0 at *;have c1:=C_sb x1 y1 s0;have e1:=yuY a1 b1 c0;have u1:=U_sd x1 y1 s0;generalize sb x1 y1 s0=s1 at *;generalize sd x1 y1 s0=d1 at *;have c2:=C_sb x2 y2 s1;have e2:=yuY a2 b2 c1;have u2:=U_sd x2 y2 s1;generalize sb x2 y2 s1=s2 at *;generalize sd x2 y2 s1=d2 at *;have c3:=C_sb x3 y3 s2;have e3:=yuY a3 b3 c2;have u3:=U_sd x3 y3 s2;generalize sb x3 y3 s2=s3 at *;generalize sd x3 y3 s2=d3 at *;unfold zaE at *;refine⟨yfX u0 u1 u2 u3 ?_,?_⟩
 ·unfold C1 U at *;by_cases h:A<B
  ·rw[aR (by omega)];omega
  ·rw[show A+(115792089237316195423570985008687907853269984665640564039457584007913129639936-B)=(A-B)+115792089237316195423570985008687907853269984665640564039457584007913129639936 by omega,iH,aR (by omega)];omega
 ·rw[fS];simp only[beq_iff_eq,zD];unfold C1 U at *;omega
def PP:Nat:=115792089210356248762697446949407573530086143415290314195533631308867097853951
def NN:Nat:=115792089210356248762697446949407573529996955224135760342422259061068512044369
def modN(m:Int):Nat:=bif m==0 then PP else NN
theorem zmT(m:Int):modN m=PP∨modN m=NN:=by unfold modN;cases m==0<;>simp
def Mod(p:Nat):Prop:=zaE<2*p/\p<zaE
theorem yxY:Mod PP:=by unfold Mod zaE PP;omega
theorem mod_NN:Mod NN:=by unfold Mod zaE NN;omega
theorem zbE(m:Int):Mod (modN m):=by rcases zmT m with h|h<;>rw[h];exact yxY;exact mod_NN
theorem Mod.lt{p:Nat}(h:Mod p):p<zaE:=h.2
theorem Mod.pos{p:Nat}(h:Mod p):0<p:=by unfold Mod zaE at h;omega
theorem zyP{a:Nat}(h:Nat.blt a zaE=true):a<zaE:=by rw[zhH]at h;simpa using h
theorem ziE{a b c d:Nat}(A:Nat)(ha:a<18446744073709551616)(hb:b<18446744073709551616)(hc:c<18446744073709551616)(hd:d<18446744073709551616)(h:a+b*18446744073709551616+c*340282366920938463463374607431768211456+d*6277101735386680763835789423207666416102355444464034512896=A):([.int .u64 (a:Int),.int .u64 (b:Int),.int .u64 (c:Int),.int .u64 (d:Int)]:LV)=numL A:=
 yfX (by unfold U;omega) (by unfold U;omega) (by unfold U;omega) (by unfold U;omega) (by omega)
theorem yyB:([.int .u64 18446744073709551615,.int .u64 4294967295,.int .u64 0,.int .u64 18446744069414584321]:LV)=numL PP:=
 ziE (a:=18446744073709551615) (b:=4294967295) (c:=0) (d:=18446744069414584321) PP (by decide) (by decide) (by decide) (by decide) (by unfold PP;decide)
theorem yyY:([.int .u64 17562291160714782033,.int .u64 13611842547513532036,.int .u64 18446744073709551615,.int .u64 18446744069414584320]:LV)=numL NN:=
 ziE (a:=17562291160714782033) (b:=13611842547513532036) (c:=18446744073709551615) (d:=18446744069414584320) NN (by decide) (by decide) (by decide) (by decide) (by unfold NN;decide)
theorem zoG:([.int .u64 0,.int .u64 0,.int .u64 0,.int .u64 0]:LV)=numL 0:=ziE (a:=0) (b:=0) (c:=0) (d:=0) 0 (by decide) (by decide) (by decide) (by decide) (by decide)
theorem zoV(a:Nat)(ha:a<18446744073709551616):([.int .u64 (a:Int),.int .u64 0,.int .u64 0,.int .u64 0]:LV)=numL a:=
 ziE (b:=0) (c:=0) (d:=0) a ha (by decide) (by decide) (by decide) (by omega)
def zyH(A p:Nat)(c:Int):Nat:=if c=1∨p<=A then(A+(zaE-p))%zaE else A
theorem yjD{A p:Nat}{c:Int}(hA:A<zaE)(hp:Mod p)(hc:C1 c)(h:A+c.toNat*zaE<2*p):zyH A p c=(A+c.toNat*zaE)%p:=by
 have hpl:=hp.2;have hsub:∀X,p<=X->X<2*p->X%p=X-p:=fun X h1 h2=>by rw[Nat.mod_eq_sub_mod h1];exact aR (by omega)
 unfold zyH;rcases hc with rfl|rfl
 ·have h':A<2*p:=by simpa using h
  simp only[Int.toNat_zero,eN,eO];by_cases h1:p<=A
  ·rw[zH (.inr h1),hsub A h1 h',show A+(zaE-p)=(A-p)+zaE by omega,iH];exact aR (by omega)
  ·rw[zG (by omega)];exact(aR (by omega)).symm
 ·have h':A+zaE<2*p:=by simpa using h
  have h1:p<=A+zaE:=by omega
  simp only[Int.toNat_one,dG,true_or,if_true];rw[hsub _ h1 h'];have e:(A+(zaE-p))%zaE=A+(zaE-p):=aR (by omega);omega
theorem xdC{A p:Nat}(hA:A<zaE)(hp:Mod p):zyH A p 0=A%p:=by have:=yjD (c:=0) hA hp C1_0 (by simp;unfold Mod at hp;omega);simpa using this
theorem zpP{A p:Nat}{c:Int}(hA:A<zaE):zyH A p c<zaE:=by
 unfold zyH;split
 ·exact bJ _ (by decide)
 ·exact hA
def addL(a0 a1 a2 a3 b0 b1 b2 b3:Int):LV:=
 [.int .u64 (ad a0 b0 0),.int .u64 (ad a1 b1 (ac a0 b0 0)),.int .u64 (ad a2 b2 (ac a1 b1 (ac a0 b0 0))),.int .u64 (ad a3 b3 (ac a2 b2 (ac a1 b1 (ac a0 b0 0))))]
def addC(a0 a1 a2 a3 b0 b1 b2 b3:Int):Int:=ac a3 b3 (ac a2 b2 (ac a1 b1 (ac a0 b0 0)))
theorem ymD(A B:Nat)(hA:A<zaE)(hB:B<zaE):
  addL (lm A 0) (lm A 1) (lm A 2) (lm A 3) (lm B 0) (lm B 1) (lm B 2) (lm B 3)=numL ((A+B)%zaE) /\
  addC (lm A 0) (lm A 1) (lm A 2) (lm A 3) (lm B 0) (lm B 1) (lm B 2) (lm B 3)=((A+B)/zaE:Nat):=by
 have eA:=zwP A;have eB:=zwP B;rw[aR hA]at eA;rw[aR hB]at eB;have a0:=U_lm A 0;have a1:=U_lm A 1;have a2:=U_lm A 2;have a3:=U_lm A 3;have b0:=U_lm B 0;have b1:=U_lm B 1;have b2:=U_lm B 2;have b3:=U_lm B 3;unfold addL addC;generalize lm A 0=x0 at *;generalize lm A 1=x1 at *;generalize lm A 2=x2 at *;generalize lm A 3=x3 at *;generalize lm B 0=y0 at *;generalize lm B 1=y1 at *;generalize lm B 2=y2 at *;generalize lm B 3=y3 at *;have c0:=C_ac x0 y0 0;have e0:=zrW a0 b0 C1_0;have u0:=U_ad x0 y0 0;generalize ac x0 y0 0=s0 at *;generalize ad x0 y0 0=d0 at *;have c1:=C_ac x1 y1 s0;have e1:=zrW a1 b1 c0;have u1:=U_ad x1 y1 s0;generalize ac x1 y1 s0=s1 at *;generalize ad x1 y1 s0=d1 at *;have c2:=C_ac x2 y2 s1;have e2:=zrW a2 b2 c1;have u2:=U_ad x2 y2 s1;generalize ac x2 y2 s1=s2 at *;generalize ad x2 y2 s1=d2 at *;have c3:=C_ac x3 y3 s2;have e3:=zrW a3 b3 c2;have u3:=U_ad x3 y3 s2;generalize ac x3 y3 s2=s3 at *;generalize ad x3 y3 s2=d3 at *;unfold zaE at *;have key:((A+B:Nat):Int)=d0+d1*18446744073709551616+d2*340282366920938463463374607431768211456+d3*6277101735386680763835789423207666416102355444464034512896+s3*115792089237316195423570985008687907853269984665640564039457584007913129639936:=by omega
 have hb:0<=d0+d1*18446744073709551616+d2*340282366920938463463374607431768211456+d3*6277101735386680763835789423207666416102355444464034512896/\d0+d1*18446744073709551616+d2*340282366920938463463374607431768211456+d3*6277101735386680763835789423207666416102355444464034512896<115792089237316195423570985008687907853269984665640564039457584007913129639936:=by unfold U at *;omega
 clear eA eB e0 e1 e2 e3;refine⟨yfX u0 u1 u2 u3 ?_,?_⟩
 ·unfold C1 at *;omega
 ·unfold C1 at *;omega
theorem sum_eq{A B p:Nat}(hp:Mod p)(hA:A<p)(hB:B<p):zyH ((A+B)%zaE) p ((A+B)/zaE:Nat)=(A+B)%p:=by
 have hpl:=hp.2;have h2:(A+B)/zaE<=1:=Nat.le_of_lt_succ (Nat.div_lt_of_lt_mul (by omega));rw[yjD (bJ _ (by decide)) hp (by unfold C1;generalize (A+B)/zaE=q at *;omega)]
 ·congr 1;have:=Nat.mod_add_div (A+B) zaE;simp only[cP];rw[dD];exact this
 ·have:=Nat.mod_add_div (A+B) zaE;simp only[cP];rw[dD,this];omega
theorem neg_eq{A p:Nat}(hp:Mod p)(hA:A<p)(h0:A≠0):(p+(zaE-A))%zaE=(p-A)%p:=by have hpl:=hp.2;rw[show p+(zaE-A)=(p-A)+zaE by omega,iH,aR (by omega),aR (by omega)]
section
def dval:List Nat->Nat
 |[]=>0|d::l=>d+65536*dval l
def digs(n:Nat):List Nat:=if h:n=0 then []else n%65536::digs (n/65536)
termination_by n
decreasing_by exact fU (dA h) (by decide)
def DL(l:List Nat):Prop:=∀d∈l,d<65536
theorem ztX:digs 0=[]:=by rw[digs];simp
theorem znO{n:Nat}(h:n≠0):digs n=n%65536::digs (n/65536):=by rw[digs];simp[h]
theorem yzS(n:Nat):DL (digs n):=by
 induction n using eP with
 |_ n ih=>
  by_cases h:n=0
  ·subst h;rw[ztX];intro d hd;cases hd
  ·rw[znO h];intro d hd;rcases aV.1 hd with rfl|hd
   ·exact bJ _ (by decide)
   ·exact ih (n/65536) (fU (dA h) (by decide)) d hd
theorem ydN(n:Nat):dval (digs n)=n:=by
 induction n using eP with
 |_ n ih=>
  by_cases h:n=0
  ·subst h;rw[ztX];rfl
  ·rw[znO h,dval,ih (n/65536) (fU (dA h) (by decide))];omega
theorem DL.nil:DL []:=fun d hd=>by cases hd
theorem DL.cons{d:Nat}{l:List Nat}(h:d<65536)(hl:DL l):DL (d::l):=fun x hx=>by
 rcases aV.1 hx with rfl|hx
 ·exact h
 ·exact hl x hx
theorem DL.tail{d:Nat}{l:List Nat}(h:DL (d::l)):d<65536/\DL l:=⟨h d (by simp),fun x hx=>h x (by simp[hx])⟩
theorem DL.append{a b:List Nat}(ha:DL a)(hb:DL b):DL (a++b):=fun x hx=>by
 rcases List.mem_append.1 hx with h|h
 ·exact ha x h
 ·exact hb x h
theorem DL.take{a:List Nat}(ha:DL a)(n:Nat):DL (a.take n):=fun x hx=>ha x (List.mem_of_mem_take hx)
theorem DL.get{l:List Nat}(h:DL l){i d:Nat}(hi:l[i]? = some d):d<65536:=h d (List.mem_of_getElem? hi)
theorem yqS:∀{l:List Nat},DL l->dval l<65536^l.length
 |[],_=>by simp[dval]
 |d::l,h=>by have:=yqS h.tail.2;have:=h.tail.1;simp only[dval,aO,cQ];omega
theorem ygZ(a b:List Nat):dval (a++b)=dval a+65536^a.length*dval b:=by
 induction a with
 |nil=>simp[dval]|cons d a ih=>simp only[List.cons_append,dval,ih,aO,cQ,eG,cS];congr 2;rw[<-iW,dD 65536]
theorem zwW:∀{l:List Nat},DL l->l.getLast? ≠ some 0->digs (dval l)=l
 |[],_,_=>by rw[dval,ztX]
 |[d],h,ht=>by have hd:d≠0:=fun e=>ht (by simp[e]);have:=h.tail.1;rw[dval,dval,Nat.mul_zero,eO,znO hd,fK this,ztX,aR this]
 |d::d'::l,h,ht=>by
  have ih:=zwW h.tail.2 (by simpa using ht);have hd:=h.tail.1;have hv:dval (d'::l)≠0:=fun e=>by rw[e,ztX]at ih;cases ih
  have h1:dval (d::d'::l)=d+65536*dval (d'::l):=rfl;rw[h1,znO (by omega),dY,aR hd,Nat.add_mul_div_left _ _ (by decide),fK hd,aP,ih]
theorem yvC{n:Nat}:(digs n).getLast? ≠ some 0:=by
 induction n using eP with
 |_ n ih=>
  by_cases h:n=0
  ·subst h;rw[ztX];simp
  ·rw[znO h];by_cases h2:n/65536=0
   ·rw[h2,ztX];simp;omega
   ·have:=ih (n/65536) (fU (dA h) (by decide));rw[znO h2]at this ⊢;simpa using this
theorem xaG(n:Nat):n<65536^(digs n).length:=by have:=yqS (yzS n);rwa[ydN]at this
theorem xaY{n:Nat}(h:n≠0):65536^((digs n).length-1)<=n:=by
 have hne:digs n≠[]:=by rw[znO h];simp
 have h1:=ygZ ((digs n).take ((digs n).length-1)) ((digs n).drop ((digs n).length-1));have hlen:0<(digs n).length:=iX.2 hne;have hl:((digs n).take ((digs n).length-1)).length=(digs n).length-1:=by simp
 rw[List.take_append_drop,ydN,hl]at h1;have h2:dval ((digs n).drop ((digs n).length-1))≠0:=by have ht:=yvC (n:=n);rw[List.getLast?_eq_getElem?]at ht;rw[List.drop_eq_getElem_cons (by omega),List.drop_of_length_le (by omega),dval,dval];rw[List.getElem?_eq_getElem (by omega)]at ht;intro e;exact ht (by congr 1)
 have h3:65536^((digs n).length-1)*1<=65536^((digs n).length-1)*dval ((digs n).drop ((digs n).length-1)):=Nat.mul_le_mul_left _ (dA h2);omega
theorem yfC{n k:Nat}(h:n<65536^k):(digs n).length<=k:=by
 by_cases h0:n=0
 ·subst h0;rw[ztX];simp
 ·rcases fZ k (digs n).length with h2|h2
  ·have:=xaY h0;have h3:65536^k<=65536^((digs n).length-1):=fI (by decide) (by omega);omega
  ·exact h2
theorem zrH{a b:Nat}(h:a<=b):(digs a).length<=(digs b).length:=yfC (cE h (xaG b))
def cmpI(a b:Nat):Int:=if a<b then -1 else if a=b then 0 else 1
theorem yqP{m:Int}(h:m=0):digs (modN m)=[65535,65535,65535,65535,65535,65535,0,0,0,0,0,0,1,0,65535,65535]:=by
 have e:modN m=dval [65535,65535,65535,65535,65535,65535,0,0,0,0,0,0,1,0,65535,65535]:=by unfold modN;rw[show(m==0)=true by simpa using h];rfl
 rw[e];exact zwW (by intro d hd;revert d hd;decide) (by decide)
theorem ypG{m:Int}(h:m≠0):digs (modN m)=[9553,64611,51906,62393,40580,42775,64173,48358,65535,65535,65535,65535,0,0,65535,65535]:=by
 have e:modN m=dval [9553,64611,51906,62393,40580,42775,64173,48358,65535,65535,65535,65535,0,0,65535,65535]:=by unfold modN;rw[show(m==0)=false by simpa using h];rfl
 rw[e];exact zwW (by intro d hd;revert d hd;decide) (by decide)
theorem DL.snoc{l:List Nat}(h:DL l){d:Nat}(hd:d<65536):DL (l++[d]):=h.append (DL.cons hd DL.nil)
end
section
def fl(f:Nat->Nat)(n:Nat):List Nat:=(bQ n).map f
end
section
theorem yvN(m:Int):(digs (modN m)).length=16:=by
 by_cases h:m=0
 ·rw[yqP h];rfl
 ·rw[ypG h];rfl
end
section
theorem quoI{k d:Nat}(hk:0<k)(_hd:0<d)(h:k<4611686018427387904):IntKind.i64.wrap (((k:Int)-1).tdiv (d:Int))=(((k-1)/d:Nat):Int):=by rw[show(k:Int)-1=((k-1:Nat):Int) by omega,<-Int.ofNat_tdiv];have:(k-1)/d<=k-1:=dQ _ _;generalize (k-1)/d=q at *;exact wr64 (by omega) (by omega)
theorem remI{k d:Nat}(hk:0<k):((k:Int)-1).tmod (d:Int)=(((k-1)%d:Nat):Int):=by rw[show(k:Int)-1=((k-1:Nat):Int) by omega,<-eT]
theorem xeD{n:Nat}(h:((n:Int)==1)=true):n=1:=by have:=eq_of_beq h;omega
theorem bit_f{n:Nat}(h:((n:Int)==1)=false):n≠1:=fun e=>by subst e;cases h
theorem yaY(E k:Nat)(hk:0<k):E/2^(k-1)=E/2^k*2+E/2^(k-1)%2:=by
 have e1:E/2^k=E/2^(k-1)/2:=by
  conv=>lhs;rw[show k=k-1+1 by omega]
  rw[cQ,fB]
 rw[e1];omega
theorem pow_b0{A E k p:Nat}(hk:0<k)(hb:E/2^(k-1)%2≠1):A^(E/2^k)%p*(A^(E/2^k)%p)%p=A^(E/2^(k-1))%p:=by
 rw[<-eJ,<-gI];congr 2;have:=yaY E k hk;have:E/2^(k-1)%2=0:=by omega
 omega
theorem pow_b1{A E k p:Nat}(hk:0<k)(hb:E/2^(k-1)%2=1):A^(E/2^k)%p*(A^(E/2^k)%p)%p*A%p=A^(E/2^(k-1))%p:=by rw[<-eJ,<-gI,eJ,iF,<-eJ,<-cQ];congr 2;have:=yaY E k hk;omega
theorem zxQ(m:Int):1<modN m:=by rcases zmT m with h|h<;>rw[h]<;>decide
end
theorem zsH{x y b:Int}(hx:U x)(hy:U y)(hb:C1 b)(w:World):(callFunc 161 ([.int .u64 x,.int .u64 y,.int .u64 b]:LV).toArray).run aD w = .ok (.value (.tuple ([.int .u64 (sd x y b),.int .u64 (sb x y b)]:LV).toArray)) w:=by
 obtain⟨X,rfl⟩:=cF hx.1;obtain⟨Y,rfl⟩:=cF hy.1
 have key:∀B:Nat,B<=1->(callFunc 161 #[.int .u64 X,.int .u64 Y,.int .u64 (B:Int)]).run aD w = .ok (.value (.tuple #[.int .u64 (sd X Y B),.int .u64 (sb X Y B)])) w:=fun B hB=>by
  rw[run_callFunc_extern (f:=161) Tryz.func161 (by kernel_rfl) (by kernel_rfl) (by kernel_rfl) (e:=sub64Entry) (by kernel_rfl),run_sub64 X Y B hB];simp only[Result.andThen];have h1:(((X+18446744073709551616-Y-B)%18446744073709551616:Nat):Int)=sd X Y B:=by unfold sd U at *;omega
  have h2:((if X<Y+B then 1 else 0:Nat):Int)=sb X Y B:=by unfold sb;split<;>split<;>omega
  rw[h1,h2]
 rcases hb with rfl|rfl
 ·exact key 0 (by omega)
 ·exact key 1 (by omega)
theorem zeJ{x y b:Int}(hx:U x)(hy:U y)(hb:C1 b)(w:World):(callFunc 102 ([.int .u64 x,.int .u64 y,.int .u64 b]:LV).toArray).run aD w = .ok (.value (.tuple ([.int .u64 (ad x y b),.int .u64 (ac x y b)]:LV).toArray)) w:=by show(callFunc 102 #[.int .u64 x,.int .u64 y,.int .u64 b]).run aD w=_;rw[run_callFunc_extern (f:=102) Tryz.func102 (by kernel_rfl) (by kernel_rfl) (by kernel_rfl) (e:=add64Entry) (by kernel_rfl),run_add64 x y b hx.1 hy.1 (by unfold C1 at hb;omega) (by unfold C1 at hb;omega),ac_eq hx hy hb];rfl
theorem yeZ{A B:Nat}(hA:A<zaE)(hB:B<zaE):(numL A=numL B)↔A=B:=by
 refine⟨fun h=>?_,fun h=>by rw[h]⟩;have:=yuJ h
 rwa[aR hA,aR hB]at this
theorem zqT{P:Program}{T E:TypeId}(hu:P.underlying T=some (.array 4 E))(he:P.underlying E=some (.int .u64))(hs:∀w,(sizeOf E).run P w = .ok 1 w)(ha:∀w,(isAgg E).run P w = .ok false w) (A B:Nat) (hA:A<zaE) (hB:B<zaE) (d:Nat) (w:World):(Op.equalIn (d+2) T (.agg (numL A).toArray) (.agg (numL B).toArray)).run P w = .ok (A==B) w:=by
 have key:(lm A 0=lm B 0/\lm A 1=lm B 1/\lm A 2=lm B 2/\lm A 3=lm B 3)↔A=B:=by rw[<-yeZ hA hB];unfold numL;simp
 have e2:∀(a b:Int) (w:World),(Op.equalIn (d+1) E (.int .u64 a) (.int .u64 b)).run P w = .ok (a==b) w:=fun a b w=>by simp[Op.equalIn,Go.underlying,he]
 have hb:(A==B)=(lm A 0==lm B 0&&(lm A 1==lm B 1&&(lm A 2==lm B 2&&lm A 3==lm B 3))):=by rw[fS];simp only[beq_iff_eq,aL];exact key.symm
 rw[hb];unfold Op.equalIn;simp only[Sem.run_bind,Go.underlying,run_program,Result.andThen_ok,hu,Sem.run_pure,hs];simp only[numL,part,Std.Legacy.Range.forIn_eq_forIn_range',Std.Legacy.Range.size];simp[e2,ha,List.range'_succ];cases h0:lm A 0==lm B 0<;>cases h1:lm A 1==lm B 1<;>cases h2:lm A 2==lm B 2<;>cases h3:lm A 3==lm B 3<;>simp_all
theorem ycD{P:Program}{T E:TypeId}(hu:P.underlying T=some (.array 4 E))(he:P.underlying E=some (.int .u64))(hs:∀w,(sizeOf E).run P w = .ok 1 w)(ha:∀w,(isAgg E).run P w = .ok false w) (A B:Nat) (hA:A<zaE) (hB:B<zaE) (w:World):(Op.equal T (.agg (numL A).toArray) (.agg (numL B).toArray)).run P w = .ok (A==B) w:=
 zqT hu he hs ha A B hA hB 9998 w
section
variable {P:Program}{w:World}{e:Operand->Value}{x y:Operand}{T T' E:TypeId}{ty:TypeId}{pos:String}{aft:Array Edge}{dst:Option Tmp}{g:Option (Nat×Bool)}{t:Bool}
theorem zrA(hu:P.underlying T=some (.array 4 E))(he:P.underlying E=some (.int .u64))(hs:∀w,(sizeOf E).run P w = .ok 1 w)(ha:∀w,(isAgg E).run P w = .ok false w)(hg:P.eqGuardType P.depth T=false) {A B:Nat} (hx:e x = .agg (numL A).toArray) (hy:e y = .agg (numL B).toArray) (hA:A<zaE) (hB:B<zaE) (h:(A==B)=t):(execOp e ⟨dst,.binOp .eql T x y T',ty,pos,aft,g⟩).run P w = .ok (.value (.bool t)) w:=by simp only[execOp,hx,hy,eqGuard,binOp,Sem.run_bind,Result.andThen_ok,ycD hu he hs ha A B hA hB,Sem.run_pure,h];simp[hg]
theorem ygY(hu:P.underlying T=some (.array 4 E))(he:P.underlying E=some (.int .u64))(hs:∀w,(sizeOf E).run P w = .ok 1 w)(ha:∀w,(isAgg E).run P w = .ok false w)(hg:P.eqGuardType P.depth T=false) {A B:Nat} (hx:e x = .agg (numL A).toArray) (hy:e y = .agg (numL B).toArray) (hA:A<zaE) (hB:B<zaE) (h:(A != B)=t):(execOp e ⟨dst,.binOp .neq T x y T',ty,pos,aft,g⟩).run P w = .ok (.value (.bool t)) w:=by have h':(!(A==B))=t:=h;simp only[execOp,hx,hy,eqGuard,binOp,Sem.run_bind,Result.andThen_ok,ycD hu he hs ha A B hA hB,Sem.run_pure,h'];simp[hg]
end
end Go.Proofs.YtmbcolbbekbccaaGreat
namespace Go.Proofs
open Go.Shelf
def Tryz.lays264_ren:Go.Shelf.Ren:=⟨fun|264=>139|n=>n,fun|53=>22|46=>129|n=>n,fun|n=>n⟩
theorem Tryz.lays264:Go.Proofs.Lays.n264 aD Tryz.lays264_ren:={mixed:=by kernel_rfl,f264:=Tryz.func139.trans (congrArg some (by kernel_rfl)),t46:=Tryz.underlying129,a46:=Tryz.isAgg129,z46:=Tryz.sizeOf129,v46:=Tryz.zeroValue129,t53:=Tryz.underlying22,a53:=Tryz.isAgg22,z53:=Tryz.sizeOf22,v53:=Tryz.zeroValue22 }
open Go.RowKit Go.Lib in
theorem Tryz.bits_Mul64(x y:Nat)(hx:x<18446744073709551616)(hy:y<18446744073709551616)(w:World):Calls aD 139 #[.int .u64 x,.int .u64 y] w fun e w'=>e = .returned (.tuple #[.int .u64 ((x*y/18446744073709551616:Nat):Int),.int .u64 ((x*y%18446744073709551616:Nat):Int)])/\w'=w:=Any.bits_Mul64 Tryz.lays264 x y hx hy w
end Go.Proofs
namespace Go.Proofs.YtmbcolbbekbccaaGreat
open Go Go.RowKit
def mh(x y:Int):Int:=x*y/18446744073709551616
def ml(x y:Int):Int:=x*y%18446744073709551616
theorem yyW{x y:Int}(hx:U x)(hy:U y):0<=x*y/\x*y<=340282366920938463426481119284349108225:=by
 refine⟨Int.mul_nonneg hx.1 hy.1,?_⟩;have h1:x<=18446744073709551615:=by have:=hx.2;omega
 have h2:y<=18446744073709551615:=by have:=hy.2;omega
 have:=Int.mul_le_mul h1 h2 hy.1 (by decide);simpa using this
theorem U_mh{x y:Int}(hx:U x)(hy:U y):0<=mh x y/\mh x y<=18446744073709551614:=by have:=yyW hx hy;unfold mh;generalize x*y=p at *;omega
theorem U_ml(x y:Int):U (ml x y):=by unfold U ml;omega
theorem ymK(x y:Int):mh x y*18446744073709551616+ml x y=x*y:=by unfold mh ml;omega
theorem yzZ{x y:Int}(hx:U x)(hy:U y)(w:World):Calls aD 139 #[.int .u64 x,.int .u64 y] w fun e w'=>e = .returned (.tuple ([.int .u64 (mh x y),.int .u64 (ml x y)]:LV).toArray)/\Ext w w':=by obtain⟨X,rfl⟩:=cF hx.1;obtain⟨Y,rfl⟩:=cF hy.1;refine(Tryz.bits_Mul64 X Y (by have:=hx.2;omega) (by have:=hy.2;omega) w).mono ?_;rintro e w' ⟨he,rfl⟩;refine⟨?_,Ext.refl _⟩;rw[he];rfl
theorem xbU{x y c:Int}(hx:U x)(hy:U y)(_hc:U c):IntKind.u64.wrap (mh x y+ac (ml x y) c 0)=mh x y+ac (ml x y) c 0:=by
 have h1:=U_mh hx hy;have h2:=C_ac (ml x y) c 0;refine wru rfl ?_ ?_
 ·unfold C1 at h2;omega
 ·show _<(2:Int)^64;unfold C1 at h2;omega
theorem zvN{x y c o:Int}(hx:U x)(hy:U y)(hc:U c)(ho:U o):
  IntKind.u64.wrap (mh x y+ac (ml x y) c 0+ac o (ad (ml x y) c 0) 0)=mh x y+ac (ml x y) c 0+ac o (ad (ml x y) c 0) 0 /\
  U (mh x y+ac (ml x y) c 0+ac o (ad (ml x y) c 0) 0) /\
  (mh x y+ac (ml x y) c 0+ac o (ad (ml x y) c 0) 0)*18446744073709551616+ad o (ad (ml x y) c 0) 0=x*y+c+o:=by
 have h1:=yyW hx hy;have h2:=ymK x y;have h3:=U_ml x y;have h4:=U_mh hx hy;have e1:=zrW h3 hc C1_0;have u1:=U_ad (ml x y) c 0;have c1:=C_ac (ml x y) c 0;have e2:=zrW ho u1 C1_0;have u2:=U_ad o (ad (ml x y) c 0) 0;have c2:=C_ac o (ad (ml x y) c 0) 0;generalize ad o (ad (ml x y) c 0) 0=o' at *;generalize ac o (ad (ml x y) c 0) 0=k2 at *;generalize ad (ml x y) c 0=l1 at *;generalize ac (ml x y) c 0=k1 at *;generalize mh x y=hi at *;generalize ml x y=lo at *;generalize x*y=p at *;have hb:U (hi+k1+k2):=by unfold U C1 at *;omega
 refine⟨wru rfl hb.1 hb.2,hb,by omega⟩
theorem pw64:(2:Nat)^64=18446744073709551616:=by kernel_rfl
theorem pw0:(2:Nat)^(64*0)=1:=by kernel_rfl
theorem pw1:(2:Nat)^(64*1)=18446744073709551616:=by kernel_rfl
theorem pw2:(2:Nat)^(64*2)=340282366920938463463374607431768211456:=by kernel_rfl
theorem pw3:(2:Nat)^(64*3)=6277101735386680763835789423207666416102355444464034512896:=by kernel_rfl
theorem pw4:(2:Nat)^(64*4)=115792089237316195423570985008687907853269984665640564039457584007913129639936:=by kernel_rfl
theorem pw5:(2:Nat)^(64*5)=2135987035920910082395021706169552114602704522356652769947041607822219725780640550022962086936576:=by kernel_rfl
theorem pw6:(2:Nat)^(64*6)=39402006196394479212279040100143613805079739270465446667948293404245721771497210611414266254884915640806627990306816:=by kernel_rfl
theorem pw7:(2:Nat)^(64*7)=726838724295606890549323807888004534353641360687318060281490199180639288113397923326191050713763565560762521606266177933534601628614656:=by kernel_rfl
def outL(f:Nat->Int):LV:=[.int .u64 (f 0),.int .u64 (f 1),.int .u64 (f 2),.int .u64 (f 3),.int .u64 (f 4),.int .u64 (f 5),.int .u64 (f 6),.int .u64 (f 7)]
def wv(t:Nat):Int:=18446744073709551616^t
theorem xaL(t:Nat):wv (t+1)=wv t*18446744073709551616:=by unfold wv;rw[Int.pow_succ]
theorem wv_0:wv 0=1:=rfl
def val8(f:Nat->Int):Int:=f 0+f 1*wv 1+f 2*wv 2+f 3*wv 3+f 4*wv 4+f 5*wv 5+f 6*wv 6+f 7*wv 7
def upd(f:Nat->Int)(t:Nat)(v:Int):Nat->Int:=fun s=>if s=t then v else f s
theorem yeK{f:Nat->Int}{t s:Nat}{v:Int}(h:s≠t):upd f t v s=f s:=by simp[upd,h]
theorem U_upd{f:Nat->Int}{t:Nat}{v:Int}(hf:∀s,U (f s))(hv:U v):∀s,U (upd f t v s):=fun s=>by unfold upd;split;exact hv;exact hf s
theorem yrJ{t:Nat}(h:t<8):t=0∨t=1∨t=2∨t=3∨t=4∨t=5∨t=6∨t=7:=by omega
theorem yhF(f:Nat->Int)(t:Nat)(v:Int)(h:t<8):val8 (upd f t v)=val8 f+(v-f t)*wv t:=by rcases yrJ h with rfl|rfl|rfl|rfl|rfl|rfl|rfl|rfl<;>simp only[val8,upd,Nat.reduceEqDiff,if_true,if_false,wv_0]<;>grind
theorem yqI(f:Nat->Int)(t:Nat)(h:t<8):piece (outL f) t 1=[.int .u64 (f t)]:=by rcases yrJ h with rfl|rfl|rfl|rfl|rfl|rfl|rfl|rfl<;>rfl
theorem yoD(f:Nat->Int)(t:Nat)(v:Int)(h:t<8):lay (outL f) t [.int .u64 v]=outL (upd f t v):=by rcases yrJ h with rfl|rfl|rfl|rfl|rfl|rfl|rfl|rfl<;>rfl
theorem zpV(A t:Nat)(h:t<4):piece (numL A) t 1=[.int .u64 (lm A t)]:=by rcases(by omega:t=0∨t=1∨t=2∨t=3)with rfl|rfl|rfl|rfl<;>rfl
def low(A t:Nat):Int:=((A%(18446744073709551616^t):Nat):Int)
theorem yhZ(A t:Nat):low A (t+1)=low A t+lm A t*wv t:=by
 unfold low lm wv;have e:(2:Nat)^(64*t)=18446744073709551616^t:=by rw[iG]
 rw[e,show(2:Nat)^64=18446744073709551616 from rfl,cQ,Nat.mod_mul];rw[Int.natCast_add,Int.natCast_mul,Int.natCast_pow];rw[Int.mul_comm];rfl
theorem low_0(A:Nat):low A 0=0:=by unfold low;simp[Nat.mod_one]
theorem low_4{A:Nat}(h:A<zaE):low A 4=(A:Int):=by unfold low;rw[show(18446744073709551616:Nat)^4=zaE from rfl,aR h]
theorem wv_add(k j:Nat):wv (k+j)=wv k*wv j:=by unfold wv;rw[Int.pow_add]
theorem yvK{f f':Nat->Int}{x c c' o':Int}{k j B:Nat}(h:val8 f'+c*wv (k+j)=val8 f+x*low B j*wv k)(hs:c'*18446744073709551616+o'=x*lm B j+c+f' (k+j))(hkj:k+j<8):
  val8 (upd f' (k+j) o')+c'*wv (k+(j+1))=val8 f+x*low B (j+1)*wv k:=by
 rw[yhF _ _ _ hkj,<-cS,xaL,yhZ];have e:=wv_add k j;generalize wv (k+j)=p at *;generalize wv k=q at *;generalize wv j=r at *;generalize val8 f'=v' at *;generalize val8 f=v at *;generalize f' (k+j)=o at *;generalize lm B j=y at *;generalize low B j=l at *
 grind
theorem yuI{f f':Nat->Int}{c:Int}{k A B:Nat}(h:val8 f'+c*wv (k+4)=val8 f+lm A k*low B 4*wv k)(h0:val8 f=low A k*(B:Int))(hB:B<zaE)(hz:f' (k+4)=0)(hk:k<4):
  val8 (upd f' (k+4) c)=low A (k+1)*(B:Int):=by
 rw[yhF _ _ _ (by omega),yhZ,hz];rw[low_4 hB]at h;generalize wv (k+4)=p at *;generalize wv k=q at *;generalize val8 f'=v' at *;generalize val8 f=v at *;generalize low A k=l at *;generalize lm A k=x at *
 grind
theorem yoK{f:Nat->Int}(hf:∀s,U (f s)){X:Nat}(h:val8 f=(X:Int)):outL f=outL (lm X):=by have e1:wv 1=18446744073709551616:=rfl;have e2:wv 2=340282366920938463463374607431768211456:=rfl;have e3:wv 3=6277101735386680763835789423207666416102355444464034512896:=rfl;have e4:wv 4=115792089237316195423570985008687907853269984665640564039457584007913129639936:=rfl;have e5:wv 5=2135987035920910082395021706169552114602704522356652769947041607822219725780640550022962086936576:=rfl;have e6:wv 6=39402006196394479212279040100143613805079739270465446667948293404245721771497210611414266254884915640806627990306816:=rfl;have e7:wv 7=726838724295606890549323807888004534353641360687318060281490199180639288113397923326191050713763565560762521606266177933534601628614656:=rfl;unfold val8 at h;rw[e1,e2,e3,e4,e5,e6,e7]at h;have h0:=hf 0;have h1:=hf 1;have h2:=hf 2;have h3:=hf 3;have h4:=hf 4;have h5:=hf 5;have h6:=hf 6;have h7:=hf 7;unfold outL lm U at *;simp only[pw0,pw1,pw2,pw3,pw4,pw5,pw6,pw7,pw64,eV];generalize f 0=a0 at *;generalize f 1=a1 at *;generalize f 2=a2 at *;generalize f 3=a3 at *;generalize f 4=a4 at *;generalize f 5=a5 at *;generalize f 6=a6 at *;generalize f 7=a7 at *;clear e1 e2 e3 e4 e5 e6 e7;simp only[List.cons.injEq,Value.int.injEq,true_and,and_true];refine⟨?_,?_,?_,?_,?_,?_,?_,?_⟩<;>omega
theorem xeA{X:Nat}(h:X<zaE*zaE):val8 (lm X)=(X:Int):=by have e1:wv 1=18446744073709551616:=rfl;have e2:wv 2=340282366920938463463374607431768211456:=rfl;have e3:wv 3=6277101735386680763835789423207666416102355444464034512896:=rfl;have e4:wv 4=115792089237316195423570985008687907853269984665640564039457584007913129639936:=rfl;have e5:wv 5=2135987035920910082395021706169552114602704522356652769947041607822219725780640550022962086936576:=rfl;have e6:wv 6=39402006196394479212279040100143613805079739270465446667948293404245721771497210611414266254884915640806627990306816:=rfl;have e7:wv 7=726838724295606890549323807888004534353641360687318060281490199180639288113397923326191050713763565560762521606266177933534601628614656:=rfl;unfold val8 lm zaE at *;rw[e1,e2,e3,e4,e5,e6,e7];simp only[pw0,pw1,pw2,pw3,pw4,pw5,pw6,pw7,pw64,eV];clear e1 e2 e3 e4 e5 e6 e7;omega
def bval(l:Bs):Nat:=l.foldl (fun n b=>n*256+b.toNat) 0
theorem ycA:bval []=0:=rfl
theorem zpL(l:Bs)(b:UInt8):bval (l++[b])=bval l*256+b.toNat:=by simp[bval]
theorem yqJ{l:Bs}{i:Nat}{b:UInt8}(h:l[i]? = some b):bval (l.take (i+1))=bval (l.take i)*256+b.toNat:=by rw[List.take_add_one,h];exact zpL _ _
theorem zxN(a:Bs):∀b:Bs,bval (a++b)=bval a*256^b.length+bval b:=by
 intro b;induction h:b.length generalizing b with
 |zero=>obtain rfl:b=[]:=eH.1 h;simp[ycA]
 |succ n ih=>
  obtain⟨c,x,rfl⟩:∃c x,b=c++[x]:=by refine⟨b.dropLast,b.getLast (by intro e;subst e;cases h),(gX _).symm⟩
  have hn:c.length=n:=by simpa using h
  rw[<-List.append_assoc,zpL,ih c hn,zpL,cQ,bI,iW,cS]
theorem xbM:∀(l:Bs),bval l<256^l.length:=by
 intro l;induction h:l.length generalizing l with
 |zero=>obtain rfl:l=[]:=eH.1 h;decide
 |succ n ih=>
  obtain⟨c,x,rfl⟩:∃c x,l=c++[x]:=by refine⟨l.dropLast,l.getLast (by intro e;subst e;cases h),(gX _).symm⟩
  have hn:c.length=n:=by simpa using h
  have h1:=ih c hn;have h2:=x.toNat_lt;rw[zpL,cQ];omega
theorem zzK{l:Bs}{n:Nat}(h:l.length<=n):bval l<256^n:=bK (xbM l) (fI (by decide) h)
theorem ylN(l:Bs):∀j:Nat,bval (aN j 0++l)=bval l:=by
 intro j;have h:∀j,bval (aN j 0)=0:=by
  intro j;induction j with
  |zero=>rfl|succ j ih=>rw[List.replicate_succ',zpL,ih];rfl
 rw[zxN,h,eN,aP]
theorem ylS{n:Nat}(h:n<72057594037927936):IntKind.u64.wrap ((n:Int)*2^(min ((8:Int).toNat) IntKind.u64.bits))=((n*256:Nat):Int):=by
 have e:(2:Int)^(min ((8:Int).toNat) IntKind.u64.bits)=256:=by decide
 rw[e,show(n:Int)*256=((n*256:Nat):Int) by omega]
 exact ysG rfl (by
  have:(2:Nat)^IntKind.u64.bits=18446744073709551616:=by decide
  omega)
theorem yuQ{n:Nat}{b:UInt8}(h:n<72057594037927936):bits .or .u64 ((n*256:Nat):Int) (b.toNat:Int)=((n*256+b.toNat:Nat):Int):=by
 have h2:=b.toNat_lt
 exact joinN (n:=8) rfl h2 (by
  have:(2:Nat)^IntKind.u64.bits=18446744073709551616:=by decide
  omega)
theorem u8_64(b:UInt8):IntKind.u64.wrap (b.toNat:Int)=(b.toNat:Int):=ysG rfl (cA b.toNat_lt (by decide))
theorem ysE{l:Bs}{i:Nat}(hi:i<l.length)(hl:l.length<=8):bval (l.take i)<72057594037927936:=
 zzK (n:=7) (by rw[List.length_take];omega)
def ofOK(m:Int)(l:Bs):Bool:=l.length==32&&decide (bval l<modN m)
def ofV(m:Int)(l:Bs):Nat:=bif ofOK m l then bval l else 0
theorem ofV_lt(m:Int)(l:Bs):ofV m l<modN m:=by
 unfold ofV;cases h:ofOK m l with
 |false=>exact(zbE m).pos|true=>simp only[ofOK,aL,zD]at h;exact h.2
theorem zsX(m:Int)(l:Bs):ofV m l<zaE:=cA (ofV_lt m l) (zbE m).lt
theorem word_0{A n p:Nat}(hA:A<p)(hn:n<18446744073709551616):(A*2^(64-64)+n/2^64)%p=A:=by rw[fK hn];simp[aR hA]
theorem yrV{A n p k:Nat}(hk:0<k)(hk2:k<=64):(((A*2^(64-k)+n/2^k)%p+(A*2^(64-k)+n/2^k)%p)%p+n/2^(k-1)%2)%p=(A*2^(64-(k-1))+n/2^(k-1))%p:=by
 have h1:=yaY n k hk;rw[gR,cS,gR,Nat.add_left_comm,gR];congr 1;have h2:2^(64-(k-1))=2^(64-k)*2:=by rw[<-cQ];congr 1;omega
 rw[h2,<-iW];omega
theorem ytM(n k:Nat)(hk:0<k)(hk2:k<=64):((n:Nat):Int).fdiv (2^(min (((k:Int)-1).toNat) IntKind.u64.bits))=((n/2^(k-1):Nat):Int):=by
 rw[show((k:Int)-1).toNat=((k-1:Nat):Int).toNat by omega]
 exact shrN (by
  have:IntKind.u64.bits=64:=rfl
  omega)
theorem ypU{n:Nat}(hn:n<18446744073709551616):bits .and .u64 (n:Int) 1=((n%2:Nat):Int):=
 maskN (k:=.u64) rfl 1 (by
  have:(2:Nat)^IntKind.u64.bits=18446744073709551616:=by decide
  omega) (by decide)
theorem ygT(m:Int):2<modN m:=by rcases zmT m with h|h<;>rw[h]<;>decide
theorem rem8(n:Nat):(n:Int).tmod 8=((n%8:Nat):Int):=(eT n 8).symm
theorem ytJ(j:Nat)(l:Bs):[0]++(aN j 0++l)=aN (j+1) 0++l:=by rw[List.replicate_succ];rfl
theorem ywB{s:Bs}{n p:Nat}(hn:8*n+8<=s.length):(bval (s.take (8*n))%p*2^64+bval ((s.drop (8*n)).take 8))%p=bval (s.take (8*(n+1)))%p:=by
 have h:s.take (8*(n+1))=s.take (8*n)++(s.drop (8*n)).take 8:=by rw[eG,List.take_add]
 have hl:((s.drop (8*n)).take 8).length=8:=by simp;omega
 rw[h,zxN,hl,fV,eJ,iF,<-eJ,<-fV]
theorem red_t{s:Bs}{n q:Nat}(hs:s.length=8*q)(h:(s.drop (8*n) != [])=true):8*n+8<=s.length:=by
 have h1:s.drop (8*n)≠[]:=by simpa using h
 have h2:0<(s.drop (8*n)).length:=iX.2 h1;rw[bU]at h2;omega
theorem red_f{s:Bs}{n:Nat}(h:(s.drop (8*n) != [])=false):s.take (8*n)=s:=by
 have h1:s.drop (8*n)=[]:=by simpa using h
 rw[List.drop_eq_nil_iff]at h1;exact List.take_of_length_le h1
theorem ywM{l:Bs}(h:l.length<=8):bval l<18446744073709551616:=zzK (n:=8) h
def be(n A:Nat):Bs:=(bQ n).map fun i=>UInt8.ofNat (A/2^(8*(n-1-i)))
theorem HP.skip{w0 w:World}{x y:Ent}{L:List Ent}(h:HP w0 w (x::y::L)):HP w0 w (x::L):=by
 refine⟨h.below,fun k b cs T hk=>?_,fun i j b cs T cs' T' hi hj=>?_⟩
 ·cases k with
  |zero=>exact h.blk 0 b cs T hk|succ k=>exact h.blk (k+2) b cs T hk
 ·cases i with
  |zero=>cases j with
   |zero=>rfl|succ j=>have:=h.inj 0 (j+2) b cs T cs' T' hi hj;omega
  |succ i=>cases j with
   |zero=>have:=h.inj (i+2) 0 b cs T cs' T' hi hj;omega|succ j=>have:=h.inj (i+2) (j+2) b cs T cs' T' hi hj;omega
theorem ylY{A E:Nat}(m:Int)(hE:E<zaE):A^(E/2^256)%modN m=1:=by rw[fK (show E<2^256 from hE),fH,aR (zxQ m)]
theorem yoN{k:Nat}(hk:0<k)(h:k<=256):IntKind.i64.wrap (((k:Int)-1).tdiv 64)=(((k-1)/64:Nat):Int):=quoI hk (by decide) (by omega)
theorem ynI{k:Nat}(hk:0<k):((k:Int)-1).tmod 64=(((k-1)%64:Nat):Int):=remI hk
theorem ynU(E i r:Nat)(hr:r<64):(lm E i).fdiv (2^(min ((r:Int).toNat) IntKind.u64.bits))=((E/2^(64*i)%2^64/2^r:Nat):Int):=by
 unfold lm
 exact shrN (by
  have:IntKind.u64.bits=64:=rfl
  omega)
theorem xaE(E i:Nat):E/2^(64*(i/64))%2^64/2^(i%64)%2=E/2^i%2:=by
 have e:(2:Nat)^i=2^(64*(i/64))*2^(i%64):=by rw[<-gI];congr 1;omega
 rw[e,<-fB];generalize E/2^(64*(i/64))=X;have h:i%64<64:=bJ _ (by decide);generalize i%64=r at h;have e3:(2:Nat)^64=2^r*2^(64-r):=by rw[<-gI];congr 1;omega
 rw[e3,Nat.mod_mul_right_div_self,show(2:Nat)^(64-r)=2*2^(63-r) by rw[<-Nat.pow_succ'];congr 1;omega,Nat.mod_mul_right_mod]
theorem yrA(E i:Nat):bits .and .u64 ((E/2^(64*(i/64))%2^64/2^(i%64):Nat):Int) 1=((E/2^i%2:Nat):Int):=by rw[ypU (cE (dQ _ _) (bJ _ (by decide))),xaE]
def invV(m:Int)(A:Nat):Nat:=if A%modN m=0 then 0 else A^(modN m-2)%modN m
def invE(m:Int)(A:Nat):Int:=if A%modN m=0 then 61 else 0
theorem zpU(m:Int)(A:Nat):invV m A<zaE:=by
 unfold invV;split
 ·exact zdG
 ·exact cA (bJ _ (zbE m).pos) (zbE m).lt
theorem xaP(m:Int):lay (numL (modN m)) 0 [.int .u64 (IntKind.u64.wrap (lm (modN m) 0-2))]=numL (modN m-2):=by
 rcases zmT m with h|h<;>rw[h]
 ·rw[show numL PP=([.int .u64 18446744073709551615,.int .u64 4294967295,.int .u64 0,.int .u64 18446744069414584321]:LV)from yyB.symm,show lm PP 0=18446744073709551615 from rfl];exact(ziE (a:=18446744073709551613) (b:=4294967295) (c:=0) (d:=18446744069414584321) (PP-2) (by decide) (by decide) (by decide) (by decide) (by decide))
 ·rw[show numL NN=([.int .u64 17562291160714782033,.int .u64 13611842547513532036,.int .u64 18446744073709551615,.int .u64 18446744069414584320]:LV)from yyY.symm,show lm NN 0=17562291160714782033 from rfl];exact(ziE (a:=17562291160714782031) (b:=13611842547513532036) (c:=18446744073709551615) (d:=18446744069414584320) (NN-2) (by decide) (by decide) (by decide) (by decide) (by decide))
theorem low_lt(m:Int):modN m-2<zaE:=cE (Nat.sub_le _ _) (zbE m).lt
theorem beqN{a b:Nat}(h:(a==b)=true):a=b:=by simpa using h
theorem bneN{a b:Nat}(h:(a==b)=false):a≠b:=by simpa using h
def Pr(p:Nat):Prop:=2<=p/\∀d,d ∣ p->d=1∨d=p
theorem Pr.cop{p a:Nat}(h:Pr p)(ha:¬p ∣ a):iR p a:=by
 rcases h.2 _ (Nat.gcd_dvd_left p a)with h1|h1
 ·exact h1
 ·exact absurd (h1▸Nat.gcd_dvd_right p a) ha
theorem Pr.mul{p a b:Nat}(h:Pr p)(hab:p ∣ a*b):p ∣ a∨p ∣ b:=by
 by_cases ha:p ∣ a
 ·exact .inl ha
 ·exact .inr ((h.cop ha).dvd_of_dvd_mul_left hab)
def chs:Nat->Nat->Nat
 |_,0=>1|0,_+1=>0|n+1,k+1=>chs n k+chs n (k+1)
theorem ywC(n:Nat):chs n 0=1:=by cases n<;>rfl
theorem zyO:∀{n k:Nat},n<k->chs n k=0
 |_,0,h=>absurd h (Nat.not_lt_zero _)|0,_+1,_=>rfl|n+1,k+1,h=>by rw[chs,zyO (by omega),zyO (by omega)]
theorem yhU:∀n:Nat,chs n n=1
 |0=>rfl|n+1=>by rw[chs,yhU n,zyO (by omega)]
theorem yaG:∀n k:Nat,(k+1)*chs (n+1) (k+1)=(n+1)*chs n k
 |0,0=>rfl|0,k+1=>by rw[zyO (by omega),zyO (by omega)];simp
 |n+1,0=>by have h:=yaG n 0;have e:chs (n+1+1) (0+1)=chs (n+1) 0+chs (n+1) (0+1):=rfl;rw[ywC]at h;rw[e,ywC];omega
 |n+1,k+1=>by
  have h1:=yaG n k;have h2:=yaG n (k+1)
  rw[show chs (n+1+1) (k+1+1)=chs (n+1) (k+1)+chs (n+1) (k+1+1)from rfl,eG,h2,show(k+1+1)*chs (n+1) (k+1)=(k+1)*chs (n+1) (k+1)+chs (n+1) (k+1) by rw[Nat.succ_mul],h1,
   show chs (n+1) (k+1)=chs n k+chs n (k+1)from rfl]
  rw[show n+1+1=(n+1)+1 from rfl,Nat.succ_mul (n+1),eG];omega
def sm(f:Nat->Nat):Nat->Nat
 |0=>0|n+1=>sm f n+f n
theorem yjC{f g:Nat->Nat}:∀{n:Nat},(∀i,i<n->f i=g i)->sm f n=sm g n
 |0,_=>rfl|n+1,h=>by rw[sm,sm,yjC fun i hi=>h i (by omega),h n (by omega)]
theorem yyO(f g:Nat->Nat):∀n:Nat,sm (fun i=>f i+g i) n=sm f n+sm g n
 |0=>rfl|n+1=>by rw[sm,sm,sm,yyO f g n];omega
theorem yxZ(f:Nat->Nat)(c:Nat):∀n:Nat,sm (fun i=>c*f i) n=c*sm f n
 |0=>rfl|n+1=>by rw[sm,sm,yxZ f c n,eG]
theorem yaB(f:Nat->Nat):∀n:Nat,sm f (n+1)=f 0+sm (fun i=>f (i+1)) n
 |0=>by simp[sm]
 |n+1=>by rw[sm,yaB f n,sm];omega
theorem binom(a:Nat):∀n:Nat,(a+1)^n=sm (fun k=>chs n k*a^k) (n+1)
 |0=>by simp[sm,chs]
 |n+1=>by
  have h1:=yaB (fun k=>chs (n+1) k*a^k) (n+1);have h2:sm (fun i=>chs (n+1) (i+1)*a^(i+1)) (n+1)=sm (fun i=>a*(chs n i*a^i)+chs n (i+1)*a^(i+1)) (n+1):=yjC fun i _=>by show(chs n i+chs n (i+1))*a^(i+1)=_;rw[bI,cQ,dD (a^i) a,iI]
  rw[yyO,yxZ]at h2;have h3:=yaB (fun k=>chs n k*a^k) (n+1);have h4:sm (fun k=>chs n k*a^k) (n+1+1)=sm (fun k=>chs n k*a^k) (n+1)+0:=by rw[sm,zyO (by omega:n<n+1),eN]
  simp only[ywC,fH]at h1 h3;rw[cQ,binom a n,h1,h2,eG,cI,dD];omega
theorem yyI{p:Nat}{f:Nat->Nat}:∀{n:Nat},(∀i,i<n->p ∣ f i)->p ∣ sm f n
 |0,_=>⟨0,rfl⟩|n+1,h=>Nat.dvd_add (yyI fun i hi=>h i (by omega)) (h n (by omega))
theorem Pr.chs{p k:Nat}(h:Pr p)(hk:k+1<p):p ∣ chs p (k+1):=by
 obtain⟨q,rfl⟩:∃q,p=q+1:=⟨p-1,by have:=h.1;omega⟩;have h1:=yaG q k;have h2:q+1 ∣ (k+1)*Go.Proofs.YtmbcolbbekbccaaGreat.chs (q+1) (k+1):=⟨_,h1⟩;rcases h.mul h2 with h3|h3
 ·exact absurd (fN (by omega) h3) (by omega)
 ·exact h3
theorem Pr.dream{p:Nat}(h:Pr p)(a:Nat):(a+1)^p%p=(a^p+1)%p:=by obtain⟨q,rfl⟩:∃q,p=q+1:=⟨p-1,by have:=h.1;omega⟩;rw[binom,sm,yaB,ywC,yhU];obtain⟨c,hc⟩:=yyI (p:=q+1) (f:=fun i=>Go.Proofs.YtmbcolbbekbccaaGreat.chs (q+1) (i+1)*a^(i+1)) (n:=q) (fun i hi=>gJ (h.chs (by omega)) ⟨_,rfl⟩);rw[hc,show 1*a^0+(q+1)*c+1*a^(q+1)=(a^(q+1)+1)+(q+1)*c by simp;omega,dY]
theorem Pr.fermat{p:Nat}(h:Pr p):∀a:Nat,a^p%p=a%p
 |0=>by rw[Nat.zero_pow (by have:=h.1;omega)]
 |a+1=>by rw[h.dream,fV,h.fermat a,<-fV]
theorem zqJ{p a b:Nat}(h:a%p=b%p):p ∣ a-b:=by
 by_cases hab:b<=a
 ·exact(Nat.dvd_iff_mod_eq_zero).2 (Nat.sub_mod_eq_zero_of_mod_eq h)
 ·rw[Nat.sub_eq_zero_of_le (by omega)];exact⟨0,rfl⟩
theorem Pr.fermat1{p a:Nat}(h:Pr p)(ha:¬p ∣ a):a^(p-1)%p=1:=by
 have h1:=h.fermat a;have hp:=h.1;have h2:a^p=a*a^(p-1):=by rw[<-Nat.pow_succ'];congr 1;omega
 have h3:p ∣ a*(a^(p-1)-1):=by rw[Nat.mul_sub,cI,<-h2];exact zqJ h1
 have h4:=(h.mul h3).resolve_left ha;have h5:0<a:=dA fun h0=>ha (h0▸⟨0,rfl⟩);have h6:0<a^(p-1):=Nat.pow_pos h5;obtain⟨c,hc⟩:=h4;have h7:a^(p-1)=1+p*c:=by omega
 rw[h7,dY,aR (by omega)]
theorem xeB{a d x y:Nat}(hx:a^x%d=1%d)(hy:a^y%d=1%d):a^(iJ x y)%d=1%d:=by
 induction x,y using Nat.gcd.induction with
 |H0 n=>rw[Nat.gcd_zero_left];exact hy|H1 m n hm ih=>
  rw[Nat.gcd_rec];refine ih ?_ hx;have h1:a^n=(a^m)^(n/m)*a^(n%m):=by rw[<-iG,<-gI,fC]
  rw[h1,eJ,fW,hx,<-fW,Nat.one_pow,<-eJ,dG]at hy;exact hy
theorem zuG:∀(n:Nat),2<=n->∃p,Pr p/\p ∣ n:=by
 intro n;induction n using eP with
 |_ n ih=>
  intro h2;by_cases h:Pr n
  ·exact⟨n,h,Nat.dvd_refl _⟩
  ·have:∃d,d ∣ n/\d≠1/\d≠n:=by
    refine Classical.byContradiction fun hn=>h ⟨h2,fun d hd=>?_⟩;by_cases h1:d=1
    ·exact .inl h1
    ·exact .inr (Classical.byContradiction fun h3=>hn ⟨d,hd,h1,h3⟩)
   obtain⟨d,hd,h1,h3⟩:=this;have hle:=fN (by omega) hd;have h0:d≠0:=fun h0=>by subst h0;have:=Nat.eq_zero_of_zero_dvd hd;omega
   obtain⟨p,hp,hpd⟩:=ih d (by omega) (by omega);exact⟨p,hp,gJ hpd hd⟩
theorem yhK{n:Nat}(h2:2<=n)(h:∀d,Pr d->d ∣ n->n<d*d):Pr n:=by
 refine⟨h2,fun d hd=>?_⟩;by_cases h1:d=1
 ·exact .inl h1
 by_cases h3:d=n
 ·exact .inr h3
 exfalso;obtain⟨e,he⟩:=hd;have hd0:d≠0:=fun h0=>by subst h0;simp at he;omega
 have he0:e≠0:=fun h0=>by subst h0;simp at he;omega
 have he1:e≠1:=fun h0=>by subst h0;simp at he;omega
 obtain⟨p,hp,hpd⟩:=zuG d (by omega);obtain⟨q,hq,hqe⟩:=zuG e (by omega);have hp2:=h p hp (gJ hpd ⟨e,he⟩);have hq2:=h q hq (gJ hqe ⟨d,by rw[he,dD]⟩);have hp3:=fN (by omega) hpd;have hq3:=fN (by omega) hqe;have h4:n<d*d:=bK hp2 (dE hp3 hp3);have h5:n<e*e:=bK hq2 (dE hq3 hq3);rw[he]at h4 h5;have h6:=Nat.lt_of_mul_lt_mul_left h4;have h7:=Nat.lt_of_mul_lt_mul_right h5;omega
def pm(a n:Nat):Nat->Nat->Nat
 |0,_=>1%n|f+1,e=>if e=0 then 1%n else if e%2=1 then(pm a n f (e/2))^2*a%n else(pm a n f (e/2))^2%n
theorem xcR(a n:Nat):∀(f e:Nat),e<2^f->pm a n f e=a^e%n
 |0,e,h=>by
  obtain rfl:e=0:=by omega
  rfl
 |f+1,e,h=>by
  rw[pm];split
  ·next h0=>subst h0;rfl
  ·have hd:e/2<2^f:=by rw[cQ]at h;omega
   rw[xcR a n f _ hd];have hm:=fC e 2;split
   ·next h1=>
    have e1:e/2*2+1=e:=by omega
    rw[<-iP,<-fW,iP,<-iG,<-cQ];show a^(e/2*2+1)%n=_;rw[e1]
   ·next h1=>
    have e1:e/2*2=e:=by omega
    rw[<-fW,<-iG,e1]
def pl:List Nat->Nat
 |[]=>1|q::l=>q*pl l
theorem pock{n:Nat}(a:Nat)(l:List Nat)(R f:Nat)(h2:2<=n)(hl:∀q∈l,Pr q)(hF:pl l*R+1=n)(hs:n<pl l*pl l)(hf:n<2^f)(h1:pm a n f (n-1)=1) (hg:l.all (fun q=>iJ (pm a n f ((n-1)/q)+n-1) n==1)=true):Pr n:=by
 refine yhK h2 fun d hd hdn=>?_;have hd2:=hd.1;have hdv:∀x,x%n%d=x%d:=fun x=>Nat.mod_mod_of_dvd x hdn;rw[xcR _ _ _ _ (by omega)]at h1;have hy:a^(n-1)%d=1%d:=by rw[<-hdv,h1]
 have had:¬d ∣ a:=fun h=>by
  have h3:a^(n-1)%d=0:=by rw[fW,dR h,Nat.zero_pow (by omega),Nat.zero_mod]
  rw[hy,aR (by omega)]at h3;exact absurd h3 (by decide)
 have hx:a^(d-1)%d=1%d:=by rw[hd.fermat1 had,aR (by omega)]
 have hG:=xeB hx hy;obtain⟨h,hh⟩:=Nat.gcd_dvd_right (d-1) (n-1);have key:∀q∈l,¬q ∣ h:=by
  intro q hq hqh;obtain⟨c,hc⟩:=hqh;have hq0:0<q:=by have:=(hl q hq).1;omega
  have h3:(n-1)/q=iJ (d-1) (n-1)*c:=by rw[hh,hc,show iJ (d-1) (iJ (d-1) (n-1)*(q*c))=iJ (d-1) (n-1) by rw[<-hc,<-hh],iI,Nat.mul_div_cancel_left _ hq0]
  have h4:a^((n-1)/q)%d=1%d:=by rw[h3,iG,fW,hG,<-fW,Nat.one_pow]
  have h5:=List.all_eq_true.1 hg q hq;rw[xcR _ _ _ _ (by have:=dQ (n-1) q;omega)]at h5;have h6:d ∣ a^((n-1)/q)%n+n-1:=by
   have h7:(a^((n-1)/q)%n)%d=1%d:=by rw[hdv,h4]
   rw[aR (show 1<d by omega)]at h7;have h8:1<=a^((n-1)/q)%n:=by
    rcases Nat.eq_zero_or_pos (a^((n-1)/q)%n)with h0|h0
    ·rw[h0,Nat.zero_mod]at h7;exact absurd h7 (by decide)
    ·exact h0
   have h9:d ∣ a^((n-1)/q)%n-1:=zqJ (by rw[h7,aR (by omega)]);have:=Nat.dvd_add h9 hdn
   rwa[show a^((n-1)/q)%n-1+n=a^((n-1)/q)%n+n-1 by omega]at this
  have h10:=Nat.dvd_gcd h6 hdn;rw[beq_iff_eq.1 h5]at h10;have:=fN (by decide) h10;omega
 have hcop:∀l:List Nat,(∀q∈l,Pr q)->(∀q∈l,¬q ∣ h)->iR (pl l) h:=by
  intro l;induction l with
  |nil=>intro _ _;exact Nat.coprime_one_left _|cons q l ih=>intro hp hk;exact Nat.Coprime.mul_left ((hp q (by simp)).cop (hk q (by simp))) (ih (fun q hq=>hp q (by simp[hq])) (fun q hq=>hk q (by simp[hq])))
 have hFg:pl l ∣ iJ (d-1) (n-1):=by refine(hcop l hl key).dvd_of_dvd_mul_right (m:=iJ (d-1) (n-1)) ?_;rw[<-hh];exact⟨R,by omega⟩
 have hFd:pl l ∣ d-1:=gJ hFg (Nat.gcd_dvd_left _ _);have hle:=fN (by omega) hFd;exact bK hs (dE (by omega) (by omega))
def yjY(n:Nat):Nat->Nat->Bool
 |0,_=>false|f+1,d=>if n<d*d then true else if n%d=0 then false else yjY n f (d+1)
theorem yjB{n:Nat}:∀(f d:Nat),yjY n f d=true->(∀e,2<=e->e<d->¬e ∣ n)->∀e,2<=e->e ∣ n->n<e*e
 |0,d,h,_=>by simp[yjY]at h
 |f+1,d,h,hd=>by
  rw[yjY]at h;split at h
  ·next h1=>
   intro e he hen;rcases fZ e d with h2|h2
   ·exact absurd hen (hd e he h2)
   ·exact bK h1 (dE h2 h2)
  ·split at h
   ·cases h
   ·next h1 h2=>
    refine yjB f (d+1) h fun e he hlt hen=>?_;rcases fZ e d with h3|h3
    ·exact hd e he h3 hen
    ·obtain rfl:e=d:=by omega
     exact h2 (dR hen)
theorem zmY{n:Nat}(f:Nat)(h2:2<=n)(h:yjY n f 2=true):Pr n:=
 yhK h2 fun d hd hdn=>yjB f 2 h (fun e h1 h2=>absurd h1 (by omega)) d hd.1 hdn
theorem xfD:Pr 197:=zmY 19 (by decide) (by kernel_rfl)
theorem yzG:Pr 3677:=zmY 65 (by decide) (by kernel_rfl)
theorem zyG:Pr 66417393611:=by
 refine pock 2 [3677,197] 91690 256 (by decide) ?_ (by kernel_rfl) (by decide) (by decide) (by kernel_rfl) (by kernel_rfl);intro q hq;simp only[aV,cJ,or_false]at hq;rcases hq with rfl|rfl
 ·exact yzG
 ·exact xfD
theorem ztK:Pr 11290956913871:=by
 refine pock 2 [66417393611] 170 256 (by decide) ?_ (by kernel_rfl) (by decide) (by decide) (by kernel_rfl) (by kernel_rfl);intro q hq;simp only[aV,cJ,or_false]at hq;rcases hq with rfl
 ·exact zyG
theorem ysK:Pr 704251:=zmY 844 (by decide) (by kernel_rfl)
theorem yvE:Pr 78283:=zmY 284 (by decide) (by kernel_rfl)
theorem zqB:Pr 46076956964474543:=by
 refine pock 2 [704251,78283] 835774 256 (by decide) ?_ (by kernel_rfl) (by decide) (by decide) (by kernel_rfl) (by kernel_rfl);intro q hq;simp only[aV,cJ,or_false]at hq;rcases hq with rfl|rfl
 ·exact ysK
 ·exact yvE
theorem zeO:Pr 774023187263532362759620327192479577272145303:=by
 refine pock 2 [46076956964474543,11290956913871] 1487782449629334 256 (by decide) ?_ (by kernel_rfl) (by decide) (by decide) (by kernel_rfl) (by kernel_rfl);intro q hq;simp only[aV,cJ,or_false]at hq;rcases hq with rfl|rfl
 ·exact zqB
 ·exact ztK
theorem zdX:Pr 835945042244614951780389953367877943453916927241:=by
 refine pock 2 [774023187263532362759620327192479577272145303] 1080 256 (by decide) ?_ (by kernel_rfl) (by decide) (by decide) (by kernel_rfl) (by kernel_rfl);intro q hq;simp only[aV,cJ,or_false]at hq;rcases hq with rfl
 ·exact zeO
theorem zbV:Pr 115792089210356248762697446949407573530086143415290314195533631308867097853951:=by
 refine pock 2 [835945042244614951780389953367877943453916927241] 138516389665330497628477975950 256 (by decide) ?_ (by kernel_rfl) (by decide) (by decide) (by kernel_rfl) (by kernel_rfl);intro q hq;simp only[aV,cJ,or_false]at hq;rcases hq with rfl
 ·exact zdX
theorem ymB:Pr 104471:=zmY 328 (by decide) (by kernel_rfl)
theorem ylC:Pr 3969899:=by
 refine pock 2 [104471] 38 256 (by decide) ?_ (by kernel_rfl) (by decide) (by decide) (by kernel_rfl) (by kernel_rfl);intro q hq;simp only[aV,cJ,or_false]at hq;rcases hq with rfl
 ·exact ymB
theorem zuL:Pr 1002328039319:=by
 refine pock 2 [3969899] 252482 256 (by decide) ?_ (by kernel_rfl) (by decide) (by decide) (by kernel_rfl) (by kernel_rfl);intro q hq;simp only[aV,cJ,or_false]at hq;rcases hq with rfl
 ·exact ylC
theorem yzQ:Pr 3023:=zmY 59 (by decide) (by kernel_rfl)
theorem ymF:Pr 155317:=zmY 399 (by decide) (by kernel_rfl)
theorem yeU:Pr 191039911:=by
 refine pock 2 [155317] 1230 256 (by decide) ?_ (by kernel_rfl) (by decide) (by decide) (by kernel_rfl) (by kernel_rfl);intro q hq;simp only[aV,cJ,or_false]at hq;rcases hq with rfl
 ·exact ymF
theorem zpH:Pr 208150935158385979:=by
 refine pock 2 [191039911,3023] 360426 256 (by decide) ?_ (by kernel_rfl) (by decide) (by decide) (by kernel_rfl) (by kernel_rfl);intro q hq;simp only[aV,cJ,or_false]at hq;rcases hq with rfl|rfl
 ·exact yeU
 ·exact yzQ
theorem ziX:Pr 2624747550333869278416773953:=by
 refine pock 2 [208150935158385979] 12609828288 256 (by decide) ?_ (by kernel_rfl) (by decide) (by decide) (by kernel_rfl) (by kernel_rfl);intro q hq;simp only[aV,cJ,or_false]at hq;rcases hq with rfl
 ·exact zpH
theorem zbW:Pr 115792089210356248762697446949407573529996955224135760342422259061068512044369:=by
 refine pock 2 [2624747550333869278416773953,1002328039319] 44013050614219118277426053354358264624 256 (by decide) ?_ (by kernel_rfl) (by decide) (by decide) (by kernel_rfl) (by kernel_rfl);intro q hq;simp only[aV,cJ,or_false]at hq;rcases hq with rfl|rfl
 ·exact ziX
 ·exact zuL
theorem yvY:Pr PP:=zbV
theorem pr_NN:Pr NN:=zbW
theorem ymS(m:Int):Pr (modN m):=by
 rcases zmT m with h|h<;>rw[h]
 ·exact yvY
 ·exact pr_NN
theorem xbV{p X Y v:Nat}(hp:0<p)(h:(X+v)%p=(Y+v)%p):X%p=Y%p:=by
 have hv:=bJ v hp
 have e:∀Z,Z%p=((Z+v)%p+(p-v%p))%p:=fun Z=>by
  rw[gR];have h1:=fC v p;have:Z+v+(p-v%p)=Z+p*(v/p+1):=by rw[eG,cI];omega
  rw[this,dY]
 rw[e X,e Y,h]
def lev(p x y:Nat):Nat:=(if x<y then x+p else x)-y
theorem lev_lt{p x y:Nat}(h:x<p):lev p x y<p:=by unfold lev;split<;>omega
theorem xdA{p x y a u v:Nat}(hp:0<p)(hy:y<p)(hvu:v<=u)(hx:x*a%p=u%p)(hv:y*a%p=v%p):lev p x y*a%p=(u-v)%p:=by
 refine xbV (v:=v) hp ?_;rw[show u-v+v=u by omega,<-hx,fV,<-hv,<-fV,<-bI];unfold lev;split
 ·rw[show x+p-y+y=x+p by omega,bI,dY]
 ·rw[show x-y+y=x by omega]
structure InvI (m:Int) (A u v x y:Nat):Prop where
 u0:0<u
 v0:0<v
 cop:iR u v
 ul:u<=modN m
 vl:v<=modN m
 xl:x<modN m
 yl:y<modN m
 xa:x*A%modN m=u%modN m
 ya:y*A%modN m=v%modN m
theorem znC(m:Int):0<modN m:=(zbE m).pos
theorem InvI.swap{m:Int}{A u v x y:Nat}(h:InvI m A u v x y):InvI m A v u y x:=⟨h.v0,h.u0,h.cop.symm,h.vl,h.ul,h.yl,h.xl,h.ya,h.xa⟩
theorem InvI.ne{m:Int}{A u v x y:Nat}(h:InvI m A u v x y)(hu:u≠1∨v≠1):u≠v:=fun e=>by have h1:=h.cop;rw[e,Nat.coprime_self]at h1;omega
theorem InvI.sub{m:Int}{A u v x y:Nat}(h:InvI m A u v x y)(hvu:v<u):InvI m A (u-v) v (lev (modN m) x y) y:=by have hl:=h.ul;have hv:=h.v0;refine⟨by omega,h.v0,?_,by omega,h.vl,lev_lt h.xl,h.yl,xdA (znC m) h.yl (dU hvu) h.xa h.ya,h.ya⟩;have:=h.cop;unfold iR at *;rw[<-this,Nat.gcd_sub_self_left (dU hvu)]
theorem InvI.len{m:Int}{A u v x y:Nat}(h:InvI m A u v x y):(digs u).length<=16/\(digs v).length<=16/\(digs x).length<=16/\(digs y).length<=16:=by have e:=yvN m;exact⟨e▸zrH h.ul,e▸zrH h.vl,e▸zrH (dU h.xl),e▸zrH (dU h.yl)⟩
theorem ykH{p A x y:Nat}(_hp:Pr p)(hx:x<p)(hy:y<p)(h1:x*A%p=1)(h2:y*A%p=1):x=y:=by
 have e:∀z t:Nat,z<p->t*A%p=1->z=z*(t*A)%p:=fun z t hz h=>by rw[eJ,h,cI,iF,aR hz]
 rw[e x y hx h2]
 conv=>rhs;rw[e y x hy h1]
 rw[iI]
theorem yzR{p A:Nat}(hp:Pr p)(hA:A%p≠0):A^(p-2)%p*A%p=1:=by have h2:=hp.1;rw[iP,<-cQ,show(p-2).succ=p-1 by omega];exact hp.fermat1 fun hd=>hA (dR hd)
theorem InvI.fin{m:Int}{A u v x y:Nat}(h:InvI m A u v x y)(hA:A%modN m≠0)(hu:u=1):x=A^(modN m-2)%modN m:=by subst hu;refine ykH (ymS m) h.xl (bJ _ (znC m)) ?_ (yzR (ymS m) hA);rw[h.xa,aR (zxQ m)]
theorem eqT{a b:Nat}(h:a=b):(a==b)=true:=by simp[h]
theorem zwI{a b:Int}(ha:U a)(hb:U b):bits .or .u64 a b=((a.toNat|||b.toNat:Nat):Int):=by
 obtain⟨A,rfl⟩:=cF ha.1;obtain⟨B,rfl⟩:=cF hb.1;have hA:A<2^64:=by have:=ha.2;omega
 have hB:B<2^64:=by have:=hb.2;omega
 have h:(BitVec.ofInt 64 (A:Int)|||BitVec.ofInt 64 (B:Int)).toNat=A|||B:=by simp[BitVec.toNat_or];rw[aR (by omega),aR (by omega)]
 have h2:=fE hA hB;simp only[bits,cP];show IntKind.u64.wrap ((BitVec.ofInt 64 (A:Int)|||BitVec.ofInt 64 (B:Int)).toNat:Int)=_;rw[h];exact wru rfl (by omega) (by show _<(2:Int)^64;omega)
theorem U_or{a b:Int}(ha:U a)(hb:U b):U (bits .or .u64 a b):=by rw[zwI ha hb];have:=fE (n:=64) (show a.toNat<2^64 by have:=ha.2;have:=ha.1;omega) (show b.toNat<2^64 by have:=hb.2;have:=hb.1;omega);unfold U;omega
theorem ygH{a b:Int}(ha:U a)(hb:U b):bits .or .u64 a b=0↔a=0/\b=0:=by rw[zwI ha hb];have h0:(a.toNat|||b.toNat)=0↔a.toNat=0/\b.toNat=0:=Nat.or_eq_zero_iff;have:=ha.1;have:=hb.1;omega
theorem xeZ(X:Nat)(h:X<zaE*zaE):(bits .or .u64 (bits .or .u64 (bits .or .u64 (lm X 4) (lm X 5)) (lm X 6)) (lm X 7) != 0)=decide (zaE<=X):=by
 have h4:=U_lm X 4;have h5:=U_lm X 5;have h6:=U_lm X 6;have h7:=U_lm X 7;have e:bits .or .u64 (bits .or .u64 (bits .or .u64 (lm X 4) (lm X 5)) (lm X 6)) (lm X 7)=0↔lm X 4=0/\lm X 5=0/\lm X 6=0/\lm X 7=0:=by rw[ygH (U_or (U_or h4 h5) h6) h7,ygH (U_or h4 h5) h6,ygH h4 h5];simp only[and_assoc]
 have e2:(lm X 4=0/\lm X 5=0/\lm X 6=0/\lm X 7=0)↔X<zaE:=by unfold lm zaE at *;simp only[pw4,pw5,pw6,pw7,pw64];omega
 rw[fS];simp only[bne_iff_ne,ne_eq,zD];rw[e,e2];omega
theorem ytP(X i:Nat):lm X (4+i)=lm (X/zaE) i:=by unfold lm;rw[show 64*(4+i)=256+64*i by omega,gI,<-fB];rfl
theorem xdD(X:Nat):([.int .u64 (lm X 4),.int .u64 (lm X 5),.int .u64 (lm X 6),.int .u64 (lm X 7)]:LV)=numL (X/zaE):=by unfold numL;rw[<-ytP,<-ytP,<-ytP,<-ytP]
theorem xbK(X:Nat):([.int .u64 (lm X 0),.int .u64 (lm X 1),.int .u64 (lm X 2),.int .u64 (lm X 3)]:LV)=numL X:=rfl
theorem ytZ{d0 d1 d2 d3 d4 d5 d6 d7:Int}(h0:U d0)(h1:U d1)(h2:U d2)(h3:U d3)(h4:U d4)(h5:U d5)(h6:U d6)(h7:U d7){X:Nat} (h:d0+d1*wv 1+d2*wv 2+d3*wv 3+d4*wv 4+d5*wv 5+d6*wv 6+d7*wv 7=(X:Int)):([.int .u64 d0,.int .u64 d1,.int .u64 d2,.int .u64 d3,.int .u64 d4,.int .u64 d5,.int .u64 d6,.int .u64 d7]:LV)=outL (lm X):=by
 let f:Nat->Int:=fun s=>if s=0 then d0 else if s=1 then d1 else if s=2 then d2 else if s=3 then d3 else if s=4 then d4 else if s=5 then d5 else if s=6 then d6 else d7
 have hf:∀s,U (f s):=fun s=>by
  show U (if s=0 then d0 else if s=1 then d1 else if s=2 then d2 else if s=3 then d3 else if s=4 then d4 else if s=5 then d5 else if s=6 then d6 else d7)
  repeat' (split;assumption)
  assumption
 exact yoK (f:=f) hf h
def add8L(y0 y1 y2 y3 y4 y5 y6 y7 x0 x1 x2 x3:Int):LV:=
 [.int .u64 (ad y0 x0 0),.int .u64 (ad y1 x1 (ac y0 x0 0)),.int .u64 (ad y2 x2 (ac y1 x1 (ac y0 x0 0))),.int .u64 (ad y3 x3 (ac y2 x2 (ac y1 x1 (ac y0 x0 0)))),
  .int .u64 (ad y4 0 (ac y3 x3 (ac y2 x2 (ac y1 x1 (ac y0 x0 0))))),.int .u64 (ad y5 0 (ac y4 0 (ac y3 x3 (ac y2 x2 (ac y1 x1 (ac y0 x0 0)))))),
  .int .u64 (ad y6 0 (ac y5 0 (ac y4 0 (ac y3 x3 (ac y2 x2 (ac y1 x1 (ac y0 x0 0))))))),.int .u64 (ad y7 0 (ac y6 0 (ac y5 0 (ac y4 0 (ac y3 x3 (ac y2 x2 (ac y1 x1 (ac y0 x0 0))))))))]
theorem ytC(Y X:Nat)(hY:Y<zaE*zaE)(h:Y+X%zaE<zaE*zaE):
  add8L (lm Y 0) (lm Y 1) (lm Y 2) (lm Y 3) (lm Y 4) (lm Y 5) (lm Y 6) (lm Y 7) (lm X 0) (lm X 1) (lm X 2) (lm X 3)=outL (lm (Y+X%zaE)):=by
 have vY:=xeA hY;have vX:=zwP X;unfold val8 at vY;have y0:=U_lm Y 0;have y1:=U_lm Y 1;have y2:=U_lm Y 2;have y3:=U_lm Y 3;have y4:=U_lm Y 4;have y5:=U_lm Y 5;have y6:=U_lm Y 6;have y7:=U_lm Y 7;have x0:=U_lm X 0;have x1:=U_lm X 1;have x2:=U_lm X 2;have x3:=U_lm X 3;unfold add8L;generalize lm Y 0=a0 at *;generalize lm Y 1=a1 at *;generalize lm Y 2=a2 at *;generalize lm Y 3=a3 at *;generalize lm Y 4=a4 at *;generalize lm Y 5=a5 at *;generalize lm Y 6=a6 at *;generalize lm Y 7=a7 at *;generalize lm X 0=b0 at *;generalize lm X 1=b1 at *;generalize lm X 2=b2 at *;generalize lm X 3=b3 at *;have c0:=C_ac a0 b0 0;have e0:=zrW y0 x0 C1_0;have u0:=U_ad a0 b0 0;generalize ac a0 b0 0=s0 at *;generalize ad a0 b0 0=d0 at *;have c1:=C_ac a1 b1 s0;have e1:=zrW y1 x1 c0;have u1:=U_ad a1 b1 s0;generalize ac a1 b1 s0=s1 at *;generalize ad a1 b1 s0=d1 at *;have c2:=C_ac a2 b2 s1;have e2:=zrW y2 x2 c1;have u2:=U_ad a2 b2 s1;generalize ac a2 b2 s1=s2 at *;generalize ad a2 b2 s1=d2 at *;have c3:=C_ac a3 b3 s2;have e3:=zrW y3 x3 c2;have u3:=U_ad a3 b3 s2;generalize ac a3 b3 s2=s3 at *;generalize ad a3 b3 s2=d3 at *;have c4:=C_ac a4 0 s3;have e4:=zrW y4 U_0 c3;have u4:=U_ad a4 0 s3;generalize ac a4 0 s3=s4 at *;generalize ad a4 0 s3=d4 at *;have c5:=C_ac a5 0 s4;have e5:=zrW y5 U_0 c4;have u5:=U_ad a5 0 s4;generalize ac a5 0 s4=s5 at *;generalize ad a5 0 s4=d5 at *;have c6:=C_ac a6 0 s5;have e6:=zrW y6 U_0 c5;have u6:=U_ad a6 0 s5;generalize ac a6 0 s5=s6 at *;generalize ad a6 0 s5=d6 at *;have c7:=C_ac a7 0 s6;have e7:=zrW y7 U_0 c6;have u7:=U_ad a7 0 s6;generalize ac a7 0 s6=s7 at *;generalize ad a7 0 s6=d7 at *;refine ytZ u0 u1 u2 u3 u4 u5 u6 u7 ?_;have w1:wv 1=18446744073709551616:=rfl;have w2:wv 2=340282366920938463463374607431768211456:=rfl;have w3:wv 3=6277101735386680763835789423207666416102355444464034512896:=rfl;have w4:wv 4=115792089237316195423570985008687907853269984665640564039457584007913129639936:=rfl;have w5:wv 5=2135987035920910082395021706169552114602704522356652769947041607822219725780640550022962086936576:=rfl;have w6:wv 6=39402006196394479212279040100143613805079739270465446667948293404245721771497210611414266254884915640806627990306816:=rfl;have w7:wv 7=726838724295606890549323807888004534353641360687318060281490199180639288113397923326191050713763565560762521606266177933534601628614656:=rfl;rw[w1,w2,w3,w4,w5,w6,w7]at vY ⊢;unfold zaE C1 U at *;clear w1 w2 w3 w4 w5 w6 w7;have hX:((X%115792089237316195423570985008687907853269984665640564039457584007913129639936:Nat):Int)=b0+b1*18446744073709551616+b2*340282366920938463463374607431768211456+b3*6277101735386680763835789423207666416102355444464034512896:=vX.symm;generalize X%115792089237316195423570985008687907853269984665640564039457584007913129639936=R at *;clear x0 x1 x2 x3 y0 y1 y2 y3 y4 y5 y6 y7 vX c0 c1 c2 c3 c4 c5 c6;omega
theorem xaH{X p:Nat}(hp:Mod p)(h:zaE<=X):X/zaE*(zaE-p)+X%zaE<X:=by
 have h1:=fC X zaE;have h2:1<=X/zaE:=(Nat.le_div_iff_mul_le zdG).2 (by omega);have h3:=hp.lt;have h4:=hp.pos;have h5:X/zaE*(zaE-p)+X/zaE*p=X/zaE*zaE:=by rw[<-eG];congr 1;omega
 have h6:1<=X/zaE*p:=Nat.mul_pos h2 h4;rw[dD]at h1;omega
theorem yvV{X p:Nat}(hp:Mod p):(X/zaE*(zaE-p)+X%zaE)%p=X%p:=by
 have h1:=fC X zaE;have h3:=hp.lt;have h5:X/zaE*(zaE-p)+X/zaE*p=X/zaE*zaE:=by rw[<-eG];congr 1;omega
 rw[dD]at h1;have h7:X=(X/zaE*(zaE-p)+X%zaE)+X/zaE*p:=by omega
 calc (X/zaE*(zaE-p)+X%zaE)%p=((X/zaE*(zaE-p)+X%zaE)+X/zaE*p)%p:=by rw[Nat.add_mul_mod_self_right]
  _=X%p:=by rw[<-h7]
theorem HP.recast{w0 w:World}{L:List Ent}{k b:Nat}{cs cs':LV}{T:TypeId}(h:HP w0 w L)(hk:lk L k=some (b,cs,T))(e:cs=cs'):HP w0 w (st L k (b,cs',T)):=by subst e;exact h.set hk rfl rfl rfl rfl (h.blk k b cs T hk).1 (fun _ _=>rfl)
instance :NeZero PP:=⟨by decide⟩
abbrev Fp:Type:=Fin PP
def cl(a:Nat):Fp:=Fin.ofNat PP a
theorem yrK(a:Nat):(cl a).val=a%PP:=rfl
theorem cl_eq{a b:Nat}:cl a=cl b↔a%PP=b%PP:=by
 constructor
 ·intro h;exact congrArg Fin.val h
 ·intro h;exact Fin.ext h
theorem cl_of(x:Fp):cl x.val=x:=Fin.ext (aR x.isLt)
theorem xeV(a b:Nat):cl (a*b)=cl a*cl b:=Fin.ext (by rw[yrK,Fin.val_mul,yrK,yrK,<-eJ])
theorem yqH{a b:Fp}(h:a*b=0):a=0∨b=0:=by
 have h1:a.val*b.val%PP=0:=by
  have:=congrArg Fin.val h
  rwa[Fin.val_mul]at this
 rcases yvY.mul (Nat.dvd_of_mod_eq_zero h1)with h2|h2
 ·left;exact Fin.ext ((aR a.isLt)▸dR h2)
 ·right;exact Fin.ext ((aR b.isLt)▸dR h2)
def fi(a:Fp):Fp:=cl (a.val^(PP-2))
theorem yyD{a:Fp}(h:a≠0):fi a*a=1:=by
 have h0:a.val%PP≠0:=fun e=>h (Fin.ext (by rw[aR a.isLt]at e;exact e));have e:fi a*a=cl (a.val^(PP-2)*a.val):=by rw[xeV,cl_of];rfl
 rw[e];refine cl_eq.2 ?_;have h2:=yvY.1;rw[<-cQ,show(PP-2).succ=PP-1 by omega,yvY.fermat1 fun hd=>h0 (dR hd)];rfl
theorem yqX{a b c:Fp}(hc:c≠0)(h:a*c=b*c):a=b:=by
 have h1:(a-b)*c=0:=by grind
 rcases yqH h1 with h2|h2
 ·grind
 ·exact absurd h2 hc
def bb:Nat:=41058363725152142129326129780047268409114441015993725554835256314039467401291
def fb:Fp:=cl bb
def onE(x y:Fp):Prop:=y*y=x*(x*x)-3*x+fb
def yzC(x1 y1 x2 y2:Fp):Fp:=if x1=x2/\y1=y2 then(3*(x1*x1)-3)*fi (y1+y1)else(y2-y1)*fi (x2-x1)
structure Sl (x1 y1 x2 y2 s:Fp):Prop where
 chord:s*(x2-x1)=y2-y1
 tang:2*y1*s+s*s*(x2-x1)=x1*x1+x1*x2+x2*x2-3
theorem ne_neg{x1 y1 x2 y2:Fp}(h1:onE x1 y1)(h2:onE x2 y2)(hx:x1=x2):y1=y2∨y1 = - y2:=by
 unfold onE at h1 h2;subst hx;have h3:(y1-y2)*(y1+y2)=0:=by grind
 rcases yqH h3 with h|h
 ·left;grind
 ·right;grind
theorem sl_of{x1 y1 x2 y2:Fp}(h1:onE x1 y1)(h2:onE x2 y2)(hn:¬(x1=x2/\y1 = - y2)):Sl x1 y1 x2 y2 (yzC x1 y1 x2 y2):=by
 unfold yzC;by_cases hx:x1=x2
 ·have hy:y1=y2:=(ne_neg h1 h2 hx).resolve_right fun h=>hn ⟨hx,h⟩;subst hx;subst hy;rw[zH ⟨rfl,rfl⟩];have hz:y1+y1≠0:=fun h=>hn ⟨rfl,by grind⟩;have hi:=yyD hz;constructor
  ·grind
  ·grind
 ·rw[zG fun h=>hx h.1];have hd:x2-x1≠0:=fun h=>hx (by grind);have hi:=yyD hd;generalize fi (x2-x1)=i at hi;have hc:(y2-y1)*i*(x2-x1)=y2-y1:=by grind
  generalize (y2-y1)*i=s at hc;refine⟨hc,yqX hd ?_⟩;unfold onE at h1 h2;have e:y2=y1+s*(x2-x1):=by grind
  subst e
  grind
theorem HP.name{w0 w:World}{L:List Ent}{k b A:Nat}{T:TypeId}{G:Prop}(H:HP w0 w L)(hk:lk L k=some (b,numL A,T))(h:∀x,x=A->HP w0 w (st L k (b,numL x,T))->G):G:=
 h A rfl (HP.recast H hk rfl)
def fm(a b:Nat):Nat:=a*b%modN 0
def fa(a b:Nat):Nat:=(a+b)%modN 0
def fs(a b:Nat):Nat:=(a+(modN 0-b%modN 0))%modN 0
theorem xfL(a b:Nat):a*b%modN 0=fm a b:=rfl
theorem xeL(a b:Nat):(a+b)%modN 0=fa a b:=rfl
theorem fs_def(a b:Nat):(a+(modN 0-b%modN 0))%modN 0=fs a b:=rfl
theorem fm_lt(a b:Nat):fm a b<PP:=bJ _ (znC 0)
theorem fa_lt(a b:Nat):fa a b<PP:=bJ _ (znC 0)
theorem fs_lt(a b:Nat):fs a b<PP:=bJ _ (znC 0)
theorem zyL:PP<zaE:=yxY.lt
theorem zeK(a b:Nat):fm a b<zaE:=cA (fm_lt a b) zyL
theorem zfL(a b:Nat):fa a b<zaE:=cA (fa_lt a b) zyL
theorem zeP(a b:Nat):fs a b<zaE:=cA (fs_lt a b) zyL
theorem fa_0{a:Nat}(h:a<PP):fa a 0=a:=aR h
theorem fa_0'{a:Nat}:(fa a 0 != a)=false↔a<PP:=by
 constructor
 ·intro h;have h1:fa a 0=a:=by simpa using h
  rw[<-h1];exact fa_lt a 0
 ·intro h;rw[fa_0 h];simp
abbrev ptL(x y:Nat)(i:Bool):LV:=numL x++(numL y++[.bool i])
abbrev ptV(x y:Nat)(i:Bool):Value:=.agg (ptL x y i).toArray
abbrev jcL(x y z:Nat):LV:=numL x++(numL y++numL z)
abbrev jcV(x y z:Nat):Value:=.agg (jcL x y z).toArray
def onB(x y:Nat)(i:Bool):Bool:=bif i then x==0&&y==0 else decide (x<PP)&&decide (y<PP)&&(fm y y==fa (fs (fm x (fm x x)) (fm 3 x)) bb)
theorem xcB{x y:Nat}:onB x y true=(x==0&&y==0):=rfl
theorem yvI{x y:Nat}(h:(fa x 0 != x)=true):onB x y false=false:=by
 have h1:¬x<PP:=fun hl=>by rw[(fa_0').2 hl]at h;cases h
 simp[onB,h1]
theorem yvJ{x y:Nat}(h:(fa y 0 != y)=true):onB x y false=false:=by
 have h1:¬y<PP:=fun hl=>by rw[(fa_0').2 hl]at h;cases h
 simp[onB,h1]
theorem xeQ{x y:Nat}(hx:(fa x 0 != x)=false)(hy:(fa y 0 != y)=false):onB x y false=(fm y y==fa (fs (fm x (fm x x)) (fm 3 x)) bb):=by simp[onB,fa_0'.1 hx,fa_0'.1 hy]
def jtwX(x y z:Nat):Nat:=fs (fm (fm 3 (fm (fs x (fm z z)) (fa x (fm z z)))) (fm 3 (fm (fs x (fm z z)) (fa x (fm z z))))) (fa (fm 4 (fm x (fm y y))) (fm 4 (fm x (fm y y))))
def jtwY(x y z:Nat):Nat:=fs (fm (fm 3 (fm (fs x (fm z z)) (fa x (fm z z)))) (fs (fm 4 (fm x (fm y y))) (jtwX x y z))) (fm 8 (fm (fm y y) (fm y y)))
def jtwZ(y z:Nat):Nat:=fm 2 (fm y z)
abbrev Tr:Type:=Nat×Nat×Nat
abbrev jcT(t:Tr):LV:=jcL t.1 t.2.1 t.2.2
def jtw(t:Tr):Tr:=(jtwX t.1 t.2.1 t.2.2,jtwY t.1 t.2.1 t.2.2,jtwZ t.2.1 t.2.2)
def jad2(p q:Tr)(u s h r:Nat):Tr:=
 if h=0 then(if r=0 then jtw p else(0,0,0)) else
 (fs (fs (fm r r) (fm h (fm h h))) (fa (fm u (fm h h)) (fm u (fm h h))),
  fs (fm r (fs (fm u (fm h h)) (fs (fs (fm r r) (fm h (fm h h))) (fa (fm u (fm h h)) (fm u (fm h h)))))) (fm s (fm h (fm h h))),
  fm h (fm p.2.2 q.2.2))
def jad(p q:Tr):Tr:=if p.2.2=0 then q else if q.2.2=0 then p else
 jad2 p q (fm p.1 (fm q.2.2 q.2.2)) (fm p.2.1 (fm (fm q.2.2 q.2.2) q.2.2))
  (fs (fm q.1 (fm p.2.2 p.2.2)) (fm p.1 (fm q.2.2 q.2.2))) (fs (fm q.2.1 (fm (fm p.2.2 p.2.2) p.2.2)) (fm p.2.1 (fm (fm q.2.2 q.2.2) q.2.2)))
def jend(t:Tr):Nat×Nat×Bool:=if t.2.2%modN 0=0 then(0,0,true) else
 (fm t.1 (fm (invV 0 t.2.2) (invV 0 t.2.2)),fm t.2.1 (fm (fm (invV 0 t.2.2) (invV 0 t.2.2)) (invV 0 t.2.2)),false)
def jof(x y:Nat)(i:Bool):Tr:=bif i then(0,0,0)else(x,y,1)
abbrev ptT(t:Nat×Nat×Bool):LV:=ptL t.1 t.2.1 t.2.2
def fn(a:Nat):Nat:=(modN 0-a%modN 0)%modN 0
theorem fn_lt(a:Nat):fn a<PP:=bJ _ (znC 0)
theorem zfC(a:Nat):fn a<zaE:=cA (fn_lt a) zyL
abbrev Ap:Type:=Nat×Nat×Bool
def onT(t:Ap):Bool:=onB t.1 t.2.1 t.2.2
def cneg(t:Ap):Ap:=bif onT t then(t.1,fn t.2.1,t.2.2)else(0,0,false)
def cerr(t:Ap):Int:=bif onT t then 0 else 70
def cadd(p q:Ap):Ap:=bif onT p&&onT q then jend (jad (jof p.1 p.2.1 p.2.2) (jof q.1 q.2.1 q.2.2))else(0,0,false)
theorem jtw_0:jtw (0,0,0)=(0,0,0):=by kernel_rfl
def jmul(p:Tr)(n:Nat):Tr:=if h:n=0 then(0,0,0) else
 if n%2=1 then jad (jtw (jmul p (n/2))) p else jtw (jmul p (n/2))
termination_by n
decreasing_by all_goals exact fU (dA h) (by decide)
theorem ymO(p:Tr):jmul p 0=(0,0,0):=by rw[jmul];simp
theorem yxJ{p:Tr}{n:Nat}(h:n%2=1):jmul p n=jad (jtw (jmul p (n/2))) p:=by rw[jmul,dif_neg (by omega),zH h]
theorem xeM{p:Tr}{n:Nat}(h:n%2≠1):jmul p n=jtw (jmul p (n/2)):=by
 by_cases h0:n=0
 ·subst h0;rw[ymO];exact jtw_0.symm
 ·rw[jmul,dif_neg h0,zG h]
theorem yjE(K:Nat){k:Nat}(hk:0<k):K/2^(k-1)/2=K/2^k:=by rw[fB,<-cQ];congr 2;omega
theorem xbF{p:Tr}{K k:Nat}(hk:0<k)(hb:K/2^(k-1)%2=1):jad (jtw (jmul p (K/2^k))) p=jmul p (K/2^(k-1)):=by rw[yxJ hb,yjE K hk]
theorem xdR{p:Tr}{K k:Nat}(hk:0<k)(hb:K/2^(k-1)%2≠1):jtw (jmul p (K/2^k))=jmul p (K/2^(k-1)):=by rw[xeM hb,yjE K hk]
theorem yvG{p:Tr}{K:Nat}(hK:K<zaE):jmul p (K/2^256)=(0,0,0):=by rw[fK (show K<2^256 from hK),ymO]
def cmul(k:Nat)(p:Ap):Ap:=bif onT p then jend (jmul (jof p.1 p.2.1 p.2.2) k)else(0,0,false)
def TL(t:Tr):Prop:=t.1<zaE/\t.2.1<zaE/\t.2.2<zaE
theorem TL_0:TL (0,0,0):=⟨zdG,zdG,zdG⟩
theorem ztY(t:Tr):TL (jtw t):=⟨zeP _ _,zeP _ _,zeK _ _⟩
theorem zzJ{p q:Tr}(hp:TL p)(hq:TL q):TL (jad p q):=by
 unfold jad;split
 ·exact hq
 ·split
  ·exact hp
  ·unfold jad2;split
   ·split
    ·exact ztY _
    ·exact TL_0
   ·exact⟨zeP _ _,zeP _ _,zeK _ _⟩
theorem zvO{p:Tr}(hp:TL p)(n:Nat):TL (jmul p n):=by
 rw[jmul];split
 ·exact TL_0
 ·split
  ·exact zzJ (ztY _) hp
  ·exact ztY _
theorem xbW:1<zaE:=by decide
theorem ycC{x y:Nat}{i:Bool}(hx:x<zaE)(hy:y<zaE):TL (jof x y i):=by
 cases i
 ·exact⟨hx,hy,xbW⟩
 ·exact TL_0
def AL(t:Ap):Prop:=t.1<zaE/\t.2.1<zaE
theorem AL_0(i:Bool):AL (0,0,i):=⟨zdG,zdG⟩
theorem ysB(t:Tr):AL (jend t):=by
 unfold jend;split
 ·exact AL_0 _
 ·exact⟨zeK _ _,zeK _ _⟩
theorem zjL(p q:Ap):AL (cadd p q):=by
 unfold cadd;cases onT p&&onT q
 ·exact AL_0 _
 ·exact ysB _
theorem zjM(k:Nat)(p:Ap):AL (cmul k p):=by
 unfold cmul;cases onT p
 ·exact AL_0 _
 ·exact ysB _
theorem zjQ{p:Ap}(hp:AL p):AL (cneg p):=by
 unfold cneg;cases onT p
 ·exact AL_0 _
 ·exact⟨hp.1,zfC _⟩
theorem xbO:([.int .u64 0,.int .u64 0,.int .u64 0,.int .u64 0,.int .u64 0,.int .u64 0,.int .u64 0,.int .u64 0,.int .u64 0,.int .u64 0,.int .u64 0,.int .u64 0]:LV)=jcT (0,0,0):=by show([.int .u64 0,.int .u64 0,.int .u64 0,.int .u64 0]++([.int .u64 0,.int .u64 0,.int .u64 0,.int .u64 0]++[.int .u64 0,.int .u64 0,.int .u64 0,.int .u64 0]):LV)=_;rw[zoG]
section
variable {P:Program}{T N B E T':TypeId}{fs0:Array Field}
theorem ytH (hu : P.underlying T = some (.struct fs0)) (hf : fs0.toList.map (fun f => (f.name, f.type, f.offset)) = [("X", N, 0), ("Y", N, 4), ("Inf", B, 8)]) (hst : P.stoodInHeld T = false) (hN:P.underlying N=some (.array 4 E)) (he:P.underlying E=some (.int .u64)) (hs:∀w,(sizeOf E).run P w = .ok 1 w) (ha:∀w,(isAgg E).run P w = .ok false w) (gN:∀w,(isAgg N).run P w = .ok true w) (sN:∀w,(sizeOf N).run P w = .ok 4 w) (hB:P.underlying B=some .bool) (gB:∀w,(isAgg B).run P w = .ok false w) {x y x' y':Nat} {i i':Bool} (hx:x<zaE) (hy:y<zaE) (hx':x'<zaE) (hy':y'<zaE) (d:Nat) (w:World):(Op.equalIn (d+3) T (ptV x y i) (ptV x' y' i')).run P w = .ok (x==x'&&(y==y'&&i==i')) w:=by
 obtain⟨f0,f1,f2,rfl⟩:∃f0 f1 f2,fs0 = #[f0,f1,f2]:=by
  match fs0 with
  |⟨[a,b,c]⟩=>exact⟨a,b,c,rfl⟩|⟨[]⟩=>simp at hf|⟨[_]⟩=>simp at hf|⟨[_,_]⟩=>simp at hf|⟨_::_::_::_::_⟩=>simp at hf
 simp only[List.map_cons,List.map_nil,List.cons.injEq,Prod.mk.injEq,and_true]at hf;obtain⟨⟨n0,t0,o0⟩,⟨n1,t1,o1⟩,⟨n2,t2,o2⟩⟩:=hf;have e1:=zqT hN he hs ha x x' hx hx' d;have e2:=zqT hN he hs ha y y' hy hy' d;have e3:∀w,(Op.equalIn (d+2) B (.bool i) (.bool i')).run P w = .ok (i==i') w:=fun w=>by simp[Op.equalIn,Go.underlying,hB]
 have p1:∀(a b:Nat) (k:Bool) w,(part N (ptL a b k).toArray 0).run P w = .ok (.agg (numL a).toArray) w:=fun a b k w=>by simp[part,gN,sN,numL]
 have p2:∀(a b:Nat) (k:Bool) w,(part N (ptL a b k).toArray 4).run P w = .ok (.agg (numL b).toArray) w:=fun a b k w=>by simp[part,gN,sN,numL]
 have p3:∀(a b:Nat) (k:Bool) w,(part B (ptL a b k).toArray 8).run P w = .ok (.bool k) w:=fun a b k w=>by simp[part,gB,numL]
 unfold Op.equalIn;simp only[Sem.run_bind,Go.underlying,run_program,Result.andThen_ok,hu,Sem.run_pure,hst,cZ,if_false];simp[n0,n1,n2,t0,t1,t2,o0,o1,o2,p1,p2,p3,e1,e2,e3];cases h0:x==x'<;>cases h1:y==y'<;>cases h2:i==i'<;>simp_all
variable {e:Operand->Value}{dst:Option Tmp}{g:Option (Nat×Bool)}{ty:TypeId}{pos:String}{aft:Array Edge}{a b:Operand}{w:World}{t:Bool}
theorem xfB (hu : P.underlying T = some (.struct fs0)) (hf : fs0.toList.map (fun f => (f.name, f.type, f.offset)) = [("X", N, 0), ("Y", N, 4), ("Inf", B, 8)]) (hst : P.stoodInHeld T = false) (hN:P.underlying N=some (.array 4 E)) (he:P.underlying E=some (.int .u64)) (hs:∀w,(sizeOf E).run P w = .ok 1 w) (ha:∀w,(isAgg E).run P w = .ok false w) (gN:∀w,(isAgg N).run P w = .ok true w) (sN:∀w,(sizeOf N).run P w = .ok 4 w) (hB:P.underlying B=some .bool) (gB:∀w,(isAgg B).run P w = .ok false w) (hg:P.eqGuardType P.depth T=false) {x y x' y':Nat} {i i':Bool} (h1:e a=ptV x y i) (h2:e b=ptV x' y' i') (hx:x<zaE) (hy:y<zaE) (hx':x'<zaE) (hy':y'<zaE) (h:(x==x'&&(y==y'&&i==i'))=t):(execOp e ⟨dst,.binOp .eql T a b T',ty,pos,aft,g⟩).run P w = .ok (.value (.bool t)) w:=by have key:(Op.equal T (ptV x y i) (ptV x' y' i')).run P w = .ok (x==x'&&(y==y'&&i==i')) w:=ytH hu hf hst hN he hs ha gN sN hB gB hx hy hx' hy' 9997 w;rw[<-h];simp only[execOp,h1,h2,eqGuard,binOp,Sem.run_bind];simp[hg,key]
end
theorem ylD{P:Program}{e:Operand->Value}{dst:Option Tmp}{g:Option (Nat×Bool)}{ty:TypeId}{pos:String}{aft:Array Edge}{w:World}{f:FuncId}{fs:List Operand}{first:LV}(h:fs.map e=first):(execOp e ⟨dst,.makeFunc (.func f) fs.toArray #[],ty,pos,aft,g⟩).run P w = .ok (.value (.func (.func f) first.toArray #[])) w:=by rw[<-h];simp[execOp,Instr.makeFunc]
theorem xeG{x y z zz yy m1 s1 x3 y3:Nat}(hzz:zz=fm z z)(hyy:yy=fm y y)(hm:m1=fm 3 (fm (fs x zz) (fa x zz)))(hs:s1=fm 4 (fm x yy)) (hx:x3=fs (fm m1 m1) (fa s1 s1)) (hy:y3=fs (fm m1 (fs s1 x3)) (fm 8 (fm yy yy))):jtw (x,y,z)=(x3,y3,fm 2 (fm y z)):=by subst hzz hyy hm hs hx hy;rfl
theorem jad_z1{p q:Tr}(h:(p.2.2==0)=true):jad p q=q:=by rw[jad,zH (by simpa using h)]
theorem xfC{p q:Tr}(h1:(p.2.2==0)=false)(h:(q.2.2==0)=true):jad p q=p:=by rw[jad,zG (by simpa using h1),zH (by simpa using h)]
theorem yoS{x y z a b c pz qz u v s1 t1 hd rd:Nat}(h1:(z==0)=false)(h2:(c==0)=false)(hpz:pz=fm z z)(hqz:qz=fm c c)(hu:u=fm x qz)(hv:v=fm a pz) (hs1:s1=fm y (fm qz c)) (ht1:t1=fm b (fm pz z)) (hhd:hd=fs v u) (hrd:rd=fs t1 s1):jad (x,y,z) (a,b,c)=jad2 (x,y,z) (a,b,c) u s1 hd rd:=by subst hpz hqz hu hv hs1 ht1 hhd hrd;rw[jad,zG (by simpa using h1),zG (by simpa using h2)]
theorem jad2_t{p q:Tr}{u s hd rd:Nat}(h:(hd==0)=true)(h1:(rd==0)=true):jad2 p q u s hd rd=jtw p:=by rw[jad2,zH (by simpa using h),zH (by simpa using h1)]
theorem jad2_0{p q:Tr}{u s hd rd:Nat}(h:(hd==0)=true)(h1:(rd==0)=false):jad2 p q u s hd rd=(0,0,0):=by rw[jad2,zH (by simpa using h),zG (by simpa using h1)]
theorem yzP{x y z a b c u s1 hd rd h2 h3 uh x3 y3:Nat}(h:(hd==0)=false)(hh2:h2=fm hd hd)(hh3:h3=fm hd h2)(huh:uh=fm u h2)(hx3:x3=fs (fs (fm rd rd) h3) (fa uh uh)) (hy3:y3=fs (fm rd (fs uh x3)) (fm s1 h3)):jad2 (x,y,z) (a,b,c) u s1 hd rd=(x3,y3,fm hd (fm z c)):=by subst hh2 hh3 huh hx3 hy3;rw[jad2,zG (by simpa using h)]
theorem xeJ{z:Nat}(h:(invE 0 z != 0)=true):z%modN 0=0:=by
 by_cases hz:z%modN 0=0
 ·exact hz
 ·rw[invE,zG hz]at h;exact absurd h (by decide)
theorem invE_f{z:Nat}(h:(invE 0 z != 0)=false):z%modN 0≠0:=by intro hz;rw[invE,zH hz]at h;exact absurd h (by decide)
theorem jend_t{x y z:Nat}(h:(invE 0 z != 0)=true):jend (x,y,z)=(0,0,true):=by rw[jend,zH (xeJ h)]
theorem jend_f{x y z:Nat}(h:(invE 0 z != 0)=false):jend (x,y,z)=(fm x (fm (invV 0 z) (invV 0 z)),fm y (fm (fm (invV 0 z) (invV 0 z)) (invV 0 z)),false):=by rw[jend,zG (invE_f h)]
theorem cmul_t{k:Nat}{p:Ap}(h:onT p=true):cmul k p=jend (jmul (jof p.1 p.2.1 p.2.2) k)/\cerr p=0:=by rw[cmul,cerr,h];exact⟨rfl,rfl⟩
theorem cmul_f{k:Nat}{p:Ap}(h:onT p=false):cmul k p=(0,0,false)/\cerr p=70:=by rw[cmul,cerr,h];exact⟨rfl,rfl⟩
def GX:Nat:=48439561293906451759052585252797914202762949526041747995844080717082404635286
def GY:Nat:=36134250956749795798585127919587881956611106672985015071877198253568414405109
end Go.Proofs.YtmbcolbbekbccaaGreat
