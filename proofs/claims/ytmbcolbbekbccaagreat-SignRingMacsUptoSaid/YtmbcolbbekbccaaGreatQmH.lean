/- Parts of one proof. Conditions: as each theorem says. -/
import Derived.KernelRfl
import Derived.Test.YtmbcolbbekbccaaGreatQmG
open List renaming all_eq_true->bF,drop_eq_nil_of_le->cV,findIdx_cons->gC,findIdx_nil->iN,getD_eq_getElem?_getD->aT,getElem?_eq_getElem->aG,getElem?_eq_none->bM,length_append->aF,length_cons->aO,length_nil->aZ,length_take->bY,mem_range->bT,range->bQ
open Nat renaming add_assoc->cS,lt_of_lt_of_le->bK,mod_lt->bJ,or_lt_two_pow->fE,reduceAdd->gK,reducePow->dX,reduceSub->fP,sub_self->cW,sub_zero->eM,xor_lt_two_pow->iC
open Option renaming bind->aA
namespace Go.Proofs.YtmbcolbbekbccaaGreat
open Go Go.RowKit
theorem zoO{l:Bs}{b:UInt8}(h:l.length<68719476736):zdZ l b=some (l++[b]):=by
 have h':l.length+[b].length<=68719476736:=by simp only[aO,aZ];omega
 simp only[zdZ,zhI,zaA,zfN h']
section
variable {σ β:Type}{body:σ->Option (σ⊕β)}
theorem yyH{s s1:σ}{b:β}(h:body s=some (.inl s1))(h1:body s1=some (.inr b)):iter body s=some b:=by show zoT body (1099511627774+1+1) s=_;rw[ziN h,zmJ h1]
theorem iter_2{s s1 s2:σ}{b:β}(h:body s=some (.inl s1))(h1:body s1=some (.inl s2))(h2:body s2=some (.inr b)):iter body s=some b:=by show zoT body (1099511627773+1+1+1) s=_;rw[ziN h,ziN h1,zmJ h2]
end
abbrev alA:Bs:=[65,66,67,68,69,70,71,72,73,74,75,76,77,78,79,80,81,82,83,84,85,86,87,88,89,90,97,98,99,100,101,102,103,104,105,106,107,108,109,110,111,112,113,114,115,116,117,118,119,120,121,122,48,49,50,51,52,53,54,55,56,57,45,95]
def ch(n:Nat):UInt8:=alA.getD n 0
def enc:Nat->Nat->Bs->Bs
 |0,_,[]=>[]|1,a,[]=>[ch (a*16)]|_+2,a,[]=>[ch (a*4)]|0,_,c::l=>ch (c.toNat/4)::enc 1 (c.toNat%4) l|1,a,c::l=>ch (a*16+c.toNat/16)::enc 2 (c.toNat%16) l|_+2,a,c::l=>ch (a*4+c.toNat/64)::ch (c.toNat%64)::enc 0 0 l
def b64(x:Bs):Bs:=enc 0 0 x
theorem yaS:∀(x:Bs) (m a:Nat),m<=2->(enc m a x).length=(4*x.length+m+2)/3
 |[],0,a,_=>rfl|[],1,a,_=>rfl|[],2,a,_=>rfl|c::l,0,a,_=>by simp only[enc,aO,yaS l 1 _ (by omega)];omega
 |c::l,1,a,_=>by simp only[enc,aO,yaS l 2 _ (by omega)];omega
 |c::l,2,a,_=>by simp only[enc,aO,yaS l 0 _ (by omega)];omega
 |[],m+3,_,h=>by omega
 |_::_,m+3,_,h=>by omega
abbrev vv(a:Int)(c:UInt8):Int:=bits .or .i64 (shlI .i64 a 8) ((c.toNat:Nat):Int)
theorem own0(c:UInt8):idx alA (bits .and .i64 (shrI .i64 (vv 0 c) 2) 63)=some (ch (c.toNat/4))/\bits .and .i64 (vv 0 c) (w64 (shlI .i64 1 2-1))=((c.toNat%4:Nat):Int):=by have:=zvK (fun c=>decide (idx alA (bits .and .i64 (shrI .i64 (vv 0 c) 2) 63)=some (ch (c.toNat/4))/\bits .and .i64 (vv 0 c) (w64 (shlI .i64 1 2-1))=((c.toNat%4:Nat):Int))) (by decide +kernel) c;exact zC this
theorem own1(a:Nat)(h:a<4)(c:UInt8):idx alA (bits .and .i64 (shrI .i64 (vv (a:Int) c) 4) 63)=some (ch (a*16+c.toNat/16))/\bits .and .i64 (vv (a:Int) c) (w64 (shlI .i64 1 4-1))=((c.toNat%16:Nat):Int):=by have:=zvK (fun c=>(bQ 4).all fun a=>decide (idx alA (bits .and .i64 (shrI .i64 (vv (a:Int) c) 4) 63)=some (ch (a*16+c.toNat/16))/\bits .and .i64 (vv (a:Int) c) (w64 (shlI .i64 1 4-1))=((c.toNat%16:Nat):Int))) (by decide +kernel) c;exact zC (bF.1 this a (bT.2 h))
theorem own2(a:Nat)(h:a<16)(c:UInt8):idx alA (bits .and .i64 (shrI .i64 (vv (a:Int) c) 6) 63)=some (ch (a*4+c.toNat/64))/\idx alA (bits .and .i64 (shrI .i64 (vv (a:Int) c) 0) 63)=some (ch (c.toNat%64))/\bits .and .i64 (vv (a:Int) c) (w64 (shlI .i64 1 0-1))=0:=by have:=zvK (fun c=>(bQ 16).all fun a=>decide (idx alA (bits .and .i64 (shrI .i64 (vv (a:Int) c) 6) 63)=some (ch (a*4+c.toNat/64))/\idx alA (bits .and .i64 (shrI .i64 (vv (a:Int) c) 0) 63)=some (ch (c.toNat%64))/\bits .and .i64 (vv (a:Int) c) (w64 (shlI .i64 1 0-1))=0)) (by decide +kernel) c;exact zC (bF.1 this a (bT.2 h))
theorem ybY(A B C:Int)(O out:Bs)(c e:UInt8)(t u:Int)(ht:6<=t)(htu:w64 (t-6)=u)(hu:0<=u)(he:idx alA (bits .and .i64 (shrI .i64 (vv A c) u) 63)=some e)(hl:out.length<68719476736):
  zdD (A,B,C,O) c (t,out)=some (.inl (u,out++[e])):=by
 unfold zdD
 dsimp only
 rw[zdT ht,htu,zkV (by simpa using hu),zaA,he,zaA,zoO hl,zaA]
theorem ysX(A B C:Int)(O out:Bs)(c:UInt8)(t:Int)(ht:¬6<=t):zdD (A,B,C,O) c (t,out)=some (.inr (t,out)):=by
 unfold zdD
 dsimp only
 rw[zeG ht]
theorem last1(a:Nat)(h:a<4):idx alA (bits .and .i64 (shlI .i64 (a:Int) 4) 63)=some (ch (a*16)):=by
 have:(bQ 4).all (fun a=>decide (idx alA (bits .and .i64 (shlI .i64 (a:Int) 4) 63)=some (ch (a*16))))=true:=by decide +kernel
 exact zC (bF.1 this a (bT.2 h))
theorem last2(a:Nat)(h:a<16):idx alA (bits .and .i64 (shlI .i64 (a:Int) 2) 63)=some (ch (a*4)):=by
 have:(bQ 16).all (fun a=>decide (idx alA (bits .and .i64 (shlI .i64 (a:Int) 2) 63)=some (ch (a*4))))=true:=by decide +kernel
 exact zC (bF.1 this a (bT.2 h))
theorem ylF(x:Bs)(hx:x.length<=4194304):ziZ x=some (b64 x):=by
 have key:∃r,iter (ziG x) (0,0,0,[])=some r/\∃m a:Nat,m<=2/\a<4^m/\r.1=(a:Int)/\r.2.1=((2*m:Nat):Int)/\b64 x=r.2.2++enc m a []/\r.2.2.length<=2*x.length:=by
  refine yjM (fun s=>∃k m a:Nat,m<=2/\a<4^m/\k<=x.length/\s.1=(a:Int)/\s.2.1=((2*m:Nat):Int)/\s.2.2.1=(k:Int)/\b64 x=s.2.2.2++enc m a (x.drop k)/\s.2.2.2.length<=2*k) (fun s=>x.length-s.2.2.1.toNat) _ (0,0,0,[]) ⟨0,0,0,by omega,by decide,by omega,rfl,rfl,rfl,by simp[b64],by simp⟩ (by show x.length-0<_;omega) ?_;rintro⟨A,B,C,out⟩ ⟨k,m,a,hm,ha,hk,e1,e2,e3,hI,hL⟩
  dsimp only at e1 e2 e3 hI hL
  subst e1 e2 e3;by_cases h:k<x.length
  ·left;have ei:idx x (k:Int)=some x[k]:=zhM rfl h;rw[drop_at h]at hI;unfold ziG
   dsimp only
   rw[zdT (show(k:Int)<(x.length:Int) by omega),ei,zaA,zfD (x:=(k:Int)+1) (by omega) (by omega)]
   match m,hm,ha with
   |0,_,ha=>
    obtain rfl:a=0:=by simpa using ha
    have hr:=own0 x[k];have e:w64 (((2*0:Nat):Int)+8)=8:=by decide
    have hi:iter (zdD (((0:Nat):Int),((2*0:Nat):Int),(k:Int),out) x[k]) (8,out)=some (2,out++[ch (x[k].toNat/4)]):=
     yyH (ybY _ _ _ _ _ _ _ 8 2 (by decide) (by decide) (by decide) hr.1 (by omega)) (ysX _ _ _ _ _ _ 2 (by decide))
    rw[e,hi];simp only[zaA];refine⟨(((x[k].toNat%4:Nat):Int),2,(k:Int)+1,out++[ch (x[k].toNat/4)]),?_,⟨k+1,1,x[k].toNat%4,by omega,by omega,by omega,rfl,rfl,rfl,?_,?_⟩,?_⟩
    ·rw[zkV (show decide ((0:Int)<=2)=true by decide),zaA];have:=hr.2;rw[<-this];rfl
    ·rw[hI];simp[enc]
    ·simp only[aF,aO,aZ];omega
    ·show x.length-((k:Int)+1).toNat<x.length-((k:Int)).toNat;omega
   |1,_,ha=>
    have ha:a<4:=by simpa using ha
    have hr:=own1 a ha x[k];have e:w64 (((2*1:Nat):Int)+8)=10:=by decide
    have hi:iter (zdD ((a:Int),((2*1:Nat):Int),(k:Int),out) x[k]) (10,out)=some (4,out++[ch (a*16+x[k].toNat/16)]):=
     yyH (ybY _ _ _ _ _ _ _ 10 4 (by decide) (by decide) (by decide) hr.1 (by omega)) (ysX _ _ _ _ _ _ 4 (by decide))
    rw[e,hi];simp only[zaA];refine⟨(((x[k].toNat%16:Nat):Int),4,(k:Int)+1,out++[ch (a*16+x[k].toNat/16)]),?_,⟨k+1,2,x[k].toNat%16,by omega,by omega,by omega,rfl,rfl,rfl,?_,?_⟩,?_⟩
    ·rw[zkV (show decide ((0:Int)<=4)=true by decide),zaA];have:=hr.2;rw[<-this];rfl
    ·rw[hI];simp[enc]
    ·simp only[aF,aO,aZ];omega
    ·show x.length-((k:Int)+1).toNat<x.length-((k:Int)).toNat;omega
   |2,_,ha=>
    have ha:a<16:=by simpa using ha
    have hr:=own2 a ha x[k];have e:w64 (((2*2:Nat):Int)+8)=12:=by decide
    have hi:iter (zdD ((a:Int),((2*2:Nat):Int),(k:Int),out) x[k]) (12,out)=some (0,out++[ch (a*4+x[k].toNat/64)]++[ch (x[k].toNat%64)]):=
     iter_2 (ybY _ _ _ _ _ _ _ 12 6 (by decide) (by decide) (by decide) hr.1 (by omega)) (ybY _ _ _ _ _ _ _ 6 0 (by decide) (by decide) (by decide) hr.2.1 (by simp only[aF,aO,aZ];omega)) (ysX _ _ _ _ _ _ 0 (by decide))
    rw[e,hi];simp only[zaA];refine⟨(0,0,(k:Int)+1,out++[ch (a*4+x[k].toNat/64)]++[ch (x[k].toNat%64)]),?_,⟨k+1,0,0,by omega,by decide,by omega,rfl,rfl,rfl,?_,?_⟩,?_⟩
    ·rw[zkV (show decide ((0:Int)<=0)=true by decide),zaA];have:=hr.2.2;simp only[zaA];rw[show bits .and .i64 (bits .or .i64 (shlI .i64 (a:Int) 8) ((x[k].toNat:Nat):Int)) (w64 (shlI .i64 1 0-1))=0 from this]
    ·rw[hI];simp[enc]
    ·simp only[aF,aO,aZ];omega
    ·show x.length-((k:Int)+1).toNat<x.length-((k:Int)).toNat;omega
  ·right;have:k=x.length:=by omega
   subst this;refine⟨((a:Int),((2*m:Nat):Int),out),?_,m,a,hm,ha,rfl,rfl,?_,hL⟩
   ·unfold ziG
    dsimp only
    rw[zeG (by omega)]
   ·rw[hI,List.drop_length]
 obtain⟨⟨A,B,out⟩,hr,m,a,hm,ha,e1,e2,hI,hL⟩:=key
 dsimp only at e1 e2 hI hL
 subst e1 e2;rw[ziZ,hr];simp only[zaA]
 match m,hm,ha with
 |0,_,ha=>rw[zeG (by decide),zaA,zkV (by rw[zD];omega),zaA,hI];simp[enc]|1,_,ha=>
  have ha:a<4:=by simpa using ha
  have e:w64 ((6:Int)-((2*1:Nat):Int))=4:=by decide
  rw[zdT (by decide),e,zkV (by decide),zaA,last1 a ha,zaA,zoO (by omega),zaA,zaA,zkV (by rw[zD,aF];simp only[aO,aZ];omega),zaA,hI];simp[enc]
 |2,_,ha=>
  have ha:a<16:=by simpa using ha
  have e:w64 ((6:Int)-((2*2:Nat):Int))=2:=by decide
  rw[zdT (by decide),e,zkV (by decide),zaA,last2 a ha,zaA,zoO (by omega),zaA,zaA,zkV (by rw[zD,aF];simp only[aO,aZ];omega),zaA,hI];simp[enc]
def bitN(x:Bs)(q:Nat):Nat:=(x.getD (q/8) 0).toNat/2^(7-q%8)%2
def accV(f:Nat->Nat):Nat->Nat
 |0=>0|j+1=>2*accV f j+f j
theorem yfO{f:Nat->Nat}(h:∀j,f j<2):∀j,accV f j<2^j
 |0=>by simp[accV]
 |j+1=>by have h1:=yfO h j;have h2:=h j;have h3:=Nat.pow_succ 2 j;unfold accV;omega
theorem ytQ(c:UInt8)(r:Nat)(h:r<8):bits .and .i64 (((i8 (shrI .u8 ((c).toNat:Int) (7-(r:Int)))).toNat:Int)) 1=((c.toNat/2^(7-r)%2:Nat):Int):=by have:=zvK (fun c=>(bQ 8).all fun r=>decide (bits .and .i64 (((i8 (shrI .u8 ((c).toNat:Int) (7-(r:Int)))).toNat:Int)) 1=((c.toNat/2^(7-r)%2:Nat):Int))) (by decide +kernel) c;exact zC (bF.1 this r (bT.2 h))
theorem xdZ(x:Bs)(hx:x.length<=4194304)(q:Nat)(hq:q<=100000000):zvI x (q:Int)=some ((bitN x q:Nat):Int):=by
 unfold zvI;rw[zfD (x:=(8:Int)*(x.length:Int)) (by omega) (by omega)];have e1:Int.tdiv (q:Int) 8=((q/8:Nat):Int):=by rw[show(8:Int)=((8:Nat):Int) by rfl,Int.ofNat_tdiv]
 have e2:Int.tmod (q:Int) 8=((q%8:Nat):Int):=by rw[show(8:Int)=((8:Nat):Int) by rfl,<-Int.ofNat_tmod]
 by_cases h:8*x.length<=q
 ·rw[zdT (by omega)];have:x.getD (q/8) 0=0:=by rw[aT,bM (by omega)];rfl
  unfold bitN;rw[this];simp
 ·rw[zeG (by omega),e1,e2,zfD (x:=((q/8:Nat):Int)) (by omega) (by omega),zfD (x:=(7:Int)-((q%8:Nat):Int)) (by omega) (by omega)];have hl:q/8<x.length:=by omega
  rw[zhM rfl hl,zaA,zkV (show decide ((0:Int)<=7-((q%8:Nat):Int))=true by rw[zD];omega),zaA,ytQ _ _ (by omega)];congr 2;unfold bitN;rw[aT,aG hl];rfl
theorem yzL(x:Bs)(hx:x.length<=4194304)(p:Nat)(hp:p<=90000000)(out:Bs):iter (zlF x ((p:Int),out)) (0,0)=some ((accV (fun j=>bitN x (p+j)) 6:Nat):Int):=by
 have hb:∀j,bitN x (p+j)<2:=fun j=>bJ _ (by decide);refine zbY (fun j:Nat=>(((accV (fun j=>bitN x (p+j)) j:Nat):Int),(j:Int))) 6 (by omega) _ (fun j hj=>?_) ?_
 ·have h1:=yfO (f:=fun j=>bitN x (p+j)) hb j;have h2:2^j<=2^6:=Nat.pow_le_pow_right (by decide) (by omega);have h3:=hb j;have hv:accV (fun j=>bitN x (p+j)) (j+1)=2*accV (fun j=>bitN x (p+j)) j+bitN x (p+j):=rfl;unfold zlF
  dsimp only
  rw[zdT (show(j:Int)<6 by omega),zfD (x:=(p:Int)+(j:Int)) (by omega) (by omega),show(p:Int)+(j:Int)=((p+j:Nat):Int) by omega,xdZ x hx (p+j) (by omega),zaA,
   zfD (x:=(2:Int)*_) (by omega) (by omega),zfD (by omega) (by omega),zfD (by omega) (by omega),hv]
  rw[show(2:Int)*((accV (fun j=>bitN x (p+j)) j:Nat):Int)+((bitN x (p+j):Nat):Int)=((2*accV (fun j=>bitN x (p+j)) j+bitN x (p+j):Nat):Int) by omega,show(j:Int)+1=((j+1:Nat):Int) by omega]
 ·unfold zlF
  dsimp only
  rw[zeG (by decide)]
theorem zfW(x:Bs)(k j:Nat)(h:j<8):bitN x (8*k+j)=(x.getD k 0).toNat/2^(7-j)%2:=by unfold bitN;rw[show(8*k+j)/8=k by omega,show(8*k+j)%8=j by omega]
theorem ch_idx(n:Nat)(h:n<64):idx alA (n:Int)=some (ch n):=by rw[zhM rfl (show n<alA.length from h)];congr 1;unfold ch;rw[aT,aG (show n<alA.length from h)];rfl
def encR:Nat->Nat->Bs->Bs
 |3,a,l=>ch a::enc 0 0 l|m,a,l=>enc m a l
theorem ykG(x:Bs)(hx:x.length<=4194304)(p:Nat)(hp:p<8*x.length)(out:Bs)(hl:out.length<=8*x.length):
  zhL x ((p:Int),out)=some (.inl (((p+6:Nat):Int),out++[ch (accV (fun j=>bitN x (p+j)) 6)])):=by
 have hb:∀j,bitN x (p+j)<2:=fun j=>bJ _ (by decide);have h1:=yfO (f:=fun j=>bitN x (p+j)) hb 6;unfold zhL
 dsimp only
 rw[zfD (x:=(8:Int)*(x.length:Int)) (by omega) (by omega),zdT (by omega),yzL x hx p (by omega) out];simp only[zaA];rw[ch_idx _ (by omega),zaA,zfN (by simp only[aO,aZ];omega),zfD (by omega) (by omega)];rfl
theorem ypB(x:Bs)(hx:x.length<=4194304)(p:Nat)(hp:¬p<8*x.length)(out:Bs):zhL x ((p:Int),out)=some (.inr out):=by
 unfold zhL
 dsimp only
 rw[zfD (x:=(8:Int)*(x.length:Int)) (by omega) (by omega),zeG (by omega)]
theorem getD_at{x:Bs}{k:Nat}(h:k<x.length):x.getD k 0=x[k]:=by rw[aT,aG h];rfl
theorem yhG{x:Bs}{k:Nat}(h:¬k<x.length):x.getD k 0=0:=by rw[aT,bM (by omega)];rfl
theorem six_0(x:Bs)(k:Nat):accV (fun j=>bitN x (8*k+j)) 6=(x.getD k 0).toNat/4:=by have:=(x.getD k 0).toNat_lt;simp only[accV,zfW x k 0 (by decide),zfW x k 1 (by decide),zfW x k 2 (by decide),zfW x k 3 (by decide),zfW x k 4 (by decide),zfW x k 5 (by decide)];simp only[eM,fP,dX];omega
theorem six_1(x:Bs)(k:Nat):accV (fun j=>bitN x (8*k+6+j)) 6=(x.getD k 0).toNat%4*16+(x.getD (k+1) 0).toNat/16:=by
 have:=(x.getD k 0).toNat_lt;have:=(x.getD (k+1) 0).toNat_lt;have e:∀j,2<=j->8*k+6+j=8*(k+1)+(j-2):=fun j hj=>by omega
 simp only[accV,e 2 (by decide),e 3 (by decide),e 4 (by decide),e 5 (by decide),cS,gK,fP];rw[zfW x k 6 (by decide),zfW x k 7 (by decide),zfW x (k+1) 0 (by decide),zfW x (k+1) 1 (by decide),zfW x (k+1) 2 (by decide),zfW x (k+1) 3 (by decide)];simp only[eM,cW,fP,dX];omega
theorem six_2(x:Bs)(k:Nat):accV (fun j=>bitN x (8*k+4+j)) 6=(x.getD k 0).toNat%16*4+(x.getD (k+1) 0).toNat/64:=by
 have:=(x.getD k 0).toNat_lt;have:=(x.getD (k+1) 0).toNat_lt;have e:∀j,4<=j->8*k+4+j=8*(k+1)+(j-4):=fun j hj=>by omega
 simp only[accV,e 4 (by decide),e 5 (by decide),cS,gK,fP];rw[zfW x k 4 (by decide),zfW x k 5 (by decide),zfW x k 6 (by decide),zfW x k 7 (by decide),zfW x (k+1) 0 (by decide),zfW x (k+1) 1 (by decide)];simp only[eM,cW,fP,dX];omega
theorem six_3(x:Bs)(k:Nat):accV (fun j=>bitN x (8*k+2+j)) 6=(x.getD k 0).toNat%64:=by have:=(x.getD k 0).toNat_lt;simp only[accV,cS,gK];rw[zfW x k 2 (by decide),zfW x k 3 (by decide),zfW x k 4 (by decide),zfW x k 5 (by decide),zfW x k 6 (by decide),zfW x k 7 (by decide)];simp only[cW,fP,dX];omega
theorem yaK(x:Bs)(hx:x.length<=4194304):zqV x=some (b64 x):=by
 have key:iter (zhL x) (0,[])=some (b64 x):=by
  refine xbX (fun s=>∃p:Nat,s.1=(p:Int)/\p<=8*x.length+6/\s.2.length<=p/\((8*x.length<=p/\b64 x=s.2)∨(∃k,p=8*k/\k<x.length/\b64 x=s.2++enc 0 0 (x.drop k))∨(∃k,p=8*k+6/\k<x.length/\b64 x=s.2++enc 1 ((x.getD k 0).toNat%4) (x.drop (k+1))) ∨
   (∃k,p=8*k+4/\k<x.length/\b64 x=s.2++enc 2 ((x.getD k 0).toNat%16) (x.drop (k+1)))∨(∃k,p=8*k+2/\k<x.length/\b64 x=s.2++ch ((x.getD k 0).toNat%64)::enc 0 0 (x.drop (k+1))))) (fun s=>8*x.length-s.1.toNat) _ (0,[]) ⟨0,rfl,by omega,by simp,?_⟩ (by show 8*x.length-0<_;omega) ?_
  ·by_cases h:0<x.length
   ·right;left;exact⟨0,rfl,h,by simp[b64]⟩
   ·left;have:x=[]:=List.length_eq_zero_iff.1 (by omega);subst this;exact⟨by simp,rfl⟩
  ·rintro⟨i,out⟩ ⟨p,e,hp,hL,hI⟩
   dsimp only at e hL hI
   subst e;by_cases h:p<8*x.length
   ·left;refine⟨_,ykG x hx p h out (by omega),⟨p+6,rfl,by omega,by simp only[aF,aO,aZ];omega,?_⟩,by dsimp only;omega⟩
    dsimp only
    rcases hI with⟨h1,_⟩|⟨k,rfl,hk,h2⟩|⟨k,rfl,hk,h2⟩|⟨k,rfl,hk,h2⟩|⟨k,rfl,hk,h2⟩
    ·omega
    ·right;right;left;refine⟨k,by omega,hk,?_⟩;rw[six_0,h2,drop_at hk,getD_at hk];simp[enc]
    ·rw[six_1];by_cases hk1:k+1<x.length
     ·right;right;right;left;refine⟨k+1,by omega,hk1,?_⟩;rw[h2,drop_at hk1,getD_at hk1];simp[enc]
     ·left;refine⟨by omega,?_⟩;rw[h2,yhG hk1,cV (by omega)];simp[enc]
    ·rw[six_2];by_cases hk1:k+1<x.length
     ·right;right;right;right;refine⟨k+1,by omega,hk1,?_⟩;rw[h2,drop_at hk1,getD_at hk1];simp[enc]
     ·left;refine⟨by omega,?_⟩;rw[h2,yhG hk1,cV (by omega)];simp[enc]
    ·rw[six_3];by_cases hk1:k+1<x.length
     ·right;left;refine⟨k+1,by omega,hk1,?_⟩;rw[h2];simp
     ·left;refine⟨by omega,?_⟩;rw[h2,cV (by omega)];simp[enc]
   ·right;rw[ypB x hx p h out];rcases hI with⟨_,h1⟩|⟨k,rfl,hk,h2⟩|⟨k,rfl,hk,h2⟩|⟨k,rfl,hk,h2⟩|⟨k,rfl,hk,h2⟩
    ·rw[h1]
    all_goals omega
 rw[zqV,key];rfl
theorem or63{a b:Nat}(ha:a<2^63)(hb:b<2^63):bits .or .i64 (a:Int) (b:Int)=((a|||b:Nat):Int):=by
 have h1:a<2^IntKind.i64.bits:=by show a<2^64;omega
 have h2:b<2^IntKind.i64.bits:=by show b<2^64;omega
 simp only[bits,BitVec.toNat_or,zlZ .i64 a h1,zlZ .i64 b h2];have:=fE ha hb;exact wr64 (by omega) (by omega)
theorem xor63{a b:Nat}(ha:a<2^63)(hb:b<2^63):bits .xor .i64 (a:Int) (b:Int)=((a^^^b:Nat):Int):=by
 have h1:a<2^IntKind.i64.bits:=by show a<2^64;omega
 have h2:b<2^IntKind.i64.bits:=by show b<2^64;omega
 simp only[bits,BitVec.toNat_xor,zlZ .i64 a h1,zlZ .i64 b h2];have:=iC ha hb;exact wr64 (by omega) (by omega)
def ztV(x y:Bs):Nat->Nat
 |0=>x.length^^^y.length|k+1=>ztV x y k|||(x.getD k 0^^^y.getD k 0).toNat
theorem ydL{x y:Bs}(hx:x.length<2^63)(hy:y.length<2^63):∀k,ztV x y k<2^63
 |0=>iC hx hy|k+1=>fE (ydL hx hy k) (bK (UInt8.toNat_lt _) (by decide))
theorem orz0{a b:Nat}:a|||b=0↔a=0/\b=0:=by
 constructor
 ·intro h;have h1:a<=a|||b:=Nat.left_le_or;have h2:b<=a|||b:=Nat.right_le_or;omega
 ·rintro⟨rfl,rfl⟩;rfl
theorem xorz08{a b:UInt8}:(a^^^b).toNat=0↔a=b:=by
 rw[UInt8.toNat_xor];constructor
 ·intro h;apply UInt8.toNat_inj.1;have:=congrArg (· ^^^ b.toNat) h;simpa[Nat.xor_assoc]using this
 ·rintro rfl;simp
theorem zxL{x y:Bs}:∀k,ztV x y k=0↔x.length=y.length/\∀j,j<k->x.getD j 0=y.getD j 0
 |0=>by
  simp only[ztV,Nat.not_lt_zero,false_imp_iff,implies_true,and_true];constructor
  ·intro h;have:=congrArg (· ^^^ y.length) h;simpa[Nat.xor_assoc]using this
  ·intro h;rw[h];simp
 |k+1=>by
  rw[ztV,orz0,zxL k,xorz08];constructor
  ·rintro⟨⟨h1,h2⟩,h3⟩
   exact⟨h1,fun j hj=>by
    rcases(by omega:j<k∨j=k)with h|rfl
    ·exact h2 j h
    ·exact h3⟩
  ·rintro⟨h1,h2⟩;exact⟨⟨h1,fun j hj=>h2 j (by omega)⟩,h2 k (by omega)⟩
theorem yjH{x y:Bs}(hx:x.length<=68719476736)(hy:y.length<=68719476736):znR x y=some (x==y):=by
 have hx2:x.length<2^63:=by omega
 have hy2:y.length<2^63:=by omega
 have key:iter (zlI x y) ((((x.length^^^y.length:Nat)):Int),0)=some ((ztV x y x.length:Nat):Int):=by
  refine zbY (fun k=>(((ztV x y k:Nat):Int),(k:Int))) x.length (by omega) _ (fun k hk=>?_) ?_
  ·unfold zlI;rw[zdT (by omega)];simp only[]
   have e:(bif decide ((k:Int)<((y).length:Int))then(aA (idx y (k:Int)) fun y1=>some (y1))else(some ((0:UInt8))))=some (y.getD k 0):=by
    by_cases h:k<y.length
    ·rw[zdT (by omega),idxD h];rfl
    ·rw[zeG (by omega),aT,bM (by omega)];rfl
   rw[e,zaA,idxD hk,zaA,or63 (ydL hx2 hy2 k) (bK (UInt8.toNat_lt _) (by decide)),w64s k (by omega)];rfl
  ·unfold zlI;rw[zeG (by omega)]
 unfold znR;rw[xor63 hx2 hy2,key,zaA,zaA];congr 1;have hz:=zxL (x:=x) (y:=y) x.length;by_cases h:x=y
 ·subst h;rw[hz.2 ⟨rfl,fun _ _=>rfl⟩];simp
 ·rw[beq_false_of_ne h]
  have:¬ztV x y x.length=0:=fun e=>h (by
   obtain⟨h1,h2⟩:=hz.1 e;apply List.ext_getElem h1;intro i hi hi';have:=h2 i hi
   simpa[aT,aG hi,aG hi']using this)
  rw[beq_eq_false_iff_ne];omega
abbrev Ky:Type:=Bs×Bs×Bs×Qw×Onc×Qp
def kidF(s:Bs):Bs:=b64 ((macF [107,105,100] s).take 9)
def mkF(s:Bs):Bs:=macF [109,97,99] s
def dF(s:Bs):Nat:=bval (macF [107,101,121] s)%modN 1
def prF(s:Bs):W4:=bif dF s==0 then tv 1 else tv (dF s)
def keyOf(s:Bs):Ky:=(s,kidF s,mkF s,prF s,onc0,((0,0,0,0),(0,0,0,0),false))
theorem yuA(s:Bs):(kidF s).length=12:=by rw[kidF,b64,yaS _ 0 _ (by decide),bY,zgQ];decide
theorem xcJ{A:Nat}(h:A<zaE):(tv A==((0:UInt64),(0:UInt64),(0:UInt64),(0:UInt64)))=(A==0):=by rw[show((0:UInt64),(0:UInt64),(0:UInt64),(0:UInt64))=tv 0 from rfl,beq_w4,nv_tv h,nv_tv zdG]
theorem dF_lt(s:Bs):dF s<zaE:=bK (bJ _ (znC 1)) (Nat.le_of_lt (zbE 1).2)
theorem ygW{s:Bs}(h:s.length<=68719460000):zkZ s=some (some (keyOf s)):=by
 have hk:∀k:Bs,k.length<=68719470000->zgN k s=some (macF k s):=fun k hk=>yaM hk h;unfold zkZ;have hr:zgZ 1 (macF [107,101,121] s)=some (tv (dF s)):=by unfold zgZ;rw[zkV (zA (by rw[zgQ];decide))];rfl
 rw[hk _ (by decide),zaA,hr,zaA];have e:(aA (ziV) fun y3=>bif(((tv (dF s)):Qw)==(y3:Qw))then(some (((1:UInt64),(0:UInt64),(0:UInt64),(0:UInt64))))else(some (((tv (dF s)).1,(tv (dF s)).2.1,(tv (dF s)).2.2.1,(tv (dF s)).2.2.2))))=some (prF s):=by unfold ziV;rw[zaA,xcJ (dF_lt s),prF];cases dF s==0<;>rfl
 rw[e,zaA,hk _ (by decide),zaA,show(9:Int)=((9:Nat):Int)from rfl,yaT (by rw[zgQ];decide),zaA,ylF _ (by rw[bY,zgQ];decide),zaA,hk _ (by decide),zaA];rfl
def zjK(L:List Bs):List (Option Ky):=L.map fun s=>some (keyOf s)
theorem zhR(L:List Bs):(zjK L).length=L.length:=by simp[zjK]
theorem zuU{L:List Bs}{k:Nat}(h:k<L.length):idx (zjK L) (k:Int)=some (some (keyOf L[k])):=by rw[zhM rfl (by rw[zhR];exact h)];simp[zjK]
theorem ykT{s:Bs}(h:s.length<=68719460000):zjA s=some (zjK [s]):=by unfold zjA;rw[ygW h];rfl
def plF(L:List Bs)(kid:Bs):Nat:=L.findIdx fun s=>kidF s==kid
def ziH(L:List Bs)(kid:Bs):Option Bs:=L[plF L kid]?
theorem find_ok{L:List Bs}(hL:L.length<1000000)(kid:Bs):zfM (some (zjK L)) kid=some ((ziH L kid).map keyOf):=by
 have hn:plF L kid<=L.length:=List.findIdx_le_length
 have key:iter (zcG kid (zjK L)) 0=some (match ziH L kid with|some s=>.inl (some (keyOf s))|none=>.inr ()):=by
  refine zbY (fun k=>(k:Int)) (plF L kid) (by omega) _ (fun k hk=>?_) ?_
  ·unfold zcG;have hk2:k<L.length:=by omega
   rw[zdT (by rw[zhR];omega),zuU hk2,zaA,zaA,zqI (by simpa[keyOf]using List.not_of_lt_findIdx hk),w64s k (by omega)]
  ·unfold zcG;by_cases h:plF L kid<L.length
   ·rw[zdT (by rw[zhR];omega),zuU h,zaA,zaA,zsI (show((keyOf (L[plF L kid]'h)).2.1==kid)=true from List.findIdx_getElem (w:=h)),ziH,aG h]
   ·rw[zeG (by rw[zhR];omega),ziH,bM (by omega)]
 unfold zfM;rw[zaA,key,zaA];cases ziH L kid<;>rfl
theorem yqL{L:List Bs}{s:Bs}(hL:L.length<1000000):zfT (some (zjK (L++[s])))=some (some (keyOf s)):=by
 unfold zfT;have hl:((L++[s]).length:Nat)=L.length+1:=by simp
 rw[zaA,zaA,zhR,hl,zfD (by omega) (by omega),show(((L.length+1:Nat)):Int)-1=((L.length:Nat):Int) by omega,zuU (by omega),zaA];simp
theorem ymT{L:List Bs}{s:Bs}(hL:L.length<1000000)(h:s.length<=68719460000):zdM (zjK L) s =
  some (bif(ziH L (kidF s)).isSome then(80,zjK L)else bif L.length==8 then(82,zjK L)else(0,zjK (L++[s]))):=by
 unfold zdM;rw[ygW h,zaA,zaA,show(keyOf s).2.1=kidF s from rfl,find_ok hL,zaA];cases e:ziH L (kidF s) with
 |some q=>rfl|none=>
  simp only[Option.map_none,Option.isNone_none,Bool.not_true,zF,Option.isSome_none];rw[zhR];by_cases h8:L.length=8
  ·rw[zsI (by simp[h8]),zsI (by simp[h8])]
  ·rw[zqI (by rw[beq_eq_false_iff_ne];omega),zqI (by rw[beq_eq_false_iff_ne];exact h8),zfN (by rw[zhR,aO,aZ];omega),zaA];simp[zjK]
theorem yzH{L:List Bs}(hL:L.length<1000000):zfK (some (zjK L))=some (L.map kidF):=by
 have key:iter (zcF (zjK L)) (([]:List Bs),0)=some (L.map kidF):=by
  refine zbY (fun k=>((L.take k).map kidF,(k:Int))) L.length (by omega) _ (fun k hk=>?_) ?_
  ·unfold zcF;rw[zdT (by rw[zhR];omega)];simp only[];rw[zuU hk,zaA,zaA,zfN (by simp;omega),zaA,w64s k (by omega),zkM hk,List.map_append];rfl
  ·unfold zcF;rw[zeG (by rw[zhR];omega),List.take_length]
 unfold zfK;rw[zaA,key];rfl
theorem xcF{L:List Bs}{s m:Bs}(hL:L.length<1000000)(hm:m.length<=68719460000):zgD (some (zjK (L++[s]))) m=some (kidF s,macF (mkF s) m):=by unfold zgD;rw[yqL hL,zaA,zaA,zaA,show(keyOf s).2.2.1=mkF s from rfl,yaM (by rw[mkF,zgQ];decide) hm];rfl
theorem yhR{L:List Bs}{kid m c:Bs}(hL:L.length<1000000)(hm:m.length<=68719460000)(hc:c.length<=68719476736):
  zdA (some (zjK L)) kid m c=some (match ziH L kid with|some s=>macF (mkF s) m==c|none=>false):=by
 unfold zdA;rw[find_ok hL,zaA];cases e:ziH L kid with
 |none=>rfl|some s=>simp only[Option.map_some,Option.isNone_some,Bool.not_false,zE,zaA];rw[show(keyOf s).2.2.1=mkF s from rfl,yaM (by rw[mkF,zgQ];decide) hm,zaA,yjH (by rw[zgQ];decide) hc];rfl
abbrev G0:Pw:=ptW (GX,GY,false)
theorem xaR:invV 0 1=1:=by unfold invV;rw[Nat.one_pow];rfl
theorem pub1:zgO ((1:UInt64),(0:UInt64),(0:UInt64),(0:UInt64))=some (G0,0):=by
 have e1:znF ((1:UInt64),(0:UInt64),(0:UInt64),(0:UInt64))=some true:=zC (by kernel_rfl);have e2:cmul (nv ((1:UInt64),(0:UInt64),(0:UInt64),(0:UInt64))) (apT G0)=(GX,GY,false):=by rw[show nv ((1:UInt64),(0:UInt64),(0:UInt64),(0:UInt64))=1 from zC (by kernel_rfl),show apT G0=(GX,GY,false)from zC (by kernel_rfl)];unfold cmul;rw[show onT (GX,GY,false)=true by kernel_rfl,zsI rfl,yxJ (by decide),show 1/2=0 from rfl,ymO,jtw_0];rw[show jad (0,0,0) (jof GX GY false)=(GX,GY,1)from rfl];unfold jend;rw[zG (by decide),xaR];exact zC (by kernel_rfl)
 unfold zgO;rw[e1,zaA];unfold zoI zjH zqQ;rw[zaA,zaA,e2];rfl
theorem pub0:(zgO ((0:UInt64),(0:UInt64),(0:UInt64),(0:UInt64))).map (·.2)=some 80:=zC (by kernel_rfl)
theorem sgnN:zqW (tv (modN 1)) ([]:Bs)=some ([],80):=zC (by kernel_rfl)
theorem ypX:(kidF [97]==kidF [98])=false:=by kernel_rfl
theorem kid_no(s:Bs):(kidF s==([]:Bs))=false:=by rw[beq_eq_false_iff_ne];intro h;have:=yuA s;rw[h]at this;simp at this
theorem yvP(s:Bs)(L:List Bs):ziH (s::L) (kidF s)=some s:=by
 have:plF (s::L) (kidF s)=0:=by simp[plF,gC]
 rw[ziH,this];rfl
theorem ytL:ztC=some true:=by
 unfold ztC;obtain⟨y2,h2,h80⟩:=Option.map_eq_some_iff.1 pub0;have t1:zdM (zjK [[97]]) ([97]:Bs)=some (80,zjK [[97]]):=by rw[ymT (by decide) (by decide),yvP];rfl
 have t2:zdM (zjK [[97]]) ([98]:Bs)=some (0,zjK [[97],[98]]):=by
  have:ziH [[97]] (kidF [98])=none:=by
   have:plF [[97]] (kidF [98])=1:=by simp only[plF,gC,ypX,iN];rfl
   rw[ziH,this];rfl
  rw[ymT (by decide) (by decide),this];rfl
 have k:zfK (some (zjK [[97],[98]]))=some [kidF [97],kidF [98]]:=yzH (by decide);have m:zgD (some (zjK [[97],[98]])) ([115]:Bs)=some (kidF [98],macF (mkF [98]) [115]):=xcF (L:=[[97]]) (by decide) (by decide);have f1:ziH [[97],[98]] (kidF [98])=some [98]:=by
  have:plF [[97],[98]] (kidF [98])=1:=by simp only[plF,gC,ypX,BEq.rfl,iN];rfl
  rw[ziH,this];rfl
 have f2:ziH [[97],[98]] []=none:=by
  have:plF [[97],[98]] []=2:=by simp only[plF,gC,kid_no,iN];rfl
  rw[ziH,this];rfl
 have v1:zdA (some (zjK [[97],[98]])) (kidF [98]) ([115]:Bs) (macF (mkF [98]) [115])=some true:=by rw[yhR (by decide) (by decide) (by rw[zgQ];decide),f1];simp only[BEq.rfl]
 have v2:zdA (some (zjK [[97],[98]])) ([]:Bs) ([115]:Bs) (macF (mkF [98]) [115])=some false:=by rw[yhR (by decide) (by decide) (by rw[zgQ];decide),f2]
 rw[pub1,zaA,h2,zaA,show zkQ 1=some (tv (modN 1))from rfl,zaA,sgnN,zaA,ykT (by decide),zaA,t1,zaA];simp only[h80,show((80:Int) != 80)=false from rfl,zF];rw[t2,zaA,zaA];simp only[show((0:Int) != 0)=false from rfl,zF];rw[k,zaA,zaA];simp only[show(((([kidF [97],kidF [98]]:List Bs).length:Int)) != 2)=false from rfl,zF];rw[m,zaA,show zjH=some G0 from rfl,zaA];simp only[BEq.rfl,zE];rw[v1,zaA,zsI rfl,v2,zaA];rfl
end Go.Proofs.YtmbcolbbekbccaaGreat
