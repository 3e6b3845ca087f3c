/- Parts of one proof. Conditions: as each theorem says. -/
import Derived.KernelRfl
import Derived.Test.YtmbcolbbekbccaaGreatQmI
open Array renaming getElem?_eq_getElem->cO,getElem?_eq_some_iff->bE
open Bool renaming and_eq_true->aL,not_eq_true'->cK,or_eq_true->cH
open List renaming all_eq_true->bF,append_assoc->aX,contains_eq_mem->bW,eq_nil_iff_forall_not_mem->eX,flatMap_cons->jF,getD_eq_getElem?_getD->aT,getElem?_eq_getElem->aG,getElem?_replicate->iO,getElem?_set->iL,length_append->aF,length_cons->aO,length_nil->aZ,length_take->bY,map_cons->bS,mem_cons->aV,mem_cons_of_mem->aS,mem_cons_self->bA,mem_filter->cY,mem_map->dS,mem_range->bT,range->bQ,replicate->aN
open Nat renaming beq->aH,div_le_self->dQ,le_refl->aJ,mod_eq_of_lt->aR,mod_mod->iF,reduceAdd->gK,reduceMul->fM,reducePow->dX
open Option renaming bind->aA,getD_some->cN
namespace Go.Proofs.YtmbcolbbekbccaaGreat
open Go Go.RowKit
theorem i8n{n:Nat}{x:Int}(h:x=(n:Int)):(i8 x).toNat=n%256:=by subst h;simp[i8];omega
theorem i32n{n:Nat}{x:Int}(h:x=(n:Int)):(i32 x).toNat=n%4294967296:=by subst h;simp[i32];omega
theorem i64n{n:Nat}{x:Int}(h:x=(n:Int)):(i64 x).toNat=n%18446744073709551616:=by subst h;simp[i64];omega
theorem yxX(a:Nat){k:Nat}(hk:k<=64):shrI .u64 (a:Int) (k:Int)=((a/2^k:Nat):Int):=by unfold shrI;rw[show min ((k:Int)).toNat IntKind.u64.bits=k by show min k 64=k;omega];exact zsR k
theorem shr32n(a:Nat){k:Nat}(hk:k<=32):shrI .u32 (a:Int) (k:Int)=((a/2^k:Nat):Int):=by unfold shrI;rw[show min ((k:Int)).toNat IntKind.u32.bits=k by show min k 32=k;omega];exact zsR k
theorem ylE(x:UInt64){i:Nat}(hi:i<=8):(byF x i).toNat=x.toNat/2^(8*i)%256:=by unfold byF;rw[i8n rfl,i64n (yxX x.toNat (by omega))];have:x.toNat/2^(8*i)<=x.toNat:=dQ _ _;have:=x.toNat_lt;rw[aR (a:=x.toNat/2^(8*i)) (by omega)]
theorem ypI(x:UInt32):zmU x=some (beF (i64 (x.toNat:Int)) 4):=by
 unfold zmU;have hx:=x.toNat_lt;have e64:(i64 (x.toNat:Int)).toNat=x.toNat:=by rw[i64n rfl];omega
 have b:∀k:Nat,k<=32->(i8 (((i32 (shrI .u32 ((x).toNat:Int) (k:Int)))).toNat:Int)).toNat=x.toNat/2^k%256:=fun k hk=>by rw[i8n rfl,i32n (shr32n x.toNat hk)];have:x.toNat/2^k<=x.toNat:=dQ _ _;rw[aR (a:=x.toNat/2^k) (by omega)]
 have e:∀(k i:Nat),k=8*i->k<=24->i8 (((i32 (shrI .u32 ((x).toNat:Int) (k:Int)))).toNat:Int)=byF (i64 (x.toNat:Int)) i:=fun k i h hk=>by apply UInt8.toNat_inj.1;rw[b k (by omega),ylE _ (by omega),e64,h]
 have e0:i8 ((x).toNat:Int)=byF (i64 (x.toNat:Int)) 0:=by apply UInt8.toNat_inj.1;rw[i8n rfl,ylE _ (by omega),e64];simp
 simp only[beF];rw[show(24:Int)=((24:Nat):Int)from rfl,show(16:Int)=((16:Nat):Int)from rfl,show(8:Int)=((8:Nat):Int)from rfl,e 24 3 rfl (by decide),e 16 2 rfl (by decide),e 8 1 rfl (by decide),e0]
theorem xaB(n:UInt64):beF (i64 (((i32 (((i64 (shrI .u64 ((n).toNat:Int) 32))).toNat:Int))).toNat:Int)) 4++beF (i64 (((i32 (((n&&&(4294967295:UInt64))).toNat:Int))).toNat:Int)) 4=beF n 8:=by
 have hn:=n.toNat_lt;have h1:(i64 (((i32 (((i64 (shrI .u64 ((n).toNat:Int) 32))).toNat:Int))).toNat:Int)).toNat=n.toNat/4294967296:=by rw[i64n rfl,i32n rfl,show(32:Int)=((32:Nat):Int)from rfl,i64n (yxX n.toNat (by decide))];omega
 have h2:(i64 (((i32 (((n&&&(4294967295:UInt64))).toNat:Int))).toNat:Int)).toNat=n.toNat%4294967296:=by rw[i64n rfl,i32n rfl,UInt64.toNat_and,show(4294967295:UInt64).toNat=2^32-1 from rfl,Nat.and_two_pow_sub_one_eq_mod];omega
 have k1:∀i,i<=3->byF (i64 (((i32 (((i64 (shrI .u64 ((n).toNat:Int) 32))).toNat:Int))).toNat:Int)) i=byF n (4+i):=fun i hi=>by apply UInt8.toNat_inj.1;rw[ylE _ (by omega),ylE _ (by omega),h1];rcases(by omega:i=0∨i=1∨i=2∨i=3)with rfl|rfl|rfl|rfl<;>simp only[fM,gK,dX]<;>omega
 have k2:∀i,i<=3->byF (i64 (((i32 (((n&&&(4294967295:UInt64))).toNat:Int))).toNat:Int)) i=byF n i:=fun i hi=>by apply UInt8.toNat_inj.1;rw[ylE _ (by omega),ylE _ (by omega),h2];rcases(by omega:i=0∨i=1∨i=2∨i=3)with rfl|rfl|rfl|rfl<;>simp only[fM,dX]<;>omega
 simp only[beF];rw[k1 3 (by decide),k1 2 (by decide),k1 1 (by decide),k1 0 (by decide),k2 3 (by decide),k2 2 (by decide),k2 1 (by decide),k2 0 (by decide)];rfl
theorem ypF(a:Nat){k:Nat}(hk:k<=32):(i32 (shlI .u32 (a:Int) (k:Int))).toNat=a*2^k%4294967296:=by
 rw[i32n (n:=a*2^k%4294967296)]
 ·exact iF _ _
 ·unfold shlI;rw[show min ((k:Int)).toNat IntKind.u32.bits=k by show min k 32=k;omega,zbT,show(a:Int)*2^k=((a*2^k:Nat):Int) by simp,i32n rfl]
theorem shl64n(a:Nat){k:Nat}(hk:k<=64):(i64 (shlI .u64 (a:Int) (k:Int))).toNat=a*2^k%18446744073709551616:=by
 rw[i64n (n:=a*2^k%18446744073709551616)]
 ·exact iF _ _
 ·unfold shlI;rw[show min ((k:Int)).toNat IntKind.u64.bits=k by show min k 64=k;omega,zcI,show(a:Int)*2^k=((a*2^k:Nat):Int) by simp,i64n rfl]
theorem yiB(k:Nat){a b:Nat}(h:b<2^k):a*2^k|||b=a*2^k+b:=by rw[Nat.mul_comm];exact(Nat.two_pow_add_eq_or_of_lt h a).symm
theorem zfF(s:UInt64)(b:UInt8)(h:s.toNat<2^56):((i64 (shlI .u64 (s.toNat:Int) 8))|||(i64 (b.toNat:Int))).toNat=s.toNat*256+b.toNat:=by have hb:=b.toNat_lt;rw[UInt64.toNat_or,show(8:Int)=((8:Nat):Int)from rfl,shl64n _ (by decide),i64n rfl,aR (a:=s.toNat*2^8) (by omega),aR (a:=b.toNat) (by omega),yiB 8 (by omega)]
theorem xcS(a b c d:UInt8):((((i32 (shlI .u32 (((i32 ((a).toNat:Int))).toNat:Int) 24))|||(i32 (shlI .u32 (((i32 ((b).toNat:Int))).toNat:Int) 16)))|||(i32 (shlI .u32 (((i32 ((c).toNat:Int))).toNat:Int) 8)))|||(i32 ((d).toNat:Int)))=i32 (((valF [a,b,c,d]).toNat:Int)):=by
 have ha:=a.toNat_lt;have hb:=b.toNat_lt;have hc:=c.toNat_lt;have hd:=d.toNat_lt;apply UInt32.toNat_inj.1;have h0:∀x:UInt8,(i32 ((x).toNat:Int)).toNat=x.toNat:=fun x=>by have:=x.toNat_lt;rw[i32n rfl];omega
 rw[UInt32.toNat_or,UInt32.toNat_or,UInt32.toNat_or,show(24:Int)=((24:Nat):Int)from rfl,show(16:Int)=((16:Nat):Int)from rfl,show(8:Int)=((8:Nat):Int)from rfl,ypF _ (by decide),ypF _ (by decide),ypF _ (by decide),h0,h0,h0,h0,i32n rfl];have e1:(valF [a,b,c,d]).toNat=((a.toNat*256+b.toNat)*256+c.toNat)*256+d.toNat:=by unfold valF;simp only[List.foldl_cons,List.foldl_nil];have z:(0:UInt64).toNat=0:=rfl;rw[zfF _ d (by rw[zfF _ c (by rw[zfF _ b (by rw[zfF _ a (by rw[z];decide),z];omega),zfF _ a (by rw[z];decide),z];omega),zfF _ b (by rw[zfF _ a (by rw[z];decide),z];omega),zfF _ a (by rw[z];decide),z];omega),zfF _ c (by rw[zfF _ b (by rw[zfF _ a (by rw[z];decide),z];omega),zfF _ a (by rw[z];decide),z];omega),zfF _ b (by rw[zfF _ a (by rw[z];decide),z];omega),zfF _ a (by rw[z];decide),z];omega
 rw[e1,aR (a:=a.toNat*2^24) (by omega),aR (a:=b.toNat*2^16) (by omega),aR (a:=c.toNat*2^8) (by omega)];rw[yiB 24 (b:=b.toNat*2^16) (by omega),show a.toNat*2^24+b.toNat*2^16=(a.toNat*2^8+b.toNat)*2^16 by omega,yiB 16 (b:=c.toNat*2^8) (by omega),show(a.toNat*2^8+b.toNat)*2^16+c.toNat*2^8=((a.toNat*2^8+b.toNat)*2^8+c.toNat)*2^8 by omega,yiB 8 (by omega)];omega
def l8(s:St8):List UInt32:=[s.1,s.2.1,s.2.2.1,s.2.2.2.1,s.2.2.2.2.1,s.2.2.2.2.2.1,s.2.2.2.2.2.2.1,s.2.2.2.2.2.2.2]
theorem yeR{l:List UInt32}{k:Nat}{u:UInt32}(h:k<l.length):setL l (k:Int) u=some (l.set k u):=by unfold setL;rw[show(decide (0<=(k:Int))&&decide ((k:Int)<(l.length:Int)))=true by simp;exact h];rfl
theorem rorR(x:UInt32)(n:Nat)(hn:n<=32):zdR x (n:Int)=some (rr x n):=by
 unfold zdR;have e:w64 ((32:Int)-(n:Int))=((32-n:Nat):Int):=by rw[zfD (by omega) (by omega)];omega
 rw[zkV (zA (by omega)),zaA,e,zkV (zA (by omega)),zaA,rr,UInt32.or_comm]
theorem R_b3{b:Bs}{j:Nat}(h:64*(j+1)<=b.length)(hl:b.length<=68719476736)(s:List UInt32):
  iter (zrS b (((64*j:Nat):Int),s)) (0,aN 64 (0:UInt32))=some (W1 ((b.drop (64*j)).take 64) 16).l:=by
 refine zbY (fun k=>((k:Int),(W1 ((b.drop (64*j)).take 64) k).l)) 16 (by decide) _ (fun k hk=>?_) ?_
 ·unfold zrS;have e1:w64 ((4:Int)*(k:Int))=((4*k:Nat):Int):=zfD (by omega) (by omega);have e2:w64 (((64*j:Nat):Int)+((4*k:Nat):Int))=((64*j+4*k:Nat):Int):=by rw[zfD (by omega) (by omega)];omega
  have e3:∀c:Nat,c<=3->w64 (((64*j+4*k:Nat):Int)+(c:Int))=((64*j+4*k+c:Nat):Int):=fun c hc=>by rw[zfD (by omega) (by omega)];omega
  have hw:=(W1 ((b.drop (64*j)).take 64) k).h;rw[zdT (by omega)];simp only[e1,e2];rw[show(1:Int)=((1:Nat):Int)from rfl,show(2:Int)=((2:Nat):Int)from rfl,show(3:Int)=((3:Nat):Int)from rfl,e3 1 (by decide),e3 2 (by decide),e3 3 (by decide)];rw[zhM (l:=b) rfl (by omega),zaA,zhM (l:=b) rfl (by omega),zaA,zhM (l:=b) rfl (by omega),zaA,zhM (l:=b) rfl (by omega),zaA,zgV rfl (by omega),zaA,yeR (by rw[hw];omega),zaA,xcS,show((1:Nat):Int)=1 from rfl,w64s k (by omega)]
  have hd:(((b.drop (64*j)).take 64).take (4*k+4)).drop (4*k)=[b[64*j+4*k]'(by omega),b[64*j+4*k+1]'(by omega),b[64*j+4*k+2]'(by omega),b[64*j+4*k+3]'(by omega)]:=by
   apply List.ext_getElem
   ·simp only[List.length_drop,bY,aO,aZ];omega
   ·intro i h1 h2;simp only[aO,aZ]at h2;rcases(by omega:i=0∨i=1∨i=2∨i=3)with rfl|rfl|rfl|rfl<;>simp[List.getElem_drop,List.getElem_take,Nat.add_assoc]
  simp only[W1,hd,vset]
 ·unfold zrS;rw[zeG (by omega)]
theorem R_b4(w:Vec UInt32 64):iter zsJ (16,w.l)=some (W2 w 48).l:=by
 refine zbY (fun k=>(((16+k:Nat):Int),(W2 w k).l)) 48 (by decide) _ (fun k hk=>?_) ?_
 ·unfold zsJ;have e:∀(a:Int) (b:Nat),a=(b:Int)->b<64->w64 a=(b:Int):=fun a b e h=>by rw[e];exact w64n (by omega)
  have hw:=(W2 w k).h;rw[zdT (by omega)];simp only[e (((16+k:Nat):Int)-15) (k+1) (by omega) (by omega),e (((16+k:Nat):Int)-2) (k+14) (by omega) (by omega),e (((16+k:Nat):Int)-16) k (by omega) (by omega),e (((16+k:Nat):Int)-7) (k+9) (by omega) (by omega)];simp only[zgV (x:=W2 w k) (i:=k+1) rfl (by omega),zgV (x:=W2 w k) (i:=k+14) rfl (by omega),zgV (x:=W2 w k) (i:=k) rfl (by omega),zgV (x:=W2 w k) (i:=k+9) rfl (by omega),zgV (x:=W2 w k) (i:=16+k) rfl (by omega),zaA];rw[show(7:Int)=((7:Nat):Int)from rfl,show(18:Int)=((18:Nat):Int)from rfl,show(17:Int)=((17:Nat):Int)from rfl,show(19:Int)=((19:Nat):Int)from rfl,rorR _ 7 (by decide),zaA,rorR _ 18 (by decide),zaA,rorR _ 17 (by decide),zaA,rorR _ 19 (by decide),zaA,yeR (by rw[hw];omega),zaA,w64s (16+k) (by omega)];rfl
 ·unfold zsJ;rw[zeG (by omega)]
theorem R_b5(K w:Vec UInt32 64)(s:St8):iter (zrY K.l w.l) (l8 s,0)=some (l8 (R3 K w s 64)):=by
 refine zbY (fun k=>(l8 (R3 K w s k),(k:Int))) 64 (by decide) _ (fun k hk=>?_) ?_
 ·unfold zrY;rw[zdT (by omega)];have i0:∀t:St8,idx (l8 t) 0=some t.1:=fun _=>rfl;have i1:∀t:St8,idx (l8 t) 1=some t.2.1:=fun _=>rfl;have i2:∀t:St8,idx (l8 t) 2=some t.2.2.1:=fun _=>rfl;have i3:∀t:St8,idx (l8 t) 3=some t.2.2.2.1:=fun _=>rfl;have i4:∀t:St8,idx (l8 t) 4=some t.2.2.2.2.1:=fun _=>rfl;have i5:∀t:St8,idx (l8 t) 5=some t.2.2.2.2.2.1:=fun _=>rfl;have i6:∀t:St8,idx (l8 t) 6=some t.2.2.2.2.2.2.1:=fun _=>rfl;have i7:∀t:St8,idx (l8 t) 7=some t.2.2.2.2.2.2.2:=fun _=>rfl;have r6:∀x,zdR x 6=some (rr x 6):=fun x=>rorR x 6 (by decide);have r11:∀x,zdR x 11=some (rr x 11):=fun x=>rorR x 11 (by decide);have r25:∀x,zdR x 25=some (rr x 25):=fun x=>rorR x 25 (by decide);have r2:∀x,zdR x 2=some (rr x 2):=fun x=>rorR x 2 (by decide);have r13:∀x,zdR x 13=some (rr x 13):=fun x=>rorR x 13 (by decide);have r22:∀x,zdR x 22=some (rr x 22):=fun x=>rorR x 22 (by decide);simp only[i0,i1,i2,i3,i4,i5,i6,i7,r6,r11,r25,r2,r13,r22,zaA,zgV (x:=K) (i:=k) rfl hk,zgV (x:=w) (i:=k) rfl hk];rw[w64s k (by omega)];rfl
 ·unfold zrY;rw[zeG (by omega)]
theorem zlM(a b:UInt32):ad8 a b=ad8 b a:=by unfold ad8;rw[Int.add_comm]
def pt8'(v s:St8)(k:Nat):St8:=(if 0<k then ad8 s.1 v.1 else s.1,if 1<k then ad8 s.2.1 v.2.1 else s.2.1,if 2<k then ad8 s.2.2.1 v.2.2.1 else s.2.2.1,if 3<k then ad8 s.2.2.2.1 v.2.2.2.1 else s.2.2.2.1,if 4<k then ad8 s.2.2.2.2.1 v.2.2.2.2.1 else s.2.2.2.2.1,if 5<k then ad8 s.2.2.2.2.2.1 v.2.2.2.2.2.1 else s.2.2.2.2.2.1,if 6<k then ad8 s.2.2.2.2.2.2.1 v.2.2.2.2.2.2.1 else s.2.2.2.2.2.2.1,if 7<k then ad8 s.2.2.2.2.2.2.2 v.2.2.2.2.2.2.2 else s.2.2.2.2.2.2.2)
theorem R_b6(v s:St8):iter (yeH (l8 v)) (0,l8 s)=some (l8 (add8 v s)):=by
 have:l8 (add8 v s)=l8 (pt8' v s 8):=by simp only[add8,zlM v.1,zlM v.2.1,zlM v.2.2.1,zlM v.2.2.2.1,zlM v.2.2.2.2.1,zlM v.2.2.2.2.2.1,zlM v.2.2.2.2.2.2.1,zlM v.2.2.2.2.2.2.2];rfl
 rw[this];refine zbY (fun k=>((k:Int),l8 (pt8' v s k))) 8 (by decide) _ (fun k hk=>?_) ?_
 ·rcases(by omega:k=0∨k=1∨k=2∨k=3∨k=4∨k=5∨k=6∨k=7)with rfl|rfl|rfl|rfl|rfl|rfl|rfl|rfl<;>rfl
 ·rfl
theorem R_b2(K:Vec UInt32 64){b:Bs}(h:b.length%64=0)(hl:b.length<=68719476736):
  iter (zsF K.l b) (0,l8 ini8)=some (l8 (zgT K b (b.length/64))):=by
 refine zbY (fun k=>(((64*k:Nat):Int),l8 (zgT K b k))) (b.length/64) (by omega) _ (fun k hk=>?_) ?_
 ·unfold zsF;have hz:mkL 64 (0:UInt32)=some (aN 64 0):=yxI (n:=64) (by decide);have ha:app ([]:List UInt32) (l8 (zgT K b k))=some (l8 (zgT K b k)):=zfN (a:=[]) (by simp[l8]);rw[zdT (by omega)];simp only[];rw[hz,zaA,R_b3 (by omega) hl,zaA,zaA,R_b4,zaA,zaA,ha,zaA,R_b5,zaA,zaA,R_b6,zaA,zaA,zfD (by omega) (by omega)];rw[show((64*k:Nat):Int)+64=((64*(k+1):Nat):Int) by omega];rfl
 ·unfold zsF;rw[zeG (by omega)]
theorem R_b7(s:St8):iter (zsB (l8 s)) (0,([]:Bs))=some (outF s):=by
 rw[<-yfV];refine zbY (fun k=>((k:Int),outN s k)) 8 (by decide) _ (fun k hk=>?_) ?_
 ·unfold zsB;have e:idx (l8 s) (k:Int)=some (at8 s k):=by rcases(by omega:k=0∨k=1∨k=2∨k=3∨k=4∨k=5∨k=6∨k=7)with rfl|rfl|rfl|rfl|rfl|rfl|rfl|rfl<;>rfl
  rw[zdT (by omega),e,zaA,ypI,zaA,zfN (by rw[zuZ,zkP];omega),zaA,w64s k (by omega)];rfl
 ·unfold zsB;rw[zeG (by omega)]
theorem R_ini:(aA (zkG 8) fun y8=>iter (ydO y8) ((0,aN 8 (0:UInt32))))=some (l8 ini8):=zC (by kernel_rfl)
def prL:List UInt64:=[2,3,5,7,11,13,17,19,23,29,31,37,41,43,47,53,59,61,67,71,73,79,83,89,97,101,103,107,109,113,127,131,137,139,149,151,157,163,167,173,179,181,191,193,197,199,211,223,227,229,233,239,241,251,257,263,269,271,277,281,283,293,307,311]
theorem R_pr:zkG 64=some prL:=zC (by kernel_rfl)
def rkB(a:Nat):Bool:=(bQ 8).all fun i=>zmQ (prL.getD (a+i) 0) 3==some (zqY.l.getD (a+i) 0)
theorem rk0:rkB (8*0)=true:=by kernel_rfl
theorem rk1:rkB (8*1)=true:=by kernel_rfl
theorem rk2:rkB (8*2)=true:=by kernel_rfl
theorem rk3:rkB (8*3)=true:=by kernel_rfl
theorem rk4:rkB (8*4)=true:=by kernel_rfl
theorem rk5:rkB (8*5)=true:=by kernel_rfl
theorem rk6:rkB (8*6)=true:=by kernel_rfl
theorem rk7:rkB (8*7)=true:=by kernel_rfl
theorem R_root{i:Nat}(h:i<64):zmQ (prL.getD i 0) 3=some (zqY.l.getD i 0):=by
 have key:∀a j,rkB a=true->j<8->zmQ (prL.getD (a+j) 0) 3=some (zqY.l.getD (a+j) 0):=fun a j ha hj=>
  eq_of_beq (bF.1 ha j (bT.2 hj))
 have e:i=8*(i/8)+i%8:=by omega
 rw[e];refine key _ _ ?_ (Nat.mod_lt _ (by decide));rcases(by omega:i/8=0∨i/8=1∨i/8=2∨i/8=3∨i/8=4∨i/8=5∨i/8=6∨i/8=7)with h|h|h|h|h|h|h|h<;>rw[h]
 ·exact rk0
 ·exact rk1
 ·exact rk2
 ·exact rk3
 ·exact rk4
 ·exact rk5
 ·exact rk6
 ·exact rk7
theorem R_keys:zsK=some zqY.l:=by
 unfold zsK;have hl:zqY.l.length=64:=zqY.h;have hp:prL.length=64:=rfl;have key:iter (zqA prL) (0,([]:List UInt32))=some zqY.l:=by
  refine zbY (fun k=>((k:Int),zqY.l.take k)) 64 (by decide) _ (fun k hk=>?_) ?_
  ·unfold zqA;have h1:=R_root hk;rw[aT,aG (by omega),aT,aG (by omega),cN,cN]at h1;rw[zdT (by omega),zhM rfl (by omega),zaA,h1,zaA,zfN (by rw[bY,aO,aZ];omega),zaA,w64s k (by omega),zkM (by omega)]
  ·unfold zqA;rw[zeG (by omega),List.take_of_length_le (by omega)]
 rw[R_pr,zaA,key];rfl
theorem xdJ{l:Bs}(h:l.length<=68719470000):zmZ l zqY.l=some (shaF l):=by unfold zmZ;have hp:iter ycY (l++[128])=some (zwB l):=yxH h;have hb:=yaH l;have hz:mkL 8 (0:UInt32)=some (aN 8 0):=yxI (n:=8) (by decide);obtain⟨pr,h8,hi⟩:=Option.bind_eq_some_iff.1 R_ini;rw[zfN (by rw[aO,aZ];omega),zaA,hp,zaA,zaA,ypI,zaA,zfN (by rw[zkP];omega),zaA,ypI,zaA,zfN (by rw[aF,zkP,zkP];omega),zaA,aX,xaB,hz,zaA,h8,zaA,hi,zaA,zaA];rw[show zwB l++beF (i64 ((8:Int)*(((i64 ((l.length:Int)))).toNat:Int))) 8=msgF l from rfl,R_b2 zqY (yiU l) (by have:=yoZ l;omega),zaA,zaA,R_b7];rfl
def padX(x:UInt8)(l:Bs):Nat->Bs
 |0=>l|k+1=>(padX x l k).set k ((padX x l k).getD k 0^^^x)
theorem zuT(x:UInt8)(l:Bs):∀k,(padX x l k).length=l.length
 |0=>rfl|k+1=>by rw[padX,List.length_set,zuT x l k]
theorem ygI(x:UInt8)(l:Bs)(i:Nat)(hi:i<l.length):∀k,(padX x l k).getD i 0=if i<k then l.getD i 0^^^x else l.getD i 0
 |0=>by simp[padX]
 |k+1=>by
  have hl:=zuT x l k;rw[padX,aT,iL];by_cases h:k=i
  ·subst h;have:=ygI x l k hi k;rw[zG (by omega)]at this;rw[zH rfl,zH (by omega),zH (by omega),cN,this]
  ·rw[zG h,<-aT,ygI x l i hi k];by_cases h2:i<k
   ·rw[zH h2,zH (by omega)]
   ·rw[zG h2,zG (by omega)]
theorem ybH(c:UInt8)(key:Bs)(i:Nat)(hi:i<64):∀k,(ziT c key k).getD i 0=if i<k then c^^^key.getD i 0 else c
 |0=>by rw[ziT,aT,iO,zH hi,zG (Nat.not_lt_zero i)];rfl
 |k+1=>by
  have hl:=zhQ c key k;rw[ziT,aT,iL];by_cases h:k=i
  ·subst h;have:=ybH c key k hi k;rw[zG (by omega)]at this;rw[zH rfl,zH (by omega),zH (by omega),cN,this]
  ·rw[zG h,<-aT,ybH c key i hi k];by_cases h2:i<k
   ·rw[zH h2,zH (by omega)]
   ·rw[zG h2,zG (by omega)]
theorem ytV(c:UInt8)(key:Bs)(hk:key.length<=64):padX c (key++aN (64-key.length) 0) 64=ziT c key key.length:=by
 have hl:(key++aN (64-key.length) (0:UInt8)).length=64:=by simp;omega
 have h1:=zuT c (key++aN (64-key.length) (0:UInt8)) 64;have h2:=zhQ c key key.length;apply List.ext_getElem (by rw[h1,h2,hl]);intro i hi hi2;rw[h1,hl]at hi;have e1:=ygI c (key++aN (64-key.length) (0:UInt8)) i (by omega) 64;have e2:=ybH c key i hi key.length;rw[aT,aG (by omega),cN,zH hi]at e1;rw[aT,aG (by omega),cN]at e2;rw[e1,e2];by_cases h:i<key.length
 ·rw[zH h,aT,List.getElem?_append_left h,<-aT,UInt8.xor_comm]
 ·rw[zG h,aT,List.getElem?_append_right (by omega),iO,zH (by omega),cN];simp
theorem ysQ{key:Bs}{x:UInt8}(h:key.length<=68719470000):zkL key x zqY.l=some (ziT x (keyF key) (keyF key).length):=by
 unfold zkL;have hk:=yhJ key
 have e:(bif decide ((64:Int)<((key).length:Int))then(aA (zmZ key zqY.l) fun y1=>some (y1))else(some (key)))=some (keyF key):=by
  unfold keyF;by_cases h2:64<key.length
  ·rw[zdT (by omega),zdT h2,xdJ h];rfl
  ·rw[zeG (by omega),zeG h2]
 have h0:iter zjE (keyF key)=some (keyF key++aN (64-(keyF key).length) 0):=by
  have:=zbY (body:=zjE) (fun k=>keyF key++aN k (0:UInt8)) (64-(keyF key).length) (by omega) (keyF key++aN (64-(keyF key).length) 0) (fun k hk2=>by
   unfold zjE;have hl:(keyF key++aN k (0:UInt8)).length=(keyF key).length+k:=by simp
   rw[hl,zdT (by omega),zfN (by rw[hl,aO,aZ];omega),zaA,aX,<-List.replicate_succ']) (by
   unfold zjE
   rw[zeG (by simp;omega)])
  simpa using this
 rw[e,zaA,h0,zaA,zaA];have hl:(keyF key++aN (64-(keyF key).length) (0:UInt8)).length=64:=by simp;omega
 rw[<-ytV x (keyF key) hk];generalize keyF key++aN (64-(keyF key).length) (0:UInt8)=L at hl;have h1:iter (zlQ x) (0,L)=some (padX x L 64):=by
  refine zbY (fun k=>((k:Int),padX x L k)) 64 (by decide) _ (fun k hk2=>?_) ?_
  ·unfold zlQ;have hp:k<(padX x L k).length:=by rw[zuT];omega
   rw[zdT (by omega)];simp only[];rw[idxD hp,zaA,zaA,zzY hp,zaA,w64s k (by omega)];rfl
  ·unfold zlQ;rw[zeG (by omega)]
 rw[h1];rfl
theorem macR{key s:Bs}(hk:key.length<=68719470000)(hs:s.length<=68719460000):zzP key s=some (macF key s):=by
 unfold zzP ybI;have l2:=zhQ 92 (keyF key) (keyF key).length;have l1:=zhQ 54 (keyF key) (keyF key).length;have hi:(ziT 54 (keyF key) (keyF key).length++s).length<=68719470000:=by rw[aF,l1];omega
 have ho:(ziT 92 (keyF key) (keyF key).length++shaF (ziT 54 (keyF key) (keyF key).length++s)).length<=68719470000:=by rw[aF,l2,zvB];omega
 rw[R_keys,zaA,ysQ hk,zaA,ysQ hk,zaA,zfN (by rw[<-aF];omega),zaA,xdJ hi,zaA,zfN (by rw[<-aF];omega),zaA,xdJ ho];rfl
section
variable {P:Program}{ops:Array Oper}{n:Nat}{Φ:zeV}{w0:World}
def xcA(ops:Array Oper)(n t:Nat):Bool:=match ops[t]? with
 |some o=>(bQ n).all fun i=>(anc ops t (zcV o)).contains i
 |none=>true
end
def rmE(pos:Nat->Nat)(e:Edge):Edge:={ e with on:=pos e.on }
def rmO(pos:Nat->Nat)(o:Oper):Oper:={ o with after:=(o.after.toList.map (rmE pos)).toArray,guard:=o.guard.map fun p=>(pos p.1,p.2) }
structure PermS (ops ops':Array Oper) (pos inv:Nat->Nat):Prop where
 size:ops'.size=ops.size
 lt:∀i:Nat,i<ops.size->pos i<ops.size
 li:∀i,i<ops.size->inv (pos i)=i
 lt':∀j,j<ops.size->inv j<ops.size
 ri:∀j,j<ops.size->pos (inv j)=j
 at_:∀(i:Nat) (o:Oper),ops[i]? = some o->ops'[pos i]? = some (rmO pos o)
 edge:∀(i:Nat) (o:Oper),ops[i]? = some o->∀e∈o.after,e.on<ops.size
 guard:∀(i:Nat) (o:Oper),ops[i]? = some o->∀p,o.guard=some p->p.1<ops.size
section
variable {P:Program}{ops ops':Array Oper}{pos inv:Nat->Nat}{Q:Exit->Act->World->Prop}
theorem PermS.yield(S:PermS ops ops' pos inv){tmps:Array Value}{j:Nat}(hj:j<ops.size):yielded ops' tmps (pos j)=yielded ops tmps j:=by have h:=S.at_ j ops[j] (cO hj);unfold yielded;rw[h,cO hj];rfl
theorem PermS.want(S:PermS ops ops' pos inv){i:Nat}{o:Oper}{tmps:Array Value}(ho:ops[i]? = some o):Region.wanted (rmO pos o) (yielded ops' tmps)=Region.wanted o (yielded ops tmps):=by
 cases hg:o.guard with
 |none=>rw[show Region.wanted o (yielded ops tmps)=true by simp only[Region.wanted,hg]];simp only[Region.wanted,rmO,hg,Option.map_none]|some p=>obtain⟨g,b⟩:=p;have h:=S.yield (tmps:=tmps) (S.guard i o ho _ hg);simp only[Region.wanted,rmO,hg,Option.map_some]at h ⊢;rw[h]
theorem PermS.ready(S:PermS ops ops' pos inv){L L':Array Bool}(hs:L.size=ops.size)(hs':L'.size=ops.size)(hL:∀i,i<ops.size->L'.getD (pos i) false=L.getD i false){i:Nat}(hi:i<ops.size):
  pos i∈Region.ready .any ops' L'↔i∈Region.ready .any ops L:=by
 have hp:=S.lt i hi;have h1:L'.getD (pos i) true=L.getD i true:=by have:=hL i hi;simp only[Array.getD,hs,hs',hi,hp,dif_pos]at this ⊢;exact this
 constructor
 ·intro h;obtain⟨g1,o',ho',hd⟩:=mem_ready.1 h;have ho:=cO hi;have e:=S.at_ i _ ho;rw[e]at ho';cases ho';refine mem_ready.2 ⟨by rw[<-h1];exact g1,_,ho,fun e he hb=>?_⟩;have:=hd (rmE pos e) (List.mem_toArray.2 (dS.2 ⟨e,Array.mem_def.1 he,rfl⟩)) hb;rw[<-hL e.on (S.edge i _ ho e he)];exact this
 ·intro h;obtain⟨g1,o,ho,hd⟩:=mem_ready.1 h;refine mem_ready.2 ⟨by rw[h1];exact g1,_,S.at_ i o ho,fun e' he' hb=>?_⟩;obtain⟨e,he,rfl⟩:=dS.1 (List.mem_toArray.1 he');have he:=Array.mem_def.2 he;have:=hd e he hb;show L'.getD (pos e.on) false=true;rw[hL e.on (S.edge i o ho e he)];exact this
theorem ykS(S:PermS ops ops' pos inv):∀(m:Nat) (L L':Array Bool) (a:Act) (w:World),L.size=ops.size->L'.size=ops.size->(∀i,i<ops.size->L'.getD (pos i) false=L.getD i false)->wpAny P .any ops' Q m L' a w->wpAny P .any ops Q m L a w:=by
 have nil:∀{L L':Array Bool},L.size=ops.size->L'.size=ops.size->(∀i,i<ops.size->L'.getD (pos i) false=L.getD i false)->(Region.ready .any ops L=[]↔Region.ready .any ops' L'=[]):=fun {L L'} hs hs' hL=>by
  rw[eX,eX];constructor
  ·intro h j hj;have hjn:j<ops.size:=by obtain⟨_,o,ho,_⟩:=mem_ready.1 hj;have:=(bE.1 ho).1;rw[S.size]at this;exact this
   refine h (inv j) ((S.ready hs hs' hL (S.lt' j hjn)).1 ?_);rw[S.ri j hjn];exact hj
  ·intro h i hi;have hin:i<ops.size:=by obtain⟨_,o,ho,_⟩:=mem_ready.1 hi;exact(bE.1 ho).1
   exact h (pos i) ((S.ready hs hs' hL hin).2 hi)
 intro m;induction m with
 |zero=>intro L L' a w hs hs' hL h;exact⟨(nil hs hs' hL).2 h.1,h.2⟩|succ m ih=>
  intro L L' a w hs hs' hL h;refine⟨fun h0=>h.1 ((nil hs hs' hL).1 h0),fun i hi=>?_⟩;obtain⟨_,o,ho,_⟩:=mem_ready.1 hi;have hin:=(bE.1 ho).1;have h2:=h.2 (pos i) ((S.ready hs hs' hL hin).2 hi)
  have hL2:∀k,k<ops.size->(L'.setIfInBounds (pos i) true).getD (pos k) false=(L.setIfInBounds i true).getD k false:=fun k hk=>by
   by_cases hki:k=i
   ·subst hki;simp[Array.getD,hs,hs',hin,S.lt k hin]
   ·have hpk:pos i≠pos k:=fun e=>hki (by rw[<-S.li k hk,<-S.li i hin,e]);rw[getD_set_ne false hpk,getD_set_ne false (Ne.symm hki)];exact hL k hk
  have hK:∀a w,wpAny P .any ops' Q m (L'.setIfInBounds (pos i) true) a w->wpAny P .any ops Q m (L.setIfInBounds i true) a w:=fun a w=>ih _ _ a w (by simp[hs]) (by simp[hs']) hL2;refine wpOp_mono hK ?_;unfold wpOp at h2 ⊢;rw[S.at_ i o ho]at h2;rw[ho];simp only at h2 ⊢;rw[S.want ho]at h2;exact h2
theorem RegAny.perm{l l':List Oper}{a:Act}{w:World}(S:PermS l.toArray l'.toArray pos inv)(h:RegAny P l' Q a w):RegAny P l Q a w:=by unfold RegAny at h ⊢;rw[S.size]at h;refine ykS S _ _ _ _ _ (by simp) (by simp) (fun i hi=>?_) h;rw[getD_replicate_false,getD_replicate_false]
end
inductive SK where
 |pu|la|rv|mn
abbrev Sch:=List (SK×Nat)
def dslk(ops:Array Oper)(j:Nat):Option Tmp:=match ops[j]? with
 |some o=>o.dst|none=>none
def zfV(ops:Array Oper)(i:Nat):List Nat:=match ops[i]? with
 |some o=>zcV o|none=>[]
def yiZ(ops:Array Oper)(i:Nat):List Tmp:=match ops[i]? with
 |some o=>o.looksAt ops|none=>[]
def ancB(ops:Array Oper)(i j:Nat):Bool:=(anc ops ops.size (zfV ops i)).contains j
def xbB(ops:Array Oper)(late mains:List Nat)(i j:Nat):Bool:=match dslk ops j with
 |none=>true|some d=>(j==i||dslk ops i != some d)&&(!(yiZ ops i).contains d||(j != i&&((ancB ops i j&&(!late.contains j||mains.contains i))||(mains.contains j&&ancB ops j i))))
def yuD(ops:Array Oper)(late mains:List Nat):Bool:=
 Region.noSelect ops&&(bQ ops.size).all (fun i=>(zfV ops i).all (fun j=>decide (j<i))&&(bQ ops.size).all (xbB ops late mains i))&&late.all (fun i=>!mains.contains i)
def zlN:Sch->Option Nat
 |(.rv,_)::s=>zlN s|(.mn,m)::_=>some m|_=>none
def schB(ops:Array Oper)(late mains:List Nat):Sch->List Nat->List Nat->Bool->Bool
 |[],D,U,_=>U.isEmpty&&(bQ ops.size).all D.contains|(.pu,i)::s,D,U,f=>!f&&decide (i<ops.size) && !D.contains i && !late.contains i && !mains.contains i&&(zfV ops i).all D.contains&&schB ops late mains s (i::D) U f|(.la,i)::s,D,U,f=>!f&&decide (i<ops.size) && !D.contains i&&late.contains i&&(zfV ops i).all D.contains&&schB ops late mains s (i::D) (i::U) f|(.rv,i)::s,D,U,_=>U.contains i&&(match zlN s with
  |some m=>ancB ops m i|none=>(bQ ops.size).all D.contains&&s.all fun p=>match p.1 with
   |.rv=>true|_=>false)&&schB ops late mains s D (U.filter fun u=>u != i) true
 |(.mn,i)::s,D,U,_=>decide (i<ops.size) && !D.contains i&&mains.contains i&&(zfV ops i).all D.contains&&(bQ ops.size).all (fun j=>D.contains j||j==i||(zfV ops j).any fun d=>!D.contains d) &&
   U.all (fun u=>match dslk ops u with
    |some d=>!(yiZ ops i).contains d|none=>true)&&schB ops late mains s (i::D) U false
section
variable {P:Program}{ops:Array Oper}{Q:Exit->Act->World->Prop}{Dsc:Nat->Value->Nat->Obj->Prop}{late mains:List Nat}
def updD(Dsc:Nat->Value->Nat->Obj->Prop)(i:Nat)(D:Value->Nat->Obj->Prop):Nat->Value->Nat->Obj->Prop:=fun t=>if t=i then D else Dsc t
def updJ(Jp:Nat->World->Prop)(i:Nat)(J:World->Prop):Nat->World->Prop:=fun t=>if t=i then J else Jp t
def ygP(ops:Array Oper)(i:Nat)(Pn:List Nat):List Nat:=Pn.filter fun j=>!ancB ops i j
def wpS(P:Program)(ops:Array Oper)(Q:Exit->Act->World->Prop):Sch->(Dsc:Nat->Value->Nat->Obj->Prop)->(Jp:Nat->World->Prop)->(Pn:List Nat)->(G:World->Prop)->(Kp:Nat->Prop)->Act->Prop
 |[],_,_,_,G,_,b=>∀w,G w->Q .normal b w|(.pu,i)::s,Dsc,Jp,Pn,G,Kp,b=>∃(o:Oper) (c:Value) (J:World->Prop),ops[i]? = some o/\((Region.wanted o (yielded ops b.tmps)=true/\∀w,J w->(execOp b.eval o).run P w = .ok (.value c) w)∨(Region.wanted o (yielded ops b.tmps)=false/\c=undef))/\(∀w,G w->J w)/\wpS P ops Q s Dsc (updJ Jp i J) (i::Pn) G Kp (b.put o.dst c)|(.la,i)::s,Dsc,Jp,Pn,G,Kp,b=>∃(o:Oper) (D:Value->Nat->Obj->Prop),ops[i]? = some o/\Region.wanted o (yielded ops b.tmps)=true/\(∀w,∃v k x w',(execOp b.eval o).run P w = .ok (.value v) w'/\Ext w w'/\w.heap.size<=k/\w'.heap[k]? = some x/\D v k x)/\wpS P ops Q s (updD Dsc i D) Jp Pn G Kp b|(.rv,i)::s,Dsc,Jp,Pn,G,Kp,b=>∃o,ops[i]? = some o/\∀v k x,Dsc i v k x->¬Kp k->(∃w,G w/\w.heap[k]? = some x)->∃(G':World->Prop) (Kp':Nat->Prop),(∀w,G w->w.heap[k]? = some x->G' w)/\(∀j∈Pn,∀w,G' w->Jp j w)/\(∀u u',G' u->Ext u u'->G' u')/\(∀u,G' u->∀k,Kp' k->k<u.heap.size)/\(∀b,Kp' b->Kp b∨b=k)/\wpS P ops Q s Dsc Jp Pn G' Kp' (b.put o.dst v)|(.mn,i)::s,Dsc,Jp,Pn,G,Kp,b=>∃o,ops[i]? = some o/\∀w,G w->(Region.wanted o (yielded ops b.tmps)=true/\outcome P (fun v w'=>∃(G':World->Prop) (Kp':Nat->Prop),(∀j∈ygP ops i Pn,∀u,G' u->Jp j u)/\(∀u u',G' u->Ext u u'->G' u')/\(∀u,G' u->∀k,Kp' k->k<u.heap.size)/\G' w'/\(∀k,Kp' k->Kp k∨w.heap.size<=k)/\(∀k,k<w.heap.size->¬Kp k->w'.heap[k]? = w.heap[k]?)/\wpS P ops Q s Dsc Jp (ygP ops i Pn) G' Kp' (b.put o.dst v)) ((execOp b.eval o).run P w))∨(Region.wanted o (yielded ops b.tmps)=false/\wpS P ops Q s Dsc Jp (ygP ops i Pn) G Kp (b.put o.dst undef))
def OpenAt(late mains:List Nat)(D U:List Nat)(L:Array Bool)(i:Nat):Prop:=i∈D/\((i∈U/\L.getD i false=true)∨(i∉mains/\i∉late/\L.getD i false=false))
structure SInv (P:Program) (ops:Array Oper) (Dsc:Nat->Value->Nat->Obj->Prop) (late mains:List Nat) (Jp:Nat->World->Prop) (Pn:List Nat) (G:World->Prop) (Kp:Nat->Prop) (D U:List Nat) (L:Array Bool) (a b:Act) (w:World) (V:Nat->Value) (bk:Nat->Nat) (ob:Nat->Obj):Prop where
 size:L.size=ops.size
 sub:∀i,L.getD i false=true->i∈D
 lt:∀i∈D,i<ops.size
 dcl:∀i∈D,∀j∈zfV ops i,j∈D
 lcl:∀i,L.getD i false=true->∀j∈zfV ops i,L.getD j false=true
 mdone:∀i∈D,i∈mains->L.getD i false=true
 udone:∀i∈D,i∈late->i∉U->L.getD i false=true
 uD:∀i∈U,i∈D/\i∈late
 pp:∀i∈D,i∉mains->i∉late->L.getD i false=false->∀o,ops[i]? = some o->∃c,((Region.wanted o (yielded ops b.tmps)=true/\∀w,Jp i w->(execOp b.eval o).run P w = .ok (.value c) w)∨(Region.wanted o (yielded ops b.tmps)=false/\c=undef))/\∀s,o.dst=some s->b.tmps[s]? = (a.tmps[s]?).map fun _=>c
 lu:∀i∈U,L.getD i false=false->∀o,ops[i]? = some o->Region.wanted o (yielded ops b.tmps)=true/\∀w,∃v k x w',(execOp b.eval o).run P w = .ok (.value v) w'/\Ext w w'/\w.heap.size<=k/\w'.heap[k]? = some x/\Dsc i v k x
 lf:∀i∈U,L.getD i false=true->Dsc i (V i) (bk i) (ob i)/\w.heap[bk i]? = some (ob i)/\¬Kp (bk i)/\∀o s,ops[i]? = some o->o.dst=some s->a.tmps[s]? = (b.tmps[s]?).map fun _=>V i
 lj:∀i∈U,∀j∈U,L.getD i false=true->L.getD j false=true->bk i=bk j->i=j
 other:∀s,(∀i o,OpenAt late mains D U L i->ops[i]? = some o->o.dst≠some s)->a.tmps[s]? = b.tmps[s]?
 defers:a.defers=b.defers
 gw:G w
 pn:∀i∈D,i∉mains->i∉late->L.getD i false=false->i∈Pn
 gj:∀j∈Pn,∀u,G u->Jp j u
 gx:∀u u',G u->Ext u u'->G u'
 gk:∀u,G u->∀k,Kp k->k<u.heap.size
structure zsL (ops:Array Oper) (late mains:List Nat):Prop where
 sel:Region.noSelect ops=true
 deps:∀i,i<ops.size->∀j∈zfV ops i,j<i
 dst:∀(i j:Nat) (oi oj:Oper) (d:Tmp),ops[i]? = some oi->ops[j]? = some oj->oj.dst=some d->j≠i->oi.dst≠some d
 look:∀(i j:Nat) (oi oj:Oper) (d:Tmp),ops[i]? = some oi->ops[j]? = some oj->oj.dst=some d->d∈oi.looksAt ops->j≠i/\((ancB ops i j=true/\(j∈late->i∈mains))∨(j∈mains/\ancB ops j i=true))
 dis:∀i∈late,i∉mains
theorem xbG(h:yuD ops late mains=true):zsL ops late mains:=by
 unfold yuD at h;simp only[aL,bF,bT,zD]at h;obtain⟨⟨h1,h2⟩,h3⟩:=h;have hsz:∀{i:Nat} {o:Oper},ops[i]? = some o->i<ops.size:=fun h=>(bE.1 h).1;refine⟨h1,fun i hi=>(h2 i hi).1,fun i j oi oj d hi hj hd hne=>?_,fun i j oi oj d hi hj hd hl=>?_,fun i hi hm=>?_⟩
 ·have:=(h2 i (hsz hi)).2 j (hsz hj);unfold xbB dslk at this;simp only[hi,hj,hd,aL,cH,beq_iff_eq,hne,false_or,bne_iff_ne]at this;exact this.1
 ·have:=(h2 i (hsz hi)).2 j (hsz hj);unfold xbB dslk yiZ at this;simp only[hi,hj,hd,aL,cH,cK,bW,decide_eq_false_iff_not,bne_iff_ne,zD]at this;rcases this.2 with h|⟨h,h4⟩
  ·exact absurd hl h
  ·refine⟨h,h4.imp (fun h=>⟨h.1,fun hh=>h.2.resolve_left (fun k=>k hh)⟩) id⟩
 ·have:=h3 i hi;simp only[cK,bW,decide_eq_false_iff_not]at this;exact this hm
theorem zrI{i:Nat}{o:Oper}(h:ops[i]? = some o):zfV ops i=zcV o:=by unfold zfV;rw[h]
theorem zpY{L:Array Bool}(hl:∀i,L.getD i false=true->∀j∈zfV ops i,L.getD j false=true){i j:Nat}(hd:∀k∈zfV ops i,L.getD k false=true)(h:ancB ops i j=true):L.getD j false=true:=by unfold ancB at h;simp only[bW,zD]at h;exact ybW (p:=fun q=>L.getD q false=true) (N:=ops.size) (fun q oq _ hq hoq r hr=>hl q hq r (by rw[zrI hoq];exact hr)) ops.size _ (aJ _) hd j h
theorem anc_D{D:List Nat}(hl:∀i∈D,∀j∈zfV ops i,j∈D){i j:Nat}(hi:i∈D)(h:ancB ops i j=true):j∈D:=by unfold ancB at h;simp only[bW,zD]at h;exact ybW (p:=fun q=>q∈D) (N:=ops.size) (fun q oq _ hq hoq r hr=>hl q hq r (by rw[zrI hoq];exact hr)) ops.size _ (aJ _) (hl i hi) j h
theorem SInv.agree{Jp:Nat->World->Prop}{Pn:List Nat}{G:World->Prop}{Kp:Nat->Prop}{D U:List Nat}{L:Array Bool}{a b:Act}{w:World}{V:Nat->Value}{bk:Nat->Nat}{ob:Nat->Obj}(I:SInv P ops Dsc late mains Jp Pn G Kp D U L a b w V bk ob)(S:zsL ops late mains){i:Nat}{o:Oper}(ho:ops[i]? = some o) (hd:∀k∈zfV ops i,L.getD k false=true) (hu:i∈mains->∀u∈U,∀d,dslk ops u=some d->d∉o.looksAt ops):∀t∈o.looksAt ops,a.tmps[t]? = b.tmps[t]?:=fun t ht=>I.other t fun j oj hj hoj hdj=>by
 obtain⟨hne,h⟩:=S.look i j o oj t ho hoj hdj ht;have hlate:j∈U->i∈mains->False:=fun hjU him=>hu him j hjU t (by unfold dslk;rw[hoj];exact hdj) ht;rcases h with⟨h1,h2⟩|⟨h1,_⟩
 ·have hl:=zpY I.lcl hd h1;rcases hj.2 with⟨hjU,_⟩|⟨_,_,h3⟩
  ·exact hlate hjU (h2 (I.uD j hjU).2)
  ·rw[hl]at h3;cases h3
 ·rcases hj.2 with⟨hjU,_⟩|⟨h3,_⟩
  ·exact S.dis j (I.uD j hjU).2 h1
  ·exact h3 h1
theorem SInv.ran{Jp:Nat->World->Prop}{Pn:List Nat}{G:World->Prop}{Kp:Nat->Prop}{D U:List Nat}{L:Array Bool}{a b:Act}{w:World}{V:Nat->Value}{bk:Nat->Nat}{ob:Nat->Obj}(I:SInv P ops Dsc late mains Jp Pn G Kp D U L a b w V bk ob)(S:zsL ops late mains){i:Nat}{o:Oper}(ho:ops[i]? = some o) (hd:∀k∈zfV ops i,L.getD k false=true) (hu:i∈mains->∀u∈U,∀d,dslk ops u=some d->d∉o.looksAt ops):execOp a.eval o=execOp b.eval o/\Region.wanted o (yielded ops a.tmps)=Region.wanted o (yielded ops b.tmps):=
 zoK (fun cs c=>Region.noSelect_spec S.sel i o cs c ho) (I.agree S ho hd hu)
theorem zeE{L:Array Bool}{j:Nat}(hj:j<L.size)(k:Nat):(L.setIfInBounds j true).getD k false=true↔L.getD k false=true∨k=j:=by
 by_cases hkj:k=j
 ·subst hkj;simp[hj]
 ·rw[getD_set_ne false (Ne.symm hkj)];simp[hkj]
theorem zrT{L:Array Bool}{j:Nat}(hj:j<L.size){k:Nat}(h:(L.setIfInBounds j true).getD k false=false):L.getD k false=false/\k≠j:=by have:=mt (zeE hj k).2 (by rw[h];simp);simp only[not_or]at this;exact⟨by simpa using this.1,this.2⟩
section
variable {Jp:Nat->World->Prop}{Pn:List Nat}{G:World->Prop}{Kp:Nat->Prop}{D U:List Nat}{L:Array Bool}{a b:Act}{w:World}{V:Nat->Value}{bk:Nat->Nat}{ob:Nat->Obj}{i:Nat}{o:Oper}
theorem znE(S:zsL ops late mains){j:Nat}{oj:Oper}(hoj:ops[j]? = some oj){v:Value}(h:∀d,o.dst=some d->d∉oj.looksAt ops):execOp (b.put o.dst v).eval oj=execOp b.eval oj/\Region.wanted oj (yielded ops (b.put o.dst v).tmps)=Region.wanted oj (yielded ops b.tmps):=
 zoK (fun cs c=>Region.noSelect_spec S.sel j oj cs c hoj) fun t ht=>by rw[zcO,zG fun e=>h t e ht]
theorem SInv.pu(I:SInv P ops Dsc late mains Jp Pn G Kp D U L a b w V bk ob)(S:zsL ops late mains)(ho:ops[i]? = some o)(hi:i∉D)(h1:i∉late)(h2:i∉mains)(hd:∀k∈zfV ops i,k∈D){c:Value}{J:World->Prop} (hc:(Region.wanted o (yielded ops b.tmps)=true/\∀w,J w->(execOp b.eval o).run P w = .ok (.value c) w)∨(Region.wanted o (yielded ops b.tmps)=false/\c=undef)) (hJ:∀w,G w->J w):SInv P ops Dsc late mains (updJ Jp i J) (i::Pn) G Kp (i::D) U L a (b.put o.dst c) w V bk ob:=by
 have hsz:i<ops.size:=(bE.1 ho).1;have hnl:L.getD i false=false:=by
  cases h:L.getD i false with
  |false=>rfl|true=>exact absurd (I.sub i h) hi
 have mem:∀{k},k∈i::D->k≠i->k∈D:=fun h hn=>(aV.1 h).resolve_left hn
 have far:∀{j oj},j∈D->ops[j]? = some oj->∀d,o.dst=some d->d∉oj.looksAt ops:=fun {j oj} hj hoj d hdd hl=>by
  obtain⟨_,h|⟨h,_⟩⟩:=S.look j i oj o d hoj ho hdd hl
  ·exact hi (anc_D I.dcl hj h.1)
  ·exact h2 h
 refine { I with sub:=fun k hk=>aS _ (I.sub k hk),lt:=fun k hk=>?_,dcl:=fun k hk j hj=>?_,mdone:=fun k hk hm=>?_,udone:=fun k hk hm hu=>?_,uD:=fun k hk=>⟨aS _ (I.uD k hk).1,(I.uD k hk).2⟩,pp:=fun k hk hm hl hn ok hok=>?_,lu:=fun k hk hn ok hok=>?_,lf:=fun k hk hl=>?_,other:=fun s hs=>?_,defers:=?_,pn:=fun k hk hm hl hn=>?_,gj:=fun k hk u hu=>?_ }
 ·rcases aV.1 hk with rfl|hk
  ·exact hsz
  ·exact I.lt k hk
 ·rcases aV.1 hk with rfl|hk
  ·exact aS _ (hd j hj)
  ·exact aS _ (I.dcl k hk j hj)
 ·exact I.mdone k (mem hk fun e=>h2 (e▸hm)) hm
 ·exact I.udone k (mem hk fun e=>h1 (e▸hm)) hm hu
 ·by_cases e:k=i
  ·subst e;have:ok=o:=osi (hok.symm.trans ho);subst this;have hself:∀d,ok.dst=some d->d∉ok.looksAt ops:=fun d hdd hll=>(S.look k k ok ok d ho ho hdd hll).1 rfl;obtain⟨e1,e2⟩:=znE (b:=b) (v:=c) S ho hself;refine⟨c,by rw[e1,e2,show updJ Jp k J k=J by unfold updJ;rw[zH rfl]];exact hc,fun s hs=>?_⟩;rw[zcO,zH hs];rw[<-I.other s fun j oj hj hoj hdj=>?_];by_cases hji:j=k
   ·subst hji;exact absurd hj.1 hi
   ·exact S.dst j k oj ok s hoj ho hs (Ne.symm hji) hdj
  ·obtain⟨c',g1,g2⟩:=I.pp k (mem hk e) hm hl hn ok hok;obtain⟨e1,e2⟩:=znE (b:=b) (v:=c) S hok (far (mem hk e) hok);refine⟨c',by rw[e1,e2,show updJ Jp i J k=Jp k by unfold updJ;rw[zG e]];exact g1,fun s hs=>?_⟩;rw[zcO,zG (S.dst i k o ok s ho hok hs e)];exact g2 s hs
 ·obtain⟨e1,e2⟩:=znE (b:=b) (v:=c) S hok (far (I.uD k hk).1 hok);rw[e1,e2];exact I.lu k hk hn ok hok
 ·obtain⟨g1,g2,g3,g4⟩:=I.lf k hk hl;refine⟨g1,g2,g3,fun ok s hok hs=>?_⟩;have e:k≠i:=fun e=>hi (e▸(I.uD k hk).1);rw[zcO,zG (S.dst i k o ok s ho hok hs e)];exact g4 ok s hok hs
 ·by_cases hds:o.dst=some s
  ·exact absurd hds (hs i o ⟨bA,.inr ⟨h2,h1,hnl⟩⟩ ho)
  ·rw[zcO,zG hds];exact I.other s fun j oj hj hoj=>hs j oj ⟨aS _ hj.1,hj.2⟩ hoj
 ·rw[I.defers];cases o.dst<;>rfl
 ·by_cases e:k=i
  ·subst e;exact bA
  ·exact aS _ (I.pn k (mem hk e) hm hl hn)
 ·by_cases e:k=i
  ·subst e;rw[show updJ Jp k J k=J by unfold updJ;rw[zH rfl]];exact hJ u hu
  ·rw[show updJ Jp i J k=Jp k by unfold updJ;rw[zG e]];exact I.gj k ((aV.1 hk).resolve_left e) u hu
theorem SInv.la(I:SInv P ops Dsc late mains Jp Pn G Kp D U L a b w V bk ob)(ho:ops[i]? = some o)(hi:i∉D)(h1:i∈late)(h2:i∉mains)(hd:∀k∈zfV ops i,k∈D) {Di:Value->Nat->Obj->Prop} (hc:Region.wanted o (yielded ops b.tmps)=true/\∀w,∃v k x w',(execOp b.eval o).run P w = .ok (.value v) w'/\Ext w w'/\w.heap.size<=k/\w'.heap[k]? = some x/\Di v k x):SInv P ops (updD Dsc i Di) late mains Jp Pn G Kp (i::D) (i::U) L a b w V bk ob:=by
 have oth:∀{k},k∈U->updD Dsc i Di k=Dsc k:=fun {k} hk=>by have:k≠i:=fun e=>hi (e▸(I.uD k hk).1);unfold updD;rw[zG this]
 have hsz:i<ops.size:=(bE.1 ho).1;have hnl:L.getD i false=false:=by
  cases h:L.getD i false with
  |false=>rfl|true=>exact absurd (I.sub i h) hi
 have hlist:∀{k},k∈i::U->L.getD k false=true->k∈U:=fun {k} hk hl=>by
  rcases aV.1 hk with rfl|hk
  ·rw[hnl]at hl;cases hl
  ·exact hk
 refine { I with sub:=fun k hk=>aS _ (I.sub k hk),lt:=fun k hk=>?_,dcl:=fun k hk j hj=>?_,mdone:=fun k hk hm=>?_,udone:=fun k hk hm hu=>?_,uD:=fun k hk=>?_,pp:=fun k hk hm hl hn ok hok=>?_,lu:=fun k hk hn ok hok=>?_,lf:=fun k hk hl=>(by rw[oth (hlist hk hl)];exact I.lf k (hlist hk hl) hl),lj:=fun k hk j hj g1 g2=>I.lj k (hlist hk g1) j (hlist hj g2) g1 g2,other:=fun s hs=>?_,pn:=fun k hk hm hl hn=>?_ }
 ·rcases aV.1 hk with rfl|hk
  ·exact hsz
  ·exact I.lt k hk
 ·rcases aV.1 hk with rfl|hk
  ·exact aS _ (hd j hj)
  ·exact aS _ (I.dcl k hk j hj)
 ·rcases aV.1 hk with rfl|hk
  ·exact absurd hm h2
  ·exact I.mdone k hk hm
 ·rcases aV.1 hk with rfl|hk
  ·exact absurd bA hu
  ·exact I.udone k hk hm fun h=>hu (aS _ h)
 ·rcases aV.1 hk with rfl|hk
  ·exact⟨bA,h1⟩
  ·exact⟨aS _ (I.uD k hk).1,(I.uD k hk).2⟩
 ·rcases aV.1 hk with rfl|hk
  ·exact absurd h1 hl
  ·exact I.pp k hk hm hl hn ok hok
 ·rcases aV.1 hk with rfl|hk
  ·have:ok=o:=osi (hok.symm.trans ho);subst this;rw[show updD Dsc k Di k=Di by unfold updD;rw[zH rfl]];exact hc
  ·rw[oth hk];exact I.lu k hk hn ok hok
 ·refine I.other s fun j oj hj hoj=>hs j oj ⟨aS _ hj.1,hj.2.imp (fun h=>⟨aS _ h.1,h.2⟩) id⟩ hoj
 ·rcases aV.1 hk with rfl|hk
  ·exact absurd h1 hl
  ·exact I.pn k hk hm hl hn
theorem SInv.nolook(_I:SInv P ops Dsc late mains Jp Pn G Kp D U L a b w V bk ob)(S:zsL ops late mains)(ho:ops[i]? = some o)(hi:i∈late){k:Nat}{ok:Oper}(hok:ops[k]? = some ok)(hk:k∉mains):∀d,o.dst=some d->d∉ok.looksAt ops:=fun d hd hl=>by
 obtain⟨_,h|h⟩:=S.look k i ok o d hok ho hd hl
 ·exact hk (h.2 hi)
 ·exact S.dis i hi h.1
theorem SInv.exP(I:SInv P ops Dsc late mains Jp Pn G Kp D U L a b w V bk ob)(S:zsL ops late mains)(ho:ops[i]? = some o)(hi:i∈D)(h1:i∉late)(hd:∀k∈zfV ops i,L.getD k false=true){c:Value} (hc:∀s,o.dst=some s->b.tmps[s]? = (a.tmps[s]?).map fun _=>c):SInv P ops Dsc late mains Jp Pn G Kp D U (L.setIfInBounds i true) (a.put o.dst c) b w V bk ob:=by
 have hsz:i<L.size:=by rw[I.size];exact(bE.1 ho).1
 have up:∀{k},L.getD k false=true->(L.setIfInBounds i true).getD k false=true:=fun h=>(zeE hsz _).2 (.inl h);have dn:∀{k},k∈U->(L.setIfInBounds i true).getD k false=true->L.getD k false=true:=fun {k} hk h=>((zeE hsz _).1 h).resolve_right fun e=>h1 (e▸(I.uD k hk).2);refine { I with size:=by simp[I.size],sub:=fun k hk=>?_,lcl:=fun k hk j hj=>?_,mdone:=fun k hk hm=>up (I.mdone k hk hm),udone:=fun k hk hm hu=>up (I.udone k hk hm hu),pp:=fun k hk hm hl hn ok hok=>?_,lu:=fun k hk hn ok hok=>I.lu k hk (zrT hsz hn).1 ok hok,lf:=fun k hk hl=>?_,lj:=fun k hk j hj g1 g2=>I.lj k hk j hj (dn hk g1) (dn hj g2),other:=fun s hs=>?_,defers:=?_,pn:=fun k hk hm hl hn=>I.pn k hk hm hl (zrT hsz hn).1 }
 ·rcases(zeE hsz k).1 hk with h|rfl
  ·exact I.sub k h
  ·exact hi
 ·rcases(zeE hsz k).1 hk with h|rfl
  ·exact up (I.lcl k h j hj)
  ·exact up (hd j hj)
 ·obtain⟨hn,hne⟩:=zrT hsz hn;obtain⟨c',g1,g2⟩:=I.pp k hk hm hl hn ok hok;refine⟨c',g1,fun s hs=>?_⟩;rw[zcO,zG (S.dst i k o ok s ho hok hs hne)];exact g2 s hs
 ·obtain⟨g1,g2,g3,g4⟩:=I.lf k hk (dn hk hl);refine⟨g1,g2,g3,fun ok s hok hs=>?_⟩;rw[zcO,zG (S.dst i k o ok s ho hok hs fun e=>h1 (e▸(I.uD k hk).2))];exact g4 ok s hok hs
 ·rw[zcO];by_cases hds:o.dst=some s
  ·rw[zH hds];exact(hc s hds).symm
  ·rw[zG hds];refine I.other s fun j oj hj hoj hdj=>?_;by_cases hji:j=i
   ·subst hji;exact hds (by rw[<-osi (hoj.symm.trans ho)];exact hdj)
   ·refine hs j oj ⟨hj.1,hj.2.imp (fun h=>⟨h.1,up h.2⟩) fun h=>⟨h.1,h.2.1,?_⟩⟩ hoj hdj;rw[getD_set_ne false (Ne.symm hji)];exact h.2.2
 ·rw[<-I.defers];cases o.dst<;>rfl
theorem SInv.exL(I:SInv P ops Dsc late mains Jp Pn G Kp D U L a b w V bk ob)(S:zsL ops late mains)(ho:ops[i]? = some o)(hi:i∈U)(hn:L.getD i false=false)(hd:∀k∈zfV ops i,L.getD k false=true){v:Value}{k:Nat}{x:Obj}{w':World} (hx:Ext w w') (hk:w.heap.size<=k) (hh:w'.heap[k]? = some x) (hD:Dsc i v k x):SInv P ops Dsc late mains Jp Pn G Kp D U (L.setIfInBounds i true) (a.put o.dst v) b w' (fun t=>if t=i then v else V t) (fun t=>if t=i then k else bk t) (fun t=>if t=i then x else ob t):=by
 have hsz:i<L.size:=by rw[I.size];exact(bE.1 ho).1
 have hil:=(I.uD i hi).2;have up:∀{k},L.getD k false=true->(L.setIfInBounds i true).getD k false=true:=fun h=>(zeE hsz _).2 (.inl h);have lt:∀{t},t∈U->L.getD t false=true->bk t<w.heap.size:=fun {t} ht hl=>(bE.1 (I.lf t ht hl).2.1).1;refine { I with size:=by simp[I.size],sub:=fun k hk=>?_,lcl:=fun k hk j hj=>?_,mdone:=fun k hk hm=>up (I.mdone k hk hm),udone:=fun k hk hm hu=>up (I.udone k hk hm hu),pp:=fun t ht hm hl hn ok hok=>?_,lu:=fun k hk hn ok hok=>I.lu k hk (zrT hsz hn).1 ok hok,lf:=fun t ht hl=>?_,lj:=fun t ht j hj g1 g2 e=>?_,other:=fun s hs=>?_,defers:=?_,gw:=I.gx _ _ I.gw hx,pn:=fun k hk hm hl hn=>I.pn k hk hm hl (zrT hsz hn).1 }
 ·rcases(zeE hsz k).1 hk with h|rfl
  ·exact I.sub k h
  ·exact(I.uD k hi).1
 ·rcases(zeE hsz k).1 hk with h|rfl
  ·exact up (I.lcl k h j hj)
  ·exact up (hd j hj)
 ·obtain⟨hn,hne⟩:=zrT hsz hn;obtain⟨c',g1,g2⟩:=I.pp t ht hm hl hn ok hok;refine⟨c',g1,fun s hs=>?_⟩;rw[zcO,zG (S.dst i t o ok s ho hok hs hne)];exact g2 s hs
 ·by_cases e:t=i
  ·subst e;simp only[if_true];refine⟨hD,hh,fun hK=>absurd (I.gk w I.gw k hK) (by omega),fun ok s hok hs=>?_⟩;have:ok=o:=osi (hok.symm.trans ho);subst this;rw[zcO,zH hs,I.other s fun j oj hj hoj hdj=>?_];by_cases hjt:j=t
   ·subst hjt;rcases hj.2 with⟨_,h⟩|⟨_,h,_⟩
    ·rw[hn]at h;cases h
    ·exact h hil
   ·exact S.dst j t oj ok s hoj hok hs (Ne.symm hjt) hdj
  ·simp only[zG e];have hl':L.getD t false=true:=((zeE hsz _).1 hl).resolve_right e;obtain⟨g1,g2,g3,g4⟩:=I.lf t ht hl';refine⟨g1,by rw[hx.block _ (lt ht hl')];exact g2,g3,fun ok s hok hs=>?_⟩;rw[zcO,zG (S.dst i t o ok s ho hok hs e)];exact g4 ok s hok hs
 ·by_cases e1:t=i
  ·by_cases e2:j=i
   ·rw[e1,e2]
   ·have hl':L.getD j false=true:=((zeE hsz _).1 g2).resolve_right e2;have:=lt hj hl';simp only[e1,if_true,zG e2]at e;omega
  ·have hl':L.getD t false=true:=((zeE hsz _).1 g1).resolve_right e1;by_cases e2:j=i
   ·have:=lt ht hl';simp only[e2,if_true,zG e1]at e;omega
   ·simp only[zG e1,zG e2]at e;exact I.lj t ht j hj hl' (((zeE hsz _).1 g2).resolve_right e2) e
 ·have hds:o.dst≠some s:=hs i o ⟨(I.uD i hi).1,.inl ⟨hi,(zeE hsz i).2 (.inr rfl)⟩⟩ ho;rw[zcO,zG hds];refine I.other s fun j oj hj hoj hdj=>?_;by_cases hji:j=i
  ·subst hji;exact hds (by rw[<-osi (hoj.symm.trans ho)];exact hdj)
  ·refine hs j oj ⟨hj.1,hj.2.imp (fun h=>⟨h.1,up h.2⟩) fun h=>⟨h.1,h.2.1,?_⟩⟩ hoj hdj;rw[getD_set_ne false (Ne.symm hji)];exact h.2.2
 ·rw[<-I.defers];cases o.dst<;>rfl
theorem SInv.rv(I:SInv P ops Dsc late mains Jp Pn G Kp D U L a b w V bk ob)(S:zsL ops late mains)(ho:ops[i]? = some o)(hi:i∈U)(hl:L.getD i false=true){G':World->Prop}{Kp':Nat->Prop} (g1:∀w,G w->w.heap[bk i]? = some (ob i)->G' w) (g2:∀j∈Pn,∀w,G' w->Jp j w) (g3:∀u u',G' u->Ext u u'->G' u') (g4:∀u,G' u->∀k,Kp' k->k<u.heap.size) (g5:∀c,Kp' c->Kp c∨c=bk i):
  SInv P ops Dsc late mains Jp Pn G' Kp' D (U.filter fun u=>u != i) L a (b.put o.dst (V i)) w V bk ob:=by
 have mem:∀{k},k∈U.filter (fun u=>u != i)->k∈U/\k≠i:=fun h=>by simpa using cY.1 h
 have hil:=(I.uD i hi).2;refine { I with udone:=fun k hk hm hu=>?_,uD:=fun k hk=>I.uD k (mem hk).1,pp:=fun k hk hm hlk hn ok hok=>?_,lu:=fun k hk hn ok hok=>?_,lf:=fun k hk hlk=>?_,lj:=fun k hk j hj=>I.lj k (mem hk).1 j (mem hj).1,other:=fun s hs=>?_,defers:=?_,gw:=g1 w I.gw (I.lf i hi hl).2.1,gj:=g2,gx:=g3,gk:=g4 }
 ·by_cases e:k=i
  ·subst e;exact hl
  ·exact I.udone k hk hm fun h=>hu (cY.2 ⟨h,by simp[e]⟩)
 ·have hne:k≠i:=fun e=>hlk (e▸hil);obtain⟨c',h1,h2⟩:=I.pp k hk hm hlk hn ok hok;obtain⟨e1,e2⟩:=znE (b:=b) (v:=V i) S hok (I.nolook S ho hil hok hm);refine⟨c',by rw[e1,e2];exact h1,fun s hs=>?_⟩;rw[zcO,zG (S.dst i k o ok s ho hok hs hne)];exact h2 s hs
 ·obtain⟨hk,hne⟩:=mem hk;obtain⟨e1,e2⟩:=znE (b:=b) (v:=V i) S hok (I.nolook S ho hil hok (S.dis k (I.uD k hk).2));rw[e1,e2];exact I.lu k hk hn ok hok
 ·obtain⟨hk,hne⟩:=mem hk;obtain⟨h1,h2,h3,h4⟩:=I.lf k hk hlk;refine⟨h1,h2,fun hK=>?_,fun ok s hok hs=>?_⟩
  ·rcases g5 _ hK with h|h
   ·exact h3 h
   ·exact hne (I.lj k hk i hi hlk hl h)
  ·rw[zcO,zG (S.dst i k o ok s ho hok hs hne)];exact h4 ok s hok hs
 ·by_cases hds:o.dst=some s
  ·rw[zcO,zH hds];exact(I.lf i hi hl).2.2.2 o s ho hds
  ·rw[zcO,zG hds];refine I.other s fun j oj hj hoj hdj=>?_;by_cases hji:j=i
   ·subst hji;exact hds (by rw[<-osi (hoj.symm.trans ho)];exact hdj)
   ·exact hs j oj ⟨hj.1,hj.2.imp (fun h=>⟨cY.2 ⟨h.1,by simp[hji]⟩,h.2⟩) id⟩ hoj hdj
 ·rw[I.defers];cases o.dst<;>rfl
theorem SInv.exM(I:SInv P ops Dsc late mains Jp Pn G Kp D U L a b w V bk ob)(S:zsL ops late mains)(ho:ops[i]? = some o)(hi:i∉D)(hm:i∈mains)(hd:∀k∈zfV ops i,L.getD k false=true){v:Value}{w':World}{G':World->Prop}{Kp':Nat->Prop} (g1:∀j∈ygP ops i Pn,∀u,G' u->Jp j u) (g2:∀u u',G' u->Ext u u'->G' u') (g3:∀u,G' u->∀k,Kp' k->k<u.heap.size) (g4:G' w') (g5:∀k,Kp' k->Kp k∨w.heap.size<=k) (g6:∀k,k<w.heap.size->¬Kp k->w'.heap[k]? = w.heap[k]?):
  SInv P ops Dsc late mains Jp (ygP ops i Pn) G' Kp' (i::D) U (L.setIfInBounds i true) (a.put o.dst v) (b.put o.dst v) w' V bk ob:=by
 have hsz:i<L.size:=by rw[I.size];exact(bE.1 ho).1
 have hnl:i∉late:=fun h=>S.dis i h hm;have up:∀{k},L.getD k false=true->(L.setIfInBounds i true).getD k false=true:=fun h=>(zeE hsz _).2 (.inl h);have dn:∀{k},k∈U->(L.setIfInBounds i true).getD k false=true->L.getD k false=true:=fun {k} hk h=>((zeE hsz _).1 h).resolve_right fun e=>hnl (e▸(I.uD k hk).2);have mem:∀{k},k∈i::D->k≠i->k∈D:=fun h hn=>(aV.1 h).resolve_left hn
 have far:∀{k ok},k∈D->L.getD k false=false->ops[k]? = some ok->∀d,o.dst=some d->d∉ok.looksAt ops:=fun {k ok} hk hn hok d hdd hl=>by
  obtain⟨_,h|h⟩:=S.look k i ok o d hok ho hdd hl
  ·exact hi (anc_D I.dcl hk h.1)
  ·have:=zpY I.lcl hd h.2;rw[hn]at this;cases this
 have ne:∀{k},k∈D->k≠i:=fun hk e=>hi (e▸hk);refine { size:=by simp[I.size],sub:=fun k hk=>?_,lt:=fun k hk=>?_,dcl:=fun k hk j hj=>?_,lcl:=fun k hk j hj=>?_,mdone:=fun k hk hm=>?_,udone:=fun k hk hm hu=>?_,uD:=fun k hk=>⟨aS _ (I.uD k hk).1,(I.uD k hk).2⟩,pp:=fun k hk hm hl hn ok hok=>?_,lu:=fun k hk hn ok hok=>?_,lf:=fun k hk hl=>?_,lj:=fun k hk j hj h1 h2=>I.lj k hk j hj (dn hk h1) (dn hj h2),other:=fun s hs=>?_,defers:=?_,gw:=g4,pn:=fun k hk hm hl hn=>?_,gj:=g1,gx:=g2,gk:=g3 }
 ·rcases(zeE hsz k).1 hk with h|rfl
  ·exact aS _ (I.sub k h)
  ·exact bA
 ·rcases aV.1 hk with rfl|hk
  ·rw[<-I.size];exact hsz
  ·exact I.lt k hk
 ·rcases aV.1 hk with rfl|hk
  ·exact aS _ (I.sub j (hd j hj))
  ·exact aS _ (I.dcl k hk j hj)
 ·rcases(zeE hsz k).1 hk with h|rfl
  ·exact up (I.lcl k h j hj)
  ·exact up (hd j hj)
 ·by_cases e:k=i
  ·subst e;exact(zeE hsz k).2 (.inr rfl)
  ·exact up (I.mdone k (mem hk e) hm)
 ·have e:k≠i:=fun e=>hnl (e▸hm);exact up (I.udone k (mem hk e) hm hu)
 ·obtain⟨hn,hne⟩:=zrT hsz hn;have hkD:=mem hk hne;obtain⟨c',h1,h2⟩:=I.pp k hkD hm hl hn ok hok;obtain⟨e1,e2⟩:=znE (b:=b) (v:=v) S hok (far hkD hn hok);refine⟨c',by rw[e1,e2];exact h1,fun s hs=>?_⟩;rw[zcO,zcO,zG (S.dst i k o ok s ho hok hs hne),zG (S.dst i k o ok s ho hok hs hne)];exact h2 s hs
 ·obtain⟨hn,hne⟩:=zrT hsz hn;obtain⟨e1,e2⟩:=znE (b:=b) (v:=v) S hok (far (I.uD k hk).1 hn hok);rw[e1,e2];obtain⟨h1,h2⟩:=I.lu k hk hn ok hok;exact⟨h1,h2⟩
 ·obtain⟨h1,h2,h3,h4⟩:=I.lf k hk (dn hk hl);have hlt:=(bE.1 h2).1;refine⟨h1,by rw[g6 _ hlt h3];exact h2,fun hK=>?_,fun ok s hok hs=>?_⟩
  ·rcases g5 _ hK with h|h
   ·exact h3 h
   ·omega
  ·have hne:=ne (I.uD k hk).1;rw[zcO,zcO,zG (S.dst i k o ok s ho hok hs hne),zG (S.dst i k o ok s ho hok hs hne)];exact h4 ok s hok hs
 ·have base:(∀j oj,j≠i->OpenAt late mains D U L j->ops[j]? = some oj->oj.dst≠some s)->a.tmps[s]? = b.tmps[s]?:=fun h=>I.other s fun j oj hj hoj=>h j oj (ne hj.1) hj hoj;rw[zcO,zcO];by_cases hds:o.dst=some s
  ·rw[zH hds,zH hds,base fun j oj hji hj hoj hdj=>S.dst j i oj o s hoj ho hds (Ne.symm hji) hdj]
  ·rw[zG hds,zG hds];refine base fun j oj hji hj hoj=>hs j oj ⟨aS _ hj.1,hj.2.imp (fun h=>⟨h.1,up h.2⟩) fun h=>⟨h.1,h.2.1,?_⟩⟩ hoj;rw[getD_set_ne false (Ne.symm hji)];exact h.2.2
 ·have:=I.defers;cases o.dst<;>exact this
 ·obtain⟨hn,hne⟩:=zrT hsz hn;refine cY.2 ⟨I.pn k (mem hk hne) hm hl hn,?_⟩;cases h:ancB ops i k with
  |false=>rfl|true=>have:=zpY I.lcl hd h;rw[hn]at this;cases this
theorem SInv.same(I:SInv P ops Dsc late mains Jp Pn G Kp D [] L a b w V bk ob)(h:∀i,i<ops.size->L.getD i false=true):a=b:=by
 have h1:a.tmps=b.tmps:=Array.ext_getElem? fun s=>I.other s fun j oj hj _=>by
  rcases hj.2 with⟨h1,_⟩|⟨_,_,h2⟩
  ·cases h1
  ·rw[h j (I.lt j hj.1)]at h2;cases h2
 have h2:=I.defers;cases a;cases b;simp only at h1 h2;rw[h1,h2]
end
section
variable {Jp:Nat->World->Prop}{Pn:List Nat}{G:World->Prop}{Kp:Nat->Prop}{U:List Nat}{L:Array Bool}{a b:Act}{w:World}{V:Nat->Value}{bk:Nat->Nat}{ob:Nat->Obj}
theorem yxL{D:List Nat}:∀{rest:Sch} {U:List Nat} {f:Bool},schB ops late mains rest D U f=true->(∀i s,rest≠(.pu,i)::s)->(∀i s,rest≠(.la,i)::s) ->(∀m,zlN rest=some m->m∈mains/\m∉D/\m<ops.size/\∀j,j<ops.size->j∈D∨j=m∨∃d∈zfV ops j,d∉D)/\(zlN rest=none->∀j,j<ops.size->j∈D)
 |[],_,_,h,_,_=>by simp only[schB,aL,bF,bT,bW,zD]at h;exact⟨fun m hm=>(by cases hm),fun _=>h.2⟩
 |(.pu,i)::s,_,_,_,h1,_=>absurd rfl (h1 i s)|(.la,i)::s,_,_,_,_,h2=>absurd rfl (h2 i s)|(.mn,i)::s,_,_,h,_,_=>by
  simp only[schB,aL,bF,bT,bW,zD,cH,cK,decide_eq_false_iff_not,List.any_eq_true,beq_iff_eq]at h;refine⟨fun m hm=>?_,fun hm=>(by cases hm)⟩;cases hm;refine⟨h.1.1.1.1.2,h.1.1.1.1.1.2,h.1.1.1.1.1.1,fun j hj=>?_⟩;rcases h.1.1.2 j hj with(h1|h1)|h1
  ·exact .inl h1
  ·exact .inr (.inl h1)
  ·exact .inr (.inr h1)
 |(.rv,i)::s,_,_,h,_,_=>by simp only[schB,aL]at h;have hs:=h.2;have:=yxL (rest:=s) hs (fun i s' e=>by subst e;simp[schB]at hs) (fun i s' e=>by subst e;simp[schB]at hs);exact⟨fun m hm=>this.1 m hm,fun hm=>this.2 hm⟩
theorem yyJ{D:List Nat}(S:zsL ops late mains){m:Nat}:∀{rest:Sch} {U:List Nat} {f:Bool} {G:World->Prop} {Kp:Nat->Prop} {b:Act},SInv P ops Dsc late mains Jp Pn G Kp D U L a b w V bk ob->schB ops late mains rest D U f=true->wpS P ops Q rest Dsc Jp Pn G Kp b->zlN rest=some m->(∀k∈zfV ops m,L.getD k false=true) ->∃s f' U' G' Kp' b',SInv P ops Dsc late mains Jp Pn G' Kp' D U' L a b' w V bk ob/\schB ops late mains ((.mn,m)::s) D U' f'=true/\wpS P ops Q ((.mn,m)::s) Dsc Jp Pn G' Kp' b'
 |[],_,_,_,_,_,_,_,_,hm,_=>by cases hm
 |(.pu,i)::s,_,_,_,_,_,_,_,_,hm,_=>by cases hm
 |(.la,i)::s,_,_,_,_,_,_,_,_,hm,_=>by cases hm
 |(.mn,i)::s,U,f,G,Kp,b,I,h,hw,hm,_=>by cases hm;exact⟨s,f,U,G,Kp,b,I,h,hw⟩
 |(.rv,i)::s,U,f,G,Kp,b,I,h,hw,hm,hd=>by have hm':zlN s=some m:=hm;simp only[schB,hm',aL,bW,zD]at h;obtain⟨⟨hU,hanc⟩,hs⟩:=h;have hl:=zpY I.lcl hd hanc;obtain⟨o,ho,hw⟩:=hw;obtain⟨h1,h2,h3,_⟩:=I.lf i hU hl;obtain⟨G',Kp',g1,g2,g3,g4,g5,hw⟩:=hw _ _ _ h1 h3 ⟨w,I.gw,h2⟩;exact yyJ S (I.rv S ho hU hl g1 g2 g3 g4 g5) hs hw hm' hd
theorem yxF{D:List Nat}(S:zsL ops late mains)(hall:∀i,i<ops.size->L.getD i false=true):∀{rest:Sch} {U:List Nat} {f:Bool} {G:World->Prop} {Kp:Nat->Prop} {b:Act},SInv P ops Dsc late mains Jp Pn G Kp D U L a b w V bk ob->schB ops late mains rest D U f=true->wpS P ops Q rest Dsc Jp Pn G Kp b->zlN rest=none->(∀p∈rest,p.1 = .rv)->Q .normal a w
 |[],U,f,G,Kp,b,I,h,hw,_,_=>by simp only[schB,aL,List.isEmpty_iff]at h;obtain⟨rfl,_⟩:=h;rw[I.same hall];exact hw w I.gw
 |(.pu,i)::s,_,_,_,_,_,_,_,_,_,hr=>by cases hr _ bA
 |(.la,i)::s,_,_,_,_,_,_,_,_,_,hr=>by cases hr _ bA
 |(.mn,i)::s,_,_,_,_,_,_,_,_,hm,_=>by cases hm
 |(.rv,i)::s,U,f,G,Kp,b,I,h,hw,hm,hr=>by have hm':zlN s=none:=hm;simp only[schB,hm',aL,bW,zD]at h;obtain⟨⟨hU,_⟩,hs⟩:=h;have hl:=hall i (I.lt i (I.uD i hU).1);obtain⟨o,ho,hw⟩:=hw;obtain⟨h1,h2,h3,_⟩:=I.lf i hU hl;obtain⟨G',Kp',g1,g2,g3,g4,g5,hw⟩:=hw _ _ _ h1 h3 ⟨w,I.gw,h2⟩;exact yxF S hall (I.rv S ho hU hl g1 g2 g3 g4 g5) hs hw hm' fun p hp=>hr p (aS _ hp)
theorem yoF{D:List Nat}:∀{rest:Sch} {U:List Nat} {f:Bool},schB ops late mains rest D U f=true->(∀i s,rest≠(.pu,i)::s)->(∀i s,rest≠(.la,i)::s)->zlN rest=none->∀p∈rest,p.1 = .rv
 |[],_,_,_,_,_,_,p,hp=>by cases hp
 |(.pu,i)::s,_,_,_,h1,_,_,_,_=>absurd rfl (h1 i s)|(.la,i)::s,_,_,_,_,h2,_,_,_=>absurd rfl (h2 i s)|(.mn,i)::s,_,_,_,_,_,hm,_,_=>by cases hm
 |(.rv,i)::s,_,_,h,_,_,hm,p,hp=>by
  have hm':zlN s=none:=hm;simp only[schB,hm',aL]at h;rcases aV.1 hp with rfl|hp
  ·rfl
  ·have hs:=h.2;exact yoF (rest:=s) hs (fun i s' e=>by subst e;simp[schB]at hs) (fun i s' e=>by subst e;simp[schB]at hs) hm' p hp
end
theorem zxG(S:zsL ops late mains){m:Nat}(ihm:∀m',m'<m->∀(rest:Sch) (Dsc:Nat->Value->Nat->Obj->Prop) (D U:List Nat) (f:Bool) (Jp:Nat->World->Prop) (Pn:List Nat) (G:World->Prop) (Kp:Nat->Prop) (L:Array Bool) (a b:Act) (w:World) (V:Nat->Value) (bk:Nat->Nat) (ob:Nat->Obj),zeF ops.size L=m'->SInv P ops Dsc late mains Jp Pn G Kp D U L a b w V bk ob->schB ops late mains rest D U f=true->wpS P ops Q rest Dsc Jp Pn G Kp b->wpAny P .any ops Q m' L a w) {rest:Sch} {D U:List Nat} {f:Bool} {Jp:Nat->World->Prop} {Pn:List Nat} {G:World->Prop} {Kp:Nat->Prop} {L:Array Bool} {a b:Act} {w:World} {V:Nat->Value} {bk:Nat->Nat} {ob:Nat->Obj} (hm:zeF ops.size L=m) (I:SInv P ops Dsc late mains Jp Pn G Kp D U L a b w V bk ob) (hb:schB ops late mains rest D U f=true) (hw:wpS P ops Q rest Dsc Jp Pn G Kp b) (h1:∀i s,rest≠(.pu,i)::s) (h2:∀i s,rest≠(.la,i)::s):wpAny P .any ops Q m L a w:=by
 have hsat:=yxL hb h1 h2;have ltsz:∀{j},j∈Region.ready .any ops L->j<ops.size:=fun hj=>by obtain⟨_,o,ho,_⟩:=mem_ready.1 hj;exact(bE.1 ho).1
 have unl:∀{j},j∈Region.ready .any ops L->L.getD j false=false:=fun {j} hj=>by have hs:=ltsz hj;obtain⟨hu,_⟩:=mem_ready.1 hj;rw[zhN (by rw[I.size];exact hs)]at hu;exact hu
 cases m with
 |zero=>
  have hall:=zkA hm;have hn:zlN rest=none:=by
   cases h:zlN rest with
   |none=>rfl|some k=>obtain⟨_,g1,g2,_⟩:=hsat.1 k h;exact absurd (I.sub k (hall k g2)) g1
  refine⟨?_,yxF S hall I hb hw hn (yoF hb h1 h2 hn)⟩;rw[eX];intro j hj;have:=hall j (ltsz hj);rw[unl hj]at this;cases this
 |succ m=>
  have hex:∃i,i<ops.size/\L.getD i false=false:=by
   have:¬zeF ops.size L=0:=by omega
   unfold zeF at this;rw[List.countP_eq_zero]at this;have h2:∃i,¬(i∈bQ ops.size->¬((!L.getD i false)=true)):=Classical.not_forall.1 this;obtain⟨i,h⟩:=h2;by_cases hi:i<ops.size
   ·refine⟨i,hi,?_⟩;cases hp:L.getD i false with
    |false=>rfl|true=>exact absurd (fun _=>by rw[hp];simp) h
   ·exact absurd (fun hmem=>absurd (bT.1 hmem) hi) h
  have hne:Region.ready .any ops L≠[]:=by obtain⟨i,hi,hu,hleast⟩:=zlY _ hex;have hoi:ops[i]? = some ops[i]:=cO hi;have:i∈Region.ready .any ops L:=mem_ready.2 ⟨by rw[zhN (by rw[I.size];exact hi)];exact hu,_,hoi,fun e he hb=>hleast _ (S.deps i hi _ (by rw[zrI hoi];exact zkB.2 ⟨e,he,hb,rfl⟩))⟩;intro h0;rw[h0]at this;cases this
  refine⟨fun h0=>absurd h0 hne,fun j hj=>?_⟩;have hjs:=ltsz hj;have hju:=unl hj;obtain⟨_,oj,hoj,hdone⟩:=mem_ready.1 hj;have hdep:∀k∈zfV ops j,L.getD k false=true:=fun k hk=>by rw[zrI hoj]at hk;obtain⟨e,he,hb,hon⟩:=zkB.1 hk;rw[<-hon];exact hdone e he hb
  have hcount:=zpK hjs (by rw[I.size];exact hjs) hju;have hjD:j∈D∨zlN rest=some j:=by
   cases h:zlN rest with
   |none=>exact .inl (hsat.2 h j hjs)|some k=>
    rcases(hsat.1 k h).2.2.2 j hjs with h3|h3|⟨d,h3,h4⟩
    ·exact .inl h3
    ·exact .inr (by rw[h3])
    ·exact absurd (I.sub d (hdep d h3)) h4
  unfold wpOp;simp only[hoj];rcases hjD with hjD|hjm
  ·by_cases hjl:j∈late
   ·have hjU:j∈U:=Classical.byContradiction fun h=>by have:=I.udone j hjD hjl h;rw[hju]at this;cases this
    obtain⟨hwd,hrun⟩:=I.lu j hjU hju oj hoj;obtain⟨v,k,x,w',g1,g2,g3,g4,g5⟩:=hrun w;obtain⟨he,hwt⟩:=I.ran S hoj hdep (fun h=>absurd h (S.dis j hjl));rw[zH (by rw[hwt];exact hwd)];refine .inl ?_;unfold Oper.wp;rw[he,g1];exact ihm m (by omega) rest Dsc D U f Jp Pn G Kp _ _ b w' _ _ _ (by omega) (I.exL S hoj hjU hju hdep g2 g3 g4 g5) hb hw
   ·by_cases hjm:j∈mains
    ·have:=I.mdone j hjD hjm;rw[hju]at this;cases this
    ·obtain⟨c,hc,hs⟩:=I.pp j hjD hjm hjl hju oj hoj;obtain⟨he,hwt⟩:=I.ran S hoj hdep (fun h=>absurd h hjm);have next:=ihm m (by omega) rest Dsc D U f Jp Pn G Kp _ _ b w _ _ _ (by omega) (I.exP S hoj hjD hjl hdep hs) hb hw
     rcases hc with⟨hwd,hrun⟩|⟨hwd,rfl⟩
     ·rw[zH (by rw[hwt];exact hwd)];refine .inl ?_;unfold Oper.wp;rw[he,hrun w (I.gj j (I.pn j hjD hjm hjl hju) w I.gw)];exact next
     ·rw[zG (by rw[hwt,hwd];simp)];exact next
  ·obtain⟨s,f',U',G',Kp',b',I',hb',hw'⟩:=yyJ S I hb hw hjm hdep;obtain⟨o,ho,hw'⟩:=hw';have:o=oj:=osi (ho.symm.trans hoj);subst this;simp only[schB,aL,bF,bT,bW,zD,cK,decide_eq_false_iff_not]at hb';obtain⟨⟨⟨⟨⟨⟨hb1,hb2⟩,hb3⟩,hb4⟩,hb5⟩,hb6⟩,hb7⟩:=hb'
   obtain⟨he,hwt⟩:=I'.ran S hoj hdep (fun _ u hu d hd hl=>by
    have:=hb6 u hu;rw[hd]at this;simp only[cK,decide_eq_false_iff_not]at this
    exact this (by unfold yiZ;rw[hoj];exact hl))
   rcases hw' w I'.gw with⟨hwd,hout⟩|⟨hwd,hrest⟩
   ·rw[zH (by rw[hwt];exact hwd)];refine .inl ?_;rw[<-he]at hout;exact zpZ hout fun v w' ⟨G2,K2,g1,g2,g3,g4,g5,g6,hws⟩=>ihm m (by omega) s Dsc (j::D) U' false Jp _ G2 K2 _ _ _ w' _ _ _ (by omega) (I'.exM S hoj hb2 hb3 hdep g1 g2 g3 g4 g5 g6) hb7 hws
   ·rw[zG (by rw[hwt,hwd];simp)];exact ihm m (by omega) s Dsc (j::D) U' false Jp _ G' Kp' _ _ _ w _ _ _ (by omega) (I'.exM S hoj hb2 hb3 hdep (fun t ht=>I'.gj t (cY.1 ht).1) I'.gx I'.gk I'.gw (fun _ h=>.inl h) (fun _ _ _=>rfl)) hb7 hrest
theorem ykC(S:zsL ops late mains)(m:Nat):∀(rest:Sch) (Dsc:Nat->Value->Nat->Obj->Prop) (D U:List Nat) (f:Bool) (Jp:Nat->World->Prop) (Pn:List Nat) (G:World->Prop) (Kp:Nat->Prop) (L:Array Bool) (a b:Act) (w:World) (V:Nat->Value) (bk:Nat->Nat) (ob:Nat->Obj),zeF ops.size L=m->SInv P ops Dsc late mains Jp Pn G Kp D U L a b w V bk ob->schB ops late mains rest D U f=true->wpS P ops Q rest Dsc Jp Pn G Kp b ->
  wpAny P .any ops Q m L a w:=by
 induction m using Nat.strongRecOn with
 |_ m ihm=>
  intro rest;induction rest with
  |nil=>intro Dsc D U f Jp Pn G Kp L a b w V bk ob hm I hb hw;exact zxG S ihm hm I hb hw (fun _ _ e=>by cases e) (fun _ _ e=>by cases e)|cons p s ihs=>
   intro Dsc D U f Jp Pn G Kp L a b w V bk ob hm I hb hw;obtain⟨k,i⟩:=p;cases k with
   |pu=>obtain⟨o,c,J,ho,hc,hJ,hw⟩:=hw;simp only[schB,aL,bF,bW,zD,cK,decide_eq_false_iff_not]at hb;obtain⟨⟨⟨⟨⟨⟨h1,h2⟩,h3⟩,h4⟩,h5⟩,h6⟩,h7⟩:=hb;exact ihs _ _ _ _ _ _ _ _ _ _ _ _ _ _ _ hm (I.pu S ho h3 h4 h5 h6 hc hJ) h7 hw
   |la=>obtain⟨o,Di,ho,hwd,hc,hw⟩:=hw;simp only[schB,aL,bF,bW,zD,cK,decide_eq_false_iff_not]at hb;obtain⟨⟨⟨⟨⟨h1,h2⟩,h3⟩,h4⟩,h6⟩,h7⟩:=hb;exact ihs _ _ _ _ _ _ _ _ _ _ _ _ _ _ _ hm (I.la ho h3 h4 (S.dis i h4) h6 ⟨hwd,hc⟩) h7 hw
   |rv=>exact zxG S ihm hm I hb hw (fun _ _ e=>by cases e) (fun _ _ e=>by cases e)|mn=>exact zxG S ihm hm I hb hw (fun _ _ e=>by cases e) (fun _ _ e=>by cases e)
theorem yqM{l:List Oper}{a:Act}{w:World}{rest:Sch}{Jp:Nat->World->Prop}{G:World->Prop}{Kp:Nat->Prop}(hs:yuD l.toArray late mains=true)(hb:schB l.toArray late mains rest [] [] false=true)(hw:wpS P l.toArray (OnlyNormal Q) rest Dsc Jp [] G Kp a) (h1:G w.drew) (h3:∀u u',G u->Ext u u'->G u') (h4:∀u,G u->∀k,Kp k->k<u.heap.size):RegAny P l Q a w:=by
 unfold RegAny;have hf:∀j,(Array.replicate l.toArray.size false).getD j false=false:=fun j=>getD_replicate_false _ _;refine ykC (xbG hs) _ rest Dsc [] [] false Jp [] G Kp _ a a _ (fun _=>undef) (fun _=>0) (fun _=>default) ?_ ?_ hb hw
 ·unfold zeF;rw[List.countP_eq_length.2 (fun j _=>by rw[hf];rfl)];simp
 ·exact { size:=(by simp),sub:=fun i hi=>(by rw[hf]at hi;cases hi),lt:=fun i hi=>(by cases hi),dcl:=fun i hi=>(by cases hi),lcl:=fun i hi=>(by rw[hf]at hi;cases hi),mdone:=fun i hi=>(by cases hi),udone:=fun i hi=>(by cases hi),uD:=fun i hi=>(by cases hi),pp:=fun i hi=>(by cases hi),lu:=fun i hi=>(by cases hi),lf:=fun i hi=>(by cases hi),lj:=fun i hi=>(by cases hi),other:=fun s _=>rfl,defers:=rfl,gw:=h1,pn:=fun i hi=>(by cases hi),gj:=fun i hi=>(by cases hi),gx:=h3,gk:=h4 }
end
end Go.Proofs.YtmbcolbbekbccaaGreat
namespace Go.Proofs.YtmbcolbbekbccaaGreat.Am
open Go Go.RowKit
inductive Ty where
 |i (k:IntKind)|b|s|er|sl (e:Ty)|pr (a c:Ty)|un|mp (a c:Ty)
 /-- a slice of which only the length is known -/
 |jk (T:TypeId)
 /-- a pointer to what is only read any more -/
 |pt (t:Ty)
def den:Ty->Type
 |.i k=>match k with
  |.u8=>UInt8 | .u16=>UInt16 | .u32=>UInt32 | .u64=>UInt64|.i8=>Int | .i16=>Int | .i32=>Int | .i64=>Int
 |.b=>Bool|.s=>Bs|.er=>Bool|.sl e=>List (den e)|.pr a c=>den a×den c|.un=>Unit|.mp a c=>List (den a×den c)|.jk _=>Nat|.pt t=>den t
def ikEq(a c:IntKind):Option (PLift (a=c)):=match a,c with
 |.i8,.i8=>some ⟨rfl⟩ | .i16,.i16=>some ⟨rfl⟩ | .i32,.i32=>some ⟨rfl⟩ | .i64,.i64=>some ⟨rfl⟩|.u8,.u8=>some ⟨rfl⟩ | .u16,.u16=>some ⟨rfl⟩ | .u32,.u32=>some ⟨rfl⟩ | .u64,.u64=>some ⟨rfl⟩|_,_=>none
def tyEq:(a c:Ty)->Option (PLift (a=c))
 |.i k,.i k'=>match ikEq k k' with
  |some ⟨h⟩=>some ⟨by rw[h]⟩|none=>none
 |.b,.b=>some ⟨rfl⟩|.s,.s=>some ⟨rfl⟩|.un,.un=>some ⟨rfl⟩|.er,.er=>some ⟨rfl⟩|.jk T,.jk T'=>match decEq T T' with
  |.isTrue h=>some ⟨by rw[h]⟩|.isFalse _=>none
 |.sl a,.sl c=>match tyEq a c with
  |some ⟨h⟩=>some ⟨by rw[h]⟩|none=>none
 |.pt a,.pt c=>match tyEq a c with
  |some ⟨h⟩=>some ⟨by rw[h]⟩|none=>none
 |.pr a x,.pr c y=>match tyEq a c,tyEq x y with
  |some ⟨h⟩,some ⟨k⟩=>some ⟨by rw[h,k]⟩|_,_=>none
 |.mp a x,.mp c y=>match tyEq a c,tyEq x y with
  |some ⟨h⟩,some ⟨k⟩=>some ⟨by rw[h,k]⟩|_,_=>none
 |_,_=>none
def zhP{a c:Ty}(h:a=c)(x:den a):den c:=h▸x
def tsz:Ty->Nat
 |.pr a c=>tsz a+tsz c|.un=>0|_=>1
def one:Ty->Bool
 |.pr _ _=>false|.un=>false|_=>true
def toI:(k:IntKind)->den (.i k)->Int
 |.u8,x=>((x:UInt8).toNat:Int)|.u16,x=>((x:UInt16).toNat:Int)|.u32,x=>((x:UInt32).toNat:Int)|.u64,x=>((x:UInt64).toNat:Int)|.i8,x=>x|.i16,x=>x|.i32,x=>x|.i64,x=>x
def ofI:(k:IntKind)->Int->den (.i k)
 |.u8,x=>i8 x|.u16,x=>i16 x|.u32,x=>i32 x|.u64,x=>i64 x|.i8,x=>IntKind.i8.wrap x|.i16,x=>IntKind.i16.wrap x|.i32,x=>IntKind.i32.wrap x|.i64,x=>w64 x
def exI:(k:IntKind)->Int->den (.i k)
 |.u8,x=>i8 x|.u16,x=>i16 x|.u32,x=>i32 x|.u64,x=>i64 x|.i8,x=>x|.i16,x=>x|.i32,x=>x|.i64,x=>x
def bitD(op:BinOp):(k:IntKind)->den (.i k)->den (.i k)->Option (den (.i k))
 |.u8,x,y=>match op with
  |.and=>some (@HAnd.hAnd UInt8 UInt8 UInt8 _ x y)|.or=>some (@HOr.hOr UInt8 UInt8 UInt8 _ x y)|.xor=>some (@HXor.hXor UInt8 UInt8 UInt8 _ x y)|_=>none
 |.u16,_,_=>none|.u32,x,y=>match op with
  |.and=>some (@HAnd.hAnd UInt32 UInt32 UInt32 _ x y)|.or=>some (@HOr.hOr UInt32 UInt32 UInt32 _ x y)|.xor=>some (@HXor.hXor UInt32 UInt32 UInt32 _ x y)|_=>none
 |.u64,x,y=>match op with
  |.and=>some (@HAnd.hAnd UInt64 UInt64 UInt64 _ x y)|.or=>some (@HOr.hOr UInt64 UInt64 UInt64 _ x y)|.xor=>some (@HXor.hXor UInt64 UInt64 UInt64 _ x y)|_=>none
 |.i8,x,y=>bits? op .i8 x y|.i16,x,y=>bits? op .i16 x y|.i32,x,y=>bits? op .i32 x y|.i64,x,y=>bits? op .i64 x y
where bits? (op:BinOp) (k:IntKind) (x y:Int):Option Int:=match op with
 |.and=>some (bits .and k x y)|.or=>some (bits .or k x y)|.xor=>some (bits .xor k x y)|.andNot=>some (bits .andNot k x y)|_=>none
abbrev zcU:List Ty->Type
 |[]=>Unit|[t]=>den t|t::t'::l=>den t×zcU (t'::l)
inductive Sh where
 |h (t:Ty)
 |own (id:Nat)
 |ptr (id off:Nat)
 |nilp
 |nils
 |mpr (id:Nat)
 /-- a slice without room behind its end -/
 |hc (e:Ty)
 /-- a pointer to what is only read -/
 |hr (t:Ty)
 |fn (f:Nat) (a c:List Sh)
 |ag (l:List Sh)
 /-- a list of pointers to the members of a family -/
 |fs (id:Nat)
 /-- this number -/
 |kn (k:IntKind) (n:Int)
inductive FC where
 |h (t:Ty)|mpr (id:Nat)
inductive FSh where
 |blk (T:TypeId) (l:List FC)|mp (K V:Ty)
inductive OSh where
 |blk (T:TypeId) (l:List Sh)
 |osl (e:Ty) (T:TypeId)
 /-- kp: no new key came since -/
 |mp (kp:Bool) (K V:Ty)
 /-- a range over object k, a map -/
 |it (k:Nat) (kp:Bool) (K:Ty)
 |is
 /-- an own slice whose first ones may be gone -/
 |qu (e:Ty) (T:TypeId)
 /-- a family: its list's type, its members' blocks -/
 |fam (T:TypeId) (os:List FSh)
 |dead
structure Shp where
 sl:List (Nat×Sh)
 hp:List OSh
def Sh.tysB:Sh->List Ty
 |.h t=>[t]|.hc e=>[.sl e]|.hr t=>[t]|_=>[]
def Sh.tysC:Sh->List Ty
 |.fn _ a c=>a.flatMap Sh.tysB++c.flatMap Sh.tysB|x=>x.tysB
def Sh.tys:Sh->List Ty
 |.ag l=>l.flatMap Sh.tysC|x=>x.tysC
def prT:List Ty->Ty
 |[]=>.un|[t]=>t|t::t'::l=>.pr t (prT (t'::l))
def toP:(l:List Ty)->den (prT l)->zcU l
 |[],_=>()|[_],x=>x|_::t'::l,x=>(x.1,toP (t'::l) x.2)
def ofP:(l:List Ty)->zcU l->den (prT l)
 |[],_=>()|[_],x=>x|_::t'::l,x=>(x.1,ofP (t'::l) x.2)
theorem ymJ:∀(l:List Ty) (x:zcU l),toP l (ofP l x)=x
 |[],_=>rfl|[_],_=>rfl|_::t'::l,x=>by show(x.1,toP (t'::l) (ofP (t'::l) x.2))=x;rw[ymJ (t'::l) x.2]
def FC.up:FC->Sh
 |.h t=>.h t|.mpr k=>.mpr k
def FSh.up:FSh->OSh
 |.blk T l=>.blk T (l.map FC.up)|.mp K V=>.mp false K V
def FC.tys:FC->List Ty
 |.h t=>[t]|.mpr _=>[]
def FSh.tys:FSh->List Ty
 |.blk _ l=>l.flatMap FC.tys|.mp K V=>[.mp K V]
def fT(os:List FSh):Ty:=prT (os.flatMap FSh.tys)
def OSh.tys:OSh->List Ty
 |.blk _ l=>l.flatMap Sh.tysC|.osl e _=>[.sl e]|.mp _ K V=>[.mp K V]|.it _ _ K=>[.sl K]|.is=>[.s,.i .i64]|.qu e _=>[.sl e]|.fam _ os=>[.sl (fT os)]|.dead=>[]
def Shp.tys(s:Shp):List Ty:=s.sl.flatMap (fun p=>p.2.tys)++s.hp.flatMap OSh.tys
def sF(os:List FSh):Shp:=⟨[(0,.ptr 0 0)],os.map FSh.up⟩
theorem FC.up_tys(c:FC):c.up.tysC=c.tys:=by cases c<;>rfl
theorem FC.ups_tys:∀l:List FC,(l.map FC.up).flatMap Sh.tysC=l.flatMap FC.tys
 |[]=>rfl|c::l=>by simp only[bS,jF,FC.up_tys,FC.ups_tys l]
theorem FSh.up_tys(o:FSh):o.up.tys=o.tys:=by
 cases o with
 |blk T l=>exact FC.ups_tys l|mp K V=>rfl
theorem FSh.ups_tys:∀os:List FSh,(os.map FSh.up).flatMap OSh.tys=os.flatMap FSh.tys
 |[]=>rfl|o::os=>by simp only[bS,jF,FSh.up_tys,FSh.ups_tys os]
theorem yxT(os:List FSh):(sF os).tys=os.flatMap FSh.tys:=FSh.ups_tys os
def toS(os:List FSh)(x:den (fT os)):zcU (sF os).tys:=cast (by rw[yxT]) (toP (os.flatMap FSh.tys) x)
inductive SV where
 |v (t:Ty) (x:den t)
 |nils|nilp|nilm|nilf|undef
 /-- what was not done -/
 |skp
 /-- a slice of no elements and no room -/
 |emp
 /-- a slice that has no room behind its end -/
 |cl (e:Ty) (xs:List (den e))
 /-- a slice that is not nil -/
 |nn (e:Ty) (xs:List (den e))
 /-- of a slice the first n; behind them lies what is left of it -/
 |rm (e:Ty) (n:Nat) (xs:List (den e))
 |mpr (id:Nat)
 |ptr (id off:Nat)
 |rp (t:Ty) (x:den t) (off:Nat)
 |own (id ver:Nat)
 |ep (id ver:Nat) (i:Int) (off:Nat)
 |fn (f:Nat) (a c:List SV)
 |ag (l:List SV)
 |tup (l:List SV)
 /-- a list of pointers to a family's members, a cell of it, a pointer to a member -/
 |fs (id ver:Nat)
 |fe (id ver:Nat) (i:Int)
 |fp (id:Nat) (i:Int) (off:Nat)
 /-- a pointer into a slice of which only the length is known -/
 |jp
inductive AO where
 |blk (T:TypeId) (cs:List SV)
 |osl (ver:Nat) (e:Ty) (T:TypeId) (xs:List (den e))
 |mp (gen:Nat) (K V:Ty) (es:List (den K×den V))
 /-- a range over a map: what came last, what is still to come -/
 |it (mid gen:Nat) (K:Ty) (cur:Option (den K)) (left:List (den K))
 /-- a range over a text -/
 |is (l:Bs) (p:Nat)
 /-- an own slice whose first ones may be gone -/
 |qu (ver:Nat) (e:Ty) (T:TypeId) (xs:List (den e))
 /-- a family; member i is out -/
 |fam (ver:Nat) (T:TypeId) (os:List FSh) (ks:List (den (fT os)))
 |famO (ver:Nat) (T:TypeId) (os:List FSh) (ks:List (den (fT os))) (i:Int)
 |dead
structure St where
 sl:List (Nat×SV)
 hp:List AO
def lkS:List (Nat×SV)->Nat->SV
 |[],_=>.undef|(d,x)::m,t=>bif aH d t then x else lkS m t
def atN{α:Type}:List α->Nat->Option α
 |[],_=>none|x::_,0=>some x|_::l,n+1=>atN l n
def setN{α:Type}:List α->Nat->α->List α
 |[],_,_=>[]|_::l,0,y=>y::l|x::l,n+1,y=>x::setN l n y
def St.put(σ:St)(d:Nat)(x:SV):St:=⟨(d,x)::σ.sl,σ.hp⟩
def cellsOf:(t:Ty)->den t->List SV
 |.pr a c,x=>cellsOf a x.1++cellsOf c x.2|.un,_=>[]|.i k,x=>[.v (.i k) x]|.b,x=>[.v .b x]|.s,x=>[.v .s x]|.er,x=>[.v .er x]|.sl e,x=>[.v (.sl e) x]|.mp a c,x=>[.v (.mp a c) x]|.jk T,x=>[.v (.jk T) x]|.pt t,x=>[.v (.pt t) x]
def svOf(t:Ty)(x:den t):SV:=bif one t then .v t x else .ag (cellsOf t x)
def pc(l:List SV)(o n:Nat):List SV:=(l.drop o).take n
def layS:List SV->Nat->List SV->List SV
 |l,_,[]=>l|[],_,_=>[]|_::l,0,x::xs=>x::layS l 0 xs|y::l,o+1,xs=>y::layS l o xs
inductive TD where
 |int (k:IntKind)|b|s|sl (E:TypeId)|st (fs:List (TypeId×Nat))|pt (E:TypeId)|ar (n:Nat) (E:TypeId)|map (K V:TypeId)|fn|ifc|ot
structure TI where
 td:TD
 sz:Nat
 z:List SV
 ty:Ty
 nb:Nat
def TI.agg(t:TI):Bool:=match t.td with
 |.st _=>true|.ar _ _=>true|_=>false
def svAt(f:TI)(l:List SV):Option SV:=bif aH l.length f.sz&&(Nat.blt 0 f.sz||f.agg)then(bif f.agg then some (.ag l)else match l with
 |[x]=>some x|_=>none)else none
abbrev TE:=List (Nat×TI)
def tyAt:TE->Nat->Option TI
 |[],_=>none|(d,x)::m,t=>bif aH d t then some x else tyAt m t
def zgS(hp:List AO):(t:Ty)->SV->Option (den t)
 |t,.v t' x=>match tyEq t' t with
  |some ⟨h⟩=>some (zhP h x)|none=>none
 |.jk _,.nils=>some (show Nat from 0)|.jk _,.emp=>some (show Nat from 0)|.sl e,.nils=>some ([]:List (den e))|.sl e,.emp=>some ([]:List (den e))|.sl e,.cl e' xs=>match tyEq e' e with
  |some ⟨h⟩=>some (zhP (by rw[h]:Ty.sl e'=Ty.sl e) xs)|none=>none
 |.sl e,.nn e' xs=>match tyEq e' e with
  |some ⟨h⟩=>some (zhP (by rw[h]:Ty.sl e'=Ty.sl e) xs)|none=>none
 |.sl e,.rm e' n xs=>match tyEq e' e with
  |some ⟨h⟩=>some (zhP (by rw[h]:Ty.sl e'=Ty.sl e) (show den (.sl e')from List.take n xs))|none=>none
 |.sl e,.own id ver=>match atN hp id with
  |some (.osl ver' e' _ xs)=>bif aH ver ver' then(match tyEq e' e with
   |some ⟨h⟩=>some (zhP (by rw[h]:Ty.sl e'=Ty.sl e) xs)|none=>none)else none
  |_=>none
 |_,_=>none
def zdU(hp:List AO):(t:Ty)->List SV->Option (den t)
 |.pr a c,l=>match zdU hp a (l.take (tsz a)),zdU hp c (l.drop (tsz a)) with
  |some x,some y=>some (x,y)|_,_=>none
 |.un,l=>match l with
  |[]=>some ()|_=>none
 |t,l=>match l with
  |[x]=>zgS hp t x|_=>none
def ofSV(hp:List AO)(t:Ty):SV->Option (den t)
 |.ag l=>bif one t then none else zdU hp t l
 |x=>bif one t then zgS hp t x else none
def cellL:SV->List SV
 |.ag l=>l|x=>[x]
def yfB:Value->Option SV
 |.bool x=>some (.v .b x)|.int k n=>bif decide (toI k (ofI k n)=n)then some (.v (.i k) (ofI k n))else none
 |.string x=>some (.v .s x.data.toList)|.slice none 0 0=>some .nils|.pointer none=>some .nilp|.map none=>some .nilm|.nilFunc=>some .nilf|.nilIface=>some (.v .er false)|_=>none
def ev(σ:St):Operand->Option SV
 |.tmp t=>some (lkS σ.sl t)|.const c=>yfB c|.func f=>some (.fn f [] [])|.global _=>none
end Go.Proofs.YtmbcolbbekbccaaGreat.Am
