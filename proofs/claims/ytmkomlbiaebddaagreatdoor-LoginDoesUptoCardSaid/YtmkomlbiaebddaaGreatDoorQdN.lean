/- The document's layer 4: its sums and macs are package hash's: plain laws. A machine over plain values: the document's macs. What some functions compute, over plain values, and that they do. Numbers as texts, and back: plain laws. From a walk of a law to what is said of it: parts that the laws over texts share. What a law's arguments are, as plain values. A login with one user: plain laws. Rows of texts go there and back: plain laws. Maps of texts as rising lists: plain laws. The rows of credentials: plain laws. The rows of credentials are read as what they were: plain laws. The stretch of a password by both packages: plain laws. Conditions: as each theorem says. -/
import Derived.KernelRfl
import Derived.Test.YtmkomlbiaebddaaGreatDoorRows
import Derived.Test.YtmkomlbiaebddaaGreatDoorTie
import Derived.Test.YtmkomlbiaebddaaGreatDoorCards
import Derived.ProofKit
import Derived.OpenShut
import Derived.Carry
import Derived.JoinedCond
import Derived.ChangeMaps5
import Derived.Deep.SlicePairs
import Derived.Deep.DeepHandedRow
import Derived.Lib.LaidTab
import Derived.SevenTiedAt
import Derived.Test.YtmkomlbiaebddaaGreatDoorQdM
namespace Go.Proofs.YtmkomlbiaebddaaGreatDoor
open Go Go.RowKit
theorem i8n{n:Nat}{x:Int}(h:x=(n:Int)):(i8 x).toNat=n%256:=by subst h;simp[i8];omega
theorem i32n{n:Nat}{x:Int}(h:x=(n:Int)):(i32 x).toNat=n%4294967296:=by subst h;simp[i32];omega
theorem i64n{n:Nat}{x:Int}(h:x=(n:Int)):(i64 x).toNat=n%18446744073709551616:=by subst h;simp[i64];omega
theorem xdG(a:Nat){k:Nat}(hk:k≤64):shrI .u64 (a:Int) (k:Int)=((a/2^k:Nat):Int):=by
 unfold shrI
 rw[show min ((k:Int)).toNat IntKind.u64.bits=k by show min k 64=k;omega];exact ztY k
theorem shr32n(a:Nat){k:Nat}(hk:k≤32):shrI .u32 (a:Int) (k:Int)=((a/2^k:Nat):Int):=by
 unfold shrI
 rw[show min ((k:Int)).toNat IntKind.u32.bits=k by show min k 32=k;omega];exact ztY k
theorem ysG(x:UInt64){i:Nat}(hi:i≤8):(byF x i).toNat=x.toNat/2^(8*i)%256:=by
 unfold byF
 rw[i8n rfl,i64n (xdG x.toNat (by omega))]
 have:x.toNat/2^(8*i)≤x.toNat:=Nat.div_le_self _ _
 have:=x.toNat_lt
 rw[Nat.mod_eq_of_lt (a:=x.toNat/2^(8*i)) (by omega)]
theorem yyN(x:UInt32):ziV x=some (beF (i64 (x.toNat:Int)) 4):=by
 unfold ziV
 have hx:=x.toNat_lt
 have e64:(i64 (x.toNat:Int)).toNat=x.toNat:=by rw[i64n rfl];omega
 have b:∀k:Nat,k≤32→(i8 (((i32 (shrI .u32 ((x).toNat:Int) (k:Int)))).toNat:Int)).toNat=x.toNat/2^k%256:=fun k hk=>by
  rw[i8n rfl,i32n (shr32n x.toNat hk)]
  have:x.toNat/2^k≤x.toNat:=Nat.div_le_self _ _
  rw[Nat.mod_eq_of_lt (a:=x.toNat/2^k) (by omega)]
 have e:∀(k i:Nat),k=8*i→k≤24→i8 (((i32 (shrI .u32 ((x).toNat:Int) (k:Int)))).toNat:Int)=byF (i64 (x.toNat:Int)) i:=fun k i h hk=>by
  apply UInt8.toNat_inj.1
  rw[b k (by omega),ysG _ (by omega),e64,h]
 have e0:i8 ((x).toNat:Int)=byF (i64 (x.toNat:Int)) 0:=by
  apply UInt8.toNat_inj.1
  rw[i8n rfl,ysG _ (by omega),e64];simp
 simp only[beF]
 rw[show(24:Int)=((24:Nat):Int)from rfl,show(16:Int)=((16:Nat):Int)from rfl,show(8:Int)=((8:Nat):Int)from rfl,e 24 3 rfl (by decide),e 16 2 rfl (by decide),e 8 1 rfl (by decide),e0]
theorem beF_two(n:UInt64):beF (i64 (((i32 (((i64 (shrI .u64 ((n).toNat:Int) 32))).toNat:Int))).toNat:Int)) 4++beF (i64 (((i32 (((n&&&(4294967295:UInt64))).toNat:Int))).toNat:Int)) 4=beF n 8:=by
 have hn:=n.toNat_lt
 have h1:(i64 (((i32 (((i64 (shrI .u64 ((n).toNat:Int) 32))).toNat:Int))).toNat:Int)).toNat=n.toNat/4294967296:=by
  rw[i64n rfl,i32n rfl,show(32:Int)=((32:Nat):Int)from rfl,i64n (xdG n.toNat (by decide))];omega
 have h2:(i64 (((i32 (((n&&&(4294967295:UInt64))).toNat:Int))).toNat:Int)).toNat=n.toNat%4294967296:=by
  rw[i64n rfl,i32n rfl,UInt64.toNat_and,show(4294967295:UInt64).toNat=2^32-1 from rfl,Nat.and_two_pow_sub_one_eq_mod];omega
 have k1:∀i,i≤3→byF (i64 (((i32 (((i64 (shrI .u64 ((n).toNat:Int) 32))).toNat:Int))).toNat:Int)) i=byF n (4+i):=fun i hi=>by
  apply UInt8.toNat_inj.1
  rw[ysG _ (by omega),ysG _ (by omega),h1]
  rcases(by omega:i=0∨i=1∨i=2∨i=3)with rfl|rfl|rfl|rfl<;>simp only[Nat.reduceMul,Nat.reduceAdd,Nat.reducePow]<;>omega
 have k2:∀i,i≤3→byF (i64 (((i32 (((n&&&(4294967295:UInt64))).toNat:Int))).toNat:Int)) i=byF n i:=fun i hi=>by
  apply UInt8.toNat_inj.1
  rw[ysG _ (by omega),ysG _ (by omega),h2]
  rcases(by omega:i=0∨i=1∨i=2∨i=3)with rfl|rfl|rfl|rfl<;>simp only[Nat.reduceMul,Nat.reducePow]<;>omega
 simp only[beF]
 rw[k1 3 (by decide),k1 2 (by decide),k1 1 (by decide),k1 0 (by decide),k2 3 (by decide),k2 2 (by decide),k2 1 (by decide),k2 0 (by decide)];rfl
theorem ytH(a:Nat){k:Nat}(hk:k≤32):(i32 (shlI .u32 (a:Int) (k:Int))).toNat=a*2^k%4294967296:=by
 rw[i32n (n:=a*2^k%4294967296)]
 ·exact Nat.mod_mod _ _
 ·unfold shlI
  rw[show min ((k:Int)).toNat IntKind.u32.bits=k by show min k 32=k;omega,zbG,show(a:Int)*2^k=((a*2^k:Nat):Int) by simp,i32n rfl]
theorem shl64n(a:Nat){k:Nat}(hk:k≤64):(i64 (shlI .u64 (a:Int) (k:Int))).toNat=a*2^k%18446744073709551616:=by
 rw[i64n (n:=a*2^k%18446744073709551616)]
 ·exact Nat.mod_mod _ _
 ·unfold shlI
  rw[show min ((k:Int)).toNat IntKind.u64.bits=k by show min k 64=k;omega,zbR,show(a:Int)*2^k=((a*2^k:Nat):Int) by simp,i64n rfl]
theorem zwB(k:Nat){a b:Nat}(h:b<2^k):a*2^k|||b=a*2^k+b:=by rw[Nat.mul_comm];exact(Nat.two_pow_add_eq_or_of_lt h a).symm
theorem zgB(s:UInt64)(b:UInt8)(h:s.toNat<2^56):((i64 (shlI .u64 (s.toNat:Int) 8))|||(i64 (b.toNat:Int))).toNat=s.toNat*256+b.toNat:=by
 have hb:=b.toNat_lt
 rw[UInt64.toNat_or,show(8:Int)=((8:Nat):Int)from rfl,shl64n _ (by decide),i64n rfl,Nat.mod_eq_of_lt (a:=s.toNat*2^8) (by omega),Nat.mod_eq_of_lt (a:=b.toNat) (by omega),zwB 8 (by omega)]
theorem word_ok(a b c d:UInt8):((((i32 (shlI .u32 (((i32 ((a).toNat:Int))).toNat:Int) 24))|||(i32 (shlI .u32 (((i32 ((b).toNat:Int))).toNat:Int) 16)))|||(i32 (shlI .u32 (((i32 ((c).toNat:Int))).toNat:Int) 8)))|||(i32 ((d).toNat:Int)))=i32 (((valF [a,b,c,d]).toNat:Int)):=by
 have ha:=a.toNat_lt;have hb:=b.toNat_lt;have hc:=c.toNat_lt;have hd:=d.toNat_lt
 apply UInt32.toNat_inj.1
 have h0:∀x:UInt8,(i32 ((x).toNat:Int)).toNat=x.toNat:=fun x=>by have:=x.toNat_lt;rw[i32n rfl];omega
 rw[UInt32.toNat_or,UInt32.toNat_or,UInt32.toNat_or,show(24:Int)=((24:Nat):Int)from rfl,show(16:Int)=((16:Nat):Int)from rfl,show(8:Int)=((8:Nat):Int)from rfl,ytH _ (by decide),ytH _ (by decide),ytH _ (by decide),h0,h0,h0,h0,i32n rfl]
 have e1:(valF [a,b,c,d]).toNat=((a.toNat*256+b.toNat)*256+c.toNat)*256+d.toNat:=by
  unfold valF
  simp only[List.foldl_cons,List.foldl_nil]
  have z:(0:UInt64).toNat=0:=rfl
  rw[zgB _ d (by rw[zgB _ c (by rw[zgB _ b (by rw[zgB _ a (by rw[z];decide),z];omega),zgB _ a (by rw[z];decide),z];omega),zgB _ b (by rw[zgB _ a (by rw[z];decide),z];omega),zgB _ a (by rw[z];decide),z];omega),zgB _ c (by rw[zgB _ b (by rw[zgB _ a (by rw[z];decide),z];omega),zgB _ a (by rw[z];decide),z];omega),zgB _ b (by rw[zgB _ a (by rw[z];decide),z];omega),zgB _ a (by rw[z];decide),z];omega
 rw[e1,Nat.mod_eq_of_lt (a:=a.toNat*2^24) (by omega),Nat.mod_eq_of_lt (a:=b.toNat*2^16) (by omega),Nat.mod_eq_of_lt (a:=c.toNat*2^8) (by omega)]
 rw[zwB 24 (b:=b.toNat*2^16) (by omega),show a.toNat*2^24+b.toNat*2^16=(a.toNat*2^8+b.toNat)*2^16 by omega,zwB 16 (b:=c.toNat*2^8) (by omega),show(a.toNat*2^8+b.toNat)*2^16+c.toNat*2^8=((a.toNat*2^8+b.toNat)*2^8+c.toNat)*2^8 by omega,zwB 8 (by omega)]
 omega
def l8(s:St8):List UInt32:=[s.1,s.2.1,s.2.2.1,s.2.2.2.1,s.2.2.2.2.1,s.2.2.2.2.2.1,s.2.2.2.2.2.2.1,s.2.2.2.2.2.2.2]
theorem yiS{l:List UInt32}{k:Nat}{u:UInt32}(h:k<l.length):setL l (k:Int) u=some (l.set k u):=by
 unfold setL
 rw[show(decide (0≤(k:Int))&&decide ((k:Int)<(l.length:Int)))=true by simp;exact h];rfl
theorem rorR(x:UInt32)(n:Nat)(hn:n≤32):zdR x (n:Int)=some (rr x n):=by
 unfold zdR
 have e:w64 ((32:Int)-(n:Int))=((32-n:Nat):Int):=by rw[zaS (by omega) (by omega)];omega
 rw[zeO (decide_eq_true (by omega)),zaA,e,zeO (decide_eq_true (by omega)),zaA,rr,UInt32.or_comm]
theorem R_b3{b:Bs}{j:Nat}(h:64*(j+1)≤b.length)(hl:b.length≤68719476736)(s:List UInt32):
  iter (zwV b (((64*j:Nat):Int),s)) (0,List.replicate 64 (0:UInt32))=some (W1 ((b.drop (64*j)).take 64) 16).l:=by
 refine zaM (fun k=>((k:Int),(W1 ((b.drop (64*j)).take 64) k).l)) 16 (by decide) _ (fun k hk=>?_) ?_
 ·unfold zwV
  have e1:w64 ((4:Int)*(k:Int))=((4*k:Nat):Int):=zaS (by omega) (by omega)
  have e2:w64 (((64*j:Nat):Int)+((4*k:Nat):Int))=((64*j+4*k:Nat):Int):=by rw[zaS (by omega) (by omega)];omega
  have e3:∀c:Nat,c≤3→w64 (((64*j+4*k:Nat):Int)+(c:Int))=((64*j+4*k+c:Nat):Int):=fun c hc=>by rw[zaS (by omega) (by omega)];omega
  have hw:=(W1 ((b.drop (64*j)).take 64) k).h
  rw[zaY (by omega)]
  simp only[e1,e2]
  rw[show(1:Int)=((1:Nat):Int)from rfl,show(2:Int)=((2:Nat):Int)from rfl,show(3:Int)=((3:Nat):Int)from rfl,e3 1 (by decide),e3 2 (by decide),e3 3 (by decide)]
  rw[zbO (l:=b) rfl (by omega),zaA,zbO (l:=b) rfl (by omega),zaA,zbO (l:=b) rfl (by omega),zaA,zbO (l:=b) rfl (by omega),zaA,ziP rfl (by omega),zaA,yiS (by rw[hw];omega),zaA,word_ok,show((1:Nat):Int)=1 from rfl,w64s k (by omega)]
  have hd:(((b.drop (64*j)).take 64).take (4*k+4)).drop (4*k)=[b[64*j+4*k]'(by omega),b[64*j+4*k+1]'(by omega),b[64*j+4*k+2]'(by omega),b[64*j+4*k+3]'(by omega)]:=by
   apply List.ext_getElem
   ·simp only[List.length_drop,List.length_take,List.length_cons,List.length_nil];omega
   ·intro i h1 h2
    simp only[List.length_cons,List.length_nil]at h2
    rcases(by omega:i=0∨i=1∨i=2∨i=3)with rfl|rfl|rfl|rfl<;>simp[List.getElem_drop,List.getElem_take,Nat.add_assoc]
  simp only[W1,hd,vset]
 ·unfold zwV
  rw[zaZ (by omega)]
theorem R_b4(w:Vec UInt32 64):iter zxJ (16,w.l)=some (W2 w 48).l:=by
 refine zaM (fun k=>(((16+k:Nat):Int),(W2 w k).l)) 48 (by decide) _ (fun k hk=>?_) ?_
 ·unfold zxJ
  have e:∀(a:Int) (b:Nat),a=(b:Int)→b<64→w64 a=(b:Int):=fun a b e h=>by rw[e];exact w64n (by omega)
  have hw:=(W2 w k).h
  rw[zaY (by omega)]
  simp only[e (((16+k:Nat):Int)-15) (k+1) (by omega) (by omega),e (((16+k:Nat):Int)-2) (k+14) (by omega) (by omega),e (((16+k:Nat):Int)-16) k (by omega) (by omega),e (((16+k:Nat):Int)-7) (k+9) (by omega) (by omega)]
  simp only[ziP (x:=W2 w k) (i:=k+1) rfl (by omega),ziP (x:=W2 w k) (i:=k+14) rfl (by omega),ziP (x:=W2 w k) (i:=k) rfl (by omega),ziP (x:=W2 w k) (i:=k+9) rfl (by omega),ziP (x:=W2 w k) (i:=16+k) rfl (by omega),zaA]
  rw[show(7:Int)=((7:Nat):Int)from rfl,show(18:Int)=((18:Nat):Int)from rfl,show(17:Int)=((17:Nat):Int)from rfl,show(19:Int)=((19:Nat):Int)from rfl,rorR _ 7 (by decide),zaA,rorR _ 18 (by decide),zaA,rorR _ 17 (by decide),zaA,rorR _ 19 (by decide),zaA,yiS (by rw[hw];omega),zaA,w64s (16+k) (by omega)]
  rfl
 ·unfold zxJ
  rw[zaZ (by omega)]
theorem R_b5(K w:Vec UInt32 64)(s:St8):iter (zwJ K.l w.l) (l8 s,0)=some (l8 (R3 K w s 64)):=by
 refine zaM (fun k=>(l8 (R3 K w s k),(k:Int))) 64 (by decide) _ (fun k hk=>?_) ?_
 ·unfold zwJ
  rw[zaY (by omega)]
  have i0:∀t:St8,idx (l8 t) 0=some t.1:=fun _=>rfl
  have i1:∀t:St8,idx (l8 t) 1=some t.2.1:=fun _=>rfl
  have i2:∀t:St8,idx (l8 t) 2=some t.2.2.1:=fun _=>rfl
  have i3:∀t:St8,idx (l8 t) 3=some t.2.2.2.1:=fun _=>rfl
  have i4:∀t:St8,idx (l8 t) 4=some t.2.2.2.2.1:=fun _=>rfl
  have i5:∀t:St8,idx (l8 t) 5=some t.2.2.2.2.2.1:=fun _=>rfl
  have i6:∀t:St8,idx (l8 t) 6=some t.2.2.2.2.2.2.1:=fun _=>rfl
  have i7:∀t:St8,idx (l8 t) 7=some t.2.2.2.2.2.2.2:=fun _=>rfl
  have r6:∀x,zdR x 6=some (rr x 6):=fun x=>rorR x 6 (by decide)
  have r11:∀x,zdR x 11=some (rr x 11):=fun x=>rorR x 11 (by decide)
  have r25:∀x,zdR x 25=some (rr x 25):=fun x=>rorR x 25 (by decide)
  have r2:∀x,zdR x 2=some (rr x 2):=fun x=>rorR x 2 (by decide)
  have r13:∀x,zdR x 13=some (rr x 13):=fun x=>rorR x 13 (by decide)
  have r22:∀x,zdR x 22=some (rr x 22):=fun x=>rorR x 22 (by decide)
  simp only[i0,i1,i2,i3,i4,i5,i6,i7,r6,r11,r25,r2,r13,r22,zaA,ziP (x:=K) (i:=k) rfl hk,ziP (x:=w) (i:=k) rfl hk]
  rw[w64s k (by omega)]
  rfl
 ·unfold zwJ
  rw[zaZ (by omega)]
theorem zpN(a b:UInt32):ad8 a b=ad8 b a:=by unfold ad8;rw[Int.add_comm]
def pt8'(v s:St8)(k:Nat):St8:=(if 0<k then ad8 s.1 v.1 else s.1,if 1<k then ad8 s.2.1 v.2.1 else s.2.1,if 2<k then ad8 s.2.2.1 v.2.2.1 else s.2.2.1,if 3<k then ad8 s.2.2.2.1 v.2.2.2.1 else s.2.2.2.1,if 4<k then ad8 s.2.2.2.2.1 v.2.2.2.2.1 else s.2.2.2.2.1,if 5<k then ad8 s.2.2.2.2.2.1 v.2.2.2.2.2.1 else s.2.2.2.2.2.1,if 6<k then ad8 s.2.2.2.2.2.2.1 v.2.2.2.2.2.2.1 else s.2.2.2.2.2.2.1,if 7<k then ad8 s.2.2.2.2.2.2.2 v.2.2.2.2.2.2.2 else s.2.2.2.2.2.2.2)
theorem R_b6(v s:St8):iter (ykJ (l8 v)) (0,l8 s)=some (l8 (add8 v s)):=by
 have:l8 (add8 v s)=l8 (pt8' v s 8):=by simp only[add8,zpN v.1,zpN v.2.1,zpN v.2.2.1,zpN v.2.2.2.1,zpN v.2.2.2.2.1,zpN v.2.2.2.2.2.1,zpN v.2.2.2.2.2.2.1,zpN v.2.2.2.2.2.2.2];rfl
 rw[this]
 refine zaM (fun k=>((k:Int),l8 (pt8' v s k))) 8 (by decide) _ (fun k hk=>?_) ?_
 ·rcases(by omega:k=0∨k=1∨k=2∨k=3∨k=4∨k=5∨k=6∨k=7)with rfl|rfl|rfl|rfl|rfl|rfl|rfl|rfl<;>rfl
 ·rfl
theorem R_b2(K:Vec UInt32 64){b:Bs}(h:b.length%64=0)(hl:b.length≤68719476736):
  iter (zvV K.l b) (0,l8 ini8)=some (l8 (ziL K b (b.length/64))):=by
 refine zaM (fun k=>(((64*k:Nat):Int),l8 (ziL K b k))) (b.length/64) (by omega) _ (fun k hk=>?_) ?_
 ·unfold zvV
  have hz:mkL 64 (0:UInt32)=some (List.replicate 64 0):=xdC (n:=64) (by decide)
  have ha:app ([]:List UInt32) (l8 (ziL K b k))=some (l8 (ziL K b k)):=zbA (a:=[]) (by simp[l8])
  rw[zaY (by omega)]
  simp only[]
  rw[hz,zaA,R_b3 (by omega) hl,zaA,zaA,R_b4,zaA,zaA,ha,zaA,R_b5,zaA,zaA,R_b6,zaA,zaA,zaS (by omega) (by omega)]
  rw[show((64*k:Nat):Int)+64=((64*(k+1):Nat):Int) by omega]
  rfl
 ·unfold zvV
  rw[zaZ (by omega)]
theorem R_b7(s:St8):iter (zwP (l8 s)) (0,([]:Bs))=some (outF s):=by
 rw[←ynL]
 refine zaM (fun k=>((k:Int),outN s k)) 8 (by decide) _ (fun k hk=>?_) ?_
 ·unfold zwP
  have e:idx (l8 s) (k:Int)=some (at8 s k):=by
   rcases(by omega:k=0∨k=1∨k=2∨k=3∨k=4∨k=5∨k=6∨k=7)with rfl|rfl|rfl|rfl|rfl|rfl|rfl|rfl<;>rfl
  rw[zaY (by omega),e,zaA,yyN,zaA,zbA (by rw[yaA,zoK];omega),zaA,w64s k (by omega)]
  rfl
 ·unfold zwP
  rw[zaZ (by omega)]
theorem R_ini:(Option.bind (znZ 8) fun y8=>iter (ykC y8) ((0,List.replicate 8 (0:UInt32))))=some (l8 ini8):=of_decide_eq_true (by kernel_rfl)
def prL:List UInt64:=[2,3,5,7,11,13,17,19,23,29,31,37,41,43,47,53,59,61,67,71,73,79,83,89,97,101,103,107,109,113,127,131,137,139,149,151,157,163,167,173,179,181,191,193,197,199,211,223,227,229,233,239,241,251,257,263,269,271,277,281,283,293,307,311]
theorem R_pr:znZ 64=some prL:=of_decide_eq_true (by kernel_rfl)
def rkB(a:Nat):Bool:=(List.range 8).all fun i=>zqT (prL.getD (a+i) 0) 3==some (zmM.l.getD (a+i) 0)
theorem rk0:rkB (8*0)=true:=by kernel_rfl
theorem rk1:rkB (8*1)=true:=by kernel_rfl
theorem rk2:rkB (8*2)=true:=by kernel_rfl
theorem rk3:rkB (8*3)=true:=by kernel_rfl
theorem rk4:rkB (8*4)=true:=by kernel_rfl
theorem rk5:rkB (8*5)=true:=by kernel_rfl
theorem rk6:rkB (8*6)=true:=by kernel_rfl
theorem rk7:rkB (8*7)=true:=by kernel_rfl
theorem R_root{i:Nat}(h:i<64):zqT (prL.getD i 0) 3=some (zmM.l.getD i 0):=by
 have key:∀a j,rkB a=true→j<8→zqT (prL.getD (a+j) 0) 3=some (zmM.l.getD (a+j) 0):=fun a j ha hj=>
  eq_of_beq (List.all_eq_true.1 ha j (List.mem_range.2 hj))
 have e:i=8*(i/8)+i%8:=by omega
 rw[e]
 refine key _ _ ?_ (Nat.mod_lt _ (by decide))
 rcases(by omega:i/8=0∨i/8=1∨i/8=2∨i/8=3∨i/8=4∨i/8=5∨i/8=6∨i/8=7)with h|h|h|h|h|h|h|h<;>rw[h]
 ·exact rk0
 ·exact rk1
 ·exact rk2
 ·exact rk3
 ·exact rk4
 ·exact rk5
 ·exact rk6
 ·exact rk7
theorem yxZ:zxD=some zmM.l:=by
 unfold zxD
 have hl:zmM.l.length=64:=zmM.h
 have hp:prL.length=64:=rfl
 have key:iter (ztW prL) (0,([]:List UInt32))=some zmM.l:=by
  refine zaM (fun k=>((k:Int),zmM.l.take k)) 64 (by decide) _ (fun k hk=>?_) ?_
  ·unfold ztW
   have h1:=R_root hk
   rw[List.getD_eq_getElem?_getD,List.getElem?_eq_getElem (by omega),List.getD_eq_getElem?_getD,List.getElem?_eq_getElem (by omega),Option.getD_some,Option.getD_some]at h1
   rw[zaY (by omega),zbO rfl (by omega),zaA,h1,zaA,zbA (by rw[List.length_take,List.length_cons,List.length_nil];omega),zaA,w64s k (by omega),yaM (by omega)]
  ·unfold ztW
   rw[zaZ (by omega),List.take_of_length_le (by omega)]
 rw[R_pr,zaA,key];rfl
theorem sumR4{l:Bs}(h:l.length≤68719470000):zqZ l zmM.l=some (shaF l):=by
 unfold zqZ
 have hp:iter yjM (l++[128])=some (ybE l):=xcO h
 have hb:=yhN l
 have hz:mkL 8 (0:UInt32)=some (List.replicate 8 0):=xdC (n:=8) (by decide)
 obtain⟨pr,h8,hi⟩:=Option.bind_eq_some_iff.1 R_ini
 rw[zbA (by rw[List.length_cons,List.length_nil];omega),zaA,hp,zaA,zaA,yyN,zaA,zbA (by rw[zoK];omega),zaA,yyN,zaA,zbA (by rw[List.length_append,zoK,zoK];omega),zaA,List.append_assoc,beF_two,hz,zaA,h8,zaA,hi,zaA,zaA]
 rw[show ybE l++beF (i64 ((8:Int)*(((i64 ((l.length:Int)))).toNat:Int))) 8=msgF l from rfl,R_b2 zmM (yoQ l) (by have:=ytP l;omega),zaA,zaA,R_b7]
 rfl
def padX(x:UInt8)(l:Bs):Nat→Bs
 |0=>l
 |k+1=>(padX x l k).set k ((padX x l k).getD k 0^^^x)
theorem zzP(x:UInt8)(l:Bs):∀k,(padX x l k).length=l.length
 |0=>rfl
 |k+1=>by rw[padX,List.length_set,zzP x l k]
theorem ymX(x:UInt8)(l:Bs)(i:Nat)(hi:i<l.length):∀k,(padX x l k).getD i 0=if i<k then l.getD i 0^^^x else l.getD i 0
 |0=>by simp[padX]
 |k+1=>by
  have hl:=zzP x l k
  rw[padX,List.getD_eq_getElem?_getD,List.getElem?_set]
  by_cases h:k=i
  ·subst h
   have:=ymX x l k hi k
   rw[if_neg (by omega)]at this
   rw[if_pos rfl,if_pos (by omega),if_pos (by omega),Option.getD_some,this]
  ·rw[if_neg h,←List.getD_eq_getElem?_getD,ymX x l i hi k]
   by_cases h2:i<k
   ·rw[if_pos h2,if_pos (by omega)]
   ·rw[if_neg h2,if_neg (by omega)]
theorem yhH(c:UInt8)(key:Bs)(i:Nat)(hi:i<64):∀k,(zlI c key k).getD i 0=if i<k then c^^^key.getD i 0 else c
 |0=>by
  rw[zlI,List.getD_eq_getElem?_getD,List.getElem?_replicate,if_pos hi,if_neg (Nat.not_lt_zero i)];rfl
 |k+1=>by
  have hl:=zjV c key k
  rw[zlI,List.getD_eq_getElem?_getD,List.getElem?_set]
  by_cases h:k=i
  ·subst h
   have:=yhH c key k hi k
   rw[if_neg (by omega)]at this
   rw[if_pos rfl,if_pos (by omega),if_pos (by omega),Option.getD_some,this]
  ·rw[if_neg h,←List.getD_eq_getElem?_getD,yhH c key i hi k]
   by_cases h2:i<k
   ·rw[if_pos h2,if_pos (by omega)]
   ·rw[if_neg h2,if_neg (by omega)]
theorem xaH(c:UInt8)(key:Bs)(hk:key.length≤64):padX c (key++List.replicate (64-key.length) 0) 64=zlI c key key.length:=by
 have hl:(key++List.replicate (64-key.length) (0:UInt8)).length=64:=by simp;omega
 have h1:=zzP c (key++List.replicate (64-key.length) (0:UInt8)) 64
 have h2:=zjV c key key.length
 apply List.ext_getElem (by rw[h1,h2,hl])
 intro i hi hi2
 rw[h1,hl]at hi
 have e1:=ymX c (key++List.replicate (64-key.length) (0:UInt8)) i (by omega) 64
 have e2:=yhH c key i hi key.length
 rw[List.getD_eq_getElem?_getD,List.getElem?_eq_getElem (by omega),Option.getD_some,if_pos hi]at e1
 rw[List.getD_eq_getElem?_getD,List.getElem?_eq_getElem (by omega),Option.getD_some]at e2
 rw[e1,e2]
 by_cases h:i<key.length
 ·rw[if_pos h,List.getD_eq_getElem?_getD,List.getElem?_append_left h,←List.getD_eq_getElem?_getD,UInt8.xor_comm]
 ·rw[if_neg h,List.getD_eq_getElem?_getD,List.getElem?_append_right (by omega),List.getElem?_replicate,if_pos (by omega),Option.getD_some]
  simp
theorem yxV{key:Bs}{x:UInt8}(h:key.length≤68719470000):zoR key x zmM.l=some (zlI x (keyF key) (keyF key).length):=by
 unfold zoR
 have hk:=yqK key
 have e:(bif decide ((64:Int)<((key).length:Int))then(Option.bind (zqZ key zmM.l) fun y1=>some (y1))else(some (key)))=some (keyF key):=by
  unfold keyF
  by_cases h2:64<key.length
  ·rw[zaY (by omega),zaY h2,sumR4 h];rfl
  ·rw[zaZ (by omega),zaZ h2]
 have h0:iter zlZ (keyF key)=some (keyF key++List.replicate (64-(keyF key).length) 0):=by
  have:=zaM (body:=zlZ) (fun k=>keyF key++List.replicate k (0:UInt8)) (64-(keyF key).length) (by omega) (keyF key++List.replicate (64-(keyF key).length) 0) (fun k hk2=>by
   unfold zlZ
   have hl:(keyF key++List.replicate k (0:UInt8)).length=(keyF key).length+k:=by simp
   rw[hl,zaY (by omega),zbA (by rw[hl,List.length_cons,List.length_nil];omega),zaA,List.append_assoc,←List.replicate_succ']) (by
   unfold zlZ
   rw[zaZ (by simp;omega)])
  simpa using this
 rw[e,zaA,h0,zaA,zaA]
 have hl:(keyF key++List.replicate (64-(keyF key).length) (0:UInt8)).length=64:=by simp;omega
 rw[←xaH x (keyF key) hk]
 generalize keyF key++List.replicate (64-(keyF key).length) (0:UInt8)=L at hl
 have h1:iter (zpI x) (0,L)=some (padX x L 64):=by
  refine zaM (fun k=>((k:Int),padX x L k)) 64 (by decide) _ (fun k hk2=>?_) ?_
  ·unfold zpI
   have hp:k<(padX x L k).length:=by rw[zzP];omega
   rw[zaY (by omega)]
   simp only[]
   rw[idxD hp,zaA,zaA,zwW hp,zaA,w64s k (by omega)]
   rfl
  ·unfold zpI
   rw[zaZ (by omega)]
 rw[h1];rfl
theorem macR{key s:Bs}(hk:key.length≤68719470000)(hs:s.length≤68719460000):zpH key s=some (macF key s):=by
 unfold zpH zwX
 have l2:=zjV 92 (keyF key) (keyF key).length
 have l1:=zjV 54 (keyF key) (keyF key).length
 have hi:(zlI 54 (keyF key) (keyF key).length++s).length≤68719470000:=by rw[List.length_append,l1];omega
 have ho:(zlI 92 (keyF key) (keyF key).length++shaF (zlI 54 (keyF key) (keyF key).length++s)).length≤68719470000:=by rw[List.length_append,l2,zzL];omega
 rw[yxZ,zaA,yxV hk,zaA,yxV hk,zaA,zbA (by rw[←List.length_append];omega),zaA,sumR4 hi,zaA,zbA (by rw[←List.length_append];omega),zaA,sumR4 ho]
 rfl
end Go.Proofs.YtmkomlbiaebddaaGreatDoor
namespace Go.Proofs.YtmkomlbiaebddaaGreatDoor.Am
open Go Go.RowKit
section
variable {G:List (Nat×Obj)}
def yiH:Option (List UInt32):=some zmM.l
def zsA:PC:=⟨[],[.sl (.i .u32)],fun _=>yiH,false⟩
theorem zxI:PCok Tryz.prog G 93 zsA:=by
 refine⟨isFn Tryz.func93 (by kernel_rfl) (by kernel_rfl),fun S0 w0 us x (y:List UInt32) hG hS ha hy=>?_⟩
 cases ha
 have hy:some zmM.l=some y:=hy
 cases hy
 exact(yxP hS yxZ).mono fun e w' ⟨hx,v,he,hr⟩=>⟨hx,v,he,rpL hr,fun h=>by cases h⟩
def zyO(key s:Bs)(ks:List UInt32):Option Bs:=bif decide (ks=zmM.l)then macP key s else none
def zsQ:PC:=⟨[.h .s,.h .s,.h (.sl (.i .u32))],[.s],fun x=>zyO x.1 x.2.1 x.2.2,false⟩
theorem macR'{key s:Bs}(hk:key.length≤68719470000)(hs:s.length≤68719460000):zwX key s zmM.l=some (macF key s):=by
 have h:=macR hk hs
 unfold zpH at h
 rw[yxZ,zaA]at h
 cases e:zwX key s zmM.l with
 |none=>rw[e]at h;cases h
 |some v=>rw[e]at h;exact h
theorem zyL:PCok Tryz.prog G 94 zsQ:=by
 refine⟨isFn Tryz.func94 (by kernel_rfl) (by kernel_rfl),fun S0 w0 us (x:Bs×Bs×List UInt32) (y:Bs) hG hS ha hy=>?_⟩
 have ha:A2 (VR S0 []) [svOf .s x.1,svOf .s x.2.1,svOf (.sl (.i .u32)) x.2.2] us:=ha
 cases ha with
 |cons q1 q2=>
  cases q2 with
  |cons q3 q4=>
   cases q4 with
   |cons q5 q6=>
    cases q6
    rename_i u
    have q5:rep (.sl (.i .u32)) S0 [u] x.2.2:=q5
    obtain⟨u',hu,hr⟩:=q5
    cases hu
    rw[zqB (t:=.s) rfl q1,zqB (t:=.s) rfl q3]
    have hy:zyO x.1 x.2.1 x.2.2=some y:=hy
    unfold zyO at hy
    obtain⟨hb,h⟩:=zaF hy
    unfold macP at h
    obtain⟨hc,h⟩:=zaF h
    simp only[Bool.and_eq_true,decide_eq_true_eq]at hb hc
    cases h
    rw[hb]at hr
    exact(xbC hS hr (macR' hc.1 hc.2)).mono fun e w' ⟨he,hx⟩=>⟨hx,_,he,zvY (l:=[.s]) rfl,fun h=>by cases h⟩
end
def τWkD:TE:=[(3,⟨.int .i64,1,[.v (.i .i64) (show Int from 0)],(.i .i64),8⟩),
 (5,⟨.int .u8,1,[.v (.i .u8) (show UInt8 from 0)],(.i .u8),1⟩),
 (9,⟨.s,1,[.v .s (show Bs from [])],.s,16⟩),
 (100,⟨.sl 5,1,[.nils],(.sl (.i .u8)),24⟩),
 (133,⟨.int .u32,1,[.v (.i .u32) (show UInt32 from 0)],(.i .u32),4⟩)]
theorem τ_okWkD:TEok Tryz.prog τWkD:=ymL (by kernel_rfl) (by kernel_rfl)
theorem xcK:Tryz.prog.follows .mixedOrders=true:=by kernel_rfl
section
variable {tabs:List (Nat×Obj)}[zlD tabs]
def ziV(v0:UInt32):Option Bs:=
 (chk (decide ((0:Int)≤((24:UInt64).toNat:Int)))).bind fun _=>let v1:UInt8:=i8 ((i32 (shrI .u32 (v0.toNat:Int) ((24:UInt64).toNat:Int))).toNat:Int)
 (chk (decide ((0:Int)≤((16:UInt64).toNat:Int)))).bind fun _=>let v2:UInt8:=i8 ((i32 (shrI .u32 (v0.toNat:Int) ((16:UInt64).toNat:Int))).toNat:Int)
 (chk (decide ((0:Int)≤((8:UInt64).toNat:Int)))).bind fun _=>let v3:UInt8:=i8 ((i32 (shrI .u32 (v0.toNat:Int) ((8:UInt64).toNat:Int))).toNat:Int)
 some ([v1,v2,v3,i8 (v0.toNat:Int)]:Bs)
def ydW:PC:=⟨[(.h (.i .u32))],[(.sl (.i .u8))],fun x=>ziV x,false⟩
theorem ysD:PCok Tryz.prog tabs 95 ydW:=wit (G:=tabs)<|ygS (η:=[]) (Γ:=⟨[],[],false,[]⟩) xcK τ_okWkD (ctok trivial trivial) Tryz.func95 (isFn Tryz.func95) (by kernel_rfl) rfl (by kernel_rfl)
def zwH(v2:Int):Option ((Bs×Int)⊕Unit):=
 bif decide (v2<1)then some (.inl (([]:Bs),(40:Int)))else(bif decide (v2>64)then some (.inl (([]:Bs),(40:Int)))else some (.inr ()))
def zwY(v3:Int):Option ((Bs×Int)⊕Unit):=
 bif decide (v3<1)then some (.inl (([]:Bs),(41:Int)))else(bif decide (v3>96)then some (.inl (([]:Bs),(41:Int)))else some (.inr ()))
def znL(v20:Bs)(v21:Int)(v22:Bs)(v23:Bs):Option ((Int×Bs×Bs)⊕((Bs×Bs))):=
 bif decide (v21<32)then((chk (decide ((0:Int)≤v21)&&decide (v21<(v23.length:Int)))).bind fun _=>(idx v23 v21).bind fun v24=>(idx v20 v21).bind fun v25=>(chk (decide ((0:Int)≤v21)&&decide (v21<(v23.length:Int)))).bind fun _=>(setL v23 v21 (v24^^^v25)).bind fun v26=>some (.inl (w64 (v21+1),v22,v26)))else some (.inr (v22,v23))
def znJ(v0:Bs)(v2:Int)(v10:List UInt32)(v16:Bs)(v17:Int)(v18:Bs)(v19:Bs):Option ((Bs×Int×Bs×Bs)⊕((Bs×Bs))):=
 bif decide (v17<v2)then((zyO v0 v16 v10).bind fun v20=>(iter (fun x=>znL v20 x.1 x.2.1 x.2.2) ((0:Int),v18,v19)).bind fun v27=>some (.inl (v20,w64 (v17+1),v27)))else some (.inr (v18,v19))
def znN(v0:Bs)(v1:Bs)(v2:Int)(v3:Int)(v10:List UInt32)(v11:Int)(v12:Bs):Option ((Int×Bs)⊕Bs):=
 bif decide ((v12.length:Int)<v3)then((ziV (i32 v11)).bind fun v13=>(app v1 v13).bind fun v14=>(zyO v0 v14 v10).bind fun v15=>(iter (fun x=>znJ v0 v2 v10 x.1 x.2.1 x.2.2.1 x.2.2.2) (v15,(1:Int),v12,v15)).bind fun v28=>(app v28.1 v28.2).bind fun v29=>some (.inl (w64 (v11+1),v29)))else some (.inr v12)
def zpC(v0:Bs)(v1:Bs)(v2:Int)(v3:Int):Option (Bs×Int):=
 (zwH v2).bind fun v4=>match v4 with
 |.inl v5=>(some v5)
 |.inr _v6=>((zwY v3).bind fun v7=>match v7 with
 |.inl v8=>(some v8)
 |.inr _v9=>((yiH).bind fun v10=>(iter (fun x=>znN v0 v1 v2 v3 v10 x.1 x.2) ((1:Int),([]:Bs))).bind fun v30=>(subH v30 v3).bind fun _v31=>some (List.take v3.toNat v30,(0:Int))))
def zwG:PC:=⟨[hS,hS,hI,hI],[.s,(.i .i64)],fun x=>zpC x.1 x.2.1 x.2.2.1 x.2.2.2,false⟩
theorem yhG:PCok Tryz.prog tabs 45 zwG:=wit (G:=tabs)<|ygS (η:=[(2000003,.join [] [0,1,2,3] [(some 1000000,⟨[(8,hS),(9,hI)],[]⟩),(none,⟨[],[]⟩)]),
 (2000005,.join [] [0,1,2,3] [(some 1000000,⟨[(8,hS),(9,hI)],[]⟩),(none,⟨[],[]⟩)]),
 (200017,.loop [] ⟨[(11,(.own 0)),(14,(.own 1)),(16,hI)],[.osl (.i .u8) 5,.osl (.i .u8) 5]⟩ [0,1,2,3,10,12,13,15] [(some 4,⟨[(11,(.own 0)),(14,(.own 1))],[.osl (.i .u8) 5,.osl (.i .u8) 5]⟩)]),
 (200013,.loop [] ⟨[(11,(.own 0)),(13,hS),(14,(.own 1)),(15,hI)],[.osl (.i .u8) 5,.osl (.i .u8) 5]⟩ [0,1,2,3,10,12] [(some 2,⟨[(11,(.own 0)),(14,(.own 1))],[.osl (.i .u8) 5,.osl (.i .u8) 5]⟩)]),
 (200008,.loop [] ⟨[(11,(.own 0)),(12,hI)],[.osl (.i .u8) 5]⟩ [0,1,2,3,10] [(some 0,⟨[(11,(.own 0))],[.osl (.i .u8) 5]⟩)]),
 (4000019,.sch [(.pu,0,[]),(.pu,1,[]),(.pu,2,[]),(.pu,3,[]),(.pu,4,[]),(.pu,5,[]),(.pu,6,[]),(.pu,7,[]),(.pu,8,[]),(.mn,9,[0,1])])]) (Γ:=⟨[(93,zsA),(95,ydW),(94,zsQ)],[],false,[]⟩) xcK τ_okWkD (ctok ⟨zxI,⟨ysD,⟨zyL,trivial⟩⟩⟩ trivial) Tryz.func45 (isFn Tryz.func45) (by kernel_rfl) rfl (by kernel_rfl)
end
def τWkB:TE:=[(3,⟨.int .i64,1,[.v (.i .i64) (show Int from 0)],(.i .i64),8⟩),
 (4,⟨.b,1,[.v .b (show Bool from false)],.b,1⟩),
 (5,⟨.int .u8,1,[.v (.i .u8) (show UInt8 from 0)],(.i .u8),1⟩),
 (9,⟨.s,1,[.v .s (show Bs from [])],.s,16⟩),
 (22,⟨.sl 24,1,[.nils],(.sl (.pr .s .s)),24⟩),
 (24,⟨.st [(9,0),(9,1)],2,[.v .s (show Bs from []),.v .s (show Bs from [])],(.pr .s .s),32⟩),
 (25,⟨.pt 79,1,[.nilp],.un,8⟩),
 (35,⟨.sl 53,1,[.nils],(.sl (.pr .s (.pr .s (.pr .s (.pr .s (.pr (.i .i64) (.pr (.i .i64) (.pr (.i .i64) (.sl (.pr .s (.pr .s (.pr .s (.i .i64))))))))))))),24⟩),
 (38,⟨.st [(35,0)],1,[.nils],(.pr (.sl (.pr .s (.pr .s (.pr .s (.pr .s (.pr (.i .i64) (.pr (.i .i64) (.pr (.i .i64) (.sl (.pr .s (.pr .s (.pr .s (.i .i64))))))))))))) .un),24⟩),
 (51,⟨.sl 58,1,[.nils],(.sl (.pr .s (.pr .s (.pr .s (.i .i64))))),24⟩),
 (53,⟨.st [(9,0),(9,1),(9,2),(9,3),(3,4),(3,5),(3,6),(51,7)],8,[.v .s (show Bs from []),.v .s (show Bs from []),.v .s (show Bs from []),.v .s (show Bs from []),.v (.i .i64) (show Int from 0),.v (.i .i64) (show Int from 0),.v (.i .i64) (show Int from 0),.nils],(.pr .s (.pr .s (.pr .s (.pr .s (.pr (.i .i64) (.pr (.i .i64) (.pr (.i .i64) (.sl (.pr .s (.pr .s (.pr .s (.i .i64)))))))))))),112⟩),
 (58,⟨.st [(9,0),(9,1),(9,2),(3,3)],4,[.v .s (show Bs from []),.v .s (show Bs from []),.v .s (show Bs from []),.v (.i .i64) (show Int from 0)],(.pr .s (.pr .s (.pr .s (.i .i64)))),56⟩),
 (63,⟨.sl 66,1,[.nils],(.sl (.pr (.i .i64) (.pr (.i .i64) (.pr (.i .i64) (.pr .s (.pr .s (.pr .s (.pr .s (.pr .s (.pr .s (.i .i64))))))))))),24⟩),
 (66,⟨.st [(3,0),(3,1),(3,2),(9,3),(9,4),(9,5),(58,6)],10,[.v (.i .i64) (show Int from 0),.v (.i .i64) (show Int from 0),.v (.i .i64) (show Int from 0),.v .s (show Bs from []),.v .s (show Bs from []),.v .s (show Bs from []),.v .s (show Bs from []),.v .s (show Bs from []),.v .s (show Bs from []),.v (.i .i64) (show Int from 0)],(.pr (.i .i64) (.pr (.i .i64) (.pr (.i .i64) (.pr .s (.pr .s (.pr .s (.pr .s (.pr .s (.pr .s (.i .i64)))))))))),128⟩),
 (74,⟨.st [(53,0)],8,[.v .s (show Bs from []),.v .s (show Bs from []),.v .s (show Bs from []),.v .s (show Bs from []),.v (.i .i64) (show Int from 0),.v (.i .i64) (show Int from 0),.v (.i .i64) (show Int from 0),.nils],(.pr .s (.pr .s (.pr .s (.pr .s (.pr (.i .i64) (.pr (.i .i64) (.pr (.i .i64) (.sl (.pr .s (.pr .s (.pr .s (.i .i64)))))))))))),112⟩),
 (77,⟨.map 9 74,1,[.nilm],(.mp .s (.pr .s (.pr .s (.pr .s (.pr .s (.pr (.i .i64) (.pr (.i .i64) (.pr (.i .i64) (.sl (.pr .s (.pr .s (.pr .s (.i .i64))))))))))))),8⟩),
 (79,⟨.st [(77,0)],1,[.nilm],(.pr (.mp .s (.pr .s (.pr .s (.pr .s (.pr .s (.pr (.i .i64) (.pr (.i .i64) (.pr (.i .i64) (.sl (.pr .s (.pr .s (.pr .s (.i .i64))))))))))))) .un),8⟩),
 (100,⟨.sl 5,1,[.nils],(.sl (.i .u8)),24⟩)]
theorem τ_okWkB:TEok Tryz.prog τWkB:=ymL (by kernel_rfl) (by kernel_rfl)
theorem xdA:Tryz.prog.follows .mixedOrders=true:=by kernel_rfl
theorem zpA {G : List (Nat × Obj)} {o : Ops} [zlD G] [zkN G o] {Γ : CT} {η : HT} {f : FuncId} {fn : Func} {c : SC} (hΓ : ∀ B, GB G B → CTok Tryz.prog Γ B) (hf : Tryz.prog.funcs[f]? = some fn) (i : (fn.name == "runtime.NumGoroutine") = false := by kernel_rfl) (j : fn.body.isNone = false := by kernel_rfl) (l : Nat.ble c.I.sl.length fn.ntmps = true := by kernel_rfl) (r : Nat.beq fn.results.toList.length c.nr = true := by kernel_rfl) (e : fnS τWkB Γ η fn c.I c.outs = c.p := by kernel_rfl) : SCok Tryz.prog G f c := witO (G := G) (o := o) <| yrC xdA τ_okWkB hΓ hf (isFn hf i j) l r e
theorem ztH {G : List (Nat × Obj)} {o : Ops} [zlD G] [zkN G o] {Γ : CT} {η : HT} {f : FuncId} {fn : Func} {c : PC} (hΓ : ∀ B, GB G B → CTok Tryz.prog Γ B) (hf : Tryz.prog.funcs[f]? = some fn) (i : (fn.name == "runtime.NumGoroutine") = false := by kernel_rfl) (j : fn.body.isNone = false := by kernel_rfl) (l : Nat.ble c.ash.length fn.ntmps = true := by kernel_rfl) (r : c.cl = false := by kernel_rfl) (e : fnP τWkB Γ η fn c.ash c.rts = c.p := by kernel_rfl) : PCok Tryz.prog G f c := witO (G := G) (o := o) <| ygS xdA τ_okWkB hΓ hf (isFn hf i j) l r e
abbrev zsU:Type:=Bs×Bs×Bs×Int
abbrev yiJ:Ty:=.pr .s (.pr .s (.pr .s (.i .i64)))
abbrev ygK:Type:=Int×Int×Int×Bs×Bs×Bs×zsU
abbrev ymH:Ty:=.pr (.i .i64) (.pr (.i .i64) (.pr (.i .i64) (.pr .s (.pr .s (.pr .s yiJ)))))
abbrev zbP:Type:=Bs×Bs×Bs×Bs×Int×Int×Int×List zsU
abbrev yhS:Ty:=.pr .s (.pr .s (.pr .s (.pr .s (.pr (.i .i64) (.pr (.i .i64) (.pr (.i .i64) (.sl yiJ)))))))
abbrev yrR:Type:=Bs×Bs×Bs×Bs×Bs×Int×Int×Int×List zsU
abbrev yjV:OSh:=.blk 53 [hS,hS,hS,hS,hI,hI,hI,(.h (.sl yiJ))]
abbrev zfT:OSh:=.blk 38 [(.h (.sl yhS))]
abbrev QWkB3:OSh:=.blk 38 [(.own 1)]
abbrev xbJ:OSh:=.blk 79 [(.mpr 1)]
abbrev QWkB5:OSh:=.blk 79 [(.mpr 2)]
abbrev ywP:OSh:=.mp true .s yhS
section
variable {tabs:List (Nat×Obj)}[zlD tabs]{o:Ops}[zkN tabs o]
def zbU(_o:Ops)(v0:UInt8):Option (Bool):=
 bif decide ((v0.toNat:Int)≥((97:UInt8).toNat:Int))then(bif decide ((v0.toNat:Int)≤((122:UInt8).toNat:Int))then(some true)else(bif decide ((v0.toNat:Int)≥((48:UInt8).toNat:Int))then(bif decide ((v0.toNat:Int)≤((57:UInt8).toNat:Int))then(some true)else(bif((v0.toNat:Int)==((46:UInt8).toNat:Int))then(some true)else(bif((v0.toNat:Int)==((95:UInt8).toNat:Int))then(some true)else(some ((v0.toNat:Int)==((45:UInt8).toNat:Int))))))else(bif((v0.toNat:Int)==((46:UInt8).toNat:Int))then(some true)else(bif((v0.toNat:Int)==((95:UInt8).toNat:Int))then(some true)else(some ((v0.toNat:Int)==((45:UInt8).toNat:Int)))))))else(bif decide ((v0.toNat:Int)≥((48:UInt8).toNat:Int))then(bif decide ((v0.toNat:Int)≤((57:UInt8).toNat:Int))then(some true)else(bif((v0.toNat:Int)==((46:UInt8).toNat:Int))then(some true)else(bif((v0.toNat:Int)==((95:UInt8).toNat:Int))then(some true)else(some ((v0.toNat:Int)==((45:UInt8).toNat:Int))))))else(bif((v0.toNat:Int)==((46:UInt8).toNat:Int))then(some true)else(bif((v0.toNat:Int)==((95:UInt8).toNat:Int))then(some true)else(some ((v0.toNat:Int)==((45:UInt8).toNat:Int))))))
def zjR(o:Ops):PC:=⟨[(.h (.i .u8))],[.b],fun x=>zbU o x,false⟩
theorem zqS:PCok Tryz.prog tabs 111 (zjR o):=ztH (o:=o) (η:=[]) (Γ:=⟨[],[],false,[]⟩) (ctok trivial trivial) Tryz.func111
def zgU(o:Ops)(v0:Bs)(v1:Int):Option (Int⊕(Bool⊕Unit)):=
 bif decide (v1<(v0.length:Int))then((idx v0 v1).bind fun v2=>(zbU o v2).bind fun v3=>bif(!v3)then some (.inr (.inl false))else some (.inl (w64 (v1+1))))else some (.inr (.inr ()))
def zeY(o:Ops)(v0:Bs):Option (Bool):=
 (iter (zgU o v0) (0:Int)).bind fun v4=>match v4 with
 |.inl v5=>(some v5)
 |.inr _v6=>(bif decide ((v0.length:Int)≥1)then(some (decide ((v0.length:Int)≤24)))else(some false))
def zlB(o:Ops):PC:=⟨[hS],[.b],fun x=>zeY o x,false⟩
theorem zsM:PCok Tryz.prog tabs 79 (zlB o):=ztH (o:=o) (η:=[(200002,.loop [] ⟨[(3,hI)],[]⟩ [0] [(some 1000000,⟨[(2,hB)],[]⟩),(some 0,⟨[],[]⟩)])]) (Γ:=⟨[(111,(zjR o))],[],false,[]⟩) (ctok ⟨zqS,trivial⟩ trivial) Tryz.func79
def zcE(_o:Ops)(v0:Bs)(v1:Bs):Option Bs:=
 (zpC v0 v1 (4:Int) (32:Int)).bind fun v2=>some v2.1
def zgN(o:Ops):PC:=⟨[hS,hS],[.s],fun x=>zcE o x.1 x.2,false⟩
theorem zkY:PCok Tryz.prog tabs 18 (zgN o):=ztH (o:=o) (η:=[]) (Γ:=⟨[(45,zwG)],[],false,[]⟩) (ctok ⟨yhG,trivial⟩ trivial) Tryz.func18
def zhE(_o:Ops)(v0:Bs)(v1:List yrR):Option ((Int×List yrR)):=
 let _v2:zbP:=zeU keqS v1 v0 (([]:Bs),([]:Bs),([]:Bs),([]:Bs),(0:Int),(0:Int),(0:Int),([]:List zsU))
 bif(!(mhas keqS v1 v0))then some ((150:Int),v1)else some ((0:Int),mdel keqS v1 v0)
def zoC(o:Ops):SC:=⟨⟨[(0,(.ptr 0 0)),(1,hS)],[xbJ,ywP]⟩,1,[(none,⟨[(0,hI)],[xbJ,ywP]⟩)],fun x=>zhE o x.1 x.2⟩
theorem zvD:SCok Tryz.prog tabs 63 (zoC o):=zpA (o:=o) (η:=[]) (Γ:=⟨[],[],false,[]⟩) (ctok trivial trivial) Tryz.func63
def zdG(_o:Ops)(v0:Int):Option (Bool):=
 bif decide (v0≥0)then(some (decide (v0≤1099511627776)))else(some false)
def zgT(o:Ops):PC:=⟨[hI],[.b],fun x=>zdG o x,false⟩
theorem zkW:PCok Tryz.prog tabs 102 (zgT o):=ztH (o:=o) (η:=[]) (Γ:=⟨[],[],false,[]⟩) (ctok trivial trivial) Tryz.func102
def zgO(_o:Ops)(v0:ygK):Option ((Bool×ygK)):=
 bif decide ((v0.2.2.2.2.2.1.length:Int)≥16)then some (decide (v0.2.2.1≥0),v0)else some (false,v0)
def zeV(o:Ops)(v0:ygK):Option Bs:=
 (zgO o v0).bind fun v1=>bif v1.1 then((chk (((30:Int) != 0))).bind fun _=>(o.code v1.2.2.2.2.2.2.1 (w64 (Int.tdiv v1.2.2.2.1 (30:Int)))).bind fun v2=>some v2)else(some v1.2.2.2.2.2.2.1)
def zkX(o:Ops):PC:=⟨[(.h ymH)],[.s],fun x=>zeV o x,false⟩
theorem zsJ:PCok Tryz.prog tabs 67 (zkX o):=ztH (o:=o) (η:=[(2300002,.join [] [] [(none,⟨[(1,(.ptr 0 0)),(11,hB)],[.blk 66 [hI,hI,hI,hS,hS,hS,hS,hS,hS,hI]]⟩)])]) (Γ:=⟨[(23,(ylI o))],[],false,[]⟩) (ctok ⟨(zkN.code (G:=tabs)),trivial⟩ trivial) Tryz.func67
def zpH(_o:Ops)(v0:Bs)(v1:Bs):Option Bs:=
 (yiH).bind fun v2=>(zyO v0 v1 v2).bind fun v3=>some v3
def yhU(o:Ops):PC:=⟨[hS,hS],[.s],fun x=>zpH o x.1 x.2,false⟩
theorem yuP:PCok Tryz.prog tabs 164 (yhU o):=ztH (o:=o) (η:=[]) (Γ:=⟨[(93,zsA),(94,zsQ)],[],false,[]⟩) (ctok ⟨zxI,⟨zyL,trivial⟩⟩ trivial) Tryz.func164
def zuE(_o:Ops)(v1:Int)(v2:Int)(v3:Bs):Option ((Int×Bs)⊕Bs):=
 bif decide (v2≥0)then((chk (decide ((0:Int)≤v2))).bind fun _=>(app v3 ([i8 (bits .and .i64 (shrI .i64 v1 v2) (255:Int))]:Bs)).bind fun v4=>some (.inl (w64 (v2-8),v4)))else some (.inr v3)
def zuG(_o:Ops)(v13:Int)(v14:UInt8)(v15:Int)(v16:Bs):Option ((Int×Bs)⊕Bs):=
 bif decide (v15>0)then((chk ((v15 != 0))).bind fun _=>let v17:Int:=w64 (Int.tdiv (bits .or .i64 v13 (w64 (v14.toNat:Int))) v15)
 (chk (decide ((0:Int)<10))).bind fun _=>(app v16 ([i8 (w64 ((48:Int)+(Int.tmod v17 (10:Int))))]:Bs)).bind fun v18=>(chk (((10:Int) != 0))).bind fun _=>some (.inl (w64 (Int.tdiv v15 (10:Int)),v18)))else some (.inr v16)
def zwU(o:Ops)(v0:Bs)(v1:Int):Option Bs:=
 (iter (fun x=>zuE o v1 x.1 x.2) ((56:Int),([]:Bs))).bind fun v5=>(zpH o v0 v5).bind fun v6=>(idx v6 (31:Int)).bind fun v7=>(idx v6 (w64 ((v7&&&(15:UInt8)).toNat:Int))).bind fun v8=>(chk (decide ((0:Int)≤((24:UInt64).toNat:Int)))).bind fun _=>let v9:Int:=shlI .i64 (w64 ((v8&&&(127:UInt8)).toNat:Int)) ((24:UInt64).toNat:Int)
 (idx v6 (w64 ((w64 ((v7&&&(15:UInt8)).toNat:Int))+1))).bind fun v10=>(chk (decide ((0:Int)≤((16:UInt64).toNat:Int)))).bind fun _=>let v11:Int:=shlI .i64 (w64 (v10.toNat:Int)) ((16:UInt64).toNat:Int)
 (idx v6 (w64 ((w64 ((v7&&&(15:UInt8)).toNat:Int))+2))).bind fun v12=>(chk (decide ((0:Int)≤((8:UInt64).toNat:Int)))).bind fun _=>let v13:Int:=bits .or .i64 (bits .or .i64 v9 v11) (shlI .i64 (w64 (v12.toNat:Int)) ((8:UInt64).toNat:Int))
 (idx v6 (w64 ((w64 ((v7&&&(15:UInt8)).toNat:Int))+3))).bind fun v14=>(iter (fun x=>zuG o v13 v14 x.1 x.2) ((100000:Int),([]:Bs))).bind fun v19=>some v19
def ydL(o:Ops):PC:=⟨[hS,hI],[.s],fun x=>zwU o x.1 x.2,false⟩
theorem yrG:PCok Tryz.prog tabs 128 (ydL o):=ztH (o:=o) (η:=[(200003,.loop [] ⟨[(5,(.own 0)),(6,hI)],[.osl (.i .u8) 5]⟩ [0,1,4] [(some 0,⟨[(5,(.own 0))],[.osl (.i .u8) 5]⟩)]),
 (200011,.loop [] ⟨[(10,(.own 0)),(11,hI)],[.osl (.i .u8) 5]⟩ [4,9] [(some 2,⟨[(10,(.own 0))],[.osl (.i .u8) 5]⟩)]),
 (4000008,.sch [(.pu,0,[]),(.pu,1,[]),(.pu,2,[]),(.pu,3,[]),(.pu,4,[]),(.pu,5,[]),(.pu,6,[]),(.pu,7,[]),(.pu,8,[]),(.pu,9,[]),(.pu,10,[]),(.pu,11,[]),(.pu,12,[]),(.pu,13,[]),(.pu,14,[]),(.pu,15,[]),(.pu,16,[]),(.pu,17,[]),(.pu,18,[]),(.pu,19,[]),(.pu,20,[]),(.pu,21,[]),(.pu,22,[]),(.pu,23,[]),(.pu,24,[]),(.pu,25,[]),(.pu,26,[])])]) (Γ:=⟨[(164,(yhU o))],[],false,[]⟩) (ctok ⟨yuP,trivial⟩ trivial) Tryz.func128
def zyH(_o:Ops)(v2:Int)(v3:Int):Option ((Int×Bool)⊕Unit):=
 bif decide (v2<0)then some (.inl ((0:Int),false))else(bif decide (v2>1099511627776)then some (.inl ((0:Int),false))else(bif decide (v3<0)then some (.inl ((0:Int),false))else(bif decide (v3>10)then some (.inl ((0:Int),false))else some (.inr ()))))
def zqH(_o:Ops)(v2:Int)(v3:Int)(v7:Int):Option (Unit⊕Unit):=
 bif decide (v7≥(w64 (v2-v3)))then(bif decide (v7≥0)then some (.inl ())else some (.inr ()))else some (.inr ())
def zqW(o:Ops)(v0:Bs)(v1:Bs)(v2:Int)(v3:Int)(v7:Int):Option (Int⊕((Int×Bool)⊕Unit)):=
 (zqH o v2 v3 v7).bind fun v8=>match v8 with
 |.inl _v9=>((zwU o v0 v7).bind fun v11=>bif(v11==v1)then some (.inr (.inl (v7,true)))else some (.inl (w64 (v7-1))))
 |.inr _v10=>some (.inr (.inr ()))
def zxA(o:Ops)(v0:Bs)(v1:Bs)(v2:Int)(v3:Int):Option (Int×Bool):=
 (zyH o v2 v3).bind fun v4=>match v4 with
 |.inl v5=>(some v5)
 |.inr _v6=>((iter (zqW o v0 v1 v2 v3) (w64 (v2+v3))).bind fun v12=>match v12 with
 |.inl v13=>(some v13)
 |.inr _v14=>(some ((0:Int),false)))
def yeJ(o:Ops):PC:=⟨[hS,hS,hI,hI],[(.i .i64),.b],fun x=>zxA o x.1 x.2.1 x.2.2.1 x.2.2.2,false⟩
theorem yrA:PCok Tryz.prog tabs 103 (yeJ o):=ztH (o:=o) (η:=[(2000003,.join [] [0,1,2,3] [(some 1000000,⟨[(8,hI),(9,hB)],[]⟩),(none,⟨[],[]⟩)]),
 (2100001,.join [] [0,1,2,3,10] [(none,⟨[],[]⟩),(some 0,⟨[],[]⟩)]),
 (200004,.loop [] ⟨[(10,hI)],[]⟩ [0,1,2,3] [(some 1000000,⟨[(8,hI),(9,hB)],[]⟩),(some 0,⟨[],[]⟩)])]) (Γ:=⟨[(128,(ydL o))],[],false,[]⟩) (ctok ⟨yrG,trivial⟩ trivial) Tryz.func103
def zfK(_o:Ops)(v0:zsU):Option (Bool):=
 bif decide ((v0.1.length:Int)≥1)then(bif decide ((v0.1.length:Int)≤86)then(bif((v0.2.1.length:Int)==32)then(bif((v0.2.2.1.length:Int)==32)then(bif decide (v0.2.2.2≥0)then(some (decide (v0.2.2.2≤4294967295)))else(some false))else(some false))else(some false))else(some false))else(some false)
def zmC(o:Ops):PC:=⟨[(.h yiJ)],[.b],fun x=>zfK o x,false⟩
theorem ztQ:PCok Tryz.prog tabs 83 (zmC o):=ztH (o:=o) (η:=[]) (Γ:=⟨[],[],false,[]⟩) (ctok trivial trivial) Tryz.func83
def zgW(_o:Ops)(v0:List zsU)(v1:Bs)(v2:Int):Option (Int⊕(Int⊕Unit)):=
 bif decide (v2<(v0.length:Int))then((idx v0 v2).bind fun v3=>bif(v3.1==v1)then some (.inr (.inl v2))else some (.inl (w64 (v2+1))))else some (.inr (.inr ()))
def zaU(o:Ops)(v0:List zsU)(v1:Bs):Option (Int):=
 (iter (zgW o v0 v1) (0:Int)).bind fun v4=>match v4 with
 |.inl v5=>(some v5)
 |.inr _v6=>(some (-1:Int))
def zeK(o:Ops):PC:=⟨[(.h (.sl yiJ)),hS],[(.i .i64)],fun x=>zaU o x.1 x.2,false⟩
theorem zgR:PCok Tryz.prog tabs 84 (zeK o):=ztH (o:=o) (η:=[(200002,.loop [] ⟨[(5,hI)],[]⟩ [0,1] [(some 1000000,⟨[(4,hI)],[]⟩),(some 0,⟨[],[]⟩)])]) (Γ:=⟨[],[],false,[]⟩) (ctok trivial trivial) Tryz.func84
def ziJ(o:Ops)(v0:Bs)(v1:Bs)(v2:List yrR):Option ((zsU×Bool×List yrR)):=
 let v3:zbP:=zeU keqS v2 v0 (([]:Bs),([]:Bs),([]:Bs),([]:Bs),(0:Int),(0:Int),(0:Int),([]:List zsU))
 (zdU o v3.2.2.2.2.2.2.2 v1).bind fun v4=>bif decide (v4<0)then some ((([]:Bs),([]:Bs),([]:Bs),(0:Int)),false,v2)else((idx v3.2.2.2.2.2.2.2 v4).bind fun v5=>some (v5,true,v2))
def zoV(o:Ops):SC:=⟨⟨[(0,(.ptr 0 0)),(1,hS),(2,hS)],[xbJ,ywP]⟩,2,[(none,⟨[(0,(.h yiJ)),(1,hB)],[xbJ,ywP]⟩)],fun x=>ziJ o x.1 x.2.1 x.2.2⟩
theorem zwK:SCok Tryz.prog tabs 26 (zoV o):=zpA (o:=o) (η:=[]) (Γ:=⟨[(58,(zoB o))],[],false,[]⟩) (ctok ⟨zrJ,trivial⟩ trivial) Tryz.func26
def zcP(_o:Ops)(v0:Bs)(v2:Int)(v3:List zbP):Option ((Int×List zbP)⊕((Int×List zbP))):=
 bif decide (v2<(v3.length:Int))then((idx v3 v2).bind fun v4=>bif Op.bytesLess v4.1 v0 then some (.inl (w64 (v2+1),v3))else some (.inr (v2,v3)))else some (.inr (v2,v3))
def zbK(o:Ops)(v0:Bs)(v1:List zbP):Option ((Int×Bool×List zbP)):=
 (iter (fun x=>zcP o v0 x.1 x.2) ((0:Int),v1)).bind fun v5=>bif decide (v5.1<(v5.2.length:Int))then((idx v5.2 v5.1).bind fun v6=>some (v5.1,(v6.1==v0),v5.2))else some (v5.1,false,v5.2)
def zcO(o:Ops):SC:=⟨⟨[(0,(.ptr 0 0)),(1,hS)],[zfT]⟩,2,[(none,⟨[(0,hI),(1,hB)],[zfT]⟩)],fun x=>zbK o x.1 x.2⟩
theorem zeE:SCok Tryz.prog tabs 73 (zcO o):=zpA (o:=o) (η:=[(200002,.loop [] ⟨[(0,(.ptr 0 0)),(6,hI)],[zfT]⟩ [1,4,5] [(some 0,⟨[(0,(.ptr 0 0)),(6,hI)],[zfT]⟩)]),
 (4000004,.sch [(.pu,0,[]),(.pu,1,[]),(.pu,2,[]),(.pu,3,[]),(.pu,4,[]),(.pu,5,[]),(.pu,6,[]),(.pu,7,[]),(.pu,8,[]),(.pu,9,[]),(.pu,10,[]),(.pu,11,[]),(.pu,12,[]),(.pu,13,[]),(.pu,14,[]),(.pu,15,[]),(.pu,16,[]),(.pu,17,[]),(.pu,18,[]),(.pu,19,[]),(.pu,20,[]),(.pu,21,[])])]) (Γ:=⟨[],[],false,[]⟩) (ctok trivial trivial) Tryz.func73
def zaH(o:Ops)(v0:Bs)(v1:List zbP):Option ((zbP×Bool×List zbP)):=
 (zbK o v0 v1).bind fun v2=>bif(!v2.2.1)then some ((([]:Bs),([]:Bs),([]:Bs),([]:Bs),(0:Int),(0:Int),(0:Int),([]:List zsU)),false,v2.2.2)else((idx v2.2.2 v2.1).bind fun v3=>some (v3,true,v2.2.2))
def zaL(o:Ops):SC:=⟨⟨[(0,(.ptr 0 0)),(1,hS)],[zfT]⟩,2,[(none,⟨[(0,(.h yhS)),(1,hB)],[zfT]⟩)],fun x=>zaH o x.1 x.2⟩
theorem zaN:SCok Tryz.prog tabs 31 (zaL o):=zpA (o:=o) (η:=[]) (Γ:=⟨[],[(73,(zcO o))],false,[]⟩) (ctok trivial ⟨zeE,trivial⟩) Tryz.func31
def zhH(_o:Ops)(v0:zbP)(v2:(Int×Bool×List zbP))(v3:List zbP):Option (((List zbP)×(List zbP)×zbP)):=
 bif v2.2.1 then((subL v2.2.2 (w64 (v2.1+1))).bind fun v4=>some (v4,v2.2.2,v0))else some (v3,v2.2.2,v0)
def zaG(o:Ops)(v0:zbP)(v1:List zbP):Option ((List zbP)):=
 (zbK o v0.1 v1).bind fun v2=>(subL v2.2.2 v2.1).bind fun v3=>(zhH o v0 v2 v3).bind fun v5=>(subH v5.2.1 v2.1).bind fun v6=>(app ([]:List zbP) v6).bind fun v7=>(app v7 ([v5.2.2]:List zbP)).bind fun v8=>(app v8 v5.1).bind fun v9=>some v9
def zaT(o:Ops):SC:=⟨⟨[(0,(.ptr 0 0)),(1,(.h yhS))],[zfT]⟩,0,[(none,⟨[],[QWkB3,.osl yhS 53]⟩)],fun x=>zaG o x.1 x.2⟩
theorem zbF:SCok Tryz.prog tabs 101 (zaT o):=zpA (o:=o) (η:=[(2000005,.join [] [4] [(none,⟨[(0,(.ptr 0 0)),(3,(.ptr 1 0)),(6,(.h (.sl yhS)))],[zfT,yjV]⟩)]),
 (4000005,.sch [(.pu,0,[2]),(.pu,2,[]),(.pu,3,[]),(.pu,4,[]),(.pu,5,[]),(.pu,6,[]),(.pu,7,[]),(.pu,9,[2]),(.la,10,[]),(.pu,12,[2]),(.mn,1,[]),(.mn,8,[2]),(.rv,10,[]),(.mn,11,[2]),(.mn,13,[2]),(.pu,14,[]),(.pu,15,[]),(.mn,16,[0])])]) (Γ:=⟨[],[(73,(zcO o))],false,[]⟩) (ctok trivial ⟨zeE,trivial⟩) Tryz.func101
def zgX(o:Ops)(v0:Bs)(v1:Bs)(v2:Bs)(v3:List zbP):Option ((Int×List zbP)⊕(List zbP)):=
 (zeY o v0).bind fun v4=>bif(!v4)then some (.inl ((155:Int),v3))else(bif((v1.length:Int) != 16)then some (.inl ((155:Int),v3))else(bif decide ((v2.length:Int)<1)then some (.inl ((155:Int),v3))else(bif decide ((v2.length:Int)>64)then some (.inl ((155:Int),v3))else some (.inr v3))))
def zhG(_o:Ops)(v8:(zbP×Bool×List zbP)):Option ((Int×List zbP)⊕((List zbP)×zbP)):=
 bif(!v8.2.1)then(bif decide ((v8.2.2.length:Int)≥64)then some (.inl ((156:Int),v8.2.2))else some (.inr (v8.2.2,v8.1)))else some (.inr (v8.2.2,v8.1))
def zcT(o:Ops)(v0:Bs)(v1:Bs)(v2:Bs)(v3:List zbP):Option ((Int×List zbP)):=
 (zgX o v0 v1 v2 v3).bind fun v5=>match v5 with
 |.inl v6=>some v6
 |.inr v7=>((zaH o v0 v7).bind fun v8=>(zhG o v8).bind fun v9=>match v9 with
 |.inl v10=>some v10
 |.inr v11=>((zcE o v2 v1).bind fun v12=>(zaG o (v0,v1,v12,v11.2.2.2.2.1,v11.2.2.2.2.2.1,(0:Int),(0:Int),v11.2.2.2.2.2.2.2.2) v11.1).bind fun v13=>some ((0:Int),v13)))
def zhD(o:Ops):SC:=⟨⟨[(0,(.ptr 0 0)),(1,hS),(2,hS),(3,hS)],[zfT]⟩,1,[(none,⟨[(0,hI)],[zfT]⟩)],fun x=>zcT o x.1 x.2.1 x.2.2.1 x.2.2.2⟩
theorem znG:SCok Tryz.prog tabs 62 (zhD o):=zpA (o:=o) (η:=[(2000003,.join [] [1,2,3] [(some 1000000,⟨[(8,hI)],[zfT]⟩),(none,⟨[(0,(.ptr 0 0))],[zfT]⟩)]),
 (2000006,.join [] [1,2,3] [(some 1000000,⟨[(8,hI)],[zfT]⟩),(none,⟨[(0,(.ptr 0 0)),(9,(.ptr 1 0))],[zfT,yjV]⟩)])]) (Γ:=⟨[(79,(zlB o)),(18,(zgN o))],[(31,(zaL o)),(101,(zaT o))],false,[]⟩) (ctok ⟨zsM,⟨zkY,trivial⟩⟩ ⟨zaN,⟨zbF,trivial⟩⟩) Tryz.func62
def zcM(o:Ops)(v0:Bs)(v1:List zbP):Option ((Int×List zbP)):=
 (zbK o v0 v1).bind fun v2=>bif(!v2.2.1)then some ((150:Int),v2.2.2)else((subH v2.2.2 v2.1).bind fun v3=>(subL v2.2.2 (w64 (v2.1+1))).bind fun v4=>(app ([]:List zbP) v3).bind fun v5=>(app v5 v4).bind fun v6=>some ((0:Int),v6))
def zgI(o:Ops):SC:=⟨⟨[(0,(.ptr 0 0)),(1,hS)],[zfT]⟩,1,[(none,⟨[(0,hI)],[zfT]⟩)],fun x=>zcM o x.1 x.2⟩
theorem zmS:SCok Tryz.prog tabs 64 (zgI o):=zpA (o:=o) (η:=[(4000004,.sch [(.pu,0,[2]),(.pu,2,[]),(.pu,3,[]),(.pu,4,[]),(.pu,5,[]),(.pu,6,[]),(.pu,7,[]),(.pu,9,[2]),(.pu,10,[2]),(.pu,11,[2]),(.pu,12,[2]),(.pu,13,[2]),(.pu,14,[2]),(.pu,15,[2]),(.mn,1,[]),(.mn,8,[2]),(.mn,16,[2]),(.pu,17,[]),(.pu,18,[]),(.mn,19,[0])])]) (Γ:=⟨[],[(73,(zcO o))],false,[]⟩) (ctok trivial ⟨zeE,trivial⟩) Tryz.func64
def zdD(o:Ops)(v1:Bs)(v5:(zbP×Bool×List zbP)):Option ((Bool×(List zbP)×zbP)):=
 bif decide ((v1.length:Int)≥1)then(bif decide ((v1.length:Int)≤64)then((zcE o v1 v5.1.2.1).bind fun v6=>some ((v6==v5.1.2.2.1),v5.2.2,v5.1))else some (false,v5.2.2,v5.1))else some (false,v5.2.2,v5.1)
def zfY(o:Ops)(v1:Bs)(v5:(zbP×Bool×List zbP)):Option ((Int×List zbP)⊕((List zbP)×zbP)):=
 (zdD o v1 v5).bind fun v7=>bif v7.1 then((zaG o (v7.2.2.1,v7.2.2.2.1,v7.2.2.2.2.1,v7.2.2.2.2.2.1,v7.2.2.2.2.2.2.1,(0:Int),(0:Int),v7.2.2.2.2.2.2.2.2.2) v7.2.1).bind fun v8=>some (.inl ((0:Int),v8)))else some (.inr v7.2)
def zcC(o:Ops)(v0:Bs)(v1:Bs)(v2:Int)(v3:List zbP):Option ((Int×List zbP)):=
 (zdG o v2).bind fun v4=>bif(!v4)then some ((1:Int),v3)else((zaH o v0 v3).bind fun v5=>bif(!v5.2.1)then some ((150:Int),v5.2.2)else(bif decide (v2<v5.1.2.2.2.2.2.2.1)then some ((152:Int),v5.2.2)else((zfY o v1 v5).bind fun v9=>match v9 with
 |.inl v10=>some v10
 |.inr v11=>(bif((w64 (v11.2.2.2.2.2.2.1+1))==5)then((zaG o (v11.2.1,v11.2.2.1,v11.2.2.2.1,v11.2.2.2.2.1,v11.2.2.2.2.2.1,(0:Int),w64 (v2+300),v11.2.2.2.2.2.2.2.2) v11.1).bind fun v12=>some ((151:Int),v12))else((zaG o (v11.2.1,v11.2.2.1,v11.2.2.2.1,v11.2.2.2.2.1,v11.2.2.2.2.2.1,w64 (v11.2.2.2.2.2.2.1+1),v11.2.2.2.2.2.2.2) v11.1).bind fun v13=>some ((151:Int),v13))))))
def zfX(o:Ops):SC:=⟨⟨[(0,(.ptr 0 0)),(1,hS),(2,hS),(3,hI)],[zfT]⟩,1,[(none,⟨[(0,hI)],[zfT]⟩)],fun x=>zcC o x.1 x.2.1 x.2.2.1 x.2.2.2⟩
theorem zmH:SCok Tryz.prog tabs 65 (zfX o):=zpA (o:=o) (η:=[(2300009,.join [] [3] [(none,⟨[(0,(.ptr 0 0)),(9,(.ptr 1 0)),(42,hB)],[zfT,yjV]⟩)]),
 (2000013,.join [] [3] [(some 1000000,⟨[(8,hI)],[QWkB3,.osl yhS 53]⟩),(none,⟨[(0,(.ptr 0 0)),(9,(.ptr 1 0))],[zfT,yjV]⟩)]),
 (4000008,.sch [(.pu,0,[]),(.pu,1,[]),(.pu,2,[]),(.pu,3,[]),(.pu,4,[]),(.pu,5,[]),(.pu,6,[]),(.pu,7,[]),(.pu,8,[]),(.pu,9,[]),(.pu,10,[]),(.pu,11,[]),(.pu,13,[]),(.pu,14,[]),(.mn,12,[]),(.pu,15,[]),(.pu,16,[])])]) (Γ:=⟨[(102,(zgT o)),(18,(zgN o))],[(31,(zaL o)),(101,(zaT o))],false,[]⟩) (ctok ⟨zkW,⟨zkY,trivial⟩⟩ ⟨zaN,⟨zbF,trivial⟩⟩) Tryz.func65
def zgA(_o:Ops)(v1:Bs)(v3:(zbP×Bool×List zbP)):Option ((Int×List zbP)⊕((List zbP)×zbP)):=
 bif decide ((v1.length:Int)<16)then some (.inl ((155:Int),v3.2.2))else(bif decide ((v1.length:Int)>64)then some (.inl ((155:Int),v3.2.2))else some (.inr (v3.2.2,v3.1)))
def zcB(o:Ops)(v0:Bs)(v1:Bs)(v2:List zbP):Option ((Int×List zbP)):=
 (zaH o v0 v2).bind fun v3=>bif(!v3.2.1)then some ((150:Int),v3.2.2)else((zgA o v1 v3).bind fun v4=>match v4 with
 |.inl v5=>some v5
 |.inr v6=>((zaG o (v6.2.1,v6.2.2.1,v6.2.2.2.1,v1,(0:Int),v6.2.2.2.2.2.2) v6.1).bind fun v7=>some ((0:Int),v7)))
def zfU(o:Ops):SC:=⟨⟨[(0,(.ptr 0 0)),(1,hS),(2,hS)],[zfT]⟩,1,[(none,⟨[(0,hI)],[zfT]⟩)],fun x=>zcB o x.1 x.2.1 x.2.2⟩
theorem zmK:SCok Tryz.prog tabs 66 (zfU o):=zpA (o:=o) (η:=[(2000006,.join [] [2] [(some 1000000,⟨[(6,hI)],[zfT]⟩),(none,⟨[(0,(.ptr 0 0)),(7,(.ptr 1 0))],[zfT,yjV]⟩)])]) (Γ:=⟨[],[(31,(zaL o)),(101,(zaT o))],false,[]⟩) (ctok trivial ⟨zaN,⟨zbF,trivial⟩⟩) Tryz.func66
def zgE(_o:Ops)(v5:(zbP×Bool×List zbP))(v6:Int×Bool):Option ((Int×List zbP)⊕((List zbP)×zbP)):=
 bif(!v6.2)then some (.inl ((153:Int),v5.2.2))else(bif decide (v6.1<v5.1.2.2.2.2.1)then some (.inl ((153:Int),v5.2.2))else some (.inr (v5.2.2,v5.1)))
def zcI(o:Ops)(v0:Bs)(v1:Bs)(v2:Int)(v3:List zbP):Option ((Int×List zbP)):=
 (zdG o v2).bind fun v4=>bif(!v4)then some ((1:Int),v3)else((zaH o v0 v3).bind fun v5=>bif(!v5.2.1)then some ((150:Int),v5.2.2)else(bif(v5.1.2.2.2.1==([]:Bs))then some ((154:Int),v5.2.2)else((chk (((30:Int) != 0))).bind fun _=>(zxA o v5.1.2.2.2.1 v1 (w64 (Int.tdiv v2 (30:Int))) (1:Int)).bind fun v6=>(zgE o v5 v6).bind fun v7=>match v7 with
 |.inl v8=>some v8
 |.inr v9=>((zaG o (v9.2.1,v9.2.2.1,v9.2.2.2.1,v9.2.2.2.2.1,w64 (v6.1+1),v9.2.2.2.2.2.2) v9.1).bind fun v10=>some ((0:Int),v10)))))
def zgD(o:Ops):SC:=⟨⟨[(0,(.ptr 0 0)),(1,hS),(2,hS),(3,hI)],[zfT]⟩,1,[(none,⟨[(0,hI)],[zfT]⟩)],fun x=>zcI o x.1 x.2.1 x.2.2.1 x.2.2.2⟩
theorem zmO:SCok Tryz.prog tabs 68 (zgD o):=zpA (o:=o) (η:=[(2000011,.join [] [11] [(some 1000000,⟨[(8,hI)],[zfT]⟩),(none,⟨[(0,(.ptr 0 0)),(9,(.ptr 1 0))],[zfT,yjV]⟩)])]) (Γ:=⟨[(102,(zgT o)),(103,(yeJ o))],[(31,(zaL o)),(101,(zaT o))],false,[]⟩) (ctok ⟨zkW,⟨yrA,trivial⟩⟩ ⟨zaN,⟨zbF,trivial⟩⟩) Tryz.func68
def zfQ(o:Ops)(v1:zsU)(v3:(zbP×Bool×List zbP)):Option ((Int×List zbP)⊕((List zbP)×Bs×Bs×Bs×Int×zbP)):=
 (zfK o v1).bind fun v4=>bif(!v4)then some (.inl ((155:Int),v3.2.2))else((zaU o v3.1.2.2.2.2.2.2.2 v1.1).bind fun v5=>bif decide (v5≥0)then some (.inl ((155:Int),v3.2.2))else some (.inr (v3.2.2,v1.1,v1.2.1,v1.2.2.1,v1.2.2.2,v3.1)))
def zbX(o:Ops)(v0:Bs)(v1:zsU)(v2:List zbP):Option ((Int×List zbP)):=
 (zaH o v0 v2).bind fun v3=>bif(!v3.2.1)then some ((150:Int),v3.2.2)else((zfQ o v1 v3).bind fun v6=>match v6 with
 |.inl v7=>some v7
 |.inr v8=>(let v9:Bool:=decide ((v8.2.2.2.2.2.2.2.2.2.2.2.2.length:Int)≥4)
 bif v9 then some ((156:Int),v8.1)else((app ([]:List zsU) v8.2.2.2.2.2.2.2.2.2.2.2.2).bind fun v10=>(app v10 ([(v8.2.1,v8.2.2.1,v8.2.2.2.1,v8.2.2.2.2.1)]:List zsU)).bind fun v11=>(zaG o (v8.2.2.2.2.2.1,v8.2.2.2.2.2.2.1,v8.2.2.2.2.2.2.2.1,v8.2.2.2.2.2.2.2.2.1,v8.2.2.2.2.2.2.2.2.2.1,v8.2.2.2.2.2.2.2.2.2.2.1,v8.2.2.2.2.2.2.2.2.2.2.2.1,v11) v8.1).bind fun v12=>some ((0:Int),v12))))
def zfM(o:Ops):SC:=⟨⟨[(0,(.ptr 0 0)),(1,hS),(2,(.h yiJ))],[zfT]⟩,1,[(none,⟨[(0,hI)],[zfT]⟩)],fun x=>zbX o x.1 x.2.1 x.2.2⟩
theorem zlG:SCok Tryz.prog tabs 69 (zfM o):=zpA (o:=o) (η:=[(2000006,.join [] [] [(some 1000000,⟨[(6,hI)],[zfT]⟩),(none,⟨[(0,(.ptr 0 0)),(5,(.ptr 1 0)),(7,(.ptr 2 0))],[zfT,.blk 58 [hS,hS,hS,hI],yjV]⟩)]),
 (4000008,.sch [(.pu,1,[]),(.pu,2,[]),(.pu,4,[3]),(.la,5,[]),(.mn,0,[]),(.mn,3,[3]),(.rv,5,[]),(.mn,6,[3]),(.pu,7,[]),(.mn,8,[2])])]) (Γ:=⟨[(83,(zmC o)),(84,(zeK o))],[(31,(zaL o)),(101,(zaT o))],false,[]⟩) (ctok ⟨ztQ,⟨zgR,trivial⟩⟩ ⟨zaN,⟨zbF,trivial⟩⟩) Tryz.func69
def zcN(o:Ops)(v0:Bs)(v1:Bs)(v2:List zbP):Option ((zsU×Bool×List zbP)):=
 (zaH o v0 v2).bind fun v3=>(zaU o v3.1.2.2.2.2.2.2.2 v1).bind fun v4=>bif decide (v4<0)then some ((([]:Bs),([]:Bs),([]:Bs),(0:Int)),false,v3.2.2)else((idx v3.1.2.2.2.2.2.2.2 v4).bind fun v5=>some (v5,true,v3.2.2))
def zhC(o:Ops):SC:=⟨⟨[(0,(.ptr 0 0)),(1,hS),(2,hS)],[zfT]⟩,2,[(none,⟨[(0,(.h yiJ)),(1,hB)],[zfT]⟩)],fun x=>zcN o x.1 x.2.1 x.2.2⟩
theorem znO:SCok Tryz.prog tabs 70 (zhC o):=zpA (o:=o) (η:=[]) (Γ:=⟨[(84,(zeK o))],[(31,(zaL o))],false,[]⟩) (ctok ⟨zgR,trivial⟩ ⟨zaN,trivial⟩) Tryz.func70
def zcA(_o:Ops)(v2:Int)(v4:(zbP×Bool×List zbP))(v6:zsU):Option ((Int×List zbP)⊕((List zbP)×zbP)):=
 bif decide (v2>4294967295)then some (.inl ((153:Int),v4.2.2))else(bif decide (v2≤v6.2.2.2)then(bif(v2==0)then(bif(!(v6.2.2.2==0))then some (.inl ((153:Int),v4.2.2))else some (.inr (v4.2.2,v4.1)))else some (.inl ((153:Int),v4.2.2)))else some (.inr (v4.2.2,v4.1)))
def zbZ(o:Ops)(v0:Bs)(v1:Bs)(v2:Int)(v3:List zbP):Option ((Int×List zbP)):=
 (zaH o v0 v3).bind fun v4=>bif(!v4.2.1)then some ((150:Int),v4.2.2)else((zaU o v4.1.2.2.2.2.2.2.2 v1).bind fun v5=>bif decide (v5<0)then some ((154:Int),v4.2.2)else((idx v4.1.2.2.2.2.2.2.2 v5).bind fun v6=>(zcA o v2 v4 v6).bind fun v7=>match v7 with
 |.inl v8=>some v8
 |.inr v9=>((app ([]:List zsU) v9.2.2.2.2.2.2.2.2).bind fun v10=>(chk (decide ((0:Int)≤v5)&&decide (v5<(v10.length:Int)))).bind fun _=>(idx v10 v5).bind fun v11=>(setL v10 v5 (v11.1,v11.2.1,v11.2.2.1,v2)).bind fun v12=>(zaG o (v9.2.1,v9.2.2.1,v9.2.2.2.1,v9.2.2.2.2.1,v9.2.2.2.2.2.1,v9.2.2.2.2.2.2.1,v9.2.2.2.2.2.2.2.1,v12) v9.1).bind fun v13=>some ((0:Int),v13))))
def zfZ(o:Ops):SC:=⟨⟨[(0,(.ptr 0 0)),(1,hS),(2,hS),(3,hI)],[zfT]⟩,1,[(none,⟨[(0,hI)],[zfT]⟩)],fun x=>zbZ o x.1 x.2.1 x.2.2.1 x.2.2.2⟩
theorem zmA:SCok Tryz.prog tabs 71 (zfZ o):=zpA (o:=o) (η:=[(2000010,.join [] [3,11] [(some 1000000,⟨[(8,hI)],[zfT]⟩),(none,⟨[(0,(.ptr 0 0)),(9,(.ptr 1 0))],[zfT,yjV]⟩)])]) (Γ:=⟨[(84,(zeK o))],[(31,(zaL o)),(101,(zaT o))],false,[]⟩) (ctok ⟨zgR,trivial⟩ ⟨zaN,⟨zbF,trivial⟩⟩) Tryz.func71
def zeN(o:Ops)(v0:ygK)(v1:List zbP)(v2:List yrR):Option ((Bool×(List zbP)×List yrR)):=
 bif(v0.2.1==0)then((zfL o v0.2.2.2.1 v0.2.2.2.2.1 v0.2.2.2.2.2.1 v2).bind fun v3=>(zcT o v0.2.2.2.1 v0.2.2.2.2.1 v0.2.2.2.2.2.1 v1).bind fun v4=>some ((v3.1==v4.1),v4.2,v3.2))else(bif(v0.2.1==1)then((zhE o v0.2.2.2.1 v2).bind fun v5=>(zcM o v0.2.2.2.1 v1).bind fun v6=>some ((v5.1==v6.1),v6.2,v5.2))else(bif(v0.2.1==2)then((zbD o v0.2.2.2.1 v0.2.2.2.2.2.1 v0.2.2.1 v2).bind fun v7=>(zcC o v0.2.2.2.1 v0.2.2.2.2.2.1 v0.2.2.1 v1).bind fun v8=>some ((v7.1==v8.1),v8.2,v7.2))else(bif(v0.2.1==3)then((zdY o v0.2.2.2.1 v0.2.2.2.2.2.1 v2).bind fun v9=>(zcB o v0.2.2.2.1 v0.2.2.2.2.2.1 v1).bind fun v10=>some ((v9.1==v10.1),v10.2,v9.2))else(bif(v0.2.1==4)then((zeV o v0).bind fun v11=>(zcR o v0.2.2.2.1 v11 v0.2.2.1 v2).bind fun v12=>(zcI o v0.2.2.2.1 v11 v0.2.2.1 v1).bind fun v13=>some ((v12.1==v13.1),v13.2,v12.2))else(bif(v0.2.1==5)then((zcU o v0.2.2.2.1 v0.2.2.2.2.2.2 v2).bind fun v14=>(zbX o v0.2.2.2.1 v0.2.2.2.2.2.2 v1).bind fun v15=>some ((v14.1==v15.1),v15.2,v14.2))else(bif(v0.2.1==6)then((ziJ o v0.2.2.2.1 v0.2.2.2.2.2.2.1 v2).bind fun v16=>(zcN o v0.2.2.2.1 v0.2.2.2.2.2.2.1 v1).bind fun v17=>let v18:Bool:=((v16.1.1==v17.1.1)&&((v16.1.2.1==v17.1.2.1)&&((v16.1.2.2.1==v17.1.2.2.1)&&(decide (v16.1.2.2.2=v17.1.2.2.2)))))
 bif v18 then(bif(v16.2.1==v17.2.1)then((zbS o v0.2.2.2.1 v0.2.2.2.2.2.2.1 v0.2.2.1 v16.2.2).bind fun v19=>(zbZ o v0.2.2.2.1 v0.2.2.2.2.2.2.1 v0.2.2.1 v17.2.2).bind fun v20=>some ((v19.1==v20.1),v20.2,v19.2))else some (false,v17.2.2,v16.2.2))else some (false,v17.2.2,v16.2.2))else some (true,v1,v2)))))))
def zjU(o:Ops):SC:=⟨⟨[(0,(.ptr 0 0)),(1,(.ptr 1 0)),(2,(.h ymH))],[QWkB5,zfT,ywP]⟩,1,[(none,⟨[(0,hB)],[QWkB5,zfT,.mp false .s yhS]⟩)],fun x=>zeN o x.1 x.2.1 x.2.2⟩
theorem zrY:SCok Tryz.prog tabs 28 (zjU o):=zpA (o:=o) (η:=[(4000003,.sch [(.pu,0,[]),(.pu,1,[]),(.pu,2,[]),(.pu,3,[]),(.pu,4,[]),(.pu,5,[]),(.pu,6,[]),(.pu,8,[0,2]),(.pu,9,[0,2]),(.pu,10,[0,2]),(.pu,11,[0,2]),(.pu,12,[0,2]),(.pu,13,[0,2]),(.pu,14,[0,2]),(.mn,7,[0,2]),(.mn,15,[1]),(.pu,16,[]),(.pu,17,[])]),
 (4000005,.sch [(.pu,0,[]),(.pu,1,[]),(.pu,2,[]),(.pu,4,[0,2]),(.pu,5,[0,2]),(.pu,6,[0,2]),(.mn,3,[0,2]),(.mn,7,[1]),(.pu,8,[]),(.pu,9,[])]),
 (4000007,.sch [(.pu,0,[]),(.pu,1,[]),(.pu,2,[]),(.pu,3,[]),(.pu,4,[]),(.pu,5,[]),(.pu,6,[]),(.pu,8,[0,2]),(.pu,9,[0,2]),(.pu,10,[0,2]),(.pu,11,[0,2]),(.pu,12,[0,2]),(.pu,13,[0,2]),(.pu,14,[0,2]),(.mn,7,[0,2]),(.mn,15,[1]),(.pu,16,[]),(.pu,17,[])]),
 (4000009,.sch [(.pu,0,[]),(.pu,1,[]),(.pu,2,[]),(.pu,3,[]),(.pu,4,[]),(.pu,6,[0,2]),(.pu,7,[0,2]),(.pu,8,[0,2]),(.pu,9,[0,2]),(.pu,10,[0,2]),(.mn,5,[0,2]),(.mn,11,[1]),(.pu,12,[]),(.pu,13,[])]),
 (4000012,.sch [(.pu,0,[]),(.pu,1,[]),(.pu,2,[]),(.pu,3,[]),(.pu,4,[]),(.pu,5,[]),(.pu,7,[0,2]),(.pu,8,[0,2]),(.pu,9,[0,2]),(.pu,10,[0,2]),(.pu,11,[0,2]),(.pu,12,[0,2]),(.mn,6,[0,2]),(.mn,13,[1]),(.pu,14,[]),(.pu,15,[])]),
 (4000014,.sch [(.pu,0,[]),(.pu,1,[]),(.pu,2,[]),(.pu,3,[]),(.pu,4,[]),(.pu,6,[0,2]),(.pu,7,[0,2]),(.pu,8,[0,2]),(.pu,9,[0,2]),(.pu,10,[0,2]),(.mn,5,[0,2]),(.mn,11,[1]),(.pu,12,[]),(.pu,13,[])]),
 (4000018,.sch [(.pu,0,[]),(.pu,1,[]),(.pu,2,[]),(.pu,3,[]),(.pu,4,[]),(.pu,5,[]),(.pu,6,[]),(.pu,7,[]),(.pu,8,[]),(.pu,9,[]),(.pu,10,[]),(.pu,11,[]),(.pu,12,[]),(.pu,13,[]),(.pu,14,[]),(.pu,15,[]),(.pu,16,[]),(.pu,18,[0,2]),(.pu,19,[0,2]),(.pu,20,[0,2]),(.pu,21,[0,2]),(.pu,22,[0,2]),(.pu,23,[0,2]),(.pu,24,[0,2]),(.pu,25,[0,2]),(.mn,17,[0,2]),(.mn,26,[1]),(.pu,27,[]),(.pu,28,[]),(.pu,29,[])])]) (Γ:=⟨[(67,(zkX o))],[(17,(zkE o)),(62,(zhD o)),(63,(zoC o)),(64,(zgI o)),(19,(ziR o)),(65,(zfX o)),(20,(ziS o)),(66,(zfU o)),(22,(zjI o)),(68,(zgD o)),(25,(zhW o)),(69,(zfM o)),(26,(zoV o)),(70,(zhC o)),(27,(ziM o)),(71,(zfZ o))],false,[]⟩) (ctok ⟨zsJ,trivial⟩ ⟨zpP,⟨znG,⟨zvD,⟨zmS,⟨zmX,⟨zmH,⟨zmV,⟨zmK,⟨zoD,⟨zmO,⟨zmB,⟨zlG,⟨zwK,⟨znO,⟨znB,⟨zmA,trivial⟩⟩⟩⟩⟩⟩⟩⟩⟩⟩⟩⟩⟩⟩⟩⟩) Tryz.func28
def zbV(_o:Ops)(v0:List (Bs×Bs))(v1:List (Bs×Bs))(v2:Int):Option (Int⊕(Bool⊕Unit)):=
 bif decide (v2<(v0.length:Int))then((idx v0 v2).bind fun v3=>(idx v1 v2).bind fun v4=>bif(!((v3.1==v4.1)&&(v3.2==v4.2)))then some (.inr (.inl false))else some (.inl (w64 (v2+1))))else some (.inr (.inr ()))
def zbY(o:Ops)(v0:List (Bs×Bs))(v1:List (Bs×Bs)):Option (Bool):=
 bif((v0.length:Int) != (v1.length:Int))then(some false)else((iter (zbV o v0 v1) (0:Int)).bind fun v5=>match v5 with
 |.inl v6=>(some v6)
 |.inr _v7=>(some true))
def ziK(o:Ops):PC:=⟨[(.h (.sl (.pr .s .s))),(.h (.sl (.pr .s .s)))],[.b],fun x=>zbY o x.1 x.2,false⟩
theorem zoT:PCok Tryz.prog tabs 11 (ziK o):=ztH (o:=o) (η:=[(200004,.loop [] ⟨[(5,hI)],[]⟩ [0,1] [(some 1000000,⟨[(4,hB)],[]⟩),(some 0,⟨[],[]⟩)]),
 (4000006,.sch [(.pu,0,[]),(.pu,1,[]),(.pu,2,[]),(.pu,3,[]),(.pu,4,[]),(.pu,5,[]),(.pu,6,[]),(.pu,7,[]),(.pu,8,[])])]) (Γ:=⟨[],[],false,[]⟩) (ctok trivial trivial) Tryz.func11
end
end Go.Proofs.YtmkomlbiaebddaaGreatDoor.Am
namespace Go.Proofs.YtmkomlbiaebddaaGreatDoor
open Go Go.RowKit
theorem zuA(u:Nat):Lib.decDigits u=if u<10 then [UInt8.ofNat (48+u)]else Lib.decDigits (u/10)++[UInt8.ofNat (48+u%10)]:=by
 rw[Lib.decDigits]
 by_cases h:u<10
 ·rw[dif_pos h,if_pos h]
 ·rw[dif_neg h,if_neg h]
theorem decD_ne(u:Nat):Lib.decDigits u≠[]:=by
 rw[zuA]
 by_cases h:u<10<;>simp[h]
theorem zvX:∀(k u:Nat),0<k→u<10^k→(Lib.decDigits u).length≤k
 |0,_,h,_=>absurd h (Nat.lt_irrefl 0)
 |k+1,u,_,h=>by
  rw[zuA]
  by_cases hu:u<10
  ·rw[if_pos hu];simp
  ·rw[if_neg hu]
   have hk:0<k:=by
    rcases Nat.eq_zero_or_pos k with rfl|hk
    ·rw[Nat.zero_add,Nat.pow_one]at h;omega
    ·exact hk
   have:=zvX k (u/10) hk (by rw[Nat.pow_succ]at h;omega)
   simp;omega
theorem zxG(u:Nat)(hu:u<9223372036854775808):ydF (u:Int)=some (Lib.decDigits u):=by
 unfold ydF ydE
 rw[decide_eq_true (show(-9223372036854775808:Int)≤(u:Int) by omega),decide_eq_true (show(u:Int)≤9223372036854775807 by omega)]
 simp only[Bool.and_self,cond_true]
 rw[decide_eq_false (show ¬(u:Int)<0 by omega)]
 simp only[cond_false,Int.toNat_natCast]
 rw[yfI 20 u (by omega) (by decide)]
theorem ykZ{p:UInt8→Bool}:∀{l:Bs},(∀b∈l,p b=true)→l.dropWhile p=[]
 |[],_=>rfl
 |b::l,h=>by
  rw[List.dropWhile_cons,if_pos (h b List.mem_cons_self)]
  exact ykZ fun b hb=>h b (List.mem_cons_of_mem _ hb)
def ziT:List Bs→Bs
 |[]=>[]
 |t::ts=>Lib.decDigits t.length++58::(t++ziT ts)
section
open Go Go.RowKit Go.ChangeShapes Go.WideShapes Go.ChangeAt
section
variable {H:Type}{enc:TypeId×Value→H}{P:Program}{W W':World}
theorem ycD(hl:laidOutB P=true)(hx:Below W.heap.size W W'):∀{ts:List TypeId} {vs:LV} {ds:List (DataW H)} {ps:List MemPlace},ts.all (fun t=>P.readableRec t&&decide (t<P.types.size))=true →
  DataW.TrodAll enc P W 0 (fun _=>true) true ts vs ds ps→(∀x∈ps,x.block<W.heap.size)→DataW.TrodAll enc P W' 0 (fun b=>decide (b<W.heap.size)) true ts vs ds ps
 |[],vs,ds,ps,_,h,_=>by
  obtain⟨rfl,rfl,rfl⟩:=trodAll_nil h
  exact trodAll_mk0
 |t::ts,vs,ds,ps,ha,h,hlt=>by
  obtain⟨v,vs',d,ds',p,q,rfl,rfl,rfl,h0,hr⟩:=trodAll_cons h
  simp only[List.all_cons,Bool.and_eq_true,decide_eq_true_eq]at ha
  exact trodAll_cons_mk (Below.trod hl ha.1.1 ha.1.2 h0 hx fun x hx=>hlt x (List.mem_append.2 (.inl hx)))
   (ycD hl hx ha.2 hr fun x hx=>hlt x (List.mem_append.2 (.inr hx)))
theorem trodAll_length:∀{ts:List TypeId} {vs:LV} {ds:List (DataW H)} {ps:List MemPlace} {w:World} {b:Nat} {sp:Nat→Bool} {hd:Bool},DataW.TrodAll enc P w b sp hd ts vs ds ps→vs.length=ts.length∧ds.length=ts.length
 |[],vs,ds,ps,_,_,_,_,h=>by
  obtain⟨rfl,rfl,rfl⟩:=trodAll_nil h
  exact⟨rfl,rfl⟩
 |t::ts,vs,ds,ps,_,_,_,_,h=>by
  obtain⟨v,vs',d,ds',p,q,rfl,rfl,rfl,h0,hr⟩:=trodAll_cons h
  have:=trodAll_length hr
  simp[this.1,this.2]
theorem yyV{f:Func}{s:ChangeSpec}{args:Array Value}{ds gs:List (DataW H)}{before:List MemPlace}{B:TypeId}{n:Nat}(hl:laidOutB P=true)(hv:s.vars=[])
  (hp:f.params.toList.all (fun t=>P.readableRec t&&decide (t<P.types.size))=true) (hn:f.params.toList.length=n) (hB:P.underlying B=some .bool) (hr:f.resultTypes = #[B])
  (hfn:∀ds:List (DataW H),ds.length=n→(s.fn H (ds++[])).results=[.lit (.bool true)]∧(s.fn H (ds++[])).args=ds∧(s.fn H (ds++[])).vars=[])
  (hW:DataW.Whole enc P f.params.toList s.vars false W args.toList ds gs before) (hx:Ext W W'):s.post enc P f false true false false W args (.bool true) W':=by
 have hW':=hW
 obtain⟨p,q,hA,hV,rfl,_,_⟩:=hW
 rw[hv]at hV
 obtain⟨rfl,rfl⟩:=trodVars_none hV
 have hA:DataW.TrodAll enc P W 0 (fun _=>true) true f.params.toList args.toList ds p:=hA
 have hlen:=trodAll_length hA
 obtain⟨f1,f2,f3⟩:=hfn ds (hlen.2.trans hn)
 refine⟨ds,[],p++[],[],p,[],hW',?_,?_,?_,Below.frame hx _,fun h=>by cases h⟩
 ·rw[f1,hr]
  exact trodAll_mk1 (shut_bool hB _)
 ·rw[f2]
  exact ycD hl hx hp hA fun x hxp=>by simpa using hW'.lt x (by simp[hxp])
 ·rw[f3,hv];exact rfl
variable {b0:Nat}{T E:TypeId}{v:Value}
theorem yzA{fits:TypeId→Bool}:∀{d:Nat} {e:TypeId} {count off n:Nat},rowAt P fits d e count off n=true→off≤count*P.cellsOf e
 |0,_,_,_,_,h=>by simp[rowAt]at h
 |d+1,e,count,off,n,h=>by
  unfold rowAt at h
  by_cases hs:P.cellsOf e=0
  ·simp[hs]at h
  ·have hd:=Nat.div_add_mod off (P.cellsOf e)
   have hm:=Nat.mod_lt off (Nat.pos_of_ne_zero hs)
   simp only[hs,if_false,Bool.or_eq_true,Bool.and_eq_true,decide_eq_true_eq,beq_iff_eq]at h
   rcases h with⟨⟨h1,h2⟩,_⟩|⟨h1,_⟩
   ·have h3:P.cellsOf e*(off/P.cellsOf e)≤P.cellsOf e*count:=Nat.mul_le_mul_left _ (by omega)
    rw[Nat.mul_comm count];omega
   ·have h3:P.cellsOf e*(off/P.cellsOf e+1)≤P.cellsOf e*count:=Nat.mul_le_mul_left _ (by omega)
    rw[Nat.mul_add,Nat.mul_one]at h3
    rw[Nat.mul_comm count];omega
theorem yiP:∀{d:Nat} {e:TypeId} {count off:Nat} {u:TypeId} {n:Nat},liesAt P d e count off u n=true→off≤count*P.cellsOf e
 |0,_,_,_,_,_,h=>by simp[liesAt]at h
 |d+1,e,count,off,u,n,h=>by
  unfold liesAt at h
  rw[Bool.or_eq_true]at h
  rcases h with h|h
  ·exact yzA h
  ·split at h
   ·exact yiP h
   ·cases h
theorem xbH{a:Addr}{len cap:Nat}(hu:P.underlying T=some (.slice E))(h:Value.okWide P W .any b0 T (.slice (some a) len cap)):
  a.spot=none∧∃cs R fz,W.heap[a.block]? = some (.cells cs R fz)∧a.off≤cs.size:=by
 simp only[Value.okWide,Cell.okWide,Cell.ok,hu]at h
 obtain⟨_,_,_,h2,row,cells,h3,h4⟩:=h
 refine⟨h2,?_⟩
 unfold World.shape? at h3
 split at h3
 ·rename_i c elem fz hb
  simp only[Option.some.injEq,Prod.mk.injEq]at h3
  obtain⟨rfl,rfl⟩:=h3
  have h5:=yiP h4
  have h6:=Nat.div_mul_le_self c.size (P.cellsOf elem)
  exact⟨c,_,fz,hb,by omega⟩
 ·cases h3
theorem ok_slice(hu:P.underlying T=some (.slice E))(h:Value.okWide P W .any b0 T v):v = .slice none 0 0∨∃a len cap,v = .slice (some a) len cap:=by
 simp only[Value.okWide,Cell.okWide,Cell.ok,hu]at h
 cases v with
 |slice a len cap=>
  cases a with
  |none=>
   left
   cases len with
   |zero=>cases cap with
    |zero=>rfl
    |succ n=>simp at h
   |succ n=>simp at h
  |some a=>exact .inr ⟨a,len,cap,rfl⟩
 |_=>simp at h
theorem yqD{l r:List (DataW H)}:Rows.uptoBulkAll (l++r)=Rows.uptoBulkAll l+Rows.uptoBulkAll r:=by
 induction l with
 |nil=>simp[Rows.uptoBulkAll]
 |cons x l ih=>simp only[List.cons_append,Rows.uptoBulkAll,ih];omega
end
end
end Go.Proofs.YtmkomlbiaebddaaGreatDoor
namespace Go.Proofs.YtmkomlbiaebddaaGreatDoor.Am
open Go Go.RowKit Go.ChangeShapes Go.WideShapes Go.ChangeAt
def dsz:(t:Ty)→den t→Nat
 |.s,x=>List.length x+1
 |.pr a c,x=>dsz a x.1+dsz c x.2
 |.un,_=>0
 |.sl e,x=>(List.map (dsz e) x).sum+1
 |_,_=>1
def fOk(q:TypeId→Ty→Bool)(c:TypeId→Nat):List Field→Nat→Ty→Bool
 |[],_,t=>match t with
  |.un=>true
  |_=>false
 |[f],off,t=>(q f.type t&&(Nat.beq f.offset off&&Nat.beq (c f.type) (tsz t)))||(match t with
  |.pr a .un=>q f.type a&&(Nat.beq f.offset off&&Nat.beq (c f.type) (tsz a))
  |_=>false)
 |f::g::fs,off,t=>match t with
  |.pr a r=>(q f.type a&&(Nat.beq f.offset off&&Nat.beq (c f.type) (tsz a)))&&fOk q c (g::fs) (off+tsz a) r
  |_=>false
def tyOk(P:Program):Nat→TypeId→Ty→Bool
 |0,_,_=>false
 |n+1,T,t=>match P.underlying T,t with
  |some (.int k),.i k'=>(ikEq k k').isSome
  |some .bool,.b=>true
  |some .string,.s=>true
  |some (.slice E),.sl e=>tyOk P n E e&&(Nat.beq (P.cellsOf E) (tsz e)&&Nat.blt 0 (tsz e))
  |some (.struct fs),t=>(Nat.beq (P.cellsOf T) (tsz t) && !(one t))&&fOk (tyOk P n) P.cellsOf fs.toList 0 t
  |_,_=>false
section
variable {H:Type}{enc:TypeId×Value→H}{P:Program}{W:World}{sp:Nat→Bool}{S:Mem}
theorem toI_wf:∀{k:IntKind} {n:Int},(Lit.int k n).wf=true→toI k (ofI k n)=n:=fun {k n} h=>by
 rw[ytI]
 cases k<;>simp[Lit.wf,IntKind.min,IntKind.max,IntKind.signed,IntKind.bits]at h<;>simp[IntKind.wrap,IntKind.signed,IntKind.bits]<;>omega
theorem yhP{a c:Ty}{cs:LV}{x:den a}{y:den c}(hx:rep a S (cs.take (tsz a)) x)(hy:rep c S (cs.drop (tsz a)) y):rep (.pr a c) S cs (x,y):=
 ⟨_,_,(List.take_append_drop (tsz a) cs).symm,hx,hy⟩
theorem xcF:rep .un S ([]:LV) ():=rfl
theorem yhX{q:TypeId→Ty→Bool}{fuel:Nat}(hq:∀(T:TypeId) (t:Ty),q T t=true→∀cs d ps,DataW.trod enc P W 0 sp true fuel T cs=some (d,ps)→∃x:den t,rep t S cs x∧dsz t x≤Rows.uptoBulk d){cs:LV}:
  ∀(fs:List Field) (off:Nat) (t:Ty) (xs:List (DataW H×List MemPlace)),fOk q P.cellsOf fs off t=true→cs.length=off+tsz t →
   A2 (fun(f:Field) y=>DataW.trod enc P W 0 sp true fuel f.type ((cs.drop f.offset).take (P.cellsOf f.type))=some y) fs xs →
   ∃x:den t,rep t S (cs.drop off) x∧dsz t x≤Rows.uptoBulkAll (xs.map (·.1))
 |[],off,t,xs,h,hl,hA=>by
  cases t<;>simp only[fOk]at h<;>try (cases h;done)
  cases hA
  refine⟨(),?_,Nat.zero_le _⟩
  rw[List.drop_eq_nil_of_le (by rw[hl];exact Nat.le_refl _)]
  exact xcF
 |[f],off,t,xs,h,hl,hA=>by
  cases hA with
  | @cons _ y _ _ h1 h2=>
   cases h2
   simp only[fOk,Bool.or_eq_true]at h
   rcases h with h|h
   ·rw[Bool.and_eq_true,Bool.and_eq_true]at h
    obtain⟨h0,h2,h3⟩:=h
    have h2:=Nat.eq_of_beq_eq_true h2
    have h3:=Nat.eq_of_beq_eq_true h3
    obtain⟨x,hx,hd⟩:=hq _ _ h0 _ _ _ h1
    refine⟨x,?_,by simp only[List.map_cons,List.map_nil,Rows.uptoBulkAll];omega⟩
    rw[h2,h3,List.take_of_length_le (by rw[List.length_drop];omega)]at hx
    exact hx
   ·cases t with
    |pr a c=>
     cases c with
     |un=>
      rw[Bool.and_eq_true,Bool.and_eq_true]at h
      obtain⟨h0,h2,h3⟩:=h
      have h2:=Nat.eq_of_beq_eq_true h2
      have h3:=Nat.eq_of_beq_eq_true h3
      obtain⟨x,hx,hd⟩:=hq _ _ h0 _ _ _ h1
      rw[h2,h3]at hx
      have hl:cs.length=off+tsz a:=hl
      refine⟨(x,()),yhP hx ?_,by simp only[List.map_cons,List.map_nil,Rows.uptoBulkAll];show dsz a x+0≤_;omega⟩
      rw[List.drop_eq_nil_of_le (by rw[List.length_drop];omega)]
      exact xcF
     |_=>simp at h
    |_=>simp at h
 |f::g::fs,off,t,xs,h,hl,hA=>by
  cases t with
  |pr a r=>
   simp only[fOk]at h
   rw[Bool.and_eq_true,Bool.and_eq_true,Bool.and_eq_true]at h
   obtain⟨⟨h1,h2,h3⟩,h4⟩:=h
   have h2:=Nat.eq_of_beq_eq_true h2
   have h3:=Nat.eq_of_beq_eq_true h3
   have hl:cs.length=off+(tsz a+tsz r):=hl
   cases hA with
   | @cons _ y _ ys g1 g2=>
    obtain⟨x,hx,hd⟩:=hq _ _ h1 _ _ _ g1
    obtain⟨z,hz,he⟩:=yhX hq (g::fs) (off+tsz a) r ys h4 (by omega) g2
    rw[h2,h3]at hx
    refine⟨(x,z),yhP hx (by rw[List.drop_drop];exact hz),?_⟩
    simp only[List.map_cons,Rows.uptoBulkAll]
    show dsz a x+dsz r z≤_
    omega
  |_=>simp[fOk]at h
theorem xcP{α β:Type}{R:α→β→Prop}:∀{l:List α} {m:List β},l.length=m.length→(∀(i:Nat) (a:α) (b:β),l[i]? = some a→m[i]? = some b→R a b)→A2 R l m
 |[],[],_,_=>.nil
 |[],_::_,h,_=>by cases h
 |_::_,[],h,_=>by cases h
 |a::l,b::m,h,hR=>.cons (hR 0 a b rfl rfl) (xcP (by simpa using h) fun i a b ha hb=>hR (i+1) a b (by simpa using ha) (by simpa using hb))
theorem ywA{e:Ty}:∀{xs:List (den e)} {cs ds:LV} {x:den e},@RL (den e) (rpD e) S cs xs→rep e S ds x→@RL (den e) (rpD e) S (cs++ds) (xs++[x])
 |[],cs,ds,x,h,hx=>by
  have h:cs=[]:=h
  subst h
  exact⟨ds,[],by simp,hx,rfl⟩
 |y::xs,cs,ds,x,h,hx=>by
  obtain⟨c,d,rfl,h1,h2⟩:=h
  exact⟨c,d++ds,by simp,h1,ywA h2 hx⟩
theorem sl_of{T E:TypeId}{e:Ty}{fuel:Nat}(hu:P.underlying T=some (.slice E))(hc:P.cellsOf E=tsz e)(hz:0<tsz e)(hq:∀(m:Nat) (cs:LV) (d:DataW H) (ps:List MemPlace),DataW.trod enc P W 0 (fun _=>true) true m E cs=some (d,ps)→∃x:den e,rep e (zoL W) cs x∧dsz e x≤Rows.uptoBulk d){cs:LV}{d:DataW H}{ps:List MemPlace}(hd:DataW.trod enc P W 0 (fun _=>true) true fuel T cs=some (d,ps)):
  ∃xs:List (den e),rep (.sl e) (zoL W) cs xs∧dsz (.sl e) xs≤Rows.uptoBulk d:=by
 rcases DataW.trod_slice hu hd with⟨rfl,h2⟩|⟨a,len,cap,elems,rest,m,rfl,rfl,h2,_,hlc,_,hel,hget,hrest,_⟩
 ·cases h2
  exact⟨[],⟨_,rfl,[],.inl ⟨⟨none,rfl⟩,rfl,rfl⟩,rfl⟩,Nat.le_refl _⟩
 ·cases h2
  by_cases hcap:cap=0
  ·subst hcap
   obtain rfl:len=0:=by omega
   refine⟨[],⟨_,rfl,[],.inl ⟨⟨some a,rfl⟩,rfl,rfl⟩,rfl⟩,?_⟩
   show 0+1≤_
   simp only[Rows.uptoBulk]
   omega
  have h0:∃us,W.cells? 0 a (P.cellsOf E)=some us:=by
   by_cases hl0:len=0
   ·subst hl0
    obtain⟨g1,g2⟩:=hrest rfl
    have g3:=g2 0 (by omega)
    rw[List.getElem?_eq_getElem (by omega:0<rest.length)]at g3
    obtain⟨us,hus,_⟩:=Option.bind_eq_some_iff.1 g3
    rw[show a.add ((0+0)*P.cellsOf E)=a by simp[Addr.add]]at hus
    exact⟨us,hus⟩
   ·have g3:=hget 0 (by omega)
    rw[List.getElem?_eq_getElem (by omega:0<elems.length)]at g3
    obtain⟨us,hus,_⟩:=Option.bind_eq_some_iff.1 g3
    rw[show a.add (0*P.cellsOf E)=a by simp[Addr.add]]at hus
    exact⟨us,hus⟩
  obtain⟨us,hus⟩:=h0
  obtain⟨_,hul,huc⟩:=World.cells?_some hus
  have hc0:=huc 0 (by omega)
  rw[show a.add 0=a by simp[Addr.add],List.getElem?_eq_getElem (by omega:0<us.length)]at hc0
  obtain⟨blk,off,spot⟩:=a
  obtain⟨cs,R,fz,hb,hsp,ho⟩:∃cs R fz,W.heap[blk]? = some (.cells cs R fz)∧spot=none∧off≤cs.size:=by
   unfold World.cell? at hc0
   dsimp only at hc0
   split at hc0
   ·rename_i c R fz hb
    cases spot with
    |some s=>simp at hc0
    |none=>
     rw[if_neg (by simp)]at hc0
     have:=(Array.getElem?_eq_some_iff.1 hc0).1
     exact⟨c,R,fz,hb,rfl,Nat.le_of_lt this⟩
   ·cases hc0
  subst hsp
  have ad:∀j,(⟨blk,off,none⟩:Addr).add j=⟨blk,off+j,none⟩:=fun j=>by simp[Addr.add]
  have each:∀i,i<len→∃y x,elems[i]? = some y∧rep e (zoL W) (piece cs.toList (off+i*tsz e) (tsz e)) x∧dsz e x≤Rows.uptoBulk y.1∧off+(i+1)*tsz e≤cs.toList.length:=fun i hi=>by
   have hg:=hget i hi
   obtain⟨y,hy⟩:∃y,elems[i]? = some y:=⟨_,List.getElem?_eq_getElem (by omega)⟩
   rw[hy]at hg
   obtain⟨us,hus,hg⟩:=Option.bind_eq_some_iff.1 hg
   obtain⟨_,hul,huc⟩:=World.cells?_some hus
   obtain⟨x,hx,hdx⟩:=hq m us y.1 y.2 hg
   rw[hc,ad]at huc
   rw[hc]at hul
   have hcell:∀j,j<tsz e→cs.toList[off+i*tsz e+j]? = us[j]?:=fun j hj=>by
    have:=huc j hj
    rw[show(⟨blk,off+i*tsz e,none⟩:Addr).add j=⟨blk,off+i*tsz e+j,none⟩ by simp[Addr.add]]at this
    simp only[World.cell?,hb,Option.isSome_none,if_neg (show ¬(false=true) by decide)]at this
    simpa using this
   have hlen:off+(i+1)*tsz e≤cs.toList.length:=by
    have h1:=hcell (tsz e-1) (by omega)
    rw[List.getElem?_eq_getElem (by omega:tsz e-1<us.length)]at h1
    have:=(List.getElem?_eq_some_iff.1 h1).1
    rw[Nat.add_mul];omega
   refine⟨y,x,hy,?_,hdx,hlen⟩
   have:piece cs.toList (off+i*tsz e) (tsz e)=us:=by
    apply List.ext_getElem?
    intro j
    rw[zaK,List.getElem?_take]
    by_cases hj:j<tsz e
    ·rw[if_pos hj,List.getElem?_drop];exact hcell j hj
    ·rw[if_neg hj,List.getElem?_eq_none (by omega)]
   rw[this];exact hx
  have key:∀k,k≤len→∃xs:List (den e),xs.length=k∧@RL (den e) (rpD e) (zoL W) (piece cs.toList off (k*tsz e)) xs∧(List.map (dsz e) xs).sum≤Rows.uptoBulkAll ((elems.take k).map (·.1)):=by
   intro k
   induction k with
   |zero=>intro _;exact⟨[],rfl,by simp[piece,RL],Nat.zero_le _⟩
   |succ k ih=>
    intro hk
    obtain⟨xs,h1,h2,h3⟩:=ih (by omega)
    obtain⟨y,x,g1,g2,g3,_⟩:=each k (by omega)
    refine⟨xs++[x],by simp[h1],?_,?_⟩
    ·have e2:piece cs.toList off ((k+1)*tsz e)=piece cs.toList off (k*tsz e)++piece cs.toList (off+k*tsz e) (tsz e):=by
      rw[zaK,zaK,zaK,Nat.add_mul,Nat.one_mul,List.take_add,List.drop_drop]
     rw[e2]
     exact ywA h2 g2
    ·rw[List.take_add_one,g1]
     simp only[Option.toList_some,List.map_append,List.map_cons,List.map_nil,List.sum_append,List.sum_cons,List.sum_nil,yqD,Rows.uptoBulkAll]
     omega
  obtain⟨xs,h1,h2,h3⟩:=key len (Nat.le_refl _)
  have hfit:off+len*tsz e≤cs.toList.length:=by
   rcases Nat.eq_zero_or_pos len with h0|h0
   ·subst h0;rw[Array.length_toList];omega
   ·obtain⟨_,_,_,_,_,h4⟩:=each (len-1) (by omega)
    rwa[Nat.sub_add_cancel h0]at h4
  refine⟨xs,⟨_,rfl,piece cs.toList off (len*tsz e),?_,h2⟩,?_⟩
  ·right
   refine⟨blk,off,cap,cs.toList,R,fz,?_,by rw[h1];exact hlc,by simpa[zoL]using hb,?_,?_⟩
   ·rw[h1]
   ·rw[h1];show _+_*(rpD e).sz≤_;rw[zjY];exact hfit
   ·rw[h1];show piece _ _ (_*(rpD e).sz)=_;rw[zjY]
  ·rw[List.take_of_length_le (by omega)]at h3
   show(List.map (dsz e) xs).sum+1≤_
   simp only[Rows.uptoBulk]
   omega
theorem yfG:∀(n:Nat) (T:TypeId) (t:Ty),tyOk P n T t=true→∀(fuel:Nat) (cs:LV) (d:DataW H) (ps:List MemPlace),DataW.trod enc P W 0 (fun _=>true) true fuel T cs=some (d,ps)→∃x:den t,rep t (zoL W) cs x∧dsz t x≤Rows.uptoBulk d
 |0,_,_,h,_,_,_,_,_=>by cases h
 |n+1,T,t,h,fuel,cs,d,ps,hd=>by
  unfold tyOk at h
  split at h
  ·rename_i k k' hu
   obtain⟨hk,_⟩:=Option.isSome_iff_exists.1 h
   obtain rfl:=hk.down
   obtain⟨m,rfl,he,hw⟩:=DataW.trod_int hu hd
   cases he
   exact⟨ofI _ m,(by show [Value.int _ m]=[.int _ (toI _ (ofI _ m))];rw[toI_wf hw]),Nat.le_refl 1⟩
  ·rename_i hu
   obtain⟨b,rfl,he⟩:=DataW.trod_bool hu hd
   cases he
   exact⟨b,rfl,Nat.le_refl 1⟩
  ·rename_i hu
   obtain⟨s,rfl,he,_⟩:=DataW.trod_string hu hd
   cases he
   exact⟨s.data.toList,(by show [Value.string s]=[str s.data.toList];simp[str]),Nat.le_refl _⟩
  ·rename_i E e hu
   rw[Bool.and_eq_true,Bool.and_eq_true]at h
   obtain⟨h1,h2,h3⟩:=h
   exact sl_of hu (Nat.eq_of_beq_eq_true h2) (by rw[zjE]at h3;simpa using h3) (fun m cs d ps hd=>yfG n E e h1 m cs d ps hd) hd
  ·rename_i fs hu
   rw[Bool.and_eq_true,Bool.and_eq_true]at h
   obtain⟨⟨h1,_⟩,h2⟩:=h
   have h1:=Nat.eq_of_beq_eq_true h1
   obtain⟨xs,fuel,rfl,he,hl,hxl,hm⟩:=DataW.trod_struct hu hd
   cases he
   obtain⟨x,hx,hb⟩:=yhX (S:=zoL W) (fuel:=fuel) (fun T' t' hq cs d ps=>yfG n T' t' hq fuel cs d ps) fs.toList 0 _ xs h2 (by rw[hl,h1];omega) (xcP (by simp[hxl]) fun i f y hf hy=>(hm i f (by simpa using hf)).trans hy)
   exact⟨x,by simpa using hx,by simp only[Rows.uptoBulk];omega⟩
  ·cases h
variable {b0:Nat}{T E:TypeId}{v:Value}
theorem yzJ{n:Nat}{e:Ty}(hu:P.underlying T=some (.slice E))(he:tyOk P n E e=true)(hc:P.cellsOf E=tsz e)(hz:0<tsz e)(h:Value.okWide P W .any b0 T v){d:DataW H}{ps:List MemPlace}(hd:DataW.Trod enc P W 0 (fun _=>true) true T v d ps):
  ∃xs:List (den e),@RdS (den e) (rpD e) (zoL W) v xs∧dsz (.sl e) xs≤Rows.uptoBulk d:=by
 obtain⟨fuel,hf⟩:=hd
 have hv:=ok_slice hu h
 have hcells:v.cells.toList=[v]:=by
  rcases hv with rfl|⟨a,len,cap,rfl⟩<;>rfl
 rw[hcells]at hf
 rcases DataW.trod_slice hu hf with⟨h1,h2⟩|⟨a,len,cap,elems,rest,m,rfl,h1,h2,_,hlc,_,hel,hget,_,_⟩
 ·simp only[List.cons.injEq,and_true]at h1
  subst h1
  cases h2
  exact⟨[],⟨[],.inl ⟨⟨none,rfl⟩,rfl,rfl⟩,rfl⟩,Nat.le_refl _⟩
 ·simp only[List.cons.injEq,and_true]at h1
  subst h1
  cases h2
  obtain⟨hsp,cs,R,fz,hb,ho⟩:=xbH hu h
  obtain⟨blk,off,spot⟩:=a
  dsimp only at hsp hb ho
  subst hsp
  have ad:∀j,(⟨blk,off,none⟩:Addr).add j=⟨blk,off+j,none⟩:=fun j=>by simp[Addr.add]
  have each:∀i,i<len→∃y x,elems[i]? = some y∧rep e (zoL W) (piece cs.toList (off+i*tsz e) (tsz e)) x∧dsz e x≤Rows.uptoBulk y.1∧off+(i+1)*tsz e≤cs.toList.length:=fun i hi=>by
   have hg:=hget i hi
   obtain⟨y,hy⟩:∃y,elems[i]? = some y:=⟨_,List.getElem?_eq_getElem (by omega)⟩
   rw[hy]at hg
   obtain⟨us,hus,hg⟩:=Option.bind_eq_some_iff.1 hg
   obtain⟨_,hul,huc⟩:=World.cells?_some hus
   obtain⟨x,hx,hdx⟩:=yfG n E e he m us y.1 y.2 hg
   rw[hc,ad]at huc
   rw[hc]at hul
   have hcell:∀j,j<tsz e→cs.toList[off+i*tsz e+j]? = us[j]?:=fun j hj=>by
    have:=huc j hj
    rw[show(⟨blk,off+i*tsz e,none⟩:Addr).add j=⟨blk,off+i*tsz e+j,none⟩ by simp[Addr.add]]at this
    simp only[World.cell?,hb,Option.isSome_none,if_neg (show ¬(false=true) by decide)]at this
    simpa using this
   have hlen:off+(i+1)*tsz e≤cs.toList.length:=by
    have h1:=hcell (tsz e-1) (by omega)
    rw[List.getElem?_eq_getElem (by omega:tsz e-1<us.length)]at h1
    have:=(List.getElem?_eq_some_iff.1 h1).1
    rw[Nat.add_mul];omega
   refine⟨y,x,hy,?_,hdx,hlen⟩
   have:piece cs.toList (off+i*tsz e) (tsz e)=us:=by
    apply List.ext_getElem?
    intro j
    rw[zaK,List.getElem?_take]
    by_cases hj:j<tsz e
    ·rw[if_pos hj,List.getElem?_drop];exact hcell j hj
    ·rw[if_neg hj,List.getElem?_eq_none (by omega)]
   rw[this];exact hx
  have key:∀k,k≤len→∃xs:List (den e),xs.length=k∧@RL (den e) (rpD e) (zoL W) (piece cs.toList off (k*tsz e)) xs∧(List.map (dsz e) xs).sum≤Rows.uptoBulkAll ((elems.take k).map (·.1)):=by
   intro k
   induction k with
   |zero=>intro _;exact⟨[],rfl,by simp[piece,RL],Nat.zero_le _⟩
   |succ k ih=>
    intro hk
    obtain⟨xs,h1,h2,h3⟩:=ih (by omega)
    obtain⟨y,x,g1,g2,g3,_⟩:=each k (by omega)
    refine⟨xs++[x],by simp[h1],?_,?_⟩
    ·have e2:piece cs.toList off ((k+1)*tsz e)=piece cs.toList off (k*tsz e)++piece cs.toList (off+k*tsz e) (tsz e):=by
      rw[zaK,zaK,zaK,Nat.add_mul,Nat.one_mul,List.take_add,List.drop_drop]
     rw[e2]
     exact ywA h2 g2
    ·rw[List.take_add_one,g1]
     simp only[Option.toList_some,List.map_append,List.map_cons,List.map_nil,List.sum_append,List.sum_cons,List.sum_nil,yqD,Rows.uptoBulkAll]
     omega
  obtain⟨xs,h1,h2,h3⟩:=key len (Nat.le_refl _)
  have hfit:off+len*tsz e≤cs.toList.length:=by
   rcases Nat.eq_zero_or_pos len with h0|h0
   ·subst h0;rw[Array.length_toList];omega
   ·obtain⟨_,_,_,_,_,h4⟩:=each (len-1) (by omega)
    rwa[Nat.sub_add_cancel h0]at h4
  refine⟨xs,⟨piece cs.toList off (len*tsz e),?_,h2⟩,?_⟩
  ·right
   refine⟨blk,off,cap,cs.toList,R,fz,?_,by rw[h1];exact hlc,by simpa[zoL]using hb,?_,?_⟩
   ·rw[h1]
   ·rw[h1];show _+_*(rpD e).sz≤_;rw[zjY];exact hfit
   ·rw[h1];show piece _ _ (_*(rpD e).sz)=_;rw[zjY]
  ·rw[List.take_of_length_le (by omega)]at h3
   show(List.map (dsz e) xs).sum+1≤_
   simp only[Rows.uptoBulk]
   omega
def argOk(P:Program)(T:TypeId)(t:Ty):Bool:=match P.underlying T,t with
 |some (.slice E),.sl e=>tyOk P 8 E e&&(Nat.beq (P.cellsOf E) (tsz e)&&Nat.blt 0 (tsz e))
 |_,t=>tyOk P 8 T t
theorem argD_ok{t:Ty}(ha:argOk P T t=true)(h:Value.okWide P W .any b0 T v){d:DataW H}{ps:List MemPlace}(hd:DataW.Trod enc P W 0 (fun _=>true) true T v d ps):
  ∃x:den t,rep1 t (zoL W) v x∧dsz t x≤Rows.uptoBulk d:=by
 unfold argOk at ha
 split at ha
 ·rename_i E e hu
  rw[Bool.and_eq_true,Bool.and_eq_true]at ha
  obtain⟨h1,h2,h3⟩:=ha
  obtain⟨xs,g1,g2⟩:=yzJ hu h1 (Nat.eq_of_beq_eq_true h2) (by rw[zjE]at h3;simpa using h3) h hd
  exact⟨xs,⟨v,rfl,g1⟩,g2⟩
 ·obtain⟨fuel,hf⟩:=hd
  obtain⟨x,hx,hb⟩:=yfG 8 T _ ha fuel _ _ _ hf
  refine⟨x,?_,hb⟩
  unfold rep1
  unfold tyOk at ha
  split at ha
  ·rename_i hu
   have hv:v.cells.toList=[v]:=by
    simp only[Value.okWide,Cell.okWide,Cell.ok]at h
    cases v<;>simp_all<;>rfl
   rw[hv]at hx
   rw[if_pos (show one (.i _)=true from rfl)];exact hx
  ·rename_i hu
   have hv:v.cells.toList=[v]:=by
    simp only[Value.okWide,Cell.okWide,Cell.ok]at h
    cases v<;>simp_all<;>rfl
   rw[hv]at hx
   rw[if_pos (show one .b=true from rfl)];exact hx
  ·rename_i hu
   have hv:v.cells.toList=[v]:=by
    simp only[Value.okWide,Cell.okWide,Cell.ok]at h
    cases v<;>simp_all<;>rfl
   rw[hv]at hx
   rw[if_pos (show one .s=true from rfl)];exact hx
  ·rename_i hu hno
   exact(hno _ _ hu rfl).elim
  ·rename_i fs hu _
   rw[Bool.and_eq_true,Bool.and_eq_true]at ha
   simp only[Value.okWide,hu]at h
   obtain⟨cs,rfl,_,_⟩:=h
   rw[if_neg (by simpa using ha.1.2)]
   exact⟨cs.toList,by simp,hx⟩
  ·cases ha
def posT:Ty→Bool
 |.un=>false
 |.pr a c=>posT a||posT c
 |_=>true
theorem ymU:∀{e:Ty},posT e=true→∀x:den e,1≤dsz e x
 |.i _,_,_=>Nat.le_refl 1
 |.b,_,_=>Nat.le_refl 1
 |.s,_,_=>Nat.le_add_left 1 _
 |.er,_,_=>Nat.le_refl 1
 |.sl _,_,_=>Nat.le_add_left 1 _
 |.mp _ _,_,_=>Nat.le_refl 1
 |.pr a c,h,x=>by
  show 1≤dsz a x.1+dsz c x.2
  have h:(posT a||posT c)=true:=h
  rw[Bool.or_eq_true]at h
  rcases h with h|h
  ·have:=ymU h x.1;omega
  ·have:=ymU h x.2;omega
theorem yvY{e:Ty}(he:posT e=true):∀xs:List (den e),xs.length+1≤dsz (.sl e) xs
 |[]=>Nat.le_refl 1
 |x::xs=>by
  have h1:=ymU he x
  have h2:xs.length+1≤(List.map (dsz e) xs).sum+1:=yvY he xs
  show(x::xs).length+1≤(List.map (dsz e) (x::xs)).sum+1
  simp only[List.length_cons,List.map_cons,List.sum_cons]
  omega
theorem rep1_vr{t:Ty}{S:Mem}{E:List EI}{v:Value}{x:den t}(h:rep1 t S v x):VR S E (svOf t x) v:=ywT (l:=[t]) h
end
end Go.Proofs.YtmkomlbiaebddaaGreatDoor.Am
namespace Go.Proofs.YtmkomlbiaebddaaGreatDoor.Am
open Go Go.RowKit
abbrev KeyT:Type:=Bs×Bs×Bs×Int
abbrev CrT:Type:=Bs×Bs×Bs×Bs×Int×Int×Int×List KeyT
theorem yrP(n a b:Int):zgM zaD n a b=some (decide (a≤n)&&decide (n≤b)):=by
 unfold zgM
 by_cases h:n≥a
 ·rw[zaY h];simp[show a≤n from h]
 ·rw[zaZ h];simp[show ¬a≤n from h]
theorem ztV:∀(a b:List Bs),ziT (a++b)=ziT a++ziT b
 |[],_=>rfl
 |t::a,b=>by
  show Lib.decDigits t.length++58::(t++ziT (a++b))=(Lib.decDigits t.length++58::(t++ziT a))++ziT b
  rw[ztV a b];simp
theorem form_ok(ts:List Bs)(hl:(ziT ts).length<4294967281)(hn:ts.length<1099511627776):ziH ts=some (ziT ts):=by
 have key:∀(k:Nat),(ziT (ts.take k)).length≤(ziT ts).length:=fun k=>by
  have:=ztV (ts.take k) (ts.drop k)
  rw[List.take_append_drop]at this
  rw[this,List.length_append];omega
 have h:iter (zgK ts) ((((0:Nat):Int)),ziT (ts.take 0))=some (ziT ts):=by
  refine zaM (fun k=>((k:Int),ziT (ts.take k))) ts.length hn (ziT ts) (fun k hk=>?_) ?_
  ·have ht:ts.take (k+1)=ts.take k++[ts[k]]:=by rw[List.take_succ_eq_append_getElem hk]
   have e:ziT (ts.take (k+1))=ziT (ts.take k)++(Lib.decDigits ts[k].length++58::ts[k]):=by
    rw[ht,ztV];simp[ziT]
   have h1:=key (k+1)
   rw[e]at h1
   simp only[List.length_append,List.length_cons]at h1
   unfold zgK
   simp only[]
   rw[zaY (by omega),zbO rfl hk,zaA,zxG _ (by omega),zaA,zbA (by simp only[List.length_cons,List.length_nil];omega),zaA,zbA (by simp only[List.length_append,List.length_cons,List.length_nil];omega),zaA]
   unfold zeT
   rw[show zjJ (ziT (ts.take k))=some _ from rfl,zaA,zbA (by simp only[List.length_append,List.length_cons,List.length_nil];omega),zaA,zaA,zaS (by omega) (by omega),e]
   simp
  ·unfold zgK
   simp only[]
   rw[zaZ (by omega),List.take_length]
 unfold ziH
 have h:iter (zgK ts) ((0:Int),([]:Bs))=some (ziT ts):=h
 rw[h,zaA,zaA,zeO (decide_eq_true (by omega)),zaA]
section
variable {γ:Type}
def zuY(es:List (Bs×γ)):Prop:=es.Pairwise fun x y=>x.1<y.1
theorem zpM{a b:Bs}:keqS a b=true↔a=b:=by unfold keqS;exact beq_iff_eq
theorem ydK{a b:Bs}(h:a≠b):keqS a b=false:=by
 cases hb:keqS a b with
 |false=>rfl
 |true=>exact absurd (zpM.1 hb) h
theorem ztC{a b:Bs}:kltS a b=true↔a<b:=by unfold kltS;rw[bytesLess_eq,decide_eq_true_eq]
theorem zxB:∀{es:List (Bs×γ)},zuY es→∀{k v},(k,v)∈es→mget keqS es k=some v
 |(k',v')::m,h,k,v,hm=>by
  unfold mget
  rcases List.mem_cons.1 hm with e|hm
  ·cases e
   rw[zpM.2 rfl];rfl
  ·have hlt:=(List.pairwise_cons.1 h).1 _ hm
   have:k'≠k:=fun e=>by subst e;exact absurd hlt (List.lt_irrefl _)
   rw[ydK this]
   exact zxB (List.pairwise_cons.1 h).2 hm
theorem ztJ:∀{es:List (Bs×γ)} {k v},mget keqS es k=some v→(k,v)∈es
 |(k',v')::m,k,v,h=>by
  unfold mget at h
  cases hk:keqS k' k with
  |true=>
   rw[hk]at h
   cases h
   rw[zpM.1 hk];exact List.mem_cons_self
  |false=>rw[hk]at h;exact List.mem_cons_of_mem _ (ztJ h)
theorem zkK:∀{es:List (Bs×γ)} {k},mhas keqS es k=true↔∃v,(k,v)∈es
 |[],k=>by simp[mhas]
 |(k',v')::m,k=>by
  unfold mhas
  rw[Bool.or_eq_true,zpM,zkK (es:=m)]
  constructor
  ·rintro(rfl|⟨v,hv⟩)
   ·exact⟨v',List.mem_cons_self⟩
   ·exact⟨v,List.mem_cons_of_mem _ hv⟩
  ·rintro⟨v,hv⟩
   rcases List.mem_cons.1 hv with e|hv
   ·cases e;exact .inl rfl
   ·exact .inr ⟨v,hv⟩
theorem ybT:∀(es:List (Bs×γ)) (k:Bs) (v:γ),(mrep keqS es k v).map (·.1)=es.map (·.1)
 |[],_,_=>rfl
 |(k',v')::m,k,v=>by
  unfold mrep
  cases hk:keqS k' k with
  |true=>rw[zpM.1 hk];rfl
  |false=>simp only[cond_false,List.map_cons,ybT m k v]
theorem ysA{es fs:List (Bs×γ)}(h:es.map (·.1)=fs.map (·.1))(hf:zuY fs):zuY es:=by
 have:(fs.map (·.1)).Pairwise (· < ·):=List.pairwise_map.2 hf
 rw[←h]at this
 exact List.pairwise_map.1 this
theorem ypB:∀{es:List (Bs×γ)} {k:Bs} {v:γ} {p},p∈mrep keqS es k v→p=(k,v)∨p∈es
 |(k',v')::m,k,v,p,h=>by
  unfold mrep at h
  cases hk:keqS k' k with
  |true=>
   rw[hk]at h
   rcases List.mem_cons.1 h with rfl|h
   ·exact .inl rfl
   ·exact .inr (List.mem_cons_of_mem _ h)
  |false=>
   rw[hk]at h
   rcases List.mem_cons.1 h with rfl|h
   ·exact .inr List.mem_cons_self
   ·exact(ypB h).imp id (List.mem_cons_of_mem _)
theorem yfB:∀{es:List (Bs×γ)} {k:Bs} {v:γ} {p},p∈mins kltS es k v→p=(k,v)∨p∈es
 |[],k,v,p,h=>.inl (List.mem_singleton.1 h)
 |(k',v')::m,k,v,p,h=>by
  unfold mins at h
  cases hk:kltS k' k with
  |true=>
   rw[hk]at h
   rcases List.mem_cons.1 h with rfl|h
   ·exact .inr List.mem_cons_self
   ·exact(yfB h).imp id (List.mem_cons_of_mem _)
  |false=>
   rw[hk]at h
   rcases List.mem_cons.1 h with rfl|h
   ·exact .inl rfl
   ·exact .inr h
theorem ynT{a b:Bs}(h:¬a<b)(hn:a≠b):b<a:=
 Classical.byContradiction fun h2=>hn (List.le_antisymm (List.not_lt.1 h2) (List.not_lt.1 h))
theorem ydX:∀{es:List (Bs×γ)} {k:Bs} {v:γ},zuY es→(∀v',(k,v')∉es)→zuY (mins kltS es k v)
 |[],_,_,_,_=>List.pairwise_singleton _ _
 |(k',v')::m,k,v,h,hn=>by
  have hc:=List.pairwise_cons.1 h
  have hne:k'≠k:=fun e=>hn v' (by rw[e];exact List.mem_cons_self)
  unfold mins
  cases hk:kltS k' k with
  |true=>
   simp only[cond_true]
   refine List.pairwise_cons.2 ⟨fun p hp=>?_,ydX hc.2 fun v2 h2=>hn v2 (List.mem_cons_of_mem _ h2)⟩
   rcases yfB hp with rfl|hp
   ·exact ztC.1 hk
   ·exact hc.1 p hp
  |false=>
   simp only[cond_false]
   have hlt:k<k':=ynT (fun h2=>by rw[ztC.2 h2]at hk;cases hk) hne
   refine List.pairwise_cons.2 ⟨fun p hp=>?_,h⟩
   rcases List.mem_cons.1 hp with rfl|hp
   ·exact hlt
   ·exact List.lt_trans hlt (hc.1 p hp)
theorem yrF{es:List (Bs×γ)}{k:Bs}{v:γ}(h:zuY es):zuY (mset keqS kltS es k v):=by
 unfold mset
 cases hk:mhas keqS es k with
 |true=>exact ysA (ybT es k v) h
 |false=>
  refine ydX h fun v' hv=>?_
  rw[zkK.2 ⟨v',hv⟩]at hk;cases hk
theorem xbA{es:List (Bs×γ)}{k:Bs}{v:γ}{p}(h:p∈mset keqS kltS es k v):p=(k,v)∨p∈es:=by
 unfold mset at h
 cases hk:mhas keqS es k with
 |true=>rw[hk]at h;exact ypB h
 |false=>rw[hk]at h;exact yfB h
theorem yoR:∀(es:List (Bs×γ)) (k:Bs) (v:γ),(mins kltS es k v).length=es.length+1
 |[],_,_=>rfl
 |(k',v')::m,k,v=>by
  unfold mins
  cases kltS k' k with
  |true=>simp only[cond_true,List.length_cons,yoR m k v]
  |false=>rfl
theorem yzW{es:List (Bs×γ)}{k:Bs}{v:γ}:(mset keqS kltS es k v).length=if mhas keqS es k=true then es.length else es.length+1:=by
 unfold mset
 cases hk:mhas keqS es k with
 |true=>
  simp only[cond_true,if_true]
  have:=congrArg List.length (ybT es k v)
  simpa using this
 |false=>rw[if_neg (by simp)];exact yoR es k v
theorem yfN:∀(es:List (Bs×γ)) (k:Bs),(mdel keqS es k).Sublist es
 |[],_=>.slnil
 |(k',v')::m,k=>by
  unfold mdel
  cases keqS k' k with
  |true=>exact List.sublist_cons_self _ _
  |false=>exact(yfN m k).cons_cons _
theorem yqV{es:List (Bs×γ)}{k:Bs}(h:zuY es):zuY (mdel keqS es k):=h.sublist (yfN es k)
end
theorem ysQ{a b:Prop}[Decidable a][Decidable b](ha:a)(hb:b):(decide a&&decide b)=true:=by simp[ha,hb]
structure VCr (u:Bs) (c:CrT):Prop where
 name:zdB zaD u=some true
 nlen:u.length≤1048576
 user:c.1=u
 salt:c.2.1.length=16
 hash:c.2.2.1.length=32
 otp:c.2.2.2.1=[]∨(16≤c.2.2.2.1.length∧c.2.2.2.1.length≤64)
 step:0≤c.2.2.2.2.1∧c.2.2.2.2.1≤2199023255552
 fails:0≤c.2.2.2.2.2.1∧c.2.2.2.2.2.1≤4
 till:0≤c.2.2.2.2.2.2.1∧c.2.2.2.2.2.2.1≤2199023255552
 keys:c.2.2.2.2.2.2.2.length≤4
 may:∀k∈c.2.2.2.2.2.2.2,(1≤k.1.length∧k.1.length≤86)∧k.2.1.length=32∧k.2.2.1.length=32∧0≤k.2.2.2∧k.2.2.2≤4294967295
 ids:c.2.2.2.2.2.2.2.Pairwise fun x y=>x.1≠y.1
structure VEs (es:List (Bs×CrT)):Prop where
 rises:zuY es
 len:es.length≤64
 each:∀p∈es,VCr p.1 p.2
def zuS(k:KeyT):List Bs:=[k.1,k.2.1,k.2.2.1,Lib.decDigits k.2.2.2.toNat]
def zyS(c:CrT):List Bs:=[c.2.1,c.2.2.1,c.2.2.2.1,Lib.decDigits c.2.2.2.2.1.toNat,Lib.decDigits c.2.2.2.2.2.1.toNat,Lib.decDigits c.2.2.2.2.2.2.1.toNat,Lib.decDigits c.2.2.2.2.2.2.2.length]
def zsX(c:CrT):List Bs:=zyS c++c.2.2.2.2.2.2.2.flatMap zuS
abbrev yaN:Bs:=[108,111,103,105,110,47]
def rowC(c:CrT):Bs×Bs:=(yaN++c.1,ziT (zsX c))
theorem ykY{γ:Type}:∀{es:List (Bs×γ)},zuY es→zyT (es.map (·.1))=true
 |[],_=>rfl
 |[_],_=>rfl
 |x::y::l,h=>by
  have hc:=List.pairwise_cons.1 h
  show(Op.bytesLess x.1 y.1&&zyT ((y::l).map (·.1)))=true
  rw[ykY hc.2,Bool.and_true,bytesLess_eq,decide_eq_true_eq]
  exact hc.1 y List.mem_cons_self
theorem ysV{es:List (Bs×CrT)}(h:VEs es):yaD es=some (es.map (·.1),es):=by
 unfold yaD yaJ
 rw[ykY h.rises,decide_eq_true (show es.length≤1048576 by have:=h.len;omega),List.all_eq_true.2 fun p hp=>decide_eq_true (by have:=(h.each p hp).nlen;omega)]
 rfl
theorem ztX{α:Type}(xs:List α)(h:xs.length≤68719476736):app ([]:List α) xs=some xs:=by
 rw[zbA (by simpa using h)];rfl
theorem xcS{es:List (Bs×CrT)}(h:VEs es):zdV zaD es=some (es,es.map (·.2)):=by
 have hl:=h.len
 unfold zdV
 rw[zeO (ysQ (by omega) (by unfold LIM;omega)),zaA,show mkL (0:Int) (([]:Bs),([]:Bs),([]:Bs),([]:Bs),(0:Int),(0:Int),(0:Int),([]:List KeyT))=some []from rfl,zaA]
 unfold zvE
 rw[zaA,ysV h,zaA]
 have hi:iter (fun x=>zeZ zaD (es.map (·.1),es) x.1 x.2.1 x.2.2) (((0:Nat):Int),es,(es.take 0).map (·.2))=some (es,es.map (·.2)):=by
  refine zaM (fun k=>((k:Int),es,(es.take k).map (·.2))) es.length (by omega) _ (fun k hk=>?_) ?_
  ·have hv:=h.each es[k] (List.getElem_mem hk)
   have hg:mget keqS es es[k].1=some es[k].2:=zxB h.rises (List.getElem_mem hk)
   unfold zeZ
   simp only[]
   rw[zaY (by rw[List.length_map];omega),zbO rfl (by rw[List.length_map];exact hk),zaA,List.getElem_map]
   unfold zeU
   rw[hg]
   simp only[]
   unfold zlK
   rw[ztX _ (by have:=hv.keys;omega),zaA,zaA,zbA (by rw[List.length_map,List.length_take];simp;omega),zaA,zaS (by omega) (by omega),List.take_succ_eq_append_getElem hk,List.map_append]
   rfl
  ·unfold zeZ
   simp only[]
   rw[zaZ (by rw[List.length_map];omega),List.take_length]
 rw[List.take_zero,List.map_nil]at hi
 have hi:iter (fun x=>zeZ zaD (es.map (·.1),es) x.1 x.2.1 x.2.2) ((0:Int),es,([]:List CrT))=some (es,es.map (·.2)):=hi
 rw[show(es.map (·.1),es).2=es from rfl,hi,zaA]
theorem yiE{M:Nat}(hM:M<1000000000000000):∀{ts:List Bs},(∀t∈ts,t.length≤M)→(ziT ts).length≤ts.length*(M+16)
 |[],_=>Nat.zero_le _
 |t::ts,h=>by
  have h1:=h t List.mem_cons_self
  have h2:=yiE hM (ts:=ts) fun t ht=>h t (List.mem_cons_of_mem _ ht)
  have h3:=zvX 15 t.length (by decide) (by omega)
  simp only[ziT,List.length_append,List.length_cons]
  rw[Nat.add_mul];omega
theorem zzS:∀(ks:List KeyT),(ks.flatMap zuS).length=4*ks.length
 |[]=>rfl
 |k::ks=>by rw[List.flatMap_cons,List.length_append,zzS ks];simp[zuS];omega
theorem zxP(c:CrT):(zsX c).length=7+4*c.2.2.2.2.2.2.2.length:=by
 unfold zsX;rw[List.length_append,zzS];rfl
theorem xaY{n:Int}(h:0≤n∧n≤2199023255552):(Lib.decDigits n.toNat).length≤86:=by
 have:=zvX 15 n.toNat (by decide) (by omega);omega
theorem ynJ{u:Bs}{c:CrT}(h:VCr u c):∀t∈zsX c,t.length≤86:=fun t ht=>by
 unfold zsX at ht
 rcases List.mem_append.1 ht with ht|ht
 ·simp only[zyS,List.mem_cons,List.not_mem_nil,or_false]at ht
  have hk:=zvX 15 c.2.2.2.2.2.2.2.length (by decide) (by have:=h.keys;omega)
  rcases ht with rfl|rfl|rfl|rfl|rfl|rfl|rfl
  ·have:=h.salt;omega
  ·have:=h.hash;omega
  ·rcases h.otp with h|h
   ·rw[h];simp
   ·omega
  ·exact xaY h.step
  ·exact xaY ⟨h.fails.1,by have:=h.fails.2;omega⟩
  ·exact xaY h.till
  ·omega
 ·obtain⟨k,hk,ht⟩:=List.mem_flatMap.1 ht
  have hm:=h.may k hk
  simp only[zuS,List.mem_cons,List.not_mem_nil,or_false]at ht
  rcases ht with rfl|rfl|rfl|rfl
  ·omega
  ·omega
  ·omega
  ·exact xaY ⟨hm.2.2.2.1,by omega⟩
theorem ybL{u:Bs}{c:CrT}(h:VCr u c):(ziT (zsX c)).length≤2346:=by
 have h1:=yiE (M:=86) (by decide) (ynJ h)
 have h2:=zxP c
 have h3:=h.keys
 have:(zsX c).length*(86+16)≤23*(86+16):=Nat.mul_le_mul_right _ (by omega)
 omega
theorem yoN{n:Int}(h:0≤n∧n≤2199023255552):zaD.itoa n=some (Lib.decDigits n.toNat):=by
 have h2:=zxG n.toNat (by omega)
 rw[show((n.toNat:Nat):Int)=n by omega]at h2
 exact h2
theorem rows_ok{es:List (Bs×CrT)}(h:VEs es):zeQ zaD es=some ((es.map (·.2)).map rowC,es):=by
 have hl:=h.len
 unfold zeQ
 rw[xcS h,zaA]
 have hi:iter (fun x=>zeD zaD (es,es.map (·.2)) x.1 x.2.1 x.2.2.1 x.2.2.2) (((0:Nat):Int),es,((es.map (·.2)).take 0).map rowC,es.map (·.2))=some (es,(es.map (·.2)).map rowC):=by
  refine zaM (fun k=>((k:Int),es,((es.map (·.2)).take k).map rowC,es.map (·.2))) es.length (by omega) _ (fun k hk=>?_) ?_
  ·have hv:=h.each es[k] (List.getElem_mem hk)
   have hkm:k<(es.map (·.2)).length:=by rw[List.length_map];exact hk
   have hc:(es.map (·.2))[k]=es[k].2:=List.getElem_map _
   have ht:((es.map (·.2)).take (k+1)).map rowC=((es.map (·.2)).take k).map rowC++[rowC es[k].2]:=by
    rw[List.take_succ_eq_append_getElem hkm,List.map_append,hc];rfl
   have hrl:(((es.map (·.2)).take k).map rowC).length≤64:=by rw[List.length_map,List.length_take,List.length_map];omega
   generalize es[k].1=u at hv
   generalize es[k].2=c at hv hc ht
   generalize ((es.map (·.2)).take k).map rowC=rs at ht hrl
   unfold zeD
   simp only[]
   rw[zaY (by omega),zeO (ysQ (by omega) (by omega)),zaA,zbO rfl hkm,zaA,hc,yoN hv.step,zaA,yoN ⟨hv.fails.1,by have:=hv.fails.2;omega⟩,zaA,yoN hv.till,zaA,show zaD.itoa (c.2.2.2.2.2.2.2.length:Int)=some (Lib.decDigits c.2.2.2.2.2.2.2.length)from zxG _ (by have:=hv.keys;omega),zaA]
   have hin:iter (fun x=>zdL zaD c x.1 x.2.1 x.2.2.1 x.2.2.2.1 x.2.2.2.2.1 x.2.2.2.2.2.1 x.2.2.2.2.2.2.1 x.2.2.2.2.2.2.2.1 x.2.2.2.2.2.2.2.2.1 x.2.2.2.2.2.2.2.2.2.1 x.2.2.2.2.2.2.2.2.2.2.1 x.2.2.2.2.2.2.2.2.2.2.2.1 x.2.2.2.2.2.2.2.2.2.2.2.2) (((0:Nat):Int),es,rs,c.1,c.2.1,c.2.2.1,c.2.2.2.1,c.2.2.2.2.1,c.2.2.2.2.2.1,c.2.2.2.2.2.2.1,c.2.2.2.2.2.2.2,zyS c++(c.2.2.2.2.2.2.2.take 0).flatMap zuS,es.map (·.2))=some (es,rs,c.1,c.2.1,c.2.2.1,c.2.2.2.1,c.2.2.2.2.1,c.2.2.2.2.2.1,c.2.2.2.2.2.2.1,c.2.2.2.2.2.2.2,zsX c,es.map (·.2)):=by
    refine zaM (fun j=>((j:Int),es,rs,c.1,c.2.1,c.2.2.1,c.2.2.2.1,c.2.2.2.2.1,c.2.2.2.2.2.1,c.2.2.2.2.2.2.1,c.2.2.2.2.2.2.2,zyS c++(c.2.2.2.2.2.2.2.take j).flatMap zuS,es.map (·.2))) c.2.2.2.2.2.2.2.length (by have:=hv.keys;omega) _ (fun j hj=>?_) ?_
    ·have hm:=hv.may _ (List.getElem_mem hj)
     have hk4:=hv.keys
     unfold zdL
     simp only[]
     rw[zaY (by omega),zbO rfl hj,zaA,yoN ⟨hm.2.2.2.1,by omega⟩,zaA,zbA (by rw[List.length_append,zzS,List.length_take];simp[zyS];omega),zaA,zaS (by omega) (by omega),List.take_succ_eq_append_getElem hj,List.flatMap_append,List.append_assoc]
     simp[zuS]
    ·unfold zdL
     simp only[]
     rw[zaZ (by omega),List.take_length];rfl
   rw[List.take_zero,List.flatMap_nil,List.append_nil]at hin
   have hin:iter (fun x=>zdL zaD c x.1 x.2.1 x.2.2.1 x.2.2.2.1 x.2.2.2.2.1 x.2.2.2.2.2.1 x.2.2.2.2.2.2.1 x.2.2.2.2.2.2.2.1 x.2.2.2.2.2.2.2.2.1 x.2.2.2.2.2.2.2.2.2.1 x.2.2.2.2.2.2.2.2.2.2.1 x.2.2.2.2.2.2.2.2.2.2.2.1 x.2.2.2.2.2.2.2.2.2.2.2.2) ((0:Int),es,rs,c.1,c.2.1,c.2.2.1,c.2.2.2.1,c.2.2.2.2.1,c.2.2.2.2.2.1,c.2.2.2.2.2.2.1,c.2.2.2.2.2.2.2,([c.2.1,c.2.2.1,c.2.2.2.1,Lib.decDigits c.2.2.2.2.1.toNat,Lib.decDigits c.2.2.2.2.2.1.toNat,Lib.decDigits c.2.2.2.2.2.2.1.toNat,Lib.decDigits c.2.2.2.2.2.2.2.length]:List Bs),es.map (·.2))=_:=hin
   rw[hin,zaA]
   simp only[]
   have hf:=ybL hv
   rw[zbA (by have:=hv.nlen;rw[hv.user];simp only[List.length_cons,List.length_nil];omega),zaA,show zaD.form (zsX c)=some (ziT (zsX c))from form_ok _ (by omega) (by rw[zxP];have:=hv.keys;omega),zaA,zbA (by simp only[List.length_cons,List.length_nil];omega),zaA,zaS (by omega) (by omega),ht]
   rfl
  ·unfold zeD
   simp only[]
   rw[zaZ (by rw[List.length_map];omega),show es.length=(es.map (·.2)).length by rw[List.length_map],List.take_length]
 rw[List.take_zero,List.map_nil]at hi
 have hi:iter (fun x=>zeD zaD (es,es.map (·.2)) x.1 x.2.1 x.2.2.1 x.2.2.2) ((0:Int),es,([]:List (Bs×Bs)),es.map (·.2))=some (es,(es.map (·.2)).map rowC):=hi
 rw[hi,zaA]
theorem xaP(id:Bs):∀(l:List KeyT),l.length≤4→(∀k∈l,k.1≠id)→zdU zaD l id=some (-1):=fun l hl h=>by
 have hi:iter (fun x=>zbL zaD l x.1 x.2) (((0:Nat):Int),id)=some (Sum.inr id):=by
  refine zaM (fun k=>((k:Int),id)) l.length (by omega) (Sum.inr id) (fun k hk=>?_) ?_
  ·have hk1:=h _ (List.getElem_mem hk)
   unfold zbL
   simp only[]
   rw[zaY (by omega),zbO rfl hk,zaA]
   unfold zmF
   rw[zaA]
   simp only[]
   rw[show(l[k].1==id)=false from beq_eq_false_iff_ne.2 hk1,zaS (by omega) (by omega)]
   rfl
  ·unfold zbL
   simp only[]
   rw[zaZ (by omega)]
 have hi:iter (fun x=>zbL zaD l x.1 x.2) ((0:Int),id)=some (Sum.inr id):=hi
 unfold zdU zhF
 rw[hi,zaA]
 simp only[]
 rw[zaA]
theorem key_lt{a b:Bs}(h:a<b):Op.bytesLess (yaN++b) (yaN++a)=false∧(yaN++b==yaN++a)=false:=by
 have hlt:yaN++a<yaN++b:=by
  show([108,111,103,105,110,47]++a:Bs)<[108,111,103,105,110,47]++b
  simp only[List.cons_append,List.nil_append,List.cons_lt_cons_iff,h,and_true,or_true]
 refine⟨?_,beq_eq_false_iff_ne.2 fun e=>by rw[e]at hlt;exact List.lt_irrefl _ hlt⟩
 rw[bytesLess_eq,decide_eq_false_iff_not]
 exact fun h2=>List.lt_irrefl _ (List.lt_trans h2 hlt)
section
def xorP(u b:Bs):Nat→Bs
 |0=>b
 |k+1=>(xorP u b k).set k ((xorP u b k).getD k 0^^^u.getD k 0)
theorem zzU(u b:Bs):∀k,(xorP u b k).length=b.length
 |0=>rfl
 |k+1=>by rw[xorP,List.length_set,zzU u b k]
def rndP(p u:Bs):Nat→Bs×Bs
 |0=>(u,u)
 |k+1=>(macF p (rndP p u k).1,xorP (macF p (rndP p u k).1) (rndP p u k).2 32)
theorem yaC(p:Bs){u:Bs}(h:u.length=32):∀k,(rndP p u k).1.length=32∧(rndP p u k).2.length=32
 |0=>⟨h,h⟩
 |k+1=>⟨zpO _ _,by rw[rndP,zzU,(yaC p h k).2]⟩
def stF(p s:Bs):Bs:=(rndP p (macF p (s++[0,0,0,1])) 3).2
theorem zpU(p s:Bs):(stF p s).length=32:=(yaC p (zpO _ _) 3).2
attribute [local irreducible] macF
theorem ygB{p s:Bs}(hp:p.length≤68719470000)(hs:s.length≤68719460000):macP p s=some (macF p s):=by
 unfold macP;rw[decide_eq_true hp,decide_eq_true hs];rfl
theorem ycJ{p s:Bs}(hp:p.length≤68719470000)(hs:s.length≤68719460000):zyO p s zmM.l=some (macF p s):=by
 unfold zyO;rw[zaY rfl,ygB hp hs]
theorem zzR{l:Bs}{k:Nat}(h:k<l.length):l[k]=l.getD k 0:=by simp[List.getD,h]
theorem and_t{a b:Prop}[Decidable a][Decidable b](ha:a)(hb:b):(decide a&&decide b)=true:=by simp[ha,hb]
theorem b22_ok(L u b o:Bs)(hL:L.length=32)(hu:u.length=32)(hb:b.length=32):iter (fun x=>zjC L u x.1 x.2.1 x.2.2) ((0:Int),o,b)=some (o,xorP u b 32):=by
 refine zaM (fun k=>((k:Int),o,xorP u b k)) 32 (by omega) _ (fun k hk=>?_) ?_
 ·unfold zjC
  simp only[]
  have hl:=zzU u b k
  rw[zaY (by omega),zeO (and_t (by omega) (by omega)),zaA,zbO rfl (by omega),zaA,zbO rfl (by omega),zaA,zaA,zwW (by omega),zaA,zzR,zzR,zaS (by omega) (by omega)]
  rfl
 ·unfold zjC
  simp only[]
  rw[zaZ (by omega)]
theorem b2_ok(u b o:Bs)(hu:u.length=32)(hb:b.length=32):iter (fun x=>znL u x.1 x.2.1 x.2.2) ((0:Int),o,b)=some (o,xorP u b 32):=by
 refine zaM (fun k=>((k:Int),o,xorP u b k)) 32 (by omega) _ (fun k hk=>?_) ?_
 ·unfold znL
  simp only[]
  have hl:=zzU u b k
  rw[zaY (by omega),zeO (and_t (by omega) (by omega)),zaA,zbO rfl (by omega),zaA,zbO rfl (by omega),zaA,zaA,zwW (by omega),zaA,zzR,zzR,zaS (by omega) (by omega)]
  rfl
 ·unfold znL
  simp only[]
  rw[zaZ (by omega)]
theorem yiL(p u:Bs)(k:Nat):rndP p u (k+1)=(macF p (rndP p u k).1,xorP (macF p (rndP p u k).1) (rndP p u k).2 32):=rfl
attribute [local irreducible] xorP
theorem b32_ok(p u o:Bs)(hp:p.length≤68719470000)(hu:u.length=32):iter (fun x=>zjB p 4 x.1 x.2.1 x.2.2.1 x.2.2.2) (u,(0:Int),o,u)=some (o,(rndP p u 3).2):=by
 refine zaM (fun k=>((rndP p u k).1,(k:Int),o,(rndP p u k).2)) 3 (by omega) _ (fun k hk=>?_) ?_
 ·unfold zjB
  simp only[]
  have hl:=yaC p hu k
  rw[zaY (by rw[zaS (by omega) (by omega)];omega),ygB hp (by omega),zaA,b22_ok _ _ _ _ hl.2 (zpO _ _) hl.2,zaA,zaS (by omega) (by omega)]
  simp only[yiL]
  rfl
 ·unfold zjB
  simp only[]
  rw[zaZ (by rw[zaS (by omega) (by omega)];omega)]
theorem b3_ok(p u o:Bs)(hp:p.length≤68719470000)(hu:u.length=32):iter (fun x=>znJ p 4 zmM.l x.1 x.2.1 x.2.2.1 x.2.2.2) (u,(1:Int),o,u)=some (o,(rndP p u 3).2):=by
 refine zaM (fun k=>((rndP p u k).1,((k:Int)+1),o,(rndP p u k).2)) 3 (by omega) _ (fun k hk=>?_) ?_
 ·unfold znJ
  simp only[]
  have hl:=yaC p hu k
  rw[zaY (by omega),ycJ hp (by omega),zaA,b2_ok _ _ _ (zpO _ _) hl.2,zaA,zaS (by omega) (by omega)]
  simp only[yiL]
  rfl
 ·unfold znJ
  simp only[]
  rw[zaZ (by omega)]
theorem ynS(s:Bs)(hs:s.length≤68719400000):zuF (i64 (((1:UInt32)).toNat:Int)) 4 s=some (s++[0,0,0,1]):=by
 have h:iter (fun x=>zfC (i64 (((1:UInt32)).toNat:Int)) x.1 x.2) ((3:Int)-((0:Nat):Int),s++([0,0,0,1]:Bs).take 0)=some (s++[0,0,0,1]):=by
  refine zaM (fun k=>((3:Int)-(k:Int),s++([0,0,0,1]:Bs).take k)) 4 (by omega) _ (fun k hk=>?_) ?_
  ·unfold zfC
   simp only[]
   have hl:(s++([0,0,0,1]:Bs).take k).length≤68719400004:=by rw[List.length_append,List.length_take];simp;omega
   rw[zaY (by omega),zeO (decide_eq_true (by rw[zaS (by omega) (by omega)];omega)),zaA,zbA (by simp only[List.length_cons,List.length_nil];omega),zaA,zaS (by omega) (by omega),List.append_assoc,show(3:Int)-(k:Int)-1=3-((k+1:Nat):Int) by omega]
   rcases(by omega:k=0∨k=1∨k=2∨k=3)with rfl|rfl|rfl|rfl<;>rfl
  ·unfold zfC
   simp only[]
   rw[zaZ (by omega)];rfl
 rw[List.take_zero,List.append_nil]at h
 unfold zuF
 rw[show w64 ((4:Int)-(1:Int))=3-((0:Nat):Int)from rfl,h,zaA]
theorem b4_ok(p s:Bs)(hp:p.length≤68719470000)(hs:s.length≤68719400000):iter (fun x=>zjW p s 4 32 x.1 x.2) ((1:UInt32),([]:Bs))=some (stF p s):=by
 refine zaM (fun k=>bif decide (k=0)then((1:UInt32),([]:Bs))else((2:UInt32),stF p s)) 1 (by omega) _ (fun k hk=>?_) ?_
 ·cases (by omega:k=0)
  simp only[decide_true,cond_true]
  unfold zjW
  rw[zaY (by decide),ynS s hs,zaA,ygB hp (by simp;omega),zaA,b32_ok _ _ _ hp (zpO _ _),zaA,zbA (by have:=zpU p s;unfold stF at this;rw[this];show 0+32≤68719476736;decide),zaA]
  rfl
 ·simp only[show decide ((1:Nat)=0)=false from rfl,cond_false]
  unfold zjW
  rw[zaZ (by rw[zpU];decide)]
theorem b4R_ok(p s:Bs)(hp:p.length≤68719470000)(hs:s.length≤68719400000):iter (fun x=>znN p s 4 32 zmM.l x.1 x.2) ((1:Int),([]:Bs))=some (stF p s):=by
 refine zaM (fun k=>bif decide (k=0)then((1:Int),([]:Bs))else((2:Int),stF p s)) 1 (by omega) _ (fun k hk=>?_) ?_
 ·cases (by omega:k=0)
  simp only[decide_true,cond_true]
  unfold znN
  rw[zaY (by decide),show ziV (i32 1)=some [0,0,0,1]from rfl,zaA,zbA (by simp only[List.length_cons,List.length_nil];omega),zaA,ycJ hp (by simp;omega),zaA,b3_ok _ _ _ hp (zpO _ _),zaA,zbA (by have:=zpU p s;unfold stF at this;rw[this];show 0+32≤68719476736;decide),zaA]
  rfl
 ·simp only[show decide ((1:Nat)=0)=false from rfl,cond_false]
  unfold znN
  rw[zaZ (by rw[zpU];decide)]
theorem yvK(p s:Bs):subH (stF p s) 32=some (stF p s):=by
 rw[show(32:Int)=((32:Nat):Int)from rfl,ybD (Nat.le_of_eq (zpU p s).symm),List.take_of_length_le (Nat.le_of_eq (zpU p s))]
theorem yrT(p s:Bs)(hp:p.length≤68719470000)(hs:s.length≤68719400000):zfD p s 4 32=some (stF p s,0):=by
 unfold zfD
 rw[show ztA 4 32=some (.inr ())from rfl,zaA]
 simp only[]
 rw[b4_ok p s hp hs,zaA,yvK,zaA,show Int.toNat 32=32 from rfl,List.take_of_length_le (Nat.le_of_eq (zpU p s))]
theorem ylF(p s:Bs)(hp:p.length≤68719470000)(hs:s.length≤68719400000):zpC p s 4 32=some (stF p s,0):=by
 unfold zpC
 rw[show zwH 4=some (.inr ())from rfl,zaA]
 simp only[]
 rw[show zwY 32=some (.inr ())from rfl,zaA]
 simp only[yiH]
 rw[zaA,b4R_ok p s hp hs,zaA,yvK,zaA,show Int.toNat 32=32 from rfl,List.take_of_length_le (Nat.le_of_eq (zpU p s))]
end
end Go.Proofs.YtmkomlbiaebddaaGreatDoor.Am
