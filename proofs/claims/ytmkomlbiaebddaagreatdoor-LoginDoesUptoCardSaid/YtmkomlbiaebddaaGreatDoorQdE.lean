/- Package hash: what its sums and macs are: plain laws. Package hash: are two texts the same: plain laws. strings.Builder: what its methods do to a builder of the call's own. DERIVED: THE SHELF's CONTRACTS AT THIS DUMP, IN PLAIN WORDS (tools/lay-plain.mjs out of 'TryzShelf.lean', which tools/lay-shelf.mjs wrote): THE SAME DECLARATIONS UNDER THE SAME NAMES: 'import', 'namespace', 'open', 'def', 'theorem' AND NOTHING ELSE: no command of the shelf's: FOR A HAND-IN. Each laying: the table of numbers ('.._ren') and one theorem, a field a fact of the dump's own or the kernel's comparison; each contract: ONE APPLICATION. A region that draws its order, walked in the order of the text, where zdE of the head read what the tail leaves alone. A region that draws its order, its operations told in another order. A region that draws its order, told by a schedule: what changes memory goes in one order, what only looks at memory runs at any time, and so does what lays a new block. Conditions: as each theorem says. -/
import Derived.Test.YtmkomlbiaebddaaGreatDoorRows
import Derived.Lib.Builder
import Derived.Lib.UnsafeStr
import Derived.LaidEql
import Derived.Laws.Externs
import Derived.Shelf.Strings.Builder1
import Derived.Shelf.Strings.Trim
import Derived.Shelf.Small.Utf8
import Derived.Shelf.Small.Bits
import Derived.Shelf.Small.Strs
import Derived.Shelf.Small.Wraps
import Derived.Shelf.Strings.BuilderF
import Derived.Shelf.Strings.BuilderK
import Derived.Shelf.Strconv.Atoi
import Derived.Shelf.Strconv.Itoa0
import Derived.Shelf.Strconv.Itoa1
import Derived.Shelf.LaysM
import Derived.Shelf.Strconv.Itoa2
import Derived.Shelf.Strconv.Itoa3
import Derived.Shelf.Strconv.AtoiErrFast
import Derived.Shelf.Strconv.ParseIntEmpty
import Derived.Shelf.Strconv.AtoiFail
import Derived.Shelf.Strconv.Clone
import Derived.Shelf.Strconv.SyntaxError
import Derived.Shelf.LaysC
import Derived.Shelf.Strconv.ToError
import Derived.Shelf.Strconv.Lower
import Derived.Shelf.Strconv.ParseUint10
import Derived.Shelf.Strconv.ParseUint10Empty
import Derived.Shelf.Strconv.ParseUint10Any
import Derived.Shelf.Strconv.ParseInt10
import Derived.Shelf.Strconv.AtoiLong
import Derived.Shelf.Strconv.AtoiInnerAll
import Derived.Shelf.Strconv.RangeError
import Derived.Shelf.Strconv.ToErrorRange
import Derived.Shelf.Strconv.AtoiAll
import Derived.Shelf.Strings.Search1
import Derived.Shelf.Strings.Search2
import Derived.Shelf.Strings.Cut
import Derived.Shelf.Strings.Shaped
import Derived.Shelf.Strings.Prefix
import Derived.Shelf.Unicode.Decode
import Derived.Shelf.Strings.Runes
import Derived.Shelf.Strings.AsciiSet
import Derived.Shelf.Bits.Mul64
import Derived.Shelf.Unicode.DecodeSlow
import Derived.Shelf.Unicode.DecodeAny
import Derived.Shelf.Unicode.DecodeLast
import Derived.Ground.SlgmProg
import Derived.Shelf.SortM.Plain
import Derived.Shelf.SortM.SortNone
import Derived.Test.YtmkomlbiaebddaaGreatDoorProg
import Derived.Test.YtmkomlbiaebddaaGreatDoorQdD
namespace Go.Proofs.YtmkomlbiaebddaaGreatDoor
open Go Go.RowKit
section
variable {α:Type}{n:Nat}
def vset(x:Vec α n)(i:Nat)(u:α):Vec α n:=⟨x.l.set i u,by simp[x.h]⟩
def gv(x:Vec UInt32 64)(i:Nat):UInt32:=x.l.getD i 0
theorem ywD{x:Vec α n}{i:Nat}{j:Int}{u:α}(hj:j=(i:Int))(h:i<n):setV x j u=some (vset x i u):=by
 subst hj
 unfold setV
 rw[show(decide (0≤(i:Int))&&decide ((i:Int)<(n:Int)))=true by simp;exact h]
 exact congrArg some (Vec.eq (by rw[vset];simp))
theorem ziP{x:Vec UInt32 64}{i:Nat}{j:Int}(hj:j=(i:Int))(h:i<64):idx x.l j=some (gv x i):=by
 have h':i<x.l.length:=by rw[x.h];exact h
 rw[zbO hj h',gv,List.getD_eq_getElem?_getD,List.getElem?_eq_getElem h'];rfl
theorem w64n{n:Nat}(h:n<9223372036854775808):w64 (n:Int)=(n:Int):=zaS (by omega) (by omega)
theorem w64s(n:Nat)(h:n<9223372036854775807):w64 ((n:Int)+1)=((n+1:Nat):Int):=zaS (by omega) (by omega)
def rr(x:UInt32)(n:Nat):UInt32:=i32 (shlI .u32 (x.toNat:Int) ((32-n:Nat):Int))|||i32 (shrI .u32 (x.toNat:Int) (n:Int))
theorem zuV(x:UInt32)(n:Nat){m:Int}(h1:((((i64 (w64 (0-m)))&&&(31:UInt64))).toNat:Int)=((32-n:Nat):Int))(h2:(((i64 ((32:Int)-((32-n:Nat):Int)))).toNat:Int)=(n:Int)):zaO x m=some (rr x n):=by
 unfold zaO zfN
 simp only[zaA]
 rw[h1,h2];rfl
def valF(l:Bs):UInt64:=l.foldl (fun s b=>(i64 (shlI .u64 (s.toNat:Int) 8))|||(i64 (b.toNat:Int))) 0
theorem yzP{l:Bs}(h:l.length<1000000):zpG l=some (valF l):=by
 have key:iter (znM l) ((0:UInt64),0)=some (valF l):=by
  refine zaM (fun k=>(valF (l.take k),(k:Int))) l.length (by omega) _ (fun k hk=>?_) ?_
  ·unfold znM
   rw[zaY (by omega),zbO rfl hk]
   simp only[zaA]
   rw[w64s k (by omega),yaM hk]
   simp only[valF,List.foldl_append,List.foldl_cons,List.foldl_nil]
  ·unfold znM
   rw[zaZ (by omega),List.take_length]
 unfold zpG
 rw[key];rfl
end
abbrev St8:Type:=Qs
def W1(blk:Bs):Nat→Vec UInt32 64
 |0=>vrep 64 0
 |k+1=>vset (W1 blk k) k (i32 (((valF ((blk.take (4*k+4)).drop (4*k))).toNat:Int)))
def extW(a b c d:UInt32):UInt32:=i32 ((((i32 ((((i32 (((c).toNat:Int)+((((rr a 7^^^rr a 18)^^^(i32 (shrI .u32 ((a).toNat:Int) 3)))).toNat:Int)))).toNat:Int)+((d).toNat:Int)))).toNat:Int)+((((rr b 17^^^rr b 19)^^^(i32 (shrI .u32 ((b).toNat:Int) 10)))).toNat:Int))
def W2(w:Vec UInt32 64):Nat→Vec UInt32 64
 |0=>w
 |k+1=>vset (W2 w k) (16+k) (extW (gv (W2 w k) (k+1)) (gv (W2 w k) (k+14)) (gv (W2 w k) k) (gv (W2 w k) (k+9)))
def t1F(s:St8)(K w:UInt32):UInt32:=i32 ((((i32 ((((i32 ((((i32 (((s.2.2.2.2.2.2.2).toNat:Int)+((((rr s.2.2.2.2.1 6^^^rr s.2.2.2.2.1 11)^^^rr s.2.2.2.2.1 25)).toNat:Int)))).toNat:Int)+((((s.2.2.2.2.1&&&s.2.2.2.2.2.1)^^^(((4294967295:UInt32)^^^s.2.2.2.2.1)&&&s.2.2.2.2.2.2.1))).toNat:Int)))).toNat:Int)+((K).toNat:Int)))).toNat:Int)+((w).toNat:Int))
def t2F(s:St8):UInt32:=i32 (((((rr s.1 2^^^rr s.1 13)^^^rr s.1 22)).toNat:Int)+(((((s.1&&&s.2.1)^^^(s.1&&&s.2.2.1))^^^(s.2.1&&&s.2.2.1))).toNat:Int))
def rnd(K w:UInt32)(s:St8):St8:=(i32 (((t1F s K w).toNat:Int)+((t2F s).toNat:Int)),s.1,s.2.1,s.2.2.1,i32 (((s.2.2.2.1).toNat:Int)+((t1F s K w).toNat:Int)),s.2.2.2.2.1,s.2.2.2.2.2.1,s.2.2.2.2.2.2.1)
def R3(K w:Vec UInt32 64)(s:St8):Nat→St8
 |0=>s
 |k+1=>rnd (gv K k) (gv w k) (R3 K w s k)
def ad8(a b:UInt32):UInt32:=i32 (((a).toNat:Int)+((b).toNat:Int))
def add8(v s:St8):St8:=(ad8 v.1 s.1,ad8 v.2.1 s.2.1,ad8 v.2.2.1 s.2.2.1,ad8 v.2.2.2.1 s.2.2.2.1,ad8 v.2.2.2.2.1 s.2.2.2.2.1,ad8 v.2.2.2.2.2.1 s.2.2.2.2.2.1,ad8 v.2.2.2.2.2.2.1 s.2.2.2.2.2.2.1,ad8 v.2.2.2.2.2.2.2 s.2.2.2.2.2.2.2)
def nextF(s:St8)(blk:Bs)(K:Vec UInt32 64):St8:=add8 (R3 K (W2 (W1 blk 16) 48) s 64) s
theorem l0_ok{blk:Bs}(h:blk.length=64):iter (zhL blk) (0,vrep 64 (0:UInt32))=some (W1 blk 16):=by
 refine zaM (fun k=>((k:Int),W1 blk k)) 16 (by decide) _ (fun k hk=>?_) ?_
 ·unfold zhL
  have e1:w64 ((4:Int)*(k:Int))=((4*k:Nat):Int):=zaS (by omega) (by omega)
  have e2:w64 (((4*k:Nat):Int)+4)=((4*k+4:Nat):Int):=zaS (by omega) (by omega)
  rw[zaY (by omega)]
  simp only[e1,e2]
  rw[yyL (by omega) (by omega),zaA,yzP (by simp;omega),zaA,ziP rfl (by omega),zaA,ywD rfl (by omega),zaA,w64s k (by omega)]
  rfl
 ·unfold zhL
  rw[zaZ (by omega)]
theorem l1_ok(w:Vec UInt32 64):iter zhA (16,w)=some (W2 w 48):=by
 refine zaM (fun k=>(((16+k:Nat):Int),W2 w k)) 48 (by decide) _ (fun k hk=>?_) ?_
 ·unfold zhA
  have e:∀(a:Int) (b:Nat),a=(b:Int)→b<64→w64 a=(b:Int):=fun a b e h=>by rw[e];exact w64n (by omega)
  rw[zaY (by omega)]
  simp only[e (((16+k:Nat):Int)-15) (k+1) (by omega) (by omega),e (((16+k:Nat):Int)-2) (k+14) (by omega) (by omega),e (((16+k:Nat):Int)-16) k (by omega) (by omega),e (((16+k:Nat):Int)-7) (k+9) (by omega) (by omega)]
  simp only[ziP (x:=W2 w k) (i:=k+1) rfl (by omega),ziP (x:=W2 w k) (i:=k+14) rfl (by omega),ziP (x:=W2 w k) (i:=k) rfl (by omega),ziP (x:=W2 w k) (i:=k+9) rfl (by omega),ziP (x:=W2 w k) (i:=16+k) rfl (by omega),zaA,zuV _ 7 (m:=7) (by decide) (by decide),zuV _ 18 (m:=18) (by decide) (by decide),zuV _ 17 (m:=17) (by decide) (by decide),zuV _ 19 (m:=19) (by decide) (by decide),ywD (x:=W2 w k) (i:=16+k) rfl (by omega)]
  rw[w64s (16+k) (by omega)]
  rfl
 ·unfold zhA
  rw[zaZ (by omega)]
theorem l2_ok(K w:Vec UInt32 64)(s:St8):iter (zgZ K w) (0,s)=some (R3 K w s 64):=by
 refine zaM (fun k=>((k:Int),R3 K w s k)) 64 (by decide) _ (fun k hk=>?_) ?_
 ·unfold zgZ
  rw[zaY (by omega)]
  simp only[ziP (x:=K) (i:=k) rfl hk,ziP (x:=w) (i:=k) rfl hk,zaA,zuV _ 6 (m:=6) (by decide) (by decide),zuV _ 11 (m:=11) (by decide) (by decide),zuV _ 25 (m:=25) (by decide) (by decide),zuV _ 2 (m:=2) (by decide) (by decide),zuV _ 13 (m:=13) (by decide) (by decide),zuV _ 22 (m:=22) (by decide) (by decide)]
  rw[w64s k (by omega)]
  rfl
 ·unfold zgZ
  rw[zaZ (by omega)]
def pt8(v s:St8)(k:Nat):St8:=(if 0<k then ad8 v.1 s.1 else v.1,if 1<k then ad8 v.2.1 s.2.1 else v.2.1,if 2<k then ad8 v.2.2.1 s.2.2.1 else v.2.2.1,if 3<k then ad8 v.2.2.2.1 s.2.2.2.1 else v.2.2.2.1,if 4<k then ad8 v.2.2.2.2.1 s.2.2.2.2.1 else v.2.2.2.2.1,if 5<k then ad8 v.2.2.2.2.2.1 s.2.2.2.2.2.1 else v.2.2.2.2.2.1,if 6<k then ad8 v.2.2.2.2.2.2.1 s.2.2.2.2.2.2.1 else v.2.2.2.2.2.2.1,if 7<k then ad8 v.2.2.2.2.2.2.2 s.2.2.2.2.2.2.2 else v.2.2.2.2.2.2.2)
theorem l3_ok(s v:St8):iter (zpE s) (0,v)=some (add8 v s):=by
 refine zaM (fun k=>((k:Int),pt8 v s k)) 8 (by decide) _ (fun k hk=>?_) ?_
 ·rcases(by omega:k=0∨k=1∨k=2∨k=3∨k=4∨k=5∨k=6∨k=7)with rfl|rfl|rfl|rfl|rfl|rfl|rfl|rfl<;>rfl
 ·rfl
theorem next_ok(s:St8){blk:Bs}(K:Vec UInt32 64)(h:blk.length=64):ziE s blk K=some (nextF s blk K,K):=by
 unfold ziE
 rw[l0_ok h,zaA,zaA,l1_ok,zaA,zaA]
 rw[show(0,s.1,s.2.1,s.2.2.1,s.2.2.2.1,s.2.2.2.2.1,s.2.2.2.2.2.1,s.2.2.2.2.2.2.1,s.2.2.2.2.2.2.2)=((0:Int),s)from rfl,l2_ok,zaA,zaA]
 rw[show ∀t:St8,(0,t.1,t.2.1,t.2.2.1,t.2.2.2.1,t.2.2.2.2.1,t.2.2.2.2.2.1,t.2.2.2.2.2.2.1,t.2.2.2.2.2.2.2)=((0:Int),t)from fun _=>rfl,l3_ok,zaA,zaA]
 rfl
def byF(x:UInt64)(i:Nat):UInt8:=i8 (((i64 (shrI .u64 ((x).toNat:Int) ((8*i:Nat):Int)))).toNat:Int)
def beF(x:UInt64):Nat→Bs
 |0=>[]
 |i+1=>byF x i::beF x i
theorem zoK(x:UInt64):∀n,(beF x n).length=n
 |0=>rfl
 |n+1=>by rw[beF,List.length_cons,zoK x n]
theorem xbL(x:UInt64)(n:Nat):∀k,k<n→(beF x n).take (k+1)=(beF x n).take k++[byF x (n-1-k)]:=by
 have get:∀n k (h:k<(beF x n).length),(beF x n)[k]=byF x (n-1-k):=by
  intro n
  induction n with
  |zero=>intro k h;simp[beF]at h
  |succ n ih=>
   intro k h
   cases k with
   |zero=>simp[beF]
   |succ k=>
    simp only[beF,List.getElem_cons_succ]
    rw[ih k (by simpa[beF]using h)]
    congr 1;omega
 intro k hk
 have h:k<(beF x n).length:=by rw[zoK];exact hk
 rw[yaM h,get n k h]
theorem ynS{l:Bs}{x:UInt64}{n:Nat}(hn:n≤8)(h:l.length≤68719476000):zqG l x (n:Int)=some (l++beF x n):=by
 have e0:w64 ((n:Int)-1)=(n:Int)-1:=zaS (by omega) (by omega)
 have key:iter (zfC x) ((n:Int)-1,l)=some (l++beF x n):=by
  have:=zaM (body:=zfC x) (fun k=>((n:Int)-1-(k:Int),l++(beF x n).take k)) n (by omega) (l++beF x n) (fun k hk=>by
   unfold zfC
   have e1:(n:Int)-1-(k:Int)=((n-1-k:Nat):Int):=by omega
   rw[zaY (by omega)]
   simp only[e1]
   have e2:w64 ((8:Int)*((n-1-k:Nat):Int))=((8*(n-1-k):Nat):Int):=zaS (by omega) (by omega)
   have e3:w64 (((n-1-k:Nat):Int)-1)=(n:Int)-1-((k+1:Nat):Int):=by rw[zaS (by omega) (by omega)];omega
   rw[e2,zeO (decide_eq_true (by omega)),zaA,zbA (by simp[List.length_take,zoK];omega),zaA,e3,xbL x n k hk]
   simp only[List.append_assoc]
   rfl) (by
   unfold zfC
   rw[zaZ (by omega),List.take_of_length_le (by rw[zoK];exact Nat.le_refl _)])
  simpa using this
 unfold zqG
 rw[e0,key];rfl
def ybE(l:Bs):Bs:=(l++[128])++List.replicate ((119-l.length%64)%64) 0
def msgF(l:Bs):Bs:=ybE l++beF (i64 ((8:Int)*(((i64 ((l.length:Int)))).toNat:Int))) 8
theorem ykH(l:Bs):(ybE l).length%64=56:=by simp only[ybE,List.length_append,List.length_replicate,List.length_cons,List.length_nil];omega
theorem yhN(l:Bs):(ybE l).length≤l.length+64:=by simp only[ybE,List.length_append,List.length_replicate,List.length_cons,List.length_nil];omega
theorem yoQ(l:Bs):(msgF l).length%64=0:=by have:=ykH l;simp only[msgF,List.length_append,zoK];omega
theorem ytP(l:Bs):(msgF l).length≤l.length+72:=by have:=yhN l;simp only[msgF,List.length_append,zoK];omega
theorem xcL(n:Nat):Int.tmod (n:Int) 64=((n%64:Nat):Int):=(Int.ofNat_tmod n 64).symm
theorem xcO{l:Bs}(h:l.length≤68719470000):iter zoA (l++[128])=some (ybE l):=by
 have:=zaM (body:=zoA) (fun k=>(l++[128])++List.replicate k (0:UInt8)) ((119-l.length%64)%64) (by omega) (ybE l) (fun k hk=>by
  unfold zoA
  have hl:((l++[128])++List.replicate k (0:UInt8)).length=l.length+1+k:=by simp;omega
  rw[hl,yjS (by rw[xcL];simp only[bne_iff_ne,ne_eq];omega),zbA (by rw[hl,List.length_cons,List.length_nil];omega),zaA,List.append_assoc,←List.replicate_succ']) (by
  unfold zoA
  rw[show(l++[128])++List.replicate ((119-l.length%64)%64) (0:UInt8)=ybE l from rfl]
  have:=ykH l
  rw[ynQ (by rw[xcL,this];rfl)])
 simpa using this
def ini8:St8:=(1779033703,3144134277,1013904242,2773480762,1359893119,2600822924,528734635,1541459225)
def ziL(K:Vec UInt32 64)(b:Bs):Nat→St8
 |0=>ini8
 |k+1=>nextF (ziL K b k) ((b.drop (64*k)).take 64) K
def outF(s:St8):Bs:=beF (i64 (s.1.toNat:Int)) 4++(beF (i64 (s.2.1.toNat:Int)) 4++(beF (i64 (s.2.2.1.toNat:Int)) 4++(beF (i64 (s.2.2.2.1.toNat:Int)) 4++(beF (i64 (s.2.2.2.2.1.toNat:Int)) 4++(beF (i64 (s.2.2.2.2.2.1.toNat:Int)) 4++(beF (i64 (s.2.2.2.2.2.2.1.toNat:Int)) 4++beF (i64 (s.2.2.2.2.2.2.2.toNat:Int)) 4))))))
def at8(s:St8)(k:Nat):UInt32:=([s.1,s.2.1,s.2.2.1,s.2.2.2.1,s.2.2.2.2.1,s.2.2.2.2.2.1,s.2.2.2.2.2.2.1,s.2.2.2.2.2.2.2]:List UInt32).getD k 0
def outN(s:St8):Nat→Bs
 |0=>[]
 |k+1=>outN s k++beF (i64 ((at8 s k).toNat:Int)) 4
theorem yaA(s:St8):∀k,(outN s k).length=4*k
 |0=>rfl
 |k+1=>by rw[outN,List.length_append,yaA s k,zoK];omega
theorem ynL(s:St8):outN s 8=outF s:=by simp only[outN,outF,at8,List.nil_append,List.append_assoc];rfl
theorem yyX(s:St8):(outF s).length=32:=by rw[←ynL,yaA]
def zmM:Vec UInt32 64:=(zrD).getD (vrep 64 0)
theorem keys_ok:zrD=some zmM:=rfl
def shaF(l:Bs):Bs:=outF (ziL zmM (msgF l) ((msgF l).length/64))
theorem zzL(l:Bs):(shaF l).length=32:=yyX _
theorem xbM(K:Vec UInt32 64){b:Bs}(h:b.length%64=0)(hl:b.length≤68719476736):iter zrG (b,1779033703,3144134277,1013904242,2773480762,1359893119,2600822924,528734635,1541459225,K) =
  some ((ziL K b (b.length/64)).1,(ziL K b (b.length/64)).2.1,(ziL K b (b.length/64)).2.2.1,(ziL K b (b.length/64)).2.2.2.1,(ziL K b (b.length/64)).2.2.2.2.1,(ziL K b (b.length/64)).2.2.2.2.2.1,(ziL K b (b.length/64)).2.2.2.2.2.2.1,(ziL K b (b.length/64)).2.2.2.2.2.2.2,K):=by
 refine zaM (fun k=>(b.drop (64*k),(ziL K b k).1,(ziL K b k).2.1,(ziL K b k).2.2.1,(ziL K b k).2.2.2.1,(ziL K b k).2.2.2.2.1,(ziL K b k).2.2.2.2.2.1,(ziL K b k).2.2.2.2.2.2.1,(ziL K b k).2.2.2.2.2.2.2,K)) (b.length/64) (by omega) _ (fun k hk=>?_) ?_
 ·unfold zrG
  have hd:(b.drop (64*k)).length=b.length-64*k:=by simp
  rw[zaY (by simp only[hd];omega)]
  simp only[]
  rw[show(64:Int)=((64:Nat):Int)from rfl,ybD (by rw[hd];omega),zaA,next_ok _ _ (by simp only[List.length_take,hd];omega),zaA,zxQ (by rw[hd];omega),zaA,List.drop_drop]
  rfl
 ·unfold zrG
  rw[zaZ (by simp only[List.length_drop];omega)]
theorem xfS(s:St8)(K:Vec UInt32 64):iter (zrC (s.1,s.2.1,s.2.2.1,s.2.2.2.1,s.2.2.2.2.1,s.2.2.2.2.2.1,s.2.2.2.2.2.2.1,s.2.2.2.2.2.2.2,K)) (([]:Bs),0)=some (outF s):=by
 rw[←ynL]
 refine zaM (fun k=>(outN s k,(k:Int))) 8 (by decide) _ (fun k hk=>?_) ?_
 ·unfold zrC
  have e:idx ([s.1,s.2.1,s.2.2.1,s.2.2.2.1,s.2.2.2.2.1,s.2.2.2.2.2.1,s.2.2.2.2.2.2.1,s.2.2.2.2.2.2.2]:List UInt32) (k:Int)=some (at8 s k):=by
   rcases(by omega:k=0∨k=1∨k=2∨k=3∨k=4∨k=5∨k=6∨k=7)with rfl|rfl|rfl|rfl|rfl|rfl|rfl|rfl<;>rfl
  rw[zaY (by omega)]
  simp only[]
  rw[e,zaA,show(4:Int)=((4:Nat):Int)from rfl,ynS (by decide) (by rw[yaA];omega),zaA,w64s k (by omega)]
  rfl
 ·unfold zrC
  rw[zaZ (by omega)]
theorem ymN{l:Bs}(h:l.length≤68719470000):zlP l=some (shaF l):=by
 unfold zlP
 rw[zbA (by rw[List.length_cons,List.length_nil];omega),zaA,xcO h,zaA,zaA,show(8:Int)=((8:Nat):Int)from rfl,ynS (by decide) (by have:=yhN l;omega),zaA,keys_ok,zaA]
 rw[show ybE l++beF (i64 (((8:Nat):Int)*(((i64 ((l.length:Int)))).toNat:Int))) 8=msgF l from rfl,xbM zmM (yoQ l) (by have:=ytP l;omega),zaA,zaA,xfS]
 rfl
theorem mul1(c:UInt8):zoO (i64 ((([c]:Bs)).length:Int)) (i64 64)=some ((0:UInt64),(64:UInt64)):=by
 rw[show((([c]:Bs)).length:Int)=1 from rfl];decide +kernel
theorem xcB(c:UInt8){n:Nat}(h0:0<n)(h:n≤32){r:Bs}(hr:r.length=64-n):zhU ((0:UInt64),(64:UInt64)) 64 ((n:Int),List.replicate n c++r)=some (.inl (((2*n:Nat):Int),List.replicate (2*n) c++r.drop n)):=by
 unfold zhU
 have e64:w64 (((64:UInt64)).toNat:Int)=64:=by decide
 have hl:(List.replicate n c++r).length=64:=by simp[hr];omega
 simp only[e64]
 rw[zaY (by omega),zxQ (by omega),zaA,zaY (by omega),ybD (by omega),zaA]
 have h1:(List.replicate n c++r).drop n=r:=by rw[List.drop_left' (by simp)]
 have h2:(List.replicate n c++r).take n=List.replicate n c:=by rw[List.take_left' (by simp)]
 rw[h2,hl,show(((n:Int)).toNat)=n from rfl,List.length_replicate]
 have h4:min n (64-n)=n:=by omega
 rw[h4,zaS (by omega) (by omega)]
 have h5:putB (List.replicate n c++r) n (List.replicate n c)=List.replicate (2*n) c++r.drop n:=by
  unfold putB
  rw[h2,hl,List.length_replicate,h4,List.take_of_length_le (by simp;omega),List.drop_append,List.length_replicate,List.drop_eq_nil_of_le (by simp),List.nil_append,←List.append_assoc,List.replicate_append_replicate]
  congr 2<;>omega
 rw[h5]
 congr 4
 omega
theorem xcY(c:UInt8):zjA [c] 64=some (List.replicate 64 c):=by
 unfold zjA
 have e64:w64 (((64:UInt64)).toNat:Int)=64:=by decide
 rw[ynQ (by rfl),zaZ (by decide),mul1,zaA]
 simp only[e64]
 rw[ynQ (by decide),ynQ (by rfl),zaZ (by decide),zaA,zeO (by decide),zaA]
 refine ysC fun jk hj=>?_
 have hj':jk.length=64:=hj
 have h0:putB jk 0 [c]=List.replicate 1 c++jk.drop 1:=by
  unfold putB
  rw[hj'];rfl
 have key:iter (zhU ((0:UInt64),(64:UInt64)) 64) (((1:Nat):Int),List.replicate 1 c++jk.drop 1)=some (List.replicate 64 c):=by
  refine zaM (fun k=>(((2^k:Nat):Int),List.replicate (2^k) c++jk.drop (2^k))) 6 (by decide) _ (fun k hk=>?_) ?_
  ·have hp:2^k≤32:=by rcases(by omega:k=0∨k=1∨k=2∨k=3∨k=4∨k=5)with rfl|rfl|rfl|rfl|rfl|rfl<;>decide
   rw[xcB c (Nat.pos_of_ne_zero (by simp)) hp (by rw[List.length_drop,hj']),List.drop_drop,←Nat.two_mul,Nat.pow_succ,Nat.mul_comm]
  ·unfold zhU
   simp only[e64]
   rw[zaZ (by decide),List.drop_eq_nil_of_le (by rw[hj'];decide),List.append_nil]
 rw[show(((min (([c]:Bs)).length (jk.length-0):Nat)):Int)=((1:Nat):Int) by rw[hj'];rfl,h0,key];rfl
def zlI(c:UInt8)(key:Bs):Nat→Bs
 |0=>List.replicate 64 c
 |k+1=>(zlI c key k).set k ((zlI c key k).getD k 0^^^key.getD k 0)
theorem zjV(c:UInt8)(key:Bs):∀k,(zlI c key k).length=64
 |0=>by simp[zlI]
 |k+1=>by rw[zlI,List.length_set,zjV c key k]
theorem idxD{l:Bs}{k:Nat}(h:k<l.length):idx l (k:Int)=some (l.getD k 0):=by
 rw[zbO rfl h,List.getD_eq_getElem?_getD,List.getElem?_eq_getElem h];rfl
theorem zwW{l:Bs}{k:Nat}{u:UInt8}(h:k<l.length):setL l (k:Int) u=some (l.set k u):=by
 unfold setL
 rw[show(decide (0≤(k:Int))&&decide ((k:Int)<(l.length:Int)))=true by simp;exact h];rfl
theorem over_ok{key:Bs}(h:key.length≤64):iter (zsB key) (0,List.replicate 64 (92:UInt8),List.replicate 64 (54:UInt8))=some (zlI 92 key key.length,zlI 54 key key.length):=by
 refine zaM (fun k=>((k:Int),zlI 92 key k,zlI 54 key k)) key.length (by omega) _ (fun k hk=>?_) ?_
 ·unfold zsB
  rw[zaY (by omega)]
  simp only[]
  have hi:k<(zlI 54 key k).length:=by rw[zjV];omega
  have ho:k<(zlI 92 key k).length:=by rw[zjV];omega
  rw[idxD hi,zaA,idxD hk,zaA,zaA,zwW hi,zaA,idxD ho,zaA,zaA,zaA,zwW ho,zaA,w64s k (by omega)]
  rfl
 ·unfold zsB
  rw[zaZ (by omega)]
def keyF(key:Bs):Bs:=bif decide (64<key.length)then shaF key else key
def macF(key s:Bs):Bs:=shaF (zlI 92 (keyF key) (keyF key).length++shaF (zlI 54 (keyF key) (keyF key).length++s))
theorem yqK(key:Bs):(keyF key).length≤64:=by
 unfold keyF
 by_cases h:64<key.length
 ·rw[zaY h,zzL];decide
 ·rw[zaZ h];omega
theorem zpO(key s:Bs):(macF key s).length=32:=zzL _
theorem mac_ok4{key s:Bs}(hk:key.length≤68719470000)(hs:s.length≤68719460000):zxT key s=some (macF key s):=by
 unfold zxT
 have e:(bif decide ((64:Int)<((key).length:Int))then(Option.bind (zlP key) fun y1=>some (y1))else(some (key)))=some (keyF key):=by
  unfold keyF
  by_cases h:64<key.length
  ·rw[zaY (by omega),zaY h,ymN hk];rfl
  ·rw[zaZ (by omega),zaZ h]
 have l2:=zjV 92 (keyF key) (keyF key).length
 have l1:=zjV 54 (keyF key) (keyF key).length
 have hi:(zlI 54 (keyF key) (keyF key).length++s).length≤68719470000:=by rw[List.length_append,l1];omega
 have ho:(zlI 92 (keyF key) (keyF key).length++shaF (zlI 54 (keyF key) (keyF key).length++s)).length≤68719470000:=by rw[List.length_append,l2,zzL];omega
 rw[e,zaA,xcY,zaA,xcY,zaA,over_ok (yqK key),zaA,zaA,zbA (by rw[←List.length_append];show(zlI 54 (keyF key) (keyF key).length++s).length≤_;omega),zaA,ymN hi,zaA,zbA (by rw[←List.length_append];show(zlI 92 (keyF key) (keyF key).length++shaF (zlI 54 (keyF key) (keyF key).length++s)).length≤_;omega),zaA,ymN ho]
 rfl
theorem or63{a b:Nat}(ha:a<2^63)(hb:b<2^63):bits .or .i64 (a:Int) (b:Int)=((a|||b:Nat):Int):=by
 have h1:a<2^IntKind.i64.bits:=by show a<2^64;omega
 have h2:b<2^IntKind.i64.bits:=by show b<2^64;omega
 simp only[bits,BitVec.toNat_or,zpW .i64 a h1,zpW .i64 b h2]
 have:=Nat.or_lt_two_pow ha hb
 exact wr64 (by omega) (by omega)
theorem xor63{a b:Nat}(ha:a<2^63)(hb:b<2^63):bits .xor .i64 (a:Int) (b:Int)=((a^^^b:Nat):Int):=by
 have h1:a<2^IntKind.i64.bits:=by show a<2^64;omega
 have h2:b<2^IntKind.i64.bits:=by show b<2^64;omega
 simp only[bits,BitVec.toNat_xor,zpW .i64 a h1,zpW .i64 b h2]
 have:=Nat.xor_lt_two_pow ha hb
 exact wr64 (by omega) (by omega)
def zyV(x y:Bs):Nat→Nat
 |0=>x.length^^^y.length
 |k+1=>zyV x y k|||(x.getD k 0^^^y.getD k 0).toNat
theorem yjP{x y:Bs}(hx:x.length<2^63)(hy:y.length<2^63):∀k,zyV x y k<2^63
 |0=>Nat.xor_lt_two_pow hx hy
 |k+1=>Nat.or_lt_two_pow (yjP hx hy k) (Nat.lt_of_lt_of_le (UInt8.toNat_lt _) (by decide))
theorem orz0{a b:Nat}:a|||b=0↔a=0∧b=0:=by
 constructor
 ·intro h
  have h1:a≤a|||b:=Nat.left_le_or
  have h2:b≤a|||b:=Nat.right_le_or
  omega
 ·rintro⟨rfl,rfl⟩;rfl
theorem xorz08{a b:UInt8}:(a^^^b).toNat=0↔a=b:=by
 rw[UInt8.toNat_xor]
 constructor
 ·intro h
  apply UInt8.toNat_inj.1
  have:=congrArg (· ^^^ b.toNat) h
  simpa[Nat.xor_assoc]using this
 ·rintro rfl;simp
theorem ycI{x y:Bs}:∀k,zyV x y k=0↔x.length=y.length∧∀j,j<k→x.getD j 0=y.getD j 0
 |0=>by
  simp only[zyV,Nat.not_lt_zero,false_imp_iff,implies_true,and_true]
  constructor
  ·intro h
   have:=congrArg (· ^^^ y.length) h
   simpa[Nat.xor_assoc]using this
  ·intro h;rw[h];simp
 |k+1=>by
  rw[zyV,orz0,ycI k,xorz08]
  constructor
  ·rintro⟨⟨h1,h2⟩,h3⟩
   exact⟨h1,fun j hj=>by
    rcases(by omega:j<k∨j=k)with h|rfl
    ·exact h2 j h
    ·exact h3⟩
  ·rintro⟨h1,h2⟩
   exact⟨⟨h1,fun j hj=>h2 j (by omega)⟩,h2 k (by omega)⟩
theorem yoO{x y:Bs}(hx:x.length≤68719476736)(hy:y.length≤68719476736):zuX x y=some (x==y):=by
 have hx2:x.length<2^63:=by omega
 have hy2:y.length<2^63:=by omega
 have key:iter (zoY x y) ((((x.length^^^y.length:Nat)):Int),0)=some ((zyV x y x.length:Nat):Int):=by
  refine zaM (fun k=>(((zyV x y k:Nat):Int),(k:Int))) x.length (by omega) _ (fun k hk=>?_) ?_
  ·unfold zoY
   rw[zaY (by omega)]
   simp only[]
   have e:(bif decide ((k:Int)<((y).length:Int))then(Option.bind (idx y (k:Int)) fun y1=>some (y1))else(some ((0:UInt8))))=some (y.getD k 0):=by
    by_cases h:k<y.length
    ·rw[zaY (by omega),idxD h];rfl
    ·rw[zaZ (by omega),List.getD_eq_getElem?_getD,List.getElem?_eq_none (by omega)];rfl
   rw[e,zaA,idxD hk,zaA,or63 (yjP hx2 hy2 k) (Nat.lt_of_lt_of_le (UInt8.toNat_lt _) (by decide)),w64s k (by omega)]
   rfl
  ·unfold zoY
   rw[zaZ (by omega)]
 unfold zuX
 rw[xor63 hx2 hy2,key,zaA,zaA]
 congr 1
 have hz:=ycI (x:=x) (y:=y) x.length
 by_cases h:x=y
 ·subst h
  rw[hz.2 ⟨rfl,fun _ _=>rfl⟩];simp
 ·rw[beq_false_of_ne h]
  have:¬zyV x y x.length=0:=fun e=>h (by
   obtain⟨h1,h2⟩:=hz.1 e
   apply List.ext_getElem h1
   intro i hi hi'
   have:=h2 i hi
   simpa[List.getD_eq_getElem?_getD,List.getElem?_eq_getElem hi,List.getElem?_eq_getElem hi']using this)
  rw[beq_eq_false_iff_ne];omega
section
attribute [local irreducible] wpList wpT Code.wp Calls Code.rounds
variable {S:Mem}{w:World}
theorem bu1:Tryz.prog.underlying 121=some (.pointer 123):=by kernel_rfl
theorem bu2:Tryz.prog.underlying 187=some .unsafePointer:=by kernel_rfl
theorem bi1:(Tryz.prog.info? 123).map (·.size)=some 2:=by kernel_rfl
theorem bl1:liesAt Tryz.prog Tryz.prog.depth 123 (2/Tryz.prog.cellsOf 123) 0 123 1=true:=by kernel_rfl
theorem bf0:ytX Tryz.prog 123 0 0:=fun _ _ _=>by kernel_rfl
theorem bf1:ytX Tryz.prog 123 1 1:=fun _ _ _=>by kernel_rfl
theorem bto:TOne Tryz.prog 121:=⟨fun _=>by kernel_rfl,fun _=>by kernel_rfl⟩
theorem bto2:TOne Tryz.prog 100:=⟨fun _=>by kernel_rfl,fun _=>by kernel_rfl⟩
theorem btz:TSz Tryz.prog 121 1:=fun _=>by kernel_rfl
theorem bnoEsc(x:Value)(w:World):(callFunc 155 [x].toArray).run Tryz.prog w = .ok (.value x) w:=by
 have h:=run_callFunc_extern (P:=Tryz.prog) (w:=w) (args:=#[x]) Tryz.func155 (by kernel_rfl) (by kernel_rfl) (by kernel_rfl) (e:=Extern.AbiNoEscape.same) (by kernel_rfl)
 show(callFunc 155 #[x]).run Tryz.prog w=_
 rw[h,Lib.run_noEscape];rfl
def zjJ(x0:Bs):Option Bs:=some x0
section
variable {P:Program}{w:World}{B:Bas}{S:Mem}{L:List Res}{e:Operand→Value}{dst:Option Tmp}{g:Option (Nat×Bool)}{ty:TypeId}{pos:String}{aft:Array Edge}{x y:Operand}{T T1 T2 T':TypeId}{a:Addr}
theorem r_eqPN(hu:P.underlying T=some (.pointer T1))(hx:e x = .pointer none)(hy:e y = .pointer none):(execOp e ⟨dst,.binOp .eql T x y T',ty,pos,aft,g⟩).run P w = .ok (.value (.bool true)) w:=by
 have h:(Op.equal T (.pointer none) (.pointer none)).run P w = .ok true w:=by
  have h:∀d,(Op.equalIn (d+1) T (.pointer none) (.pointer none)).run P w = .ok true w:=fun d=>by simp[Op.equalIn,Go.underlying,hu]
  exact h 9999
 simp[execOp,eqGuard,binOp,hx,hy,h]
theorem r_eqPS(hu:P.underlying T=some (.pointer T1))(hx:e x = .pointer (some a))(hy:e y = .pointer none):(execOp e ⟨dst,.binOp .eql T x y T',ty,pos,aft,g⟩).run P w = .ok (.value (.bool false)) w:=by
 have h:(Op.equal T (.pointer (some a)) (.pointer none)).run P w = .ok false w:=by
  have h:∀d,(Op.equalIn (d+1) T (.pointer (some a)) (.pointer none)).run P w = .ok false w:=fun d=>by simp[Op.equalIn,Go.underlying,hu]
  exact h 9999
 simp[execOp,eqGuard,binOp,hx,hy,h]
theorem r_nePP{j:TypeInfo}(hu:P.underlying T=some (.pointer T1))(hj:P.info? T1=some j)(hx:e x = .pointer (some a))(hy:e y = .pointer (some a)):(execOp e ⟨dst,.binOp .neq T x y T',ty,pos,aft,g⟩).run P w = .ok (.value (.bool false)) w:=by
 have h:=Lib.run_neq_ptr_same (P:=P) w a hu hj
 simp[execOp,eqGuard,hx,hy,h]
end
theorem zvJ{b0_:Nat}{x0:Bs}{pv1:Value}{pcs1 prs1:LV}{pa1:Value}(H:HS ⟨S,zbJ [.blk b0_ ([pa1]++([pv1])) 123,.osl (pv1) (x0).length 1 pcs1 prs1 5],w⟩ S w [.blk b0_ ([pa1]++([pv1])) 123,.osl (pv1) (x0).length 1 pcs1 prs1 5])
  (pg1:RL S pcs1 x0) (pg2:BA b0_ pa1) {r:Bs} (hF:zjJ x0=some r):
  Calls Tryz.prog 117 #[.pointer (some ⟨b0_,0,none⟩)] w fun e w'=>∃(S2:Mem) (pv2:Value) (pcs2 prs2:LV) (pa2:Value),e = .returned (.tuple #[])∧HS ⟨S,zbJ [.blk b0_ ([pa1]++([pv1])) 123,.osl (pv1) (x0).length 1 pcs1 prs1 5],w⟩ S2 w' [.blk b0_ ([pa2]++([pv2])) 123,.osl (pv2) (r).length 1 pcs2 prs2 5]∧RL S2 pcs2 r∧BA b0_ pa2:=by
 obtain rfl:=osi hF
 obtain⟨j,hj,hjs⟩:=Option.map_eq_some_iff.1 bi1
 have hblk:w.heap[b0_]? = some (.cells ([pa1]++([pv1])).toArray 123 (0,0)):=H.own 0 _ rfl
 have hsh:w.shape? (⟨b0_,0,none⟩:Addr).block=some (123,2):=by simp[World.shape?,hblk]
 refine enter (n:=20) Tryz.func117 rfl rfl rfl ?_
 rcases pg2 with rfl|rfl
 ·refine wp_seq_k ?_;intro K1 hK1
  refine wp_region_lit ?_
  refine zaC (zaE (v:=.pointer (some ⟨b0_,0,none⟩)) rfl) ?_
  refine zaC (zkI rfl) ?_
  refine zaC (zmN bf0 rfl) ?_
  refine zaC (zfF (v:=.pointer none) bto H rfl (k:=0) rfl rfl) ?_
  refine zaC (r_eqPN bu1 rfl rfl) ?_
  refine wpList_nil ?_
  refine zaJ ?_;refine hK1 _ _ ?_
  refine c_true rfl rfl ?_
  refine wp_region_lit ?_
  refine zaC (zaE (v:=.pointer (some ⟨b0_,0,none⟩)) rfl) ?_
  refine zaC (zaE (v:=.pointer (some ⟨b0_,0,none⟩)) rfl) ?_
  refine zaC (c:=.pointer (some ⟨b0_,0,none⟩)) (by
   have h:=Lib.run_to_unsafe (P:=Tryz.prog) w ⟨b0_,0,none⟩ bu1 bu2 hj (by rw[hjs];decide) hsh (Nat.zero_lt_succ 1)
   simp only[execOp]
   exact(by rw[Sem.run_bind];erw [h];rfl)) ?_
  refine xfC (l:=[.pointer (some ⟨b0_,0,none⟩)]) rfl (bnoEsc _ _) ?_
  refine zaC (c:=.pointer (some ⟨b0_,0,none⟩)) (by
   have h:=Lib.run_from_unsafe (P:=Tryz.prog) w ⟨b0_,0,none⟩ bu2 bu1 hj hsh bl1
   simp only[execOp]
   exact(by rw[Sem.run_bind];erw [h];rfl)) ?_
  refine zaC (zkI rfl) ?_
  refine zaC (zmN bf0 rfl) ?_
  refine zyG (zlQ (k:=0) (v:=.pointer (some ⟨b0_,0,none⟩)) (l:=[.pointer (some ⟨b0_,0,none⟩)]) btz H rfl rfl rfl (cells_one rfl) rfl (fun u hu=>List.all_eq_true.1 (rfl:([Value.pointer (some ⟨b0_,0,none⟩)]).all (·.oneCell')=true) u hu) rfl) ?_;clear H;intro w2 H
  refine wpList_nil ?_
  refine e_00 rfl ?_
  exact⟨S,pv1,pcs1,prs1,.pointer (some ⟨b0_,0,none⟩),rfl,H,pg1,.inr rfl⟩
 ·refine wp_seq_k ?_;intro K1 hK1
  refine wp_region_lit ?_
  refine zaC (zaE (v:=.pointer (some ⟨b0_,0,none⟩)) rfl) ?_
  refine zaC (zkI rfl) ?_
  refine zaC (zmN bf0 rfl) ?_
  refine zaC (zfF (v:=.pointer (some ⟨b0_,0,none⟩)) bto H rfl (k:=0) rfl rfl) ?_
  refine zaC (r_eqPS bu1 rfl rfl) ?_
  refine wpList_nil ?_
  refine zaJ ?_;refine hK1 _ _ ?_
  refine ymM rfl rfl ?_
  refine wp_seq_k ?_;intro K2 hK2
  refine wp_region_lit ?_
  refine zaC (zaE (v:=.pointer (some ⟨b0_,0,none⟩)) rfl) ?_
  refine zaC (zkI rfl) ?_
  refine zaC (zmN bf0 rfl) ?_
  refine zaC (zfF (v:=.pointer (some ⟨b0_,0,none⟩)) bto H rfl (k:=0) rfl rfl) ?_
  refine zaC (zaE (v:=.pointer (some ⟨b0_,0,none⟩)) rfl) ?_
  refine zaC (r_nePP bu1 hj rfl rfl) ?_
  refine wpList_nil ?_
  refine zaJ ?_;refine hK2 _ _ ?_
  refine ymM rfl rfl ?_
  refine wp_skip ?_
  refine e_00 rfl ?_
  exact⟨S,pv1,pcs1,prs1,.pointer (some ⟨b0_,0,none⟩),rfl,H,pg1,.inr rfl⟩
theorem bus:Tryz.prog.underlying 100=some (.slice 5):=by kernel_rfl
theorem bup:Tryz.prog.underlying 151=some (.pointer 5):=by kernel_rfl
theorem buc:Tryz.prog.cellsOf 5=1:=by kernel_rfl
section
variable {P:Program}{w:World}{e:Operand→Value}{dst:Option Tmp}{g:Option (Nat×Bool)}{ty:TypeId}{pos:String}{aft:Array Edge}{x y:Operand}{T T1:TypeId}
theorem xfI{r:Value}{v:Value}{w':World}(hx:e x=v)(h:(Builtin.unsafeSliceData_ #[T] ty #[v]).run P w = .ok r w'):(execOp e ⟨dst,.call ⟨.builtin .unsafeSliceData,#[x],#[T]⟩,ty,pos,aft,g⟩).run P w = .ok (.value r) w':=by
 simp[execOp,resolve,invoke,builtin,hx,h]
theorem yzY{r:Value}{v u:Value}{w':World}(hx:e x=v)(hy:e y=u)(h:(Builtin.unsafeString_ #[T,T1] ty #[v,u]).run P w = .ok r w'):(execOp e ⟨dst,.call ⟨.builtin .unsafeString,#[x,y],#[T,T1]⟩,ty,pos,aft,g⟩).run P w = .ok (.value r) w':=by
 simp[execOp,resolve,invoke,builtin,hx,hy,h]
theorem xdS:∀{L:List Res} {k:Nat} {x:Res},rmR (stR L k x) k=rmR L k
 |[],_,_=>rfl
 |_::_,0,_=>rfl
 |y::l,k+1,x=>by simp only[stR,rmR,xdS (L:=l) (k:=k)]
end
theorem zzE{B:Bas}{S:Mem}{w:World}{L:List Res}{k1 k2 b:Nat}{a v:Value}{cs rs:LV}{xs:Bs}(H:HS B S w L)(h1:lkR L k1=some (.blk b ([a]++([v])) 123))(h2:lkR L k2=some (.osl v xs.length 1 cs rs 5))(h0:RL S cs xs)(hl:xs.length≤9223372036854775807):
  Calls Tryz.prog 90 #[.pointer (some ⟨b,0,none⟩)] w fun e w'=>e = .returned (str xs)∧HS B S w' (rmR L k2):=by
 have hown:=H.own k2 _ h2
 refine enter (n:=14) Tryz.func90 rfl rfl rfl ?_
 rcases hown with⟨rfl,hn,hcs,hrs⟩|⟨gb,c,fz,rfl,hnc,hlen,hcap,hblk,hfz⟩
 ·obtain rfl:xs=[]:=List.eq_nil_of_length_eq_zero hn
  refine wp_seq_k ?_;intro K1 hK1
  refine wp_region_lit ?_
  refine zaC (ziC (v:=str ([]:Bs)) rfl) ?_
  refine wpList_nil ?_
  refine zaJ ?_;refine hK1 _ _ ?_
  refine wp_seq_k ?_;intro K2 hK2
  apply znK 10 (kinds []) rfl rfl (by kernel_rfl);intro vs
  simp only[tkS,tkZ,drS,drZ]
  replace H:=H.drew
  refine zjN (fun w hx=>zaE (v:=.pointer (some ⟨b,0,none⟩)) rfl) rfl rfl ?_
  refine zjN (fun w hx=>zkI rfl) rfl rfl ?_
  refine zjN (fun w hx=>zmN bf1 rfl) rfl rfl ?_
  refine zjN (fun w hx=>zfF (v:=.slice none 0 0) bto2 (H.ext hx) rfl h1 rfl) rfl rfl ?_
  refine zjN (fun w hx=>xfI (r:=.pointer none) rfl (Lib.run_unsafeSliceData_nil _ _ _ _ _)) rfl rfl ?_
  refine zjN (fun w hx=>zaE (v:=.pointer (some ⟨b,0,none⟩)) rfl) rfl rfl ?_
  refine zjN (fun w hx=>zkI rfl) rfl rfl ?_
  refine zjN (fun w hx=>zmN bf1 rfl) rfl rfl ?_
  refine zjN (fun w hx=>zfF (v:=.slice none 0 0) bto2 (H.ext hx) rfl h1 rfl) rfl rfl ?_
  refine zjN (fun w hx=>zwZ bus rfl (H.ext hx) h2 rfl) rfl rfl ?_
  refine zmR (fun w2 hx hF hA=>?_)
  replace H:=H.ext hx;clear hx hF hA
  refine zaC (c:=str ([]:Bs)) (yzY rfl rfl (Lib.run_unsafeString_none _ _ _ _ _)) ?_
  replace H:=H.rm k2
  refine zaC (ziC (v:=str ([]:Bs)) rfl) ?_
  refine wpList_nil ?_;refine zdC ?_
  refine zaJ ?_;refine hK2 _ _ ?_
  refine wp_ret ?_
  refine e_1 rfl (ziX (v:=str ([]:Bs)) rfl) ?_
  exact⟨rfl,H⟩
 ·by_cases hc:c=0
  ·subst hc
   obtain rfl:xs=[]:=List.eq_nil_of_length_eq_zero (by omega)
   refine wp_seq_k ?_;intro K1 hK1
   refine wp_region_lit ?_
   refine zaC (ziC (v:=str ([]:Bs)) rfl) ?_
   refine wpList_nil ?_
   refine zaJ ?_;refine hK1 _ _ ?_
   refine wp_seq_k ?_;intro K2 hK2
   apply znK 10 (kinds [(4,.inr (fun v _=>∃a,v = .pointer (some a)))]) rfl rfl (by kernel_rfl);intro vs
   simp only[tkS,tkZ,drS,drZ]
   replace H:=H.drew
   refine zjN (fun w hx=>zaE (v:=.pointer (some ⟨b,0,none⟩)) rfl) rfl rfl ?_
   refine zjN (fun w hx=>zkI rfl) rfl rfl ?_
   refine zjN (fun w hx=>zmN bf1 rfl) rfl rfl ?_
   refine zjN (fun w hx=>zfF (v:=sl gb 0 0 0) bto2 (H.ext hx) rfl h1 rfl) rfl rfl ?_
   refine xeY (φ:=fun v _=>∃a,v = .pointer (some a)) rfl rfl (fun _ _ _ h _=>h) rfl (fun h=>by cases h) (fun w hx hF R hR=>by
    have hsh:w.shape? (⟨gb,0,none⟩:Addr).block=some (5,(cs++rs).toArray.size):=by
     have hb2:w.heap[gb]? = some (.cells (cs++rs).toArray 5 fz):=by rw[hx.block gb (lt_of_heap hblk)];exact hblk
     simp[World.shape?,hb2]
    have hrun:=Lib.run_unsafeSliceData_zero (P:=Tryz.prog) w #[100] 151 5 bup ⟨gb,0,none⟩ 0 _ hsh
    rw[zhQ,xfI rfl hrun,yhE]
    exact hR (.pointer (some ⟨w.heap.size,0,none⟩)) (w.alloc (.view ⟨gb,0,none⟩ 5)) (Ext.alloc w _) ⟨_,rfl⟩ (fun h=>by cases h)) ?_
   rw[zkA]
   refine zjN (fun w hx=>zaE (v:=.pointer (some ⟨b,0,none⟩)) rfl) rfl rfl ?_
   refine zjN (fun w hx=>zkI rfl) rfl rfl ?_
   refine zjN (fun w hx=>zmN bf1 rfl) rfl rfl ?_
   refine zjN (fun w hx=>zfF (v:=sl gb 0 0 0) bto2 (H.ext hx) rfl h1 rfl) rfl rfl ?_
   refine zjN (fun w hx=>zwZ bus rfl (H.ext hx) h2 rfl) rfl rfl ?_
   refine zmR (fun w2 hx hF hA=>?_)
   obtain⟨ad,had⟩:=xbE hF 4 rfl rfl
   replace H:=H.ext hx;clear hx hF hA
   refine zaC (c:=str ([]:Bs)) (yzY (by exact had) rfl (Lib.run_unsafeString_none _ _ _ _ _)) ?_
   replace H:=H.rm k2
   refine zaC (ziC (v:=str ([]:Bs)) rfl) ?_
   refine wpList_nil ?_;refine zdC ?_
   refine zaJ ?_;refine hK2 _ _ ?_
   refine wp_ret ?_
   refine e_1 rfl (ziX (v:=str ([]:Bs)) rfl) ?_
   exact⟨rfl,H⟩
  ·skip
   refine wp_seq_k ?_;intro K1 hK1
   refine wp_region_lit ?_
   refine zaC (ziC (v:=str ([]:Bs)) rfl) ?_
   refine wpList_nil ?_
   refine zaJ ?_;refine hK1 _ _ ?_
   refine wp_seq_k ?_;intro K2 hK2
   apply znK 10 (kinds []) rfl rfl (by kernel_rfl);intro vs
   simp only[tkS,tkZ,drS,drZ]
   replace H:=H.drew
   refine zjN (fun w hx=>zaE (v:=.pointer (some ⟨b,0,none⟩)) rfl) rfl rfl ?_
   refine zjN (fun w hx=>zkI rfl) rfl rfl ?_
   refine zjN (fun w hx=>zmN bf1 rfl) rfl rfl ?_
   refine zjN (fun w hx=>zfF (v:=sl gb 0 xs.length c) bto2 (H.ext hx) rfl h1 rfl) rfl rfl ?_
   refine zjN (fun w hx=>xfI (r:=.pointer (some ⟨gb,0,none⟩)) rfl (Lib.run_unsafeSliceData_row _ _ _ _ _ _ hc)) rfl rfl ?_
   refine zjN (fun w hx=>zaE (v:=.pointer (some ⟨b,0,none⟩)) rfl) rfl rfl ?_
   refine zjN (fun w hx=>zkI rfl) rfl rfl ?_
   refine zjN (fun w hx=>zmN bf1 rfl) rfl rfl ?_
   refine zjN (fun w hx=>zfF (v:=sl gb 0 xs.length c) bto2 (H.ext hx) rfl h1 rfl) rfl rfl ?_
   refine zjN (fun w hx=>zwZ bus rfl (H.ext hx) h2 rfl) rfl rfl ?_
   refine zmR (fun w2 hx hF hA=>?_)
   have hb2:w2.heap[gb]? = some (.cells (cs++rs).toArray 5 fz):=by rw[hx.block gb (lt_of_heap hblk)];exact hblk
   replace H:=H.ext hx;clear hx hF hA
   refine p_ofc (c:=str xs) (φ:=fun w'=>HS B S w' (rmR L k2)) ?_ ?_
   ·by_cases hx0:xs=[]
    ·subst hx0
     exact⟨w2,yzY rfl rfl (Lib.run_unsafeString_none _ _ _ _ _),H.rm k2⟩
    ·have hsh:w2.shape? gb=some (5,(cs++rs).toArray.size):=by simp[World.shape?,hb2]
     have hcs:=RL.is_u8s h0
     have hxl:xs.length≤(cs++rs).length:=by rw[List.length_append,hlen];omega
     have hrun:=Lib.run_unsafeString_row (P:=Tryz.prog) w2 151 3 9 5 bup buc gb _ hsh xs hx0 (by simpa using hxl) hl (fun j x hj=>by
      rw[zcJ,zeC hb2,Nat.zero_add,List.getElem?_append_left (by have:=(List.getElem?_eq_some_iff.1 hj).1;omega),hcs]
      exact u8s_get hj)
     refine⟨_,yzY rfl rfl hrun,?_⟩
     have H2:=H.upd (w':=w2.freeze ⟨gb,0,none⟩ xs.length) (r':=.osl (.slice none 0 0) 0 1 [] [] 5) h2 (by unfold World.freeze;split<;>simp) (by unfold World.freeze;split<;>rfl) (by unfold World.freeze;split<;>rfl) (by unfold World.freeze;split<;>rfl) (fun i hi hne=>by
      have hig:gb≠i:=fun e=>hne (by rw[e];rfl)
      unfold World.freeze;split
      ·rfl
      ·simp[Array.getElem?_modify,hig]) (.inl ⟨rfl,rfl,rfl,rfl⟩) (fun b hb=>by cases hb)
     have H3:=H2.rm k2
     rw[xdS]at H3
     exact H3
   clear H;intro w3 H
   refine zaC (ziC (v:=str xs) rfl) ?_
   refine wpList_nil ?_;refine zdC ?_
   refine zaJ ?_;refine hK2 _ _ ?_
   refine wp_ret ?_
   refine e_1 rfl (ziX (v:=str xs) rfl) ?_
   exact⟨rfl,H⟩
end
end Go.Proofs.YtmkomlbiaebddaaGreatDoor
namespace Go.Proofs
open Go.Shelf
def Tryz.lays160_ren:Go.Shelf.Ren:=⟨fun|160=>109|232=>132|231=>131|227=>133|234=>135|233=>134|236=>137|235=>136|228=>166|271=>169|151=>168|197=>167|120=>191|152=>190|260=>189|137=>200|119=>201|224=>187|225=>186|217=>185|266=>198|n=>n,fun|9=>9|4=>4|3=>3|5=>5|117=>169|116=>168|0=>0|124=>172|21=>21|105=>197|46=>139|119=>227|139=>230|138=>229|n=>n,fun|3=>4|4=>5|n=>n⟩
theorem Tryz.lays160:Go.Proofs.Lays.n160 Tryz.prog Tryz.lays160_ren:={
  mixed:=by kernel_rfl
  f119:=Tryz.func201.trans (congrArg some (by kernel_rfl))
  f120:=Tryz.func191.trans (congrArg some (by kernel_rfl))
  f137:=Tryz.func200.trans (congrArg some (by kernel_rfl))
  f151:=Tryz.func168.trans (congrArg some (by kernel_rfl))
  f152:=Tryz.func190.trans (congrArg some (by kernel_rfl))
  f160:=Tryz.func109.trans (congrArg some (by kernel_rfl))
  f197:=Tryz.func167.trans (congrArg some (by kernel_rfl))
  f217:=Tryz.func185.trans (congrArg some (by kernel_rfl))
  f224:=Tryz.func187.trans (congrArg some (by kernel_rfl))
  f225:=Tryz.func186.trans (congrArg some (by kernel_rfl))
  f227:=Tryz.func133.trans (congrArg some (by kernel_rfl))
  f228:=Tryz.func166.trans (congrArg some (by kernel_rfl))
  f231:=Tryz.func131.trans (congrArg some (by kernel_rfl))
  f232:=Tryz.func132.trans (congrArg some (by kernel_rfl))
  f233:=Tryz.func134.trans (congrArg some (by kernel_rfl))
  f234:=Tryz.func135.trans (congrArg some (by kernel_rfl))
  f235:=Tryz.func136.trans (congrArg some (by kernel_rfl))
  f236:=Tryz.func137.trans (congrArg some (by kernel_rfl))
  f260:=Tryz.func189.trans (congrArg some (by kernel_rfl))
  f266:=Tryz.func198.trans (congrArg some (by kernel_rfl))
  f271:=Tryz.func169.trans (congrArg some (by kernel_rfl))
  t0:=Tryz.underlying0
  a0:=Tryz.isAgg0
  z0:=Tryz.sizeOf0
  v0:=Tryz.zeroValue0
  t3:=Tryz.underlying3
  a3:=Tryz.isAgg3
  z3:=Tryz.sizeOf3
  v3:=Tryz.zeroValue3
  t4:=Tryz.underlying4
  a4:=Tryz.isAgg4
  z4:=Tryz.sizeOf4
  v4:=Tryz.zeroValue4
  t5:=Tryz.underlying5
  a5:=Tryz.isAgg5
  z5:=Tryz.sizeOf5
  v5:=Tryz.zeroValue5
  t9:=Tryz.underlying9
  a9:=Tryz.isAgg9
  z9:=Tryz.sizeOf9
  v9:=Tryz.zeroValue9
  t21:=Tryz.underlying21
  a21:=Tryz.isAgg21
  z21:=Tryz.sizeOf21
  v21:=Tryz.zeroValue21
  t46:=Tryz.underlying139
  a46:=Tryz.isAgg139
  z46:=Tryz.sizeOf139
  v46:=Tryz.zeroValue139
  t105:=Tryz.underlying197
  a105:=Tryz.isAgg197
  z105:=Tryz.sizeOf197
  v105:=Tryz.zeroValue197
  t116:=Tryz.underlying168
  a116:=Tryz.isAgg168
  z116:=Tryz.sizeOf168
  t117:=Tryz.underlying169
  a117:=Tryz.isAgg169
  z117:=Tryz.sizeOf169
  v117:=Tryz.zeroValue169
  t119:=Tryz.underlying227
  a119:=Tryz.isAgg227
  z119:=Tryz.sizeOf227
  t124:=Tryz.underlying172
  a124:=Tryz.isAgg172
  z124:=Tryz.sizeOf172
  v124:=Tryz.zeroValue172
  t138:=Tryz.underlying229
  a138:=Tryz.isAgg229
  z138:=Tryz.sizeOf229
  v138:=Tryz.zeroValue229
  t139:=Tryz.underlying230
  a139:=Tryz.isAgg230
  z139:=Tryz.sizeOf230
  v139:=Tryz.zeroValue230
  g3:=by kernel_rfl
  g4:=by kernel_rfl }
def Tryz.laysM171_ren:Go.Shelf.Ren:=⟨fun|171=>39|243=>88|246=>116|283=>151|284=>152|285=>153|286=>154|129=>150|317=>181|318=>182|319=>183|320=>184|337=>196|338=>197|n=>n,fun|3=>3|9=>9|2=>2|4=>4|171=>183|0=>0|53=>102|37=>100|5=>5|173=>185|212=>214|51=>133|20=>20|213=>215|46=>139|232=>236|233=>237|n=>n,fun|17=>1|18=>6|19=>7|n=>n⟩
theorem Tryz.laysM171:Go.Proofs.LaysM.n171 Tryz.prog Tryz.laysM171_ren:={
  mixed:=by kernel_rfl
  f129:=Tryz.func150.trans (congrArg some (by kernel_rfl))
  f171:=Tryz.func39.trans (congrArg some (by kernel_rfl))
  f243:=Tryz.func88.trans (congrArg some (by kernel_rfl))
  f246:=Tryz.func116.trans (congrArg some (by kernel_rfl))
  f283:=Tryz.func151.trans (congrArg some (by kernel_rfl))
  f284:=Tryz.func152.trans (congrArg some (by kernel_rfl))
  f285:=Tryz.func153.trans (congrArg some (by kernel_rfl))
  f286:=Tryz.func154.trans (congrArg some (by kernel_rfl))
  f317:=Tryz.func181.trans (congrArg some (by kernel_rfl))
  f318:=Tryz.func182.trans (congrArg some (by kernel_rfl))
  f319:=Tryz.func183.trans (congrArg some (by kernel_rfl))
  f320:=Tryz.func184.trans (congrArg some (by kernel_rfl))
  f337:=Tryz.func196.trans (congrArg some (by kernel_rfl))
  f338:=Tryz.func197.trans (congrArg some (by kernel_rfl))
  t0:=Tryz.underlying0
  a0:=Tryz.isAgg0
  z0:=Tryz.sizeOf0
  v0:=Tryz.zeroValue0
  t2:=Tryz.underlying2
  a2:=Tryz.isAgg2
  z2:=Tryz.sizeOf2
  v2:=Tryz.zeroValue2
  t3:=Tryz.underlying3
  a3:=Tryz.isAgg3
  z3:=Tryz.sizeOf3
  v3:=Tryz.zeroValue3
  t4:=Tryz.underlying4
  a4:=Tryz.isAgg4
  z4:=Tryz.sizeOf4
  v4:=Tryz.zeroValue4
  t5:=Tryz.underlying5
  a5:=Tryz.isAgg5
  z5:=Tryz.sizeOf5
  v5:=Tryz.zeroValue5
  t9:=Tryz.underlying9
  a9:=Tryz.isAgg9
  z9:=Tryz.sizeOf9
  v9:=Tryz.zeroValue9
  t20:=Tryz.underlying20
  a20:=Tryz.isAgg20
  z20:=Tryz.sizeOf20
  v20:=Tryz.zeroValue20
  t37:=Tryz.underlying100
  a37:=Tryz.isAgg100
  z37:=Tryz.sizeOf100
  v37:=Tryz.zeroValue100
  t46:=Tryz.underlying139
  a46:=Tryz.isAgg139
  z46:=Tryz.sizeOf139
  v46:=Tryz.zeroValue139
  t51:=Tryz.underlying133
  a51:=Tryz.isAgg133
  z51:=Tryz.sizeOf133
  v51:=Tryz.zeroValue133
  t53:=Tryz.underlying102
  a53:=Tryz.isAgg102
  z53:=Tryz.sizeOf102
  v53:=Tryz.zeroValue102
  t171:=Tryz.underlying183
  a171:=Tryz.isAgg183
  z171:=Tryz.sizeOf183
  v171:=Tryz.zeroValue183
  t173:=Tryz.underlying185
  a173:=Tryz.isAgg185
  z173:=Tryz.sizeOf185
  v173:=Tryz.zeroValue185
  t212:=Tryz.underlying214
  a212:=Tryz.isAgg214
  z212:=Tryz.sizeOf214
  v212:=Tryz.zeroValue214
  t213:=Tryz.underlying215
  a213:=Tryz.isAgg215
  z213:=Tryz.sizeOf215
  t232:=Tryz.underlying236
  a232:=Tryz.isAgg236
  z232:=Tryz.sizeOf236
  v232:=Tryz.zeroValue236
  t233:=Tryz.underlying237
  a233:=Tryz.isAgg237
  z233:=Tryz.sizeOf237
  v233:=Tryz.zeroValue237
  g17:=by kernel_rfl
  g18:=by kernel_rfl
  g19:=by kernel_rfl
  i0:=by kernel_rfl
  i2:=by kernel_rfl
  i3:=by kernel_rfl
  i4:=by kernel_rfl
  i5:=by kernel_rfl
  i9:=by kernel_rfl
  i20:=by kernel_rfl
  i37:=by kernel_rfl
  i46:=by kernel_rfl
  i51:=by kernel_rfl
  i53:=by kernel_rfl
  i171:=by kernel_rfl
  i173:=by kernel_rfl
  i212:=by kernel_rfl
  i232:=by kernel_rfl
  i233:=by kernel_rfl
  m17:=by kernel_rfl
  m18:=by kernel_rfl
  m19:=by kernel_rfl }
open Go.RowKit Go.Sort Go.Lib in
theorem Tryz.strconv_Itoa (n : Int) (h0 : -9223372036854775808 ≤ n) (h1 : n ≤ 9223372036854775807) (w : World) (htab : Lib.TabIs Tryz.prog w "internal/strconv.uint64pow10" .u64 Lib.pow10Tab) :
  Calls Tryz.prog 39 #[.int .i64 n] w fun e w'=>e = .returned (.string ⟨(Lib.itoa n).toArray⟩)∧∃k os,w'=grow (w.drewN k) os:=Any.strconv_Itoa Tryz.laysM171 n h0 h1 w htab
def Tryz.laysC172_ren:Go.Shelf.Ren:=⟨fun|172=>110|244=>138|245=>139|247=>170|279=>171|280=>172|281=>173|282=>174|287=>192|316=>193|171=>39|205=>194|321=>202|322=>203|243=>88|246=>116|283=>151|284=>152|285=>153|286=>154|129=>150|317=>181|318=>182|319=>183|320=>184|337=>196|338=>197|n=>n,fun|9=>9|3=>3|75=>125|76=>126|4=>4|5=>5|167=>200|37=>100|0=>0|85=>201|2=>2|168=>203|53=>102|175=>218|46=>139|210=>221|127=>151|145=>235|143=>233|21=>21|171=>183|173=>185|212=>214|51=>133|20=>20|213=>215|232=>236|233=>237|80=>119|n=>n,fun|15=>2|16=>3|17=>1|18=>6|19=>7|n=>n⟩
theorem Tryz.laysC172:Go.Proofs.LaysC.n172 Tryz.prog Tryz.laysC172_ren:={
  mixed:=by kernel_rfl
  f129:=Tryz.func150.trans (congrArg some (by kernel_rfl))
  f171:=Tryz.func39.trans (congrArg some (by kernel_rfl))
  f172:=Tryz.func110.trans (congrArg some (by kernel_rfl))
  f205:=Tryz.func194.trans (congrArg some (by kernel_rfl))
  f243:=Tryz.func88.trans (congrArg some (by kernel_rfl))
  f244:=Tryz.func138.trans (congrArg some (by kernel_rfl))
  f245:=Tryz.func139.trans (congrArg some (by kernel_rfl))
  f246:=Tryz.func116.trans (congrArg some (by kernel_rfl))
  f247:=Tryz.func170.trans (congrArg some (by kernel_rfl))
  f279:=Tryz.func171.trans (congrArg some (by kernel_rfl))
  f280:=Tryz.func172.trans (congrArg some (by kernel_rfl))
  f281:=Tryz.func173.trans (congrArg some (by kernel_rfl))
  f282:=Tryz.func174.trans (congrArg some (by kernel_rfl))
  f283:=Tryz.func151.trans (congrArg some (by kernel_rfl))
  f284:=Tryz.func152.trans (congrArg some (by kernel_rfl))
  f285:=Tryz.func153.trans (congrArg some (by kernel_rfl))
  f286:=Tryz.func154.trans (congrArg some (by kernel_rfl))
  f287:=Tryz.func192.trans (congrArg some (by kernel_rfl))
  f316:=Tryz.func193.trans (congrArg some (by kernel_rfl))
  f317:=Tryz.func181.trans (congrArg some (by kernel_rfl))
  f318:=Tryz.func182.trans (congrArg some (by kernel_rfl))
  f319:=Tryz.func183.trans (congrArg some (by kernel_rfl))
  f320:=Tryz.func184.trans (congrArg some (by kernel_rfl))
  f321:=Tryz.func202.trans (congrArg some (by kernel_rfl))
  f322:=Tryz.func203.trans (congrArg some (by kernel_rfl))
  f337:=Tryz.func196.trans (congrArg some (by kernel_rfl))
  f338:=Tryz.func197.trans (congrArg some (by kernel_rfl))
  t0:=Tryz.underlying0
  a0:=Tryz.isAgg0
  z0:=Tryz.sizeOf0
  v0:=Tryz.zeroValue0
  t2:=Tryz.underlying2
  a2:=Tryz.isAgg2
  z2:=Tryz.sizeOf2
  v2:=Tryz.zeroValue2
  t3:=Tryz.underlying3
  a3:=Tryz.isAgg3
  z3:=Tryz.sizeOf3
  v3:=Tryz.zeroValue3
  t4:=Tryz.underlying4
  a4:=Tryz.isAgg4
  z4:=Tryz.sizeOf4
  v4:=Tryz.zeroValue4
  t5:=Tryz.underlying5
  a5:=Tryz.isAgg5
  z5:=Tryz.sizeOf5
  v5:=Tryz.zeroValue5
  t9:=Tryz.underlying9
  a9:=Tryz.isAgg9
  z9:=Tryz.sizeOf9
  v9:=Tryz.zeroValue9
  t20:=Tryz.underlying20
  a20:=Tryz.isAgg20
  z20:=Tryz.sizeOf20
  v20:=Tryz.zeroValue20
  t21:=Tryz.underlying21
  a21:=Tryz.isAgg21
  z21:=Tryz.sizeOf21
  v21:=Tryz.zeroValue21
  t37:=Tryz.underlying100
  a37:=Tryz.isAgg100
  z37:=Tryz.sizeOf100
  v37:=Tryz.zeroValue100
  t46:=Tryz.underlying139
  a46:=Tryz.isAgg139
  z46:=Tryz.sizeOf139
  v46:=Tryz.zeroValue139
  t51:=Tryz.underlying133
  a51:=Tryz.isAgg133
  z51:=Tryz.sizeOf133
  v51:=Tryz.zeroValue133
  t53:=Tryz.underlying102
  a53:=Tryz.isAgg102
  z53:=Tryz.sizeOf102
  v53:=Tryz.zeroValue102
  t75:=Tryz.underlying125
  a75:=Tryz.isAgg125
  z75:=Tryz.sizeOf125
  v75:=Tryz.zeroValue125
  t76:=Tryz.underlying126
  a76:=Tryz.isAgg126
  z76:=Tryz.sizeOf126
  v76:=Tryz.zeroValue126
  t85:=Tryz.underlying201
  a85:=Tryz.isAgg201
  z85:=Tryz.sizeOf201
  v85:=Tryz.zeroValue201
  t127:=Tryz.underlying151
  a127:=Tryz.isAgg151
  z127:=Tryz.sizeOf151
  v127:=Tryz.zeroValue151
  t143:=Tryz.underlying233
  a143:=Tryz.isAgg233
  z143:=Tryz.sizeOf233
  v143:=Tryz.zeroValue233
  t145:=Tryz.underlying235
  a145:=Tryz.isAgg235
  z145:=Tryz.sizeOf235
  v145:=Tryz.zeroValue235
  t167:=Tryz.underlying200
  a167:=Tryz.isAgg200
  z167:=Tryz.sizeOf200
  v167:=Tryz.zeroValue200
  t168:=Tryz.underlying203
  a168:=Tryz.isAgg203
  z168:=Tryz.sizeOf203
  v168:=Tryz.zeroValue203
  t171:=Tryz.underlying183
  a171:=Tryz.isAgg183
  z171:=Tryz.sizeOf183
  v171:=Tryz.zeroValue183
  t173:=Tryz.underlying185
  a173:=Tryz.isAgg185
  z173:=Tryz.sizeOf185
  v173:=Tryz.zeroValue185
  t175:=Tryz.underlying218
  a175:=Tryz.isAgg218
  z175:=Tryz.sizeOf218
  v175:=Tryz.zeroValue218
  t210:=Tryz.underlying221
  a210:=Tryz.isAgg221
  z210:=Tryz.sizeOf221
  v210:=Tryz.zeroValue221
  t212:=Tryz.underlying214
  a212:=Tryz.isAgg214
  z212:=Tryz.sizeOf214
  v212:=Tryz.zeroValue214
  t213:=Tryz.underlying215
  a213:=Tryz.isAgg215
  z213:=Tryz.sizeOf215
  t232:=Tryz.underlying236
  a232:=Tryz.isAgg236
  z232:=Tryz.sizeOf236
  v232:=Tryz.zeroValue236
  t233:=Tryz.underlying237
  a233:=Tryz.isAgg237
  z233:=Tryz.sizeOf237
  v233:=Tryz.zeroValue237
  g15:=by kernel_rfl
  g16:=by kernel_rfl
  g17:=by kernel_rfl
  g18:=by kernel_rfl
  g19:=by kernel_rfl
  t80:=Tryz.underlying119
  a80:=Tryz.isAgg119
  z80:=Tryz.sizeOf119
  v80:=Tryz.zeroValue119
  i0:=by kernel_rfl
  i2:=by kernel_rfl
  i3:=by kernel_rfl
  i4:=by kernel_rfl
  i5:=by kernel_rfl
  i9:=by kernel_rfl
  i20:=by kernel_rfl
  i21:=by kernel_rfl
  i37:=by kernel_rfl
  i46:=by kernel_rfl
  i51:=by kernel_rfl
  i53:=by kernel_rfl
  i75:=by kernel_rfl
  i76:=by kernel_rfl
  i80:=by kernel_rfl
  i85:=by kernel_rfl
  i127:=by kernel_rfl
  i143:=by kernel_rfl
  i145:=by kernel_rfl
  i167:=by kernel_rfl
  i168:=by kernel_rfl
  i171:=by kernel_rfl
  i173:=by kernel_rfl
  i175:=by kernel_rfl
  i210:=by kernel_rfl
  i212:=by kernel_rfl
  i232:=by kernel_rfl
  i233:=by kernel_rfl
  m15:=by kernel_rfl
  m16:=by kernel_rfl
  m17:=by kernel_rfl
  m18:=by kernel_rfl
  m19:=by kernel_rfl
  c0:=by kernel_rfl
  c2:=by kernel_rfl
  c3:=by kernel_rfl
  c4:=by kernel_rfl
  c5:=by kernel_rfl
  c9:=by kernel_rfl
  c20:=by kernel_rfl
  c21:=by kernel_rfl
  c37:=by kernel_rfl
  c46:=by kernel_rfl
  c51:=by kernel_rfl
  c53:=by kernel_rfl
  c75:=by kernel_rfl
  c76:=by kernel_rfl
  c80:=by kernel_rfl
  c85:=by kernel_rfl
  c127:=by kernel_rfl
  c143:=by kernel_rfl
  c145:=by kernel_rfl
  c167:=by kernel_rfl
  c168:=by kernel_rfl
  c171:=by kernel_rfl
  c173:=by kernel_rfl
  c175:=by kernel_rfl
  c210:=by kernel_rfl
  c212:=by kernel_rfl
  c213:=by kernel_rfl
  c232:=by kernel_rfl
  c233:=by kernel_rfl }
open Go.RowKit in
theorem Tryz.strconv_Atoi_ok(s:ByteArray)(hmax:s.size≤9223372036854775806)(v:Int)(h:Lib.atoiAll s.data.toList = .ok v)(w:World):
  Calls Tryz.prog 110 #[.string s] w fun e w'=>e = .returned (.tuple #[.int .i64 v,.nilIface])∧(w'=w∨∃t,w'=Lib.bytesWorld w 5 t):=Any.strconv_Atoi_ok Tryz.laysC172 s hmax v h w
def Tryz.lays145_ren:Go.Shelf.Ren:=⟨fun|145=>106|220=>130|219=>165|217=>185|225=>186|224=>187|267=>188|266=>198|314=>199|n=>n,fun|9=>9|4=>4|59=>143|3=>3|5=>5|46=>139|146=>192|51=>133|n=>n,fun|1=>0|n=>n⟩
theorem Tryz.lays145:Go.Proofs.Lays.n145 Tryz.prog Tryz.lays145_ren:={
  mixed:=by kernel_rfl
  f145:=Tryz.func106.trans (congrArg some (by kernel_rfl))
  f217:=Tryz.func185.trans (congrArg some (by kernel_rfl))
  f219:=Tryz.func165.trans (congrArg some (by kernel_rfl))
  f220:=Tryz.func130.trans (congrArg some (by kernel_rfl))
  f224:=Tryz.func187.trans (congrArg some (by kernel_rfl))
  f225:=Tryz.func186.trans (congrArg some (by kernel_rfl))
  f266:=Tryz.func198.trans (congrArg some (by kernel_rfl))
  f267:=Tryz.func188.trans (congrArg some (by kernel_rfl))
  f314:=Tryz.func199.trans (congrArg some (by kernel_rfl))
  t3:=Tryz.underlying3
  a3:=Tryz.isAgg3
  z3:=Tryz.sizeOf3
  v3:=Tryz.zeroValue3
  t4:=Tryz.underlying4
  a4:=Tryz.isAgg4
  z4:=Tryz.sizeOf4
  v4:=Tryz.zeroValue4
  t5:=Tryz.underlying5
  a5:=Tryz.isAgg5
  z5:=Tryz.sizeOf5
  v5:=Tryz.zeroValue5
  t9:=Tryz.underlying9
  a9:=Tryz.isAgg9
  z9:=Tryz.sizeOf9
  v9:=Tryz.zeroValue9
  t46:=Tryz.underlying139
  a46:=Tryz.isAgg139
  z46:=Tryz.sizeOf139
  v46:=Tryz.zeroValue139
  t51:=Tryz.underlying133
  a51:=Tryz.isAgg133
  z51:=Tryz.sizeOf133
  v51:=Tryz.zeroValue133
  t59:=Tryz.underlying143
  a59:=Tryz.isAgg143
  z59:=Tryz.sizeOf143
  v59:=Tryz.zeroValue143
  t146:=Tryz.underlying192
  a146:=Tryz.isAgg192
  z146:=Tryz.sizeOf192
  v146:=Tryz.zeroValue192
  g1:=by kernel_rfl }
open Go.RowKit Go.Lib in
theorem Tryz.strings_Cut(s sep:ByteArray)(m:Int)(w:World)(hs:s.size<4294967281)(hm:w.cell? ⟨0,0,none⟩=some (.int .i64 m)):
  Calls Tryz.prog 106 #[.string s,.string sep] w fun e w'=>e = .returned (.tuple #[.string ⟨(Lib.cut s.data.toList sep.data.toList).1.toArray⟩,.string ⟨(Lib.cut s.data.toList sep.data.toList).2.1.toArray⟩,.bool (Lib.cut s.data.toList sep.data.toList).2.2])∧∃n,w'=w.drewN n:=Any.strings_Cut Tryz.lays145 s sep m w hs hm
def Tryz.laysM219_ren:Go.Shelf.Ren:=⟨fun|219=>165|217=>185|225=>186|224=>187|267=>188|266=>198|314=>199|n=>n,fun|9=>9|3=>3|4=>4|5=>5|46=>139|146=>192|51=>133|n=>n,fun|1=>0|n=>n⟩
theorem Tryz.laysM219:Go.Proofs.LaysM.n219 Tryz.prog Tryz.laysM219_ren:={
  mixed:=by kernel_rfl
  f217:=Tryz.func185.trans (congrArg some (by kernel_rfl))
  f219:=Tryz.func165.trans (congrArg some (by kernel_rfl))
  f224:=Tryz.func187.trans (congrArg some (by kernel_rfl))
  f225:=Tryz.func186.trans (congrArg some (by kernel_rfl))
  f266:=Tryz.func198.trans (congrArg some (by kernel_rfl))
  f267:=Tryz.func188.trans (congrArg some (by kernel_rfl))
  f314:=Tryz.func199.trans (congrArg some (by kernel_rfl))
  t3:=Tryz.underlying3
  a3:=Tryz.isAgg3
  z3:=Tryz.sizeOf3
  v3:=Tryz.zeroValue3
  t4:=Tryz.underlying4
  a4:=Tryz.isAgg4
  z4:=Tryz.sizeOf4
  v4:=Tryz.zeroValue4
  t5:=Tryz.underlying5
  a5:=Tryz.isAgg5
  z5:=Tryz.sizeOf5
  v5:=Tryz.zeroValue5
  t9:=Tryz.underlying9
  a9:=Tryz.isAgg9
  z9:=Tryz.sizeOf9
  v9:=Tryz.zeroValue9
  t46:=Tryz.underlying139
  a46:=Tryz.isAgg139
  z46:=Tryz.sizeOf139
  v46:=Tryz.zeroValue139
  t51:=Tryz.underlying133
  a51:=Tryz.isAgg133
  z51:=Tryz.sizeOf133
  v51:=Tryz.zeroValue133
  t146:=Tryz.underlying192
  a146:=Tryz.isAgg192
  z146:=Tryz.sizeOf192
  v146:=Tryz.zeroValue192
  g1:=by kernel_rfl
  i3:=by kernel_rfl
  i4:=by kernel_rfl
  i5:=by kernel_rfl
  i9:=by kernel_rfl
  i46:=by kernel_rfl
  i51:=by kernel_rfl
  i146:=by kernel_rfl
  m1:=by kernel_rfl
  s1_3:=fun w h=>Go.Proofs.cell_of_shapedOpen_int (zero:=#[.int .i64 0]) (t:=3) h (of_decide_eq_true (by kernel_rfl)) (by kernel_rfl) rfl (by kernel_rfl) (by kernel_rfl) Tryz.underlying3 }
def Tryz.laysSlM6_f86_ren:Go.Shelf.Ren:=⟨fun|6=>86|8=>115|9=>114|19=>149|20=>150|21=>140|22=>141|23=>142|24=>143|25=>144|26=>145|27=>146|28=>147|29=>148|36=>175|31=>176|32=>177|37=>178|38=>179|39=>180|41=>195|n=>n,fun|27=>41|29=>9|3=>3|32=>139|26=>41|0=>0|44=>133|46=>102|4=>4|36=>176|35=>175|41=>98|5=>5|9=>9|53=>206|57=>210|63=>223|64=>224|n=>n,fun|n=>n⟩
theorem Tryz.laysSlM6_f86:Go.Proofs.SlLaysM.n6 Tryz.prog Tryz.laysSlM6_f86_ren:={
  mixed:=by kernel_rfl
  f6:=⟨Tryz.f86.name,by decide,Tryz.func86.trans (congrArg some (by kernel_rfl))⟩
  f8:=Tryz.func115.trans (congrArg some (by kernel_rfl))
  f9:=⟨Tryz.f114.name,by decide,Tryz.func114.trans (congrArg some (by kernel_rfl))⟩
  f19:=Tryz.func149.trans (congrArg some (by kernel_rfl))
  f20:=Tryz.func150.trans (congrArg some (by kernel_rfl))
  f21:=⟨Tryz.f140.name,by decide,Tryz.func140.trans (congrArg some (by kernel_rfl))⟩
  f22:=⟨Tryz.f141.name,by decide,Tryz.func141.trans (congrArg some (by kernel_rfl))⟩
  f23:=⟨Tryz.f142.name,by decide,Tryz.func142.trans (congrArg some (by kernel_rfl))⟩
  f24:=⟨Tryz.f143.name,by decide,Tryz.func143.trans (congrArg some (by kernel_rfl))⟩
  f25:=⟨Tryz.f144.name,by decide,Tryz.func144.trans (congrArg some (by kernel_rfl))⟩
  f26:=⟨Tryz.f145.name,by decide,Tryz.func145.trans (congrArg some (by kernel_rfl))⟩
  f27:=⟨Tryz.f146.name,by decide,Tryz.func146.trans (congrArg some (by kernel_rfl))⟩
  f28:=⟨Tryz.f147.name,by decide,Tryz.func147.trans (congrArg some (by kernel_rfl))⟩
  f29:=⟨Tryz.f148.name,by decide,Tryz.func148.trans (congrArg some (by kernel_rfl))⟩
  f31:=Tryz.func176.trans (congrArg some (by kernel_rfl))
  f32:=Tryz.func177.trans (congrArg some (by kernel_rfl))
  f36:=⟨Tryz.f175.name,by decide,Tryz.func175.trans (congrArg some (by kernel_rfl))⟩
  f37:=⟨Tryz.f178.name,by decide,Tryz.func178.trans (congrArg some (by kernel_rfl))⟩
  f38:=⟨Tryz.f179.name,by decide,Tryz.func179.trans (congrArg some (by kernel_rfl))⟩
  f39:=⟨Tryz.f180.name,by decide,Tryz.func180.trans (congrArg some (by kernel_rfl))⟩
  f41:=⟨Tryz.f195.name,by decide,Tryz.func195.trans (congrArg some (by kernel_rfl))⟩
  t0:=Tryz.underlying0
  a0:=Tryz.isAgg0
  z0:=Tryz.sizeOf0
  v0:=Tryz.zeroValue0
  t3:=Tryz.underlying3
  a3:=Tryz.isAgg3
  z3:=Tryz.sizeOf3
  v3:=Tryz.zeroValue3
  t4:=Tryz.underlying4
  a4:=Tryz.isAgg4
  z4:=Tryz.sizeOf4
  v4:=Tryz.zeroValue4
  t5:=Tryz.underlying5
  a5:=Tryz.isAgg5
  z5:=Tryz.sizeOf5
  v5:=Tryz.zeroValue5
  t9:=Tryz.underlying9
  a9:=Tryz.isAgg9
  z9:=Tryz.sizeOf9
  v9:=Tryz.zeroValue9
  t26:=Tryz.underlying41
  a26:=Tryz.isAgg41
  z26:=Tryz.sizeOf41
  v26:=Tryz.zeroValue41
  t27:=Tryz.underlying41
  a27:=Tryz.isAgg41
  z27:=Tryz.sizeOf41
  v27:=Tryz.zeroValue41
  t29:=Tryz.underlying9
  a29:=Tryz.isAgg9
  z29:=Tryz.sizeOf9
  v29:=Tryz.zeroValue9
  t32:=Tryz.underlying139
  a32:=Tryz.isAgg139
  z32:=Tryz.sizeOf139
  v32:=Tryz.zeroValue139
  t35:=Tryz.underlying175
  a35:=Tryz.isAgg175
  z35:=Tryz.sizeOf175
  v35:=Tryz.zeroValue175
  t36:=Tryz.underlying176
  a36:=Tryz.isAgg176
  z36:=Tryz.sizeOf176
  v36:=Tryz.zeroValue176
  t41:=Tryz.underlying98
  a41:=Tryz.isAgg98
  z41:=Tryz.sizeOf98
  v41:=Tryz.zeroValue98
  t44:=Tryz.underlying133
  a44:=Tryz.isAgg133
  z44:=Tryz.sizeOf133
  v44:=Tryz.zeroValue133
  t46:=Tryz.underlying102
  a46:=Tryz.isAgg102
  z46:=Tryz.sizeOf102
  v46:=Tryz.zeroValue102
  t53:=Tryz.underlying206
  a53:=Tryz.isAgg206
  z53:=Tryz.sizeOf206
  v53:=Tryz.zeroValue206
  t57:=Tryz.underlying210
  a57:=Tryz.isAgg210
  z57:=Tryz.sizeOf210
  v57:=Tryz.zeroValue210
  t63:=Tryz.underlying223
  a63:=Tryz.isAgg223
  z63:=Tryz.sizeOf223
  v63:=Tryz.zeroValue223
  t64:=Tryz.underlying224
  a64:=Tryz.isAgg224
  z64:=Tryz.sizeOf224
  v64:=Tryz.zeroValue224 }
open Go.Sort Go.RowKit in
theorem Tryz.slices_Sort_string(blk off cap:Nat)(ss:List (List UInt8))(w:World)(hH:Holds encStr w blk off ss.toArray)(hblk:blk<w.heap.size)(hsz:ss.length<4611686018427387904):
  Calls Tryz.prog 86 #[.slice (some ⟨blk,off,none⟩) ss.length cap] w fun e w'=>
   e = .returned (.tuple #[])∧∃n os,w'=grow (putRow encStr (Sort.ahead w n) blk off (ss.mergeSort fun x y=>decide (x≤y)).toArray) os:=AnyM.slices_Sort_string Tryz.laysSlM6_f86 blk off cap ss w hH hblk hsz
open Go.RowKit Go.Sort in
theorem Tryz.slices_Sort_string_none(p:Option Addr)(cap:Nat)(w:World):
  Calls Tryz.prog 86 #[.slice p 0 cap] w fun e w'=>e = .returned (.tuple #[])∧w'=w:=AnyM.slices_Sort_string_none Tryz.laysSlM6_f86 p cap w
end Go.Proofs
namespace Go.Proofs.YtmkomlbiaebddaaGreatDoor
open Go Go.RowKit
section
variable {P:Program}{ops:Array Oper}{n:Nat}{Φ:zgC}{w0:World}
def xfA(ops:Array Oper)(n t:Nat):Bool:=match ops[t]? with
 |some o=>(List.range n).all fun i=>(anc ops t (zcY o)).contains i
 |none=>true
end
def rmE(pos:Nat→Nat)(e:Edge):Edge:={ e with on:=pos e.on }
def rmO(pos:Nat→Nat)(o:Oper):Oper:={ o with after:=(o.after.toList.map (rmE pos)).toArray,guard:=o.guard.map fun p=>(pos p.1,p.2) }
structure PermS (ops ops':Array Oper) (pos inv:Nat→Nat):Prop where
 size:ops'.size=ops.size
 lt:∀i:Nat,i<ops.size→pos i<ops.size
 li:∀i,i<ops.size→inv (pos i)=i
 lt':∀j,j<ops.size→inv j<ops.size
 ri:∀j,j<ops.size→pos (inv j)=j
 at_:∀(i:Nat) (o:Oper),ops[i]? = some o→ops'[pos i]? = some (rmO pos o)
 edge:∀(i:Nat) (o:Oper),ops[i]? = some o→∀e∈o.after,e.on<ops.size
 guard:∀(i:Nat) (o:Oper),ops[i]? = some o→∀p,o.guard=some p→p.1<ops.size
section
variable {P:Program}{ops ops':Array Oper}{pos inv:Nat→Nat}{Q:Exit→Act→World→Prop}
theorem PermS.yield(S:PermS ops ops' pos inv){tmps:Array Value}{j:Nat}(hj:j<ops.size):yielded ops' tmps (pos j)=yielded ops tmps j:=by
 have h:=S.at_ j ops[j] (Array.getElem?_eq_getElem hj)
 unfold yielded
 rw[h,Array.getElem?_eq_getElem hj]
 rfl
theorem PermS.want(S:PermS ops ops' pos inv){i:Nat}{o:Oper}{tmps:Array Value}(ho:ops[i]? = some o):Region.wanted (rmO pos o) (yielded ops' tmps)=Region.wanted o (yielded ops tmps):=by
 cases hg:o.guard with
 |none=>
  rw[show Region.wanted o (yielded ops tmps)=true by simp only[Region.wanted,hg]]
  simp only[Region.wanted,rmO,hg,Option.map_none]
 |some p=>
  obtain⟨g,b⟩:=p
  have h:=S.yield (tmps:=tmps) (S.guard i o ho _ hg)
  simp only[Region.wanted,rmO,hg,Option.map_some]at h ⊢
  rw[h]
theorem PermS.ready(S:PermS ops ops' pos inv){L L':Array Bool}(hs:L.size=ops.size)(hs':L'.size=ops.size)(hL:∀i,i<ops.size→L'.getD (pos i) false=L.getD i false){i:Nat}(hi:i<ops.size):
  pos i∈Region.ready .any ops' L'↔i∈Region.ready .any ops L:=by
 have hp:=S.lt i hi
 have h1:L'.getD (pos i) true=L.getD i true:=by
  have:=hL i hi
  simp only[Array.getD,hs,hs',hi,hp,dif_pos]at this ⊢
  exact this
 constructor
 ·intro h
  obtain⟨g1,o',ho',hd⟩:=mem_ready.1 h
  have ho:=Array.getElem?_eq_getElem hi
  have e:=S.at_ i _ ho
  rw[e]at ho';cases ho'
  refine mem_ready.2 ⟨by rw[←h1];exact g1,_,ho,fun e he hb=>?_⟩
  have:=hd (rmE pos e) (List.mem_toArray.2 (List.mem_map.2 ⟨e,Array.mem_def.1 he,rfl⟩)) hb
  rw[←hL e.on (S.edge i _ ho e he)];exact this
 ·intro h
  obtain⟨g1,o,ho,hd⟩:=mem_ready.1 h
  refine mem_ready.2 ⟨by rw[h1];exact g1,_,S.at_ i o ho,fun e' he' hb=>?_⟩
  obtain⟨e,he,rfl⟩:=List.mem_map.1 (List.mem_toArray.1 he')
  have he:=Array.mem_def.2 he
  have:=hd e he hb
  show L'.getD (pos e.on) false=true
  rw[hL e.on (S.edge i o ho e he)];exact this
theorem yqY(S:PermS ops ops' pos inv):∀(m:Nat) (L L':Array Bool) (a:Act) (w:World),L.size=ops.size→L'.size=ops.size→(∀i,i<ops.size→L'.getD (pos i) false=L.getD i false)→wpAny P .any ops' Q m L' a w→wpAny P .any ops Q m L a w:=by
 have nil:∀{L L':Array Bool},L.size=ops.size→L'.size=ops.size→(∀i,i<ops.size→L'.getD (pos i) false=L.getD i false)→(Region.ready .any ops L=[]↔Region.ready .any ops' L'=[]):=fun {L L'} hs hs' hL=>by
  rw[List.eq_nil_iff_forall_not_mem,List.eq_nil_iff_forall_not_mem]
  constructor
  ·intro h j hj
   have hjn:j<ops.size:=by
    obtain⟨_,o,ho,_⟩:=mem_ready.1 hj
    have:=(Array.getElem?_eq_some_iff.1 ho).1
    rw[S.size]at this;exact this
   refine h (inv j) ((S.ready hs hs' hL (S.lt' j hjn)).1 ?_)
   rw[S.ri j hjn];exact hj
  ·intro h i hi
   have hin:i<ops.size:=by
    obtain⟨_,o,ho,_⟩:=mem_ready.1 hi
    exact(Array.getElem?_eq_some_iff.1 ho).1
   exact h (pos i) ((S.ready hs hs' hL hin).2 hi)
 intro m
 induction m with
 |zero=>
  intro L L' a w hs hs' hL h
  exact⟨(nil hs hs' hL).2 h.1,h.2⟩
 |succ m ih=>
  intro L L' a w hs hs' hL h
  refine⟨fun h0=>h.1 ((nil hs hs' hL).1 h0),fun i hi=>?_⟩
  obtain⟨_,o,ho,_⟩:=mem_ready.1 hi
  have hin:=(Array.getElem?_eq_some_iff.1 ho).1
  have h2:=h.2 (pos i) ((S.ready hs hs' hL hin).2 hi)
  have hL2:∀k,k<ops.size→(L'.setIfInBounds (pos i) true).getD (pos k) false=(L.setIfInBounds i true).getD k false:=fun k hk=>by
   by_cases hki:k=i
   ·subst hki
    simp[Array.getD,hs,hs',hin,S.lt k hin]
   ·have hpk:pos i≠pos k:=fun e=>hki (by rw[←S.li k hk,←S.li i hin,e])
    rw[getD_set_ne false hpk,getD_set_ne false (Ne.symm hki)]
    exact hL k hk
  have hK:∀a w,wpAny P .any ops' Q m (L'.setIfInBounds (pos i) true) a w→wpAny P .any ops Q m (L.setIfInBounds i true) a w:=fun a w=>ih _ _ a w (by simp[hs]) (by simp[hs']) hL2
  refine wpOp_mono hK ?_
  unfold wpOp at h2 ⊢
  rw[S.at_ i o ho]at h2
  rw[ho]
  simp only at h2 ⊢
  rw[S.want ho]at h2
  exact h2
theorem RegAny.perm{l l':List Oper}{a:Act}{w:World}(S:PermS l.toArray l'.toArray pos inv)(h:RegAny P l' Q a w):RegAny P l Q a w:=by
 unfold RegAny at h ⊢
 rw[S.size]at h
 refine yqY S _ _ _ _ _ (by simp) (by simp) (fun i hi=>?_) h
 rw[getD_replicate_false,getD_replicate_false]
end
inductive SK where
 |pu|la|rv|mn
abbrev Sch:=List (SK×Nat)
def dslk(ops:Array Oper)(j:Nat):Option Tmp:=match ops[j]? with
 |some o=>o.dst
 |none=>none
def zhI(ops:Array Oper)(i:Nat):List Nat:=match ops[i]? with
 |some o=>zcY o
 |none=>[]
def yqE(ops:Array Oper)(i:Nat):List Tmp:=match ops[i]? with
 |some o=>o.looksAt ops
 |none=>[]
def ancB(ops:Array Oper)(i j:Nat):Bool:=(anc ops ops.size (zhI ops i)).contains j
def pairB(ops:Array Oper)(late mains:List Nat)(i j:Nat):Bool:=match dslk ops j with
 |none=>true
 |some d=>(j==i||dslk ops i != some d)&&(!(yqE ops i).contains d||(j != i&&((ancB ops i j&&(!late.contains j||mains.contains i))||(mains.contains j&&ancB ops j i))))
def xbS(ops:Array Oper)(late mains:List Nat):Bool:=
 Region.noSelect ops&&(List.range ops.size).all (fun i=>(zhI ops i).all (fun j=>decide (j<i))&&(List.range ops.size).all (pairB ops late mains i))&&late.all (fun i=>!mains.contains i)
def zoX:Sch→Option Nat
 |(.rv,_)::s=>zoX s
 |(.mn,m)::_=>some m
 |_=>none
def schB(ops:Array Oper)(late mains:List Nat):Sch→List Nat→List Nat→Bool→Bool
 |[],D,U,_=>U.isEmpty&&(List.range ops.size).all D.contains
 |(.pu,i)::s,D,U,f=>!f&&decide (i<ops.size) && !D.contains i && !late.contains i && !mains.contains i&&(zhI ops i).all D.contains&&schB ops late mains s (i::D) U f
 |(.la,i)::s,D,U,f=>!f&&decide (i<ops.size) && !D.contains i&&late.contains i&&(zhI ops i).all D.contains&&schB ops late mains s (i::D) (i::U) f
 |(.rv,i)::s,D,U,_=>U.contains i&&(match zoX s with
  |some m=>ancB ops m i
  |none=>(List.range ops.size).all D.contains&&s.all fun p=>match p.1 with
   |.rv=>true
   |_=>false)&&schB ops late mains s D (U.filter fun u=>u != i) true
 |(.mn,i)::s,D,U,_=>decide (i<ops.size) && !D.contains i&&mains.contains i&&(zhI ops i).all D.contains&&(List.range ops.size).all (fun j=>D.contains j||j==i||(zhI ops j).any fun d=>!D.contains d) &&
   U.all (fun u=>match dslk ops u with
    |some d=>!(yqE ops i).contains d
    |none=>true)&&schB ops late mains s (i::D) U false
section
variable {P:Program}{ops:Array Oper}{Q:Exit→Act→World→Prop}{Dsc:Nat→Value→Nat→Obj→Prop}{late mains:List Nat}
def updD(Dsc:Nat→Value→Nat→Obj→Prop)(i:Nat)(D:Value→Nat→Obj→Prop):Nat→Value→Nat→Obj→Prop:=fun t=>if t=i then D else Dsc t
def updJ(Jp:Nat→World→Prop)(i:Nat)(J:World→Prop):Nat→World→Prop:=fun t=>if t=i then J else Jp t
def ymI(ops:Array Oper)(i:Nat)(Pn:List Nat):List Nat:=Pn.filter fun j=>!ancB ops i j
def wpS(P:Program)(ops:Array Oper)(Q:Exit→Act→World→Prop):Sch→(Dsc:Nat→Value→Nat→Obj→Prop)→(Jp:Nat→World→Prop)→(Pn:List Nat)→(G:World→Prop)→(Kp:Nat→Prop)→Act→Prop
 |[],_,_,_,G,_,b=>∀w,G w→Q .normal b w
 |(.pu,i)::s,Dsc,Jp,Pn,G,Kp,b=>∃(o:Oper) (c:Value) (J:World→Prop),ops[i]? = some o∧((Region.wanted o (yielded ops b.tmps)=true∧∀w,J w→(execOp b.eval o).run P w = .ok (.value c) w)∨(Region.wanted o (yielded ops b.tmps)=false∧c=undef))∧(∀w,G w→J w)∧wpS P ops Q s Dsc (updJ Jp i J) (i::Pn) G Kp (b.put o.dst c)
 |(.la,i)::s,Dsc,Jp,Pn,G,Kp,b=>∃(o:Oper) (D:Value→Nat→Obj→Prop),ops[i]? = some o∧Region.wanted o (yielded ops b.tmps)=true∧(∀w,∃v k x w',(execOp b.eval o).run P w = .ok (.value v) w'∧Ext w w'∧w.heap.size≤k∧w'.heap[k]? = some x∧D v k x)∧wpS P ops Q s (updD Dsc i D) Jp Pn G Kp b
 |(.rv,i)::s,Dsc,Jp,Pn,G,Kp,b=>∃o,ops[i]? = some o∧∀v k x,Dsc i v k x→¬Kp k→(∃w,G w∧w.heap[k]? = some x)→∃(G':World→Prop) (Kp':Nat→Prop),(∀w,G w→w.heap[k]? = some x→G' w)∧(∀j∈Pn,∀w,G' w→Jp j w)∧(∀u u',G' u→Ext u u'→G' u')∧(∀u,G' u→∀k,Kp' k→k<u.heap.size)∧(∀b,Kp' b→Kp b∨b=k)∧wpS P ops Q s Dsc Jp Pn G' Kp' (b.put o.dst v)
 |(.mn,i)::s,Dsc,Jp,Pn,G,Kp,b=>∃o,ops[i]? = some o∧∀w,G w→(Region.wanted o (yielded ops b.tmps)=true∧outcome P (fun v w'=>∃(G':World→Prop) (Kp':Nat→Prop),(∀j∈ymI ops i Pn,∀u,G' u→Jp j u)∧(∀u u',G' u→Ext u u'→G' u')∧(∀u,G' u→∀k,Kp' k→k<u.heap.size)∧G' w'∧(∀k,Kp' k→Kp k∨w.heap.size≤k)∧(∀k,k<w.heap.size→¬Kp k→w'.heap[k]? = w.heap[k]?)∧wpS P ops Q s Dsc Jp (ymI ops i Pn) G' Kp' (b.put o.dst v)) ((execOp b.eval o).run P w))∨(Region.wanted o (yielded ops b.tmps)=false∧wpS P ops Q s Dsc Jp (ymI ops i Pn) G Kp (b.put o.dst undef))
def OpenAt(late mains:List Nat)(D U:List Nat)(L:Array Bool)(i:Nat):Prop:=i∈D∧((i∈U∧L.getD i false=true)∨(i∉mains∧i∉late∧L.getD i false=false))
structure SInv (P:Program) (ops:Array Oper) (Dsc:Nat→Value→Nat→Obj→Prop) (late mains:List Nat) (Jp:Nat→World→Prop) (Pn:List Nat) (G:World→Prop) (Kp:Nat→Prop) (D U:List Nat) (L:Array Bool) (a b:Act) (w:World) (V:Nat→Value) (bk:Nat→Nat) (ob:Nat→Obj):Prop where
 size:L.size=ops.size
 sub:∀i,L.getD i false=true→i∈D
 lt:∀i∈D,i<ops.size
 dcl:∀i∈D,∀j∈zhI ops i,j∈D
 lcl:∀i,L.getD i false=true→∀j∈zhI ops i,L.getD j false=true
 mdone:∀i∈D,i∈mains→L.getD i false=true
 udone:∀i∈D,i∈late→i∉U→L.getD i false=true
 uD:∀i∈U,i∈D∧i∈late
 pp:∀i∈D,i∉mains→i∉late→L.getD i false=false→∀o,ops[i]? = some o→∃c,((Region.wanted o (yielded ops b.tmps)=true∧∀w,Jp i w→(execOp b.eval o).run P w = .ok (.value c) w)∨(Region.wanted o (yielded ops b.tmps)=false∧c=undef))∧∀s,o.dst=some s→b.tmps[s]? = (a.tmps[s]?).map fun _=>c
 lu:∀i∈U,L.getD i false=false→∀o,ops[i]? = some o→Region.wanted o (yielded ops b.tmps)=true∧∀w,∃v k x w',(execOp b.eval o).run P w = .ok (.value v) w'∧Ext w w'∧w.heap.size≤k∧w'.heap[k]? = some x∧Dsc i v k x
 lf:∀i∈U,L.getD i false=true→Dsc i (V i) (bk i) (ob i)∧w.heap[bk i]? = some (ob i)∧¬Kp (bk i)∧∀o s,ops[i]? = some o→o.dst=some s→a.tmps[s]? = (b.tmps[s]?).map fun _=>V i
 lj:∀i∈U,∀j∈U,L.getD i false=true→L.getD j false=true→bk i=bk j→i=j
 other:∀s,(∀i o,OpenAt late mains D U L i→ops[i]? = some o→o.dst≠some s)→a.tmps[s]? = b.tmps[s]?
 defers:a.defers=b.defers
 gw:G w
 pn:∀i∈D,i∉mains→i∉late→L.getD i false=false→i∈Pn
 gj:∀j∈Pn,∀u,G u→Jp j u
 gx:∀u u',G u→Ext u u'→G u'
 gk:∀u,G u→∀k,Kp k→k<u.heap.size
structure zxF (ops:Array Oper) (late mains:List Nat):Prop where
 sel:Region.noSelect ops=true
 deps:∀i,i<ops.size→∀j∈zhI ops i,j<i
 dst:∀(i j:Nat) (oi oj:Oper) (d:Tmp),ops[i]? = some oi→ops[j]? = some oj→oj.dst=some d→j≠i→oi.dst≠some d
 look:∀(i j:Nat) (oi oj:Oper) (d:Tmp),ops[i]? = some oi→ops[j]? = some oj→oj.dst=some d→d∈oi.looksAt ops→j≠i∧((ancB ops i j=true∧(j∈late→i∈mains))∨(j∈mains∧ancB ops j i=true))
 dis:∀i∈late,i∉mains
theorem stat_of(h:xbS ops late mains=true):zxF ops late mains:=by
 unfold xbS at h
 simp only[Bool.and_eq_true,List.all_eq_true,List.mem_range,decide_eq_true_eq]at h
 obtain⟨⟨h1,h2⟩,h3⟩:=h
 have hsz:∀{i:Nat} {o:Oper},ops[i]? = some o→i<ops.size:=fun h=>(Array.getElem?_eq_some_iff.1 h).1
 refine⟨h1,fun i hi=>(h2 i hi).1,fun i j oi oj d hi hj hd hne=>?_,fun i j oi oj d hi hj hd hl=>?_,fun i hi hm=>?_⟩
 ·have:=(h2 i (hsz hi)).2 j (hsz hj)
  unfold pairB dslk at this
  simp only[hi,hj,hd,Bool.and_eq_true,Bool.or_eq_true,beq_iff_eq,hne,false_or,bne_iff_ne]at this
  exact this.1
 ·have:=(h2 i (hsz hi)).2 j (hsz hj)
  unfold pairB dslk yqE at this
  simp only[hi,hj,hd,Bool.and_eq_true,Bool.or_eq_true,Bool.not_eq_true',List.contains_eq_mem,decide_eq_false_iff_not,bne_iff_ne,decide_eq_true_eq]at this
  rcases this.2 with h|⟨h,h4⟩
  ·exact absurd hl h
  ·refine⟨h,h4.imp (fun h=>⟨h.1,fun hh=>h.2.resolve_left (fun k=>k hh)⟩) id⟩
 ·have:=h3 i hi
  simp only[Bool.not_eq_true',List.contains_eq_mem,decide_eq_false_iff_not]at this
  exact this hm
theorem zwF{i:Nat}{o:Oper}(h:ops[i]? = some o):zhI ops i=zcY o:=by unfold zhI;rw[h]
theorem zuB{L:Array Bool}(hl:∀i,L.getD i false=true→∀j∈zhI ops i,L.getD j false=true){i j:Nat}(hd:∀k∈zhI ops i,L.getD k false=true)(h:ancB ops i j=true):L.getD j false=true:=by
 unfold ancB at h
 simp only[List.contains_eq_mem,decide_eq_true_eq]at h
 exact yeZ (p:=fun q=>L.getD q false=true) (N:=ops.size) (fun q oq _ hq hoq r hr=>hl q hq r (by rw[zwF hoq];exact hr)) ops.size _ (Nat.le_refl _) hd j h
theorem anc_D{D:List Nat}(hl:∀i∈D,∀j∈zhI ops i,j∈D){i j:Nat}(hi:i∈D)(h:ancB ops i j=true):j∈D:=by
 unfold ancB at h
 simp only[List.contains_eq_mem,decide_eq_true_eq]at h
 exact yeZ (p:=fun q=>q∈D) (N:=ops.size) (fun q oq _ hq hoq r hr=>hl q hq r (by rw[zwF hoq];exact hr)) ops.size _ (Nat.le_refl _) (hl i hi) j h
theorem SInv.agree{Jp:Nat→World→Prop}{Pn:List Nat}{G:World→Prop}{Kp:Nat→Prop}{D U:List Nat}{L:Array Bool}{a b:Act}{w:World}{V:Nat→Value}{bk:Nat→Nat}{ob:Nat→Obj}(I:SInv P ops Dsc late mains Jp Pn G Kp D U L a b w V bk ob)(S:zxF ops late mains){i:Nat}{o:Oper}(ho:ops[i]? = some o)
  (hd:∀k∈zhI ops i,L.getD k false=true) (hu:i∈mains→∀u∈U,∀d,dslk ops u=some d→d∉o.looksAt ops):∀t∈o.looksAt ops,a.tmps[t]? = b.tmps[t]?:=fun t ht=>I.other t fun j oj hj hoj hdj=>by
 obtain⟨hne,h⟩:=S.look i j o oj t ho hoj hdj ht
 have hlate:j∈U→i∈mains→False:=fun hjU him=>hu him j hjU t (by unfold dslk;rw[hoj];exact hdj) ht
 rcases h with⟨h1,h2⟩|⟨h1,_⟩
 ·have hl:=zuB I.lcl hd h1
  rcases hj.2 with⟨hjU,_⟩|⟨_,_,h3⟩
  ·exact hlate hjU (h2 (I.uD j hjU).2)
  ·rw[hl]at h3;cases h3
 ·rcases hj.2 with⟨hjU,_⟩|⟨h3,_⟩
  ·exact S.dis j (I.uD j hjU).2 h1
  ·exact h3 h1
theorem SInv.ran{Jp:Nat→World→Prop}{Pn:List Nat}{G:World→Prop}{Kp:Nat→Prop}{D U:List Nat}{L:Array Bool}{a b:Act}{w:World}{V:Nat→Value}{bk:Nat→Nat}{ob:Nat→Obj}(I:SInv P ops Dsc late mains Jp Pn G Kp D U L a b w V bk ob)(S:zxF ops late mains){i:Nat}{o:Oper}(ho:ops[i]? = some o)
  (hd:∀k∈zhI ops i,L.getD k false=true) (hu:i∈mains→∀u∈U,∀d,dslk ops u=some d→d∉o.looksAt ops):execOp a.eval o=execOp b.eval o∧Region.wanted o (yielded ops a.tmps)=Region.wanted o (yielded ops b.tmps):=
 zsW (fun cs c=>Region.noSelect_spec S.sel i o cs c ho) (I.agree S ho hd hu)
theorem zeM{L:Array Bool}{j:Nat}(hj:j<L.size)(k:Nat):(L.setIfInBounds j true).getD k false=true↔L.getD k false=true∨k=j:=by
 by_cases hkj:k=j
 ·subst hkj;simp[hj]
 ·rw[getD_set_ne false (Ne.symm hkj)];simp[hkj]
theorem zwD{L:Array Bool}{j:Nat}(hj:j<L.size){k:Nat}(h:(L.setIfInBounds j true).getD k false=false):L.getD k false=false∧k≠j:=by
 have:=mt (zeM hj k).2 (by rw[h];simp)
 simp only[not_or]at this
 exact⟨by simpa using this.1,this.2⟩
section
variable {Jp:Nat→World→Prop}{Pn:List Nat}{G:World→Prop}{Kp:Nat→Prop}{D U:List Nat}{L:Array Bool}{a b:Act}{w:World}{V:Nat→Value}{bk:Nat→Nat}{ob:Nat→Obj}{i:Nat}{o:Oper}
theorem zrL(S:zxF ops late mains){j:Nat}{oj:Oper}(hoj:ops[j]? = some oj){v:Value}(h:∀d,o.dst=some d→d∉oj.looksAt ops):execOp (b.put o.dst v).eval oj=execOp b.eval oj∧Region.wanted oj (yielded ops (b.put o.dst v).tmps)=Region.wanted oj (yielded ops b.tmps):=
 zsW (fun cs c=>Region.noSelect_spec S.sel j oj cs c hoj) fun t ht=>by
  rw[zcL,if_neg fun e=>h t e ht]
theorem SInv.pu(I:SInv P ops Dsc late mains Jp Pn G Kp D U L a b w V bk ob)(S:zxF ops late mains)(ho:ops[i]? = some o)(hi:i∉D)(h1:i∉late)(h2:i∉mains)(hd:∀k∈zhI ops i,k∈D){c:Value}{J:World→Prop}
  (hc:(Region.wanted o (yielded ops b.tmps)=true∧∀w,J w→(execOp b.eval o).run P w = .ok (.value c) w)∨(Region.wanted o (yielded ops b.tmps)=false∧c=undef)) (hJ:∀w,G w→J w):SInv P ops Dsc late mains (updJ Jp i J) (i::Pn) G Kp (i::D) U L a (b.put o.dst c) w V bk ob:=by
 have hsz:i<ops.size:=(Array.getElem?_eq_some_iff.1 ho).1
 have hnl:L.getD i false=false:=by
  cases h:L.getD i false with
  |false=>rfl
  |true=>exact absurd (I.sub i h) hi
 have mem:∀{k},k∈i::D→k≠i→k∈D:=fun h hn=>(List.mem_cons.1 h).resolve_left hn
 have far:∀{j oj},j∈D→ops[j]? = some oj→∀d,o.dst=some d→d∉oj.looksAt ops:=fun {j oj} hj hoj d hdd hl=>by
  obtain⟨_,h|⟨h,_⟩⟩:=S.look j i oj o d hoj ho hdd hl
  ·exact hi (anc_D I.dcl hj h.1)
  ·exact h2 h
 refine { I with sub:=fun k hk=>List.mem_cons_of_mem _ (I.sub k hk),lt:=fun k hk=>?_,dcl:=fun k hk j hj=>?_,mdone:=fun k hk hm=>?_,udone:=fun k hk hm hu=>?_,uD:=fun k hk=>⟨List.mem_cons_of_mem _ (I.uD k hk).1,(I.uD k hk).2⟩,pp:=fun k hk hm hl hn ok hok=>?_,lu:=fun k hk hn ok hok=>?_,lf:=fun k hk hl=>?_,other:=fun s hs=>?_,defers:=?_,pn:=fun k hk hm hl hn=>?_,gj:=fun k hk u hu=>?_ }
 ·rcases List.mem_cons.1 hk with rfl|hk
  ·exact hsz
  ·exact I.lt k hk
 ·rcases List.mem_cons.1 hk with rfl|hk
  ·exact List.mem_cons_of_mem _ (hd j hj)
  ·exact List.mem_cons_of_mem _ (I.dcl k hk j hj)
 ·exact I.mdone k (mem hk fun e=>h2 (e▸hm)) hm
 ·exact I.udone k (mem hk fun e=>h1 (e▸hm)) hm hu
 ·by_cases e:k=i
  ·subst e
   have:ok=o:=osi (hok.symm.trans ho)
   subst this
   have hself:∀d,ok.dst=some d→d∉ok.looksAt ops:=fun d hdd hll=>(S.look k k ok ok d ho ho hdd hll).1 rfl
   obtain⟨e1,e2⟩:=zrL (b:=b) (v:=c) S ho hself
   refine⟨c,by rw[e1,e2,show updJ Jp k J k=J by unfold updJ;rw[if_pos rfl]];exact hc,fun s hs=>?_⟩
   rw[zcL,if_pos hs]
   rw[←I.other s fun j oj hj hoj hdj=>?_]
   by_cases hji:j=k
   ·subst hji;exact absurd hj.1 hi
   ·exact S.dst j k oj ok s hoj ho hs (Ne.symm hji) hdj
  ·obtain⟨c',g1,g2⟩:=I.pp k (mem hk e) hm hl hn ok hok
   obtain⟨e1,e2⟩:=zrL (b:=b) (v:=c) S hok (far (mem hk e) hok)
   refine⟨c',by rw[e1,e2,show updJ Jp i J k=Jp k by unfold updJ;rw[if_neg e]];exact g1,fun s hs=>?_⟩
   rw[zcL,if_neg (S.dst i k o ok s ho hok hs e)]
   exact g2 s hs
 ·obtain⟨e1,e2⟩:=zrL (b:=b) (v:=c) S hok (far (I.uD k hk).1 hok)
  rw[e1,e2]
  exact I.lu k hk hn ok hok
 ·obtain⟨g1,g2,g3,g4⟩:=I.lf k hk hl
  refine⟨g1,g2,g3,fun ok s hok hs=>?_⟩
  have e:k≠i:=fun e=>hi (e▸(I.uD k hk).1)
  rw[zcL,if_neg (S.dst i k o ok s ho hok hs e)]
  exact g4 ok s hok hs
 ·by_cases hds:o.dst=some s
  ·exact absurd hds (hs i o ⟨List.mem_cons_self,.inr ⟨h2,h1,hnl⟩⟩ ho)
  ·rw[zcL,if_neg hds]
   exact I.other s fun j oj hj hoj=>hs j oj ⟨List.mem_cons_of_mem _ hj.1,hj.2⟩ hoj
 ·rw[I.defers];cases o.dst<;>rfl
 ·by_cases e:k=i
  ·subst e;exact List.mem_cons_self
  ·exact List.mem_cons_of_mem _ (I.pn k (mem hk e) hm hl hn)
 ·by_cases e:k=i
  ·subst e;rw[show updJ Jp k J k=J by unfold updJ;rw[if_pos rfl]];exact hJ u hu
  ·rw[show updJ Jp i J k=Jp k by unfold updJ;rw[if_neg e]]
   exact I.gj k ((List.mem_cons.1 hk).resolve_left e) u hu
theorem SInv.la(I:SInv P ops Dsc late mains Jp Pn G Kp D U L a b w V bk ob)(ho:ops[i]? = some o)(hi:i∉D)(h1:i∈late)(h2:i∉mains)(hd:∀k∈zhI ops i,k∈D)
  {Di:Value→Nat→Obj→Prop} (hc:Region.wanted o (yielded ops b.tmps)=true∧∀w,∃v k x w',(execOp b.eval o).run P w = .ok (.value v) w'∧Ext w w'∧w.heap.size≤k∧w'.heap[k]? = some x∧Di v k x):SInv P ops (updD Dsc i Di) late mains Jp Pn G Kp (i::D) (i::U) L a b w V bk ob:=by
 have oth:∀{k},k∈U→updD Dsc i Di k=Dsc k:=fun {k} hk=>by
  have:k≠i:=fun e=>hi (e▸(I.uD k hk).1)
  unfold updD;rw[if_neg this]
 have hsz:i<ops.size:=(Array.getElem?_eq_some_iff.1 ho).1
 have hnl:L.getD i false=false:=by
  cases h:L.getD i false with
  |false=>rfl
  |true=>exact absurd (I.sub i h) hi
 have hlist:∀{k},k∈i::U→L.getD k false=true→k∈U:=fun {k} hk hl=>by
  rcases List.mem_cons.1 hk with rfl|hk
  ·rw[hnl]at hl;cases hl
  ·exact hk
 refine { I with sub:=fun k hk=>List.mem_cons_of_mem _ (I.sub k hk),lt:=fun k hk=>?_,dcl:=fun k hk j hj=>?_,mdone:=fun k hk hm=>?_,udone:=fun k hk hm hu=>?_,uD:=fun k hk=>?_,pp:=fun k hk hm hl hn ok hok=>?_,lu:=fun k hk hn ok hok=>?_,lf:=fun k hk hl=>(by rw[oth (hlist hk hl)];exact I.lf k (hlist hk hl) hl),lj:=fun k hk j hj g1 g2=>I.lj k (hlist hk g1) j (hlist hj g2) g1 g2,other:=fun s hs=>?_,pn:=fun k hk hm hl hn=>?_ }
 ·rcases List.mem_cons.1 hk with rfl|hk
  ·exact hsz
  ·exact I.lt k hk
 ·rcases List.mem_cons.1 hk with rfl|hk
  ·exact List.mem_cons_of_mem _ (hd j hj)
  ·exact List.mem_cons_of_mem _ (I.dcl k hk j hj)
 ·rcases List.mem_cons.1 hk with rfl|hk
  ·exact absurd hm h2
  ·exact I.mdone k hk hm
 ·rcases List.mem_cons.1 hk with rfl|hk
  ·exact absurd List.mem_cons_self hu
  ·exact I.udone k hk hm fun h=>hu (List.mem_cons_of_mem _ h)
 ·rcases List.mem_cons.1 hk with rfl|hk
  ·exact⟨List.mem_cons_self,h1⟩
  ·exact⟨List.mem_cons_of_mem _ (I.uD k hk).1,(I.uD k hk).2⟩
 ·rcases List.mem_cons.1 hk with rfl|hk
  ·exact absurd h1 hl
  ·exact I.pp k hk hm hl hn ok hok
 ·rcases List.mem_cons.1 hk with rfl|hk
  ·have:ok=o:=osi (hok.symm.trans ho)
   subst this
   rw[show updD Dsc k Di k=Di by unfold updD;rw[if_pos rfl]]
   exact hc
  ·rw[oth hk];exact I.lu k hk hn ok hok
 ·refine I.other s fun j oj hj hoj=>hs j oj ⟨List.mem_cons_of_mem _ hj.1,hj.2.imp (fun h=>⟨List.mem_cons_of_mem _ h.1,h.2⟩) id⟩ hoj
 ·rcases List.mem_cons.1 hk with rfl|hk
  ·exact absurd h1 hl
  ·exact I.pn k hk hm hl hn
theorem SInv.nolook(_I:SInv P ops Dsc late mains Jp Pn G Kp D U L a b w V bk ob)(S:zxF ops late mains)(ho:ops[i]? = some o)(hi:i∈late){k:Nat}{ok:Oper}(hok:ops[k]? = some ok)(hk:k∉mains):∀d,o.dst=some d→d∉ok.looksAt ops:=fun d hd hl=>by
 obtain⟨_,h|h⟩:=S.look k i ok o d hok ho hd hl
 ·exact hk (h.2 hi)
 ·exact S.dis i hi h.1
theorem SInv.exP(I:SInv P ops Dsc late mains Jp Pn G Kp D U L a b w V bk ob)(S:zxF ops late mains)(ho:ops[i]? = some o)(hi:i∈D)(h1:i∉late)(hd:∀k∈zhI ops i,L.getD k false=true){c:Value}
  (hc:∀s,o.dst=some s→b.tmps[s]? = (a.tmps[s]?).map fun _=>c):SInv P ops Dsc late mains Jp Pn G Kp D U (L.setIfInBounds i true) (a.put o.dst c) b w V bk ob:=by
 have hsz:i<L.size:=by rw[I.size];exact(Array.getElem?_eq_some_iff.1 ho).1
 have up:∀{k},L.getD k false=true→(L.setIfInBounds i true).getD k false=true:=fun h=>(zeM hsz _).2 (.inl h)
 have dn:∀{k},k∈U→(L.setIfInBounds i true).getD k false=true→L.getD k false=true:=fun {k} hk h=>((zeM hsz _).1 h).resolve_right fun e=>h1 (e▸(I.uD k hk).2)
 refine { I with size:=by simp[I.size],sub:=fun k hk=>?_,lcl:=fun k hk j hj=>?_,mdone:=fun k hk hm=>up (I.mdone k hk hm),udone:=fun k hk hm hu=>up (I.udone k hk hm hu),pp:=fun k hk hm hl hn ok hok=>?_,lu:=fun k hk hn ok hok=>I.lu k hk (zwD hsz hn).1 ok hok,lf:=fun k hk hl=>?_,lj:=fun k hk j hj g1 g2=>I.lj k hk j hj (dn hk g1) (dn hj g2),other:=fun s hs=>?_,defers:=?_,pn:=fun k hk hm hl hn=>I.pn k hk hm hl (zwD hsz hn).1 }
 ·rcases(zeM hsz k).1 hk with h|rfl
  ·exact I.sub k h
  ·exact hi
 ·rcases(zeM hsz k).1 hk with h|rfl
  ·exact up (I.lcl k h j hj)
  ·exact up (hd j hj)
 ·obtain⟨hn,hne⟩:=zwD hsz hn
  obtain⟨c',g1,g2⟩:=I.pp k hk hm hl hn ok hok
  refine⟨c',g1,fun s hs=>?_⟩
  rw[zcL,if_neg (S.dst i k o ok s ho hok hs hne)]
  exact g2 s hs
 ·obtain⟨g1,g2,g3,g4⟩:=I.lf k hk (dn hk hl)
  refine⟨g1,g2,g3,fun ok s hok hs=>?_⟩
  rw[zcL,if_neg (S.dst i k o ok s ho hok hs fun e=>h1 (e▸(I.uD k hk).2))]
  exact g4 ok s hok hs
 ·rw[zcL]
  by_cases hds:o.dst=some s
  ·rw[if_pos hds];exact(hc s hds).symm
  ·rw[if_neg hds]
   refine I.other s fun j oj hj hoj hdj=>?_
   by_cases hji:j=i
   ·subst hji;exact hds (by rw[←osi (hoj.symm.trans ho)];exact hdj)
   ·refine hs j oj ⟨hj.1,hj.2.imp (fun h=>⟨h.1,up h.2⟩) fun h=>⟨h.1,h.2.1,?_⟩⟩ hoj hdj
    rw[getD_set_ne false (Ne.symm hji)];exact h.2.2
 ·rw[←I.defers];cases o.dst<;>rfl
theorem SInv.exL(I:SInv P ops Dsc late mains Jp Pn G Kp D U L a b w V bk ob)(S:zxF ops late mains)(ho:ops[i]? = some o)(hi:i∈U)(hn:L.getD i false=false)(hd:∀k∈zhI ops i,L.getD k false=true){v:Value}{k:Nat}{x:Obj}{w':World}
  (hx:Ext w w') (hk:w.heap.size≤k) (hh:w'.heap[k]? = some x) (hD:Dsc i v k x):SInv P ops Dsc late mains Jp Pn G Kp D U (L.setIfInBounds i true) (a.put o.dst v) b w' (fun t=>if t=i then v else V t) (fun t=>if t=i then k else bk t) (fun t=>if t=i then x else ob t):=by
 have hsz:i<L.size:=by rw[I.size];exact(Array.getElem?_eq_some_iff.1 ho).1
 have hil:=(I.uD i hi).2
 have up:∀{k},L.getD k false=true→(L.setIfInBounds i true).getD k false=true:=fun h=>(zeM hsz _).2 (.inl h)
 have lt:∀{t},t∈U→L.getD t false=true→bk t<w.heap.size:=fun {t} ht hl=>(Array.getElem?_eq_some_iff.1 (I.lf t ht hl).2.1).1
 refine { I with size:=by simp[I.size],sub:=fun k hk=>?_,lcl:=fun k hk j hj=>?_,mdone:=fun k hk hm=>up (I.mdone k hk hm),udone:=fun k hk hm hu=>up (I.udone k hk hm hu),pp:=fun t ht hm hl hn ok hok=>?_,lu:=fun k hk hn ok hok=>I.lu k hk (zwD hsz hn).1 ok hok,lf:=fun t ht hl=>?_,lj:=fun t ht j hj g1 g2 e=>?_,other:=fun s hs=>?_,defers:=?_,gw:=I.gx _ _ I.gw hx,pn:=fun k hk hm hl hn=>I.pn k hk hm hl (zwD hsz hn).1 }
 ·rcases(zeM hsz k).1 hk with h|rfl
  ·exact I.sub k h
  ·exact(I.uD k hi).1
 ·rcases(zeM hsz k).1 hk with h|rfl
  ·exact up (I.lcl k h j hj)
  ·exact up (hd j hj)
 ·obtain⟨hn,hne⟩:=zwD hsz hn
  obtain⟨c',g1,g2⟩:=I.pp t ht hm hl hn ok hok
  refine⟨c',g1,fun s hs=>?_⟩
  rw[zcL,if_neg (S.dst i t o ok s ho hok hs hne)]
  exact g2 s hs
 ·by_cases e:t=i
  ·subst e
   simp only[if_true]
   refine⟨hD,hh,fun hK=>absurd (I.gk w I.gw k hK) (by omega),fun ok s hok hs=>?_⟩
   have:ok=o:=osi (hok.symm.trans ho)
   subst this
   rw[zcL,if_pos hs,I.other s fun j oj hj hoj hdj=>?_]
   by_cases hjt:j=t
   ·subst hjt
    rcases hj.2 with⟨_,h⟩|⟨_,h,_⟩
    ·rw[hn]at h;cases h
    ·exact h hil
   ·exact S.dst j t oj ok s hoj hok hs (Ne.symm hjt) hdj
  ·simp only[if_neg e]
   have hl':L.getD t false=true:=((zeM hsz _).1 hl).resolve_right e
   obtain⟨g1,g2,g3,g4⟩:=I.lf t ht hl'
   refine⟨g1,by rw[hx.block _ (lt ht hl')];exact g2,g3,fun ok s hok hs=>?_⟩
   rw[zcL,if_neg (S.dst i t o ok s ho hok hs e)]
   exact g4 ok s hok hs
 ·by_cases e1:t=i
  ·by_cases e2:j=i
   ·rw[e1,e2]
   ·have hl':L.getD j false=true:=((zeM hsz _).1 g2).resolve_right e2
    have:=lt hj hl'
    simp only[e1,if_true,if_neg e2]at e
    omega
  ·have hl':L.getD t false=true:=((zeM hsz _).1 g1).resolve_right e1
   by_cases e2:j=i
   ·have:=lt ht hl'
    simp only[e2,if_true,if_neg e1]at e
    omega
   ·simp only[if_neg e1,if_neg e2]at e
    exact I.lj t ht j hj hl' (((zeM hsz _).1 g2).resolve_right e2) e
 ·have hds:o.dst≠some s:=hs i o ⟨(I.uD i hi).1,.inl ⟨hi,(zeM hsz i).2 (.inr rfl)⟩⟩ ho
  rw[zcL,if_neg hds]
  refine I.other s fun j oj hj hoj hdj=>?_
  by_cases hji:j=i
  ·subst hji;exact hds (by rw[←osi (hoj.symm.trans ho)];exact hdj)
  ·refine hs j oj ⟨hj.1,hj.2.imp (fun h=>⟨h.1,up h.2⟩) fun h=>⟨h.1,h.2.1,?_⟩⟩ hoj hdj
   rw[getD_set_ne false (Ne.symm hji)];exact h.2.2
 ·rw[←I.defers];cases o.dst<;>rfl
theorem SInv.rv(I:SInv P ops Dsc late mains Jp Pn G Kp D U L a b w V bk ob)(S:zxF ops late mains)(ho:ops[i]? = some o)(hi:i∈U)(hl:L.getD i false=true){G':World→Prop}{Kp':Nat→Prop}
  (g1:∀w,G w→w.heap[bk i]? = some (ob i)→G' w) (g2:∀j∈Pn,∀w,G' w→Jp j w) (g3:∀u u',G' u→Ext u u'→G' u') (g4:∀u,G' u→∀k,Kp' k→k<u.heap.size) (g5:∀c,Kp' c→Kp c∨c=bk i):
  SInv P ops Dsc late mains Jp Pn G' Kp' D (U.filter fun u=>u != i) L a (b.put o.dst (V i)) w V bk ob:=by
 have mem:∀{k},k∈U.filter (fun u=>u != i)→k∈U∧k≠i:=fun h=>by simpa using List.mem_filter.1 h
 have hil:=(I.uD i hi).2
 refine { I with udone:=fun k hk hm hu=>?_,uD:=fun k hk=>I.uD k (mem hk).1,pp:=fun k hk hm hlk hn ok hok=>?_,lu:=fun k hk hn ok hok=>?_,lf:=fun k hk hlk=>?_,lj:=fun k hk j hj=>I.lj k (mem hk).1 j (mem hj).1,other:=fun s hs=>?_,defers:=?_,gw:=g1 w I.gw (I.lf i hi hl).2.1,gj:=g2,gx:=g3,gk:=g4 }
 ·by_cases e:k=i
  ·subst e;exact hl
  ·exact I.udone k hk hm fun h=>hu (List.mem_filter.2 ⟨h,by simp[e]⟩)
 ·have hne:k≠i:=fun e=>hlk (e▸hil)
  obtain⟨c',h1,h2⟩:=I.pp k hk hm hlk hn ok hok
  obtain⟨e1,e2⟩:=zrL (b:=b) (v:=V i) S hok (I.nolook S ho hil hok hm)
  refine⟨c',by rw[e1,e2];exact h1,fun s hs=>?_⟩
  rw[zcL,if_neg (S.dst i k o ok s ho hok hs hne)]
  exact h2 s hs
 ·obtain⟨hk,hne⟩:=mem hk
  obtain⟨e1,e2⟩:=zrL (b:=b) (v:=V i) S hok (I.nolook S ho hil hok (S.dis k (I.uD k hk).2))
  rw[e1,e2]
  exact I.lu k hk hn ok hok
 ·obtain⟨hk,hne⟩:=mem hk
  obtain⟨h1,h2,h3,h4⟩:=I.lf k hk hlk
  refine⟨h1,h2,fun hK=>?_,fun ok s hok hs=>?_⟩
  ·rcases g5 _ hK with h|h
   ·exact h3 h
   ·exact hne (I.lj k hk i hi hlk hl h)
  ·rw[zcL,if_neg (S.dst i k o ok s ho hok hs hne)]
   exact h4 ok s hok hs
 ·by_cases hds:o.dst=some s
  ·rw[zcL,if_pos hds];exact(I.lf i hi hl).2.2.2 o s ho hds
  ·rw[zcL,if_neg hds]
   refine I.other s fun j oj hj hoj hdj=>?_
   by_cases hji:j=i
   ·subst hji;exact hds (by rw[←osi (hoj.symm.trans ho)];exact hdj)
   ·exact hs j oj ⟨hj.1,hj.2.imp (fun h=>⟨List.mem_filter.2 ⟨h.1,by simp[hji]⟩,h.2⟩) id⟩ hoj hdj
 ·rw[I.defers];cases o.dst<;>rfl
theorem SInv.exM(I:SInv P ops Dsc late mains Jp Pn G Kp D U L a b w V bk ob)(S:zxF ops late mains)(ho:ops[i]? = some o)(hi:i∉D)(hm:i∈mains)(hd:∀k∈zhI ops i,L.getD k false=true){v:Value}{w':World}{G':World→Prop}{Kp':Nat→Prop}
  (g1:∀j∈ymI ops i Pn,∀u,G' u→Jp j u) (g2:∀u u',G' u→Ext u u'→G' u') (g3:∀u,G' u→∀k,Kp' k→k<u.heap.size) (g4:G' w') (g5:∀k,Kp' k→Kp k∨w.heap.size≤k) (g6:∀k,k<w.heap.size→¬Kp k→w'.heap[k]? = w.heap[k]?):
  SInv P ops Dsc late mains Jp (ymI ops i Pn) G' Kp' (i::D) U (L.setIfInBounds i true) (a.put o.dst v) (b.put o.dst v) w' V bk ob:=by
 have hsz:i<L.size:=by rw[I.size];exact(Array.getElem?_eq_some_iff.1 ho).1
 have hnl:i∉late:=fun h=>S.dis i h hm
 have up:∀{k},L.getD k false=true→(L.setIfInBounds i true).getD k false=true:=fun h=>(zeM hsz _).2 (.inl h)
 have dn:∀{k},k∈U→(L.setIfInBounds i true).getD k false=true→L.getD k false=true:=fun {k} hk h=>((zeM hsz _).1 h).resolve_right fun e=>hnl (e▸(I.uD k hk).2)
 have mem:∀{k},k∈i::D→k≠i→k∈D:=fun h hn=>(List.mem_cons.1 h).resolve_left hn
 have far:∀{k ok},k∈D→L.getD k false=false→ops[k]? = some ok→∀d,o.dst=some d→d∉ok.looksAt ops:=fun {k ok} hk hn hok d hdd hl=>by
  obtain⟨_,h|h⟩:=S.look k i ok o d hok ho hdd hl
  ·exact hi (anc_D I.dcl hk h.1)
  ·have:=zuB I.lcl hd h.2
   rw[hn]at this;cases this
 have ne:∀{k},k∈D→k≠i:=fun hk e=>hi (e▸hk)
 refine { size:=by simp[I.size],sub:=fun k hk=>?_,lt:=fun k hk=>?_,dcl:=fun k hk j hj=>?_,lcl:=fun k hk j hj=>?_,mdone:=fun k hk hm=>?_,udone:=fun k hk hm hu=>?_,uD:=fun k hk=>⟨List.mem_cons_of_mem _ (I.uD k hk).1,(I.uD k hk).2⟩,pp:=fun k hk hm hl hn ok hok=>?_,lu:=fun k hk hn ok hok=>?_,lf:=fun k hk hl=>?_,lj:=fun k hk j hj h1 h2=>I.lj k hk j hj (dn hk h1) (dn hj h2),other:=fun s hs=>?_,defers:=?_,gw:=g4,pn:=fun k hk hm hl hn=>?_,gj:=g1,gx:=g2,gk:=g3 }
 ·rcases(zeM hsz k).1 hk with h|rfl
  ·exact List.mem_cons_of_mem _ (I.sub k h)
  ·exact List.mem_cons_self
 ·rcases List.mem_cons.1 hk with rfl|hk
  ·rw[←I.size];exact hsz
  ·exact I.lt k hk
 ·rcases List.mem_cons.1 hk with rfl|hk
  ·exact List.mem_cons_of_mem _ (I.sub j (hd j hj))
  ·exact List.mem_cons_of_mem _ (I.dcl k hk j hj)
 ·rcases(zeM hsz k).1 hk with h|rfl
  ·exact up (I.lcl k h j hj)
  ·exact up (hd j hj)
 ·by_cases e:k=i
  ·subst e;exact(zeM hsz k).2 (.inr rfl)
  ·exact up (I.mdone k (mem hk e) hm)
 ·have e:k≠i:=fun e=>hnl (e▸hm)
  exact up (I.udone k (mem hk e) hm hu)
 ·obtain⟨hn,hne⟩:=zwD hsz hn
  have hkD:=mem hk hne
  obtain⟨c',h1,h2⟩:=I.pp k hkD hm hl hn ok hok
  obtain⟨e1,e2⟩:=zrL (b:=b) (v:=v) S hok (far hkD hn hok)
  refine⟨c',by rw[e1,e2];exact h1,fun s hs=>?_⟩
  rw[zcL,zcL,if_neg (S.dst i k o ok s ho hok hs hne),if_neg (S.dst i k o ok s ho hok hs hne)]
  exact h2 s hs
 ·obtain⟨hn,hne⟩:=zwD hsz hn
  obtain⟨e1,e2⟩:=zrL (b:=b) (v:=v) S hok (far (I.uD k hk).1 hn hok)
  rw[e1,e2]
  obtain⟨h1,h2⟩:=I.lu k hk hn ok hok
  exact⟨h1,h2⟩
 ·obtain⟨h1,h2,h3,h4⟩:=I.lf k hk (dn hk hl)
  have hlt:=(Array.getElem?_eq_some_iff.1 h2).1
  refine⟨h1,by rw[g6 _ hlt h3];exact h2,fun hK=>?_,fun ok s hok hs=>?_⟩
  ·rcases g5 _ hK with h|h
   ·exact h3 h
   ·omega
  ·have hne:=ne (I.uD k hk).1
   rw[zcL,zcL,if_neg (S.dst i k o ok s ho hok hs hne),if_neg (S.dst i k o ok s ho hok hs hne)]
   exact h4 ok s hok hs
 ·have base:(∀j oj,j≠i→OpenAt late mains D U L j→ops[j]? = some oj→oj.dst≠some s)→a.tmps[s]? = b.tmps[s]?:=fun h=>I.other s fun j oj hj hoj=>h j oj (ne hj.1) hj hoj
  rw[zcL,zcL]
  by_cases hds:o.dst=some s
  ·rw[if_pos hds,if_pos hds,base fun j oj hji hj hoj hdj=>S.dst j i oj o s hoj ho hds (Ne.symm hji) hdj]
  ·rw[if_neg hds,if_neg hds]
   refine base fun j oj hji hj hoj=>hs j oj ⟨List.mem_cons_of_mem _ hj.1,hj.2.imp (fun h=>⟨h.1,up h.2⟩) fun h=>⟨h.1,h.2.1,?_⟩⟩ hoj
   rw[getD_set_ne false (Ne.symm hji)];exact h.2.2
 ·have:=I.defers
  cases o.dst<;>exact this
 ·obtain⟨hn,hne⟩:=zwD hsz hn
  refine List.mem_filter.2 ⟨I.pn k (mem hk hne) hm hl hn,?_⟩
  cases h:ancB ops i k with
  |false=>rfl
  |true=>have:=zuB I.lcl hd h;rw[hn]at this;cases this
theorem SInv.same(I:SInv P ops Dsc late mains Jp Pn G Kp D [] L a b w V bk ob)(h:∀i,i<ops.size→L.getD i false=true):a=b:=by
 have h1:a.tmps=b.tmps:=Array.ext_getElem? fun s=>I.other s fun j oj hj _=>by
  rcases hj.2 with⟨h1,_⟩|⟨_,_,h2⟩
  ·cases h1
  ·rw[h j (I.lt j hj.1)]at h2;cases h2
 have h2:=I.defers
 cases a;cases b
 simp only at h1 h2
 rw[h1,h2]
end
section
variable {Jp:Nat→World→Prop}{Pn:List Nat}{G:World→Prop}{Kp:Nat→Prop}{U:List Nat}{L:Array Bool}{a b:Act}{w:World}{V:Nat→Value}{bk:Nat→Nat}{ob:Nat→Obj}
theorem xcX{D:List Nat}:∀{rest:Sch} {U:List Nat} {f:Bool},schB ops late mains rest D U f=true→(∀i s,rest≠(.pu,i)::s)→(∀i s,rest≠(.la,i)::s) →
  (∀m,zoX rest=some m→m∈mains∧m∉D∧m<ops.size∧∀j,j<ops.size→j∈D∨j=m∨∃d∈zhI ops j,d∉D)∧(zoX rest=none→∀j,j<ops.size→j∈D)
 |[],_,_,h,_,_=>by
  simp only[schB,Bool.and_eq_true,List.all_eq_true,List.mem_range,List.contains_eq_mem,decide_eq_true_eq]at h
  exact⟨fun m hm=>(by cases hm),fun _=>h.2⟩
 |(.pu,i)::s,_,_,_,h1,_=>absurd rfl (h1 i s)
 |(.la,i)::s,_,_,_,_,h2=>absurd rfl (h2 i s)
 |(.mn,i)::s,_,_,h,_,_=>by
  simp only[schB,Bool.and_eq_true,List.all_eq_true,List.mem_range,List.contains_eq_mem,decide_eq_true_eq,Bool.or_eq_true,Bool.not_eq_true',decide_eq_false_iff_not,List.any_eq_true,beq_iff_eq]at h
  refine⟨fun m hm=>?_,fun hm=>(by cases hm)⟩
  cases hm
  refine⟨h.1.1.1.1.2,h.1.1.1.1.1.2,h.1.1.1.1.1.1,fun j hj=>?_⟩
  rcases h.1.1.2 j hj with(h1|h1)|h1
  ·exact .inl h1
  ·exact .inr (.inl h1)
  ·exact .inr (.inr h1)
 |(.rv,i)::s,_,_,h,_,_=>by
  simp only[schB,Bool.and_eq_true]at h
  have hs:=h.2
  have:=xcX (rest:=s) hs (fun i s' e=>by subst e;simp[schB]at hs) (fun i s' e=>by subst e;simp[schB]at hs)
  exact⟨fun m hm=>this.1 m hm,fun hm=>this.2 hm⟩
theorem xcJ{D:List Nat}(S:zxF ops late mains){m:Nat}:∀{rest:Sch} {U:List Nat} {f:Bool} {G:World→Prop} {Kp:Nat→Prop} {b:Act},SInv P ops Dsc late mains Jp Pn G Kp D U L a b w V bk ob→schB ops late mains rest D U f=true→wpS P ops Q rest Dsc Jp Pn G Kp b→zoX rest=some m→(∀k∈zhI ops m,L.getD k false=true) →
  ∃s f' U' G' Kp' b',SInv P ops Dsc late mains Jp Pn G' Kp' D U' L a b' w V bk ob∧schB ops late mains ((.mn,m)::s) D U' f'=true∧wpS P ops Q ((.mn,m)::s) Dsc Jp Pn G' Kp' b'
 |[],_,_,_,_,_,_,_,_,hm,_=>by cases hm
 |(.pu,i)::s,_,_,_,_,_,_,_,_,hm,_=>by cases hm
 |(.la,i)::s,_,_,_,_,_,_,_,_,hm,_=>by cases hm
 |(.mn,i)::s,U,f,G,Kp,b,I,h,hw,hm,_=>by cases hm;exact⟨s,f,U,G,Kp,b,I,h,hw⟩
 |(.rv,i)::s,U,f,G,Kp,b,I,h,hw,hm,hd=>by
  have hm':zoX s=some m:=hm
  simp only[schB,hm',Bool.and_eq_true,List.contains_eq_mem,decide_eq_true_eq]at h
  obtain⟨⟨hU,hanc⟩,hs⟩:=h
  have hl:=zuB I.lcl hd hanc
  obtain⟨o,ho,hw⟩:=hw
  obtain⟨h1,h2,h3,_⟩:=I.lf i hU hl
  obtain⟨G',Kp',g1,g2,g3,g4,g5,hw⟩:=hw _ _ _ h1 h3 ⟨w,I.gw,h2⟩
  exact xcJ S (I.rv S ho hU hl g1 g2 g3 g4 g5) hs hw hm' hd
theorem xcI{D:List Nat}(S:zxF ops late mains)(hall:∀i,i<ops.size→L.getD i false=true):∀{rest:Sch} {U:List Nat} {f:Bool} {G:World→Prop} {Kp:Nat→Prop} {b:Act},SInv P ops Dsc late mains Jp Pn G Kp D U L a b w V bk ob→schB ops late mains rest D U f=true→wpS P ops Q rest Dsc Jp Pn G Kp b→zoX rest=none→(∀p∈rest,p.1 = .rv)→Q .normal a w
 |[],U,f,G,Kp,b,I,h,hw,_,_=>by
  simp only[schB,Bool.and_eq_true,List.isEmpty_iff]at h
  obtain⟨rfl,_⟩:=h
  rw[I.same hall]
  exact hw w I.gw
 |(.pu,i)::s,_,_,_,_,_,_,_,_,_,hr=>by cases hr _ List.mem_cons_self
 |(.la,i)::s,_,_,_,_,_,_,_,_,_,hr=>by cases hr _ List.mem_cons_self
 |(.mn,i)::s,_,_,_,_,_,_,_,_,hm,_=>by cases hm
 |(.rv,i)::s,U,f,G,Kp,b,I,h,hw,hm,hr=>by
  have hm':zoX s=none:=hm
  simp only[schB,hm',Bool.and_eq_true,List.contains_eq_mem,decide_eq_true_eq]at h
  obtain⟨⟨hU,_⟩,hs⟩:=h
  have hl:=hall i (I.lt i (I.uD i hU).1)
  obtain⟨o,ho,hw⟩:=hw
  obtain⟨h1,h2,h3,_⟩:=I.lf i hU hl
  obtain⟨G',Kp',g1,g2,g3,g4,g5,hw⟩:=hw _ _ _ h1 h3 ⟨w,I.gw,h2⟩
  exact xcI S hall (I.rv S ho hU hl g1 g2 g3 g4 g5) hs hw hm' fun p hp=>hr p (List.mem_cons_of_mem _ hp)
theorem yuO{D:List Nat}:∀{rest:Sch} {U:List Nat} {f:Bool},schB ops late mains rest D U f=true→(∀i s,rest≠(.pu,i)::s)→(∀i s,rest≠(.la,i)::s)→zoX rest=none→∀p∈rest,p.1 = .rv
 |[],_,_,_,_,_,_,p,hp=>by cases hp
 |(.pu,i)::s,_,_,_,h1,_,_,_,_=>absurd rfl (h1 i s)
 |(.la,i)::s,_,_,_,_,h2,_,_,_=>absurd rfl (h2 i s)
 |(.mn,i)::s,_,_,_,_,_,hm,_,_=>by cases hm
 |(.rv,i)::s,_,_,h,_,_,hm,p,hp=>by
  have hm':zoX s=none:=hm
  simp only[schB,hm',Bool.and_eq_true]at h
  rcases List.mem_cons.1 hp with rfl|hp
  ·rfl
  ·have hs:=h.2
   exact yuO (rest:=s) hs (fun i s' e=>by subst e;simp[schB]at hs) (fun i s' e=>by subst e;simp[schB]at hs) hm' p hp
end
theorem ybZ(S:zxF ops late mains){m:Nat}(ihm:∀m',m'<m→∀(rest:Sch) (Dsc:Nat→Value→Nat→Obj→Prop) (D U:List Nat) (f:Bool) (Jp:Nat→World→Prop) (Pn:List Nat) (G:World→Prop) (Kp:Nat→Prop) (L:Array Bool) (a b:Act) (w:World) (V:Nat→Value) (bk:Nat→Nat) (ob:Nat→Obj),zeJ ops.size L=m'→SInv P ops Dsc late mains Jp Pn G Kp D U L a b w V bk ob→schB ops late mains rest D U f=true→wpS P ops Q rest Dsc Jp Pn G Kp b→wpAny P .any ops Q m' L a w)
  {rest:Sch} {D U:List Nat} {f:Bool} {Jp:Nat→World→Prop} {Pn:List Nat} {G:World→Prop} {Kp:Nat→Prop} {L:Array Bool} {a b:Act} {w:World} {V:Nat→Value} {bk:Nat→Nat} {ob:Nat→Obj} (hm:zeJ ops.size L=m) (I:SInv P ops Dsc late mains Jp Pn G Kp D U L a b w V bk ob) (hb:schB ops late mains rest D U f=true) (hw:wpS P ops Q rest Dsc Jp Pn G Kp b)
  (h1:∀i s,rest≠(.pu,i)::s) (h2:∀i s,rest≠(.la,i)::s):wpAny P .any ops Q m L a w:=by
 have hsat:=xcX hb h1 h2
 have ltsz:∀{j},j∈Region.ready .any ops L→j<ops.size:=fun hj=>by
  obtain⟨_,o,ho,_⟩:=mem_ready.1 hj
  exact(Array.getElem?_eq_some_iff.1 ho).1
 have unl:∀{j},j∈Region.ready .any ops L→L.getD j false=false:=fun {j} hj=>by
  have hs:=ltsz hj
  obtain⟨hu,_⟩:=mem_ready.1 hj
  rw[zjQ (by rw[I.size];exact hs)]at hu;exact hu
 cases m with
 |zero=>
  have hall:=znR hm
  have hn:zoX rest=none:=by
   cases h:zoX rest with
   |none=>rfl
   |some k=>
    obtain⟨_,g1,g2,_⟩:=hsat.1 k h
    exact absurd (I.sub k (hall k g2)) g1
  refine⟨?_,xcI S hall I hb hw hn (yuO hb h1 h2 hn)⟩
  rw[List.eq_nil_iff_forall_not_mem]
  intro j hj
  have:=hall j (ltsz hj)
  rw[unl hj]at this;cases this
 |succ m=>
  have hex:∃i,i<ops.size∧L.getD i false=false:=by
   have:¬zeJ ops.size L=0:=by omega
   unfold zeJ at this
   rw[List.countP_eq_zero]at this
   have h2:∃i,¬(i∈List.range ops.size→¬((!L.getD i false)=true)):=Classical.not_forall.1 this
   obtain⟨i,h⟩:=h2
   by_cases hi:i<ops.size
   ·refine⟨i,hi,?_⟩
    cases hp:L.getD i false with
    |false=>rfl
    |true=>exact absurd (fun _=>by rw[hp];simp) h
   ·exact absurd (fun hmem=>absurd (List.mem_range.1 hmem) hi) h
  have hne:Region.ready .any ops L≠[]:=by
   obtain⟨i,hi,hu,hleast⟩:=zlT _ hex
   have hoi:ops[i]? = some ops[i]:=Array.getElem?_eq_getElem hi
   have:i∈Region.ready .any ops L:=mem_ready.2 ⟨by rw[zjQ (by rw[I.size];exact hi)];exact hu,_,hoi,fun e he hb=>hleast _ (S.deps i hi _ (by rw[zwF hoi];exact znQ.2 ⟨e,he,hb,rfl⟩))⟩
   intro h0;rw[h0]at this;cases this
  refine⟨fun h0=>absurd h0 hne,fun j hj=>?_⟩
  have hjs:=ltsz hj
  have hju:=unl hj
  obtain⟨_,oj,hoj,hdone⟩:=mem_ready.1 hj
  have hdep:∀k∈zhI ops j,L.getD k false=true:=fun k hk=>by
   rw[zwF hoj]at hk
   obtain⟨e,he,hb,hon⟩:=znQ.1 hk
   rw[←hon];exact hdone e he hb
  have hcount:=zsV hjs (by rw[I.size];exact hjs) hju
  have hjD:j∈D∨zoX rest=some j:=by
   cases h:zoX rest with
   |none=>exact .inl (hsat.2 h j hjs)
   |some k=>
    rcases(hsat.1 k h).2.2.2 j hjs with h3|h3|⟨d,h3,h4⟩
    ·exact .inl h3
    ·exact .inr (by rw[h3])
    ·exact absurd (I.sub d (hdep d h3)) h4
  unfold wpOp
  simp only[hoj]
  rcases hjD with hjD|hjm
  ·by_cases hjl:j∈late
   ·have hjU:j∈U:=Classical.byContradiction fun h=>by
     have:=I.udone j hjD hjl h
     rw[hju]at this;cases this
    obtain⟨hwd,hrun⟩:=I.lu j hjU hju oj hoj
    obtain⟨v,k,x,w',g1,g2,g3,g4,g5⟩:=hrun w
    obtain⟨he,hwt⟩:=I.ran S hoj hdep (fun h=>absurd h (S.dis j hjl))
    rw[if_pos (by rw[hwt];exact hwd)]
    refine .inl ?_
    unfold Oper.wp
    rw[he,g1]
    exact ihm m (by omega) rest Dsc D U f Jp Pn G Kp _ _ b w' _ _ _ (by omega) (I.exL S hoj hjU hju hdep g2 g3 g4 g5) hb hw
   ·by_cases hjm:j∈mains
    ·have:=I.mdone j hjD hjm
     rw[hju]at this;cases this
    ·obtain⟨c,hc,hs⟩:=I.pp j hjD hjm hjl hju oj hoj
     obtain⟨he,hwt⟩:=I.ran S hoj hdep (fun h=>absurd h hjm)
     have next:=ihm m (by omega) rest Dsc D U f Jp Pn G Kp _ _ b w _ _ _ (by omega) (I.exP S hoj hjD hjl hdep hs) hb hw
     rcases hc with⟨hwd,hrun⟩|⟨hwd,rfl⟩
     ·rw[if_pos (by rw[hwt];exact hwd)]
      refine .inl ?_
      unfold Oper.wp
      rw[he,hrun w (I.gj j (I.pn j hjD hjm hjl hju) w I.gw)]
      exact next
     ·rw[if_neg (by rw[hwt,hwd];simp)]
      exact next
  ·obtain⟨s,f',U',G',Kp',b',I',hb',hw'⟩:=xcJ S I hb hw hjm hdep
   obtain⟨o,ho,hw'⟩:=hw'
   have:o=oj:=osi (ho.symm.trans hoj)
   subst this
   simp only[schB,Bool.and_eq_true,List.all_eq_true,List.mem_range,List.contains_eq_mem,decide_eq_true_eq,Bool.not_eq_true',decide_eq_false_iff_not]at hb'
   obtain⟨⟨⟨⟨⟨⟨hb1,hb2⟩,hb3⟩,hb4⟩,hb5⟩,hb6⟩,hb7⟩:=hb'
   obtain⟨he,hwt⟩:=I'.ran S hoj hdep (fun _ u hu d hd hl=>by
    have:=hb6 u hu
    rw[hd]at this
    simp only[Bool.not_eq_true',decide_eq_false_iff_not]at this
    exact this (by unfold yqE;rw[hoj];exact hl))
   rcases hw' w I'.gw with⟨hwd,hout⟩|⟨hwd,hrest⟩
   ·rw[if_pos (by rw[hwt];exact hwd)]
    refine .inl ?_
    rw[←he]at hout
    exact zuC hout fun v w' ⟨G2,K2,g1,g2,g3,g4,g5,g6,hws⟩=>ihm m (by omega) s Dsc (j::D) U' false Jp _ G2 K2 _ _ _ w' _ _ _ (by omega) (I'.exM S hoj hb2 hb3 hdep g1 g2 g3 g4 g5 g6) hb7 hws
   ·rw[if_neg (by rw[hwt,hwd];simp)]
    exact ihm m (by omega) s Dsc (j::D) U' false Jp _ G' Kp' _ _ _ w _ _ _ (by omega) (I'.exM S hoj hb2 hb3 hdep (fun t ht=>I'.gj t (List.mem_filter.1 ht).1) I'.gx I'.gk I'.gw (fun _ h=>.inl h) (fun _ _ _=>rfl)) hb7 hrest
theorem yqS(S:zxF ops late mains)(m:Nat):∀(rest:Sch) (Dsc:Nat→Value→Nat→Obj→Prop) (D U:List Nat) (f:Bool) (Jp:Nat→World→Prop) (Pn:List Nat) (G:World→Prop) (Kp:Nat→Prop) (L:Array Bool) (a b:Act) (w:World) (V:Nat→Value) (bk:Nat→Nat) (ob:Nat→Obj),zeJ ops.size L=m→SInv P ops Dsc late mains Jp Pn G Kp D U L a b w V bk ob→schB ops late mains rest D U f=true→wpS P ops Q rest Dsc Jp Pn G Kp b →
  wpAny P .any ops Q m L a w:=by
 induction m using Nat.strongRecOn with
 |_ m ihm=>
  intro rest
  induction rest with
  |nil=>
   intro Dsc D U f Jp Pn G Kp L a b w V bk ob hm I hb hw
   exact ybZ S ihm hm I hb hw (fun _ _ e=>by cases e) (fun _ _ e=>by cases e)
  |cons p s ihs=>
   intro Dsc D U f Jp Pn G Kp L a b w V bk ob hm I hb hw
   obtain⟨k,i⟩:=p
   cases k with
   |pu=>
    obtain⟨o,c,J,ho,hc,hJ,hw⟩:=hw
    simp only[schB,Bool.and_eq_true,List.all_eq_true,List.contains_eq_mem,decide_eq_true_eq,Bool.not_eq_true',decide_eq_false_iff_not]at hb
    obtain⟨⟨⟨⟨⟨⟨h1,h2⟩,h3⟩,h4⟩,h5⟩,h6⟩,h7⟩:=hb
    exact ihs _ _ _ _ _ _ _ _ _ _ _ _ _ _ _ hm (I.pu S ho h3 h4 h5 h6 hc hJ) h7 hw
   |la=>
    obtain⟨o,Di,ho,hwd,hc,hw⟩:=hw
    simp only[schB,Bool.and_eq_true,List.all_eq_true,List.contains_eq_mem,decide_eq_true_eq,Bool.not_eq_true',decide_eq_false_iff_not]at hb
    obtain⟨⟨⟨⟨⟨h1,h2⟩,h3⟩,h4⟩,h6⟩,h7⟩:=hb
    exact ihs _ _ _ _ _ _ _ _ _ _ _ _ _ _ _ hm (I.la ho h3 h4 (S.dis i h4) h6 ⟨hwd,hc⟩) h7 hw
   |rv=>exact ybZ S ihm hm I hb hw (fun _ _ e=>by cases e) (fun _ _ e=>by cases e)
   |mn=>exact ybZ S ihm hm I hb hw (fun _ _ e=>by cases e) (fun _ _ e=>by cases e)
theorem yvS{l:List Oper}{a:Act}{w:World}{rest:Sch}{Jp:Nat→World→Prop}{G:World→Prop}{Kp:Nat→Prop}(hs:xbS l.toArray late mains=true)(hb:schB l.toArray late mains rest [] [] false=true)(hw:wpS P l.toArray (OnlyNormal Q) rest Dsc Jp [] G Kp a)
  (h1:G w.drew) (h3:∀u u',G u→Ext u u'→G u') (h4:∀u,G u→∀k,Kp k→k<u.heap.size):RegAny P l Q a w:=by
 unfold RegAny
 have hf:∀j,(Array.replicate l.toArray.size false).getD j false=false:=fun j=>getD_replicate_false _ _
 refine yqS (stat_of hs) _ rest Dsc [] [] false Jp [] G Kp _ a a _ (fun _=>undef) (fun _=>0) (fun _=>default) ?_ ?_ hb hw
 ·unfold zeJ
  rw[List.countP_eq_length.2 (fun j _=>by rw[hf];rfl)]
  simp
 ·exact { size:=(by simp),sub:=fun i hi=>(by rw[hf]at hi;cases hi),lt:=fun i hi=>(by cases hi),dcl:=fun i hi=>(by cases hi),lcl:=fun i hi=>(by rw[hf]at hi;cases hi),mdone:=fun i hi=>(by cases hi),udone:=fun i hi=>(by cases hi),uD:=fun i hi=>(by cases hi),pp:=fun i hi=>(by cases hi),lu:=fun i hi=>(by cases hi),lf:=fun i hi=>(by cases hi),lj:=fun i hi=>(by cases hi),other:=fun s _=>rfl,defers:=rfl,gw:=h1,pn:=fun i hi=>(by cases hi),gj:=fun i hi=>(by cases hi),gx:=h3,gk:=h4 }
end
end Go.Proofs.YtmkomlbiaebddaaGreatDoor
