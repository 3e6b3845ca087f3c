/- Calls on credentials keep them credentials: plain laws. The document's credentials: each call ends. Credentials that were written are read as what they were: the plain law. Which texts are numbers, and rows of texts: plain laws. What some functions compute, over plain values, and that they do. Rows of texts, names, numbers, whatever they are: the program's and the document's are one: plain laws. Package otp: the code of a step is the document's, and so is the last step of a window that has a code: plain laws. Credentials: a row is read alike by the program and the document: plain laws. Maps of texts as rising lists: where a key stands: plain laws. Credentials: each call tells what the document says: plain laws. A machine over plain values: slices.Clip of an own slice. slices.Clip at this program: a slice's room is cut. A machine over plain values: maps.Clone. DERIVED: THE SHELF's CONTRACTS AT THIS DUMP, IN PLAIN WORDS (tools/lay-plain.mjs out of 'TryzMcll.lean', which tools/lay-shelf.mjs wrote): THE SAME DECLARATIONS UNDER THE SAME NAMES: 'import', 'namespace', 'open', 'def', 'theorem' AND NOTHING ELSE: no command of the shelf's: FOR A HAND-IN. Each laying: the table of numbers ('.._ren') and one theorem, a field a fact of the dump's own or the kernel's comparison; each contract: ONE APPLICATION. maps.Clone at this program: the kit's contract laid. Conditions: as each theorem says. -/
import Derived.KernelRfl
import Derived.WalkKit
import Derived.Test.YtmkomlbiaebddaaGreatDoorProg
import Derived.Shelf.SlMaps.Clone
import Derived.Ground.SlmcProg
import Derived.Test.YtmkomlbiaebddaaGreatDoorQdN
namespace Go.Proofs.YtmkomlbiaebddaaGreatDoor.Am
open Go Go.RowKit
section
attribute [local irreducible] stF
theorem ybC{p s:Bs}(hp:p.length≤68719470000)(hs:s.length≤1048576):zdW zaD p s=some (stF p s):=by
 unfold zdW
 rw[show zaD.stretch p s 4 32=some (stF p s,0)from yrT p s hp (by omega),zaA]
theorem zyQ{es:List (Bs×CrT)}(h:VEs es)(u:Bs):mhas keqS es u=false∨∃c,mhas keqS es u=true∧(∀z,zeU keqS es u z=c)∧VCr u c:=by
 cases hm:mhas keqS es u with
 |false=>exact .inl rfl
 |true=>
  right
  obtain⟨c,hc⟩:=zkK.1 hm
  refine⟨c,rfl,fun z=>?_,h.each _ hc⟩
  unfold zeU
  rw[zxB h.rises hc]
theorem xeB{es:List (Bs×CrT)}(h:VEs es){u:Bs}{c:CrT}(hc:VCr u c)(hl:mhas keqS es u=true∨es.length<64):VEs (mset keqS kltS es u c):=by
 refine⟨yrF h.rises,?_,fun p hp=>?_⟩
 ·rw[yzW]
  have:=h.len
  split
  ·omega
  ·rename_i hn
   have:=hl.resolve_left hn
   omega
 ·rcases xbA hp with rfl|hp
  ·exact hc
  ·exact h.each p hp
theorem yeX{u s h o:Bs}{st f t:Int}{ks:List KeyT}(hn:zdB zaD u=some true)(hu:u.length≤1048576)(hs:s.length=16)(hh:h.length=32)(ho:o=[]∨(16≤o.length∧o.length≤64))(h1:0≤st∧st≤2199023255552)(h2:0≤f∧f≤4)(h3:0≤t∧t≤2199023255552)(h4:ks.length≤4)
  (h5:∀k∈ks,(1≤k.1.length∧k.1.length≤86)∧k.2.1.length=32∧k.2.2.1.length=32∧0≤k.2.2.2∧k.2.2.2≤4294967295) (h6:ks.Pairwise fun x y=>x.1≠y.1):VCr u (u,s,h,o,st,f,t,ks):=⟨hn,hu,rfl,hs,hh,ho,h1,h2,h3,h4,h5,h6⟩
theorem xdB(now:Int):zmG zaD now=some (decide (0≤now)&&decide (now≤1099511627776)):=by
 unfold zmG
 rw[yrP,zaA]
theorem findF_mem'{f:Int→Bs}{code:Bs}:∀{l:List Int} {r:Int},zmL f code l=(r,true)→r∈l
 |[],_,h=>by cases h
 |s::l,r,h=>by
  unfold zmL at h
  cases hb:f s==code with
  |true=>rw[hb]at h;cases h;exact List.mem_cons_self ..
  |false=>rw[hb]at h;exact List.mem_cons_of_mem _ (findF_mem' h)
theorem downL_le':∀{n:Nat} {hi x:Int},x∈Fd.downL hi n→x≤hi
 |0,_,_,h=>by cases h
 |n+1,hi,x,h=>by
  rcases List.mem_cons.1 h with rfl|h
  ·omega
  ·have:=downL_le' h;omega
theorem at_t(l:List KeyT)(id:Bs)(hl:l.length≤4):(zdU zaD l id=some (-1)∧∀k∈l,k.1≠id)∨∃i:Nat,∃hi:i<l.length,zdU zaD l id=some (i:Int)∧l[i].1=id:=by
 by_cases hex:∃i:Nat,∃hi:i<l.length,l[i].1=id∧∀j,(hj:j<i)→(l[j]'(by omega)).1≠id
 ·right
  obtain⟨i,hi,h1,h2⟩:=hex
  have hit:iter (fun x=>zbL zaD l x.1 x.2) (((0:Nat):Int),id)=some (Sum.inl ((i:Int),id)):=by
   refine zaM (fun k=>((k:Int),id)) i (by omega) (Sum.inl ((i:Int),id)) (fun k hk=>?_) ?_
   ·unfold zbL
    simp only[]
    rw[zaY (by omega),zbO rfl (show k<l.length by omega),zaA]
    unfold zmF
    rw[zaA]
    simp only[]
    rw[show(l[k].1==id)=false from beq_eq_false_iff_ne.2 (h2 k hk),zaS (by omega) (by omega)]
    rfl
   ·unfold zbL
    simp only[]
    rw[zaY (by omega),zbO rfl hi,zaA]
    unfold zmF
    rw[zaA]
    simp only[]
    rw[show(l[i].1==id)=true from beq_iff_eq.2 h1]
    rfl
  have hit:iter (fun x=>zbL zaD l x.1 x.2) ((0:Int),id)=some (Sum.inl ((i:Int),id)):=hit
  refine⟨i,hi,?_,h1⟩
  unfold zdU zhF
  rw[hit,zaA]
  simp only[]
  rw[zaA]
 ·left
  have hno:∀k∈l,k.1≠id:=fun k hk e=>by
   have hsome:∃i,i<l.length∧(fun i=>!(decide (∃hi:i<l.length,l[i].1=id))) i=false:=by
    obtain⟨i,hi,rfl⟩:=List.getElem_of_mem hk
    exact⟨i,hi,by simp[hi,e]⟩
   obtain⟨i,hi,h1,h2⟩:=zlT l.length hsome
   simp only[Bool.not_eq_false',decide_eq_true_eq]at h1
   obtain⟨_,h1⟩:=h1
   refine hex ⟨i,hi,h1,fun j hj e2=>?_⟩
   have:=h2 j hj
   simp only[Bool.not_eq_true',decide_eq_false_iff_not]at this
   exact this ⟨by omega,e2⟩
  exact⟨xaP id l hl hno,hno⟩
theorem ysL{ks:List KeyT}{i:Nat}(hi:i<ks.length){n:Int}(hn:0≤n∧n≤4294967295)(h:∀k∈ks,(1≤k.1.length∧k.1.length≤86)∧k.2.1.length=32∧k.2.2.1.length=32∧0≤k.2.2.2∧k.2.2.2≤4294967295):∀k∈ks.set i (ks[i].1,ks[i].2.1,ks[i].2.2.1,n),(1≤k.1.length∧k.1.length≤86)∧k.2.1.length=32∧k.2.2.1.length=32∧0≤k.2.2.2∧k.2.2.2≤4294967295:=fun k hk=>by
 rcases List.mem_or_eq_of_mem_set hk with hk|rfl
 ·exact h k hk
 ·have:=h _ (List.getElem_mem hi)
  exact⟨this.1,this.2.1,this.2.2.1,hn⟩
theorem yxJ{ks:List KeyT}{i:Nat}(hi:i<ks.length){n:Int}(h:ks.Pairwise fun x y=>x.1≠y.1):(ks.set i (ks[i].1,ks[i].2.1,ks[i].2.2.1,n)).Pairwise fun x y=>x.1≠y.1:=by
 have e:(ks.set i (ks[i].1,ks[i].2.1,ks[i].2.2.1,n)).map (·.1)=ks.map (·.1):=by
  apply List.ext_getElem
  ·simp
  ·intro j h1 h2
   simp only[List.getElem_map,List.getElem_set]
   split
   ·rename_i h3;subst h3;rfl
   ·rfl
 have h2:(ks.map (·.1)).Pairwise (· ≠ ·):=List.pairwise_map.2 h
 rw[←e]at h2
 exact List.pairwise_map.1 h2
end
section
theorem mac4_t{k s:Bs}(hk:k.length≤1048576)(hs:s.length≤1048576):zpH zaD k s=some (macF k s):=by
 unfold zpH yiH
 rw[zaA,ycJ (by omega) (by omega),zaA]
attribute [local irreducible] macF
theorem ypV{p s:Bs}(hp:p.length≤68719470000)(hs:s.length≤1048576):zcE zaD p s=some (stF p s):=by
 unfold zcE
 rw[ylF p s hp (by omega),zaA]
theorem ypW(now:Int):zdG zaD now=some (decide (0≤now)&&decide (now≤1099511627776)):=by
 unfold zdG
 by_cases h:now≥0
 ·rw[zaY h,decide_eq_true (show 0≤now from h)];rfl
 ·rw[zaZ h,decide_eq_false (show ¬0≤now from h)];rfl
end
section
attribute [local irreducible] stF macF
theorem lcode_t(op:ygK)(ha:op.2.2.2.2.2.1.length≤1048576):∃r,zeV zaD op=some r∧r.length≤1048576:=by
 have hj:∃b,zgO zaD op=some (b,op):=by
  unfold zgO
  cases decide ((op.2.2.2.2.2.1.length:Int)≥(16:Int))<;>exact⟨_,rfl⟩
 obtain⟨b,hb⟩:=hj
 unfold zeV
 rw[hb,zaA]
 cases b with
 |false=>exact⟨_,rfl,ha⟩
 |true=>
  simp only[cond_true]
  rw[zeO (c:=((30:Int) != 0)) rfl,zaA]
  obtain⟨h1,h2⟩:=yfX (secret:=op.2.2.2.2.2.1) (by omega) (w64 (Int.tdiv op.2.2.1 30))
  rw[show zaD.code op.2.2.2.2.2.1 (w64 (Int.tdiv op.2.2.1 30))=some (codeF op.2.2.2.2.2.1 (w64 (Int.tdiv op.2.2.1 30)))from h1,zaA]
  exact⟨_,rfl,by omega⟩
theorem yrE(r:List (Bs×Bs))(h:r.length≤1048576):zbY zaD r r=some true:=by
 have hi:iter (zbV zaD r r) ((0:Nat):Int)=some (.inr ()):=by
  refine zaM (fun k=>(k:Int)) r.length (by omega) _ (fun k hk=>?_) ?_
  ·unfold zbV
   rw[zaY (by omega),zbO rfl hk,zaA,zaA]
   simp only[beq_self_eq_true,Bool.and_true,Bool.not_true,cond_false]
   rw[zaS (by omega) (by omega)]
   rfl
  ·unfold zbV
   rw[zaZ (by omega)]
 unfold zbY
 simp only[bne_self_eq_false,cond_false]
 rw[show iter (zbV zaD r r) (0:Int)=some (.inr ())from hi,zaA]
def OpOk(op:ygK):Prop:=op.2.2.2.1.length≤1048576∧op.2.2.2.2.2.1.length≤1048576
theorem yzM{es:List (Bs×CrT)}(h:VEs es):((es.map (·.2)).map rowC).length≤1048576:=by
 have:=h.len
 rw[List.length_map,List.length_map];omega
theorem xcV{e:Ty}{x:den e}:∀{xs:List (den e)},x∈xs→dsz e x≤dsz (.sl e) xs
 |y::ys,h=>by
  show _≤(List.map (dsz e) (y::ys)).sum+1
  simp only[List.map_cons,List.sum_cons]
  rcases List.mem_cons.1 h with rfl|h
  ·omega
  ·have:dsz e x≤(List.map (dsz e) ys).sum+1:=xcV h
   omega
theorem opOk_of{op:ygK}(h:dsz ymH op≤1048576):OpOk op:=by
 obtain⟨a,b,c,d,e,f,k⟩:=op
 simp only[dsz]at h
 exact⟨by simp only[];omega,by simp only[];omega⟩
end
end Go.Proofs.YtmkomlbiaebddaaGreatDoor.Am
namespace Go.Proofs.YtmkomlbiaebddaaGreatDoor
open Go Go.RowKit
def digB(b:UInt8):Bool:=decide (48≤b.toNat)&&decide (b.toNat≤57)
def vaF(l:Bs):Nat:=l.foldl (fun a b=>10*a+(b.toNat-48)) 0
def numB(s:Bs):Bool:=s != []&&decide (s.length≤15)&&(s.head? != some 48||s==[48])&&s.all digB
theorem yeP{p:UInt8→Bool}:∀{l:Bs},l.dropWhile p=[]→∀b∈l,p b=true
 |[],_,b,hb=>by cases hb
 |c::l,h,b,hb=>by
  rw[List.dropWhile_cons]at h
  split at h
  ·rename_i hc
   rcases List.mem_cons.1 hb with rfl|hb
   ·exact hc
   ·exact yeP h b hb
  ·cases h
theorem ycE{p:UInt8→Bool}:∀{l:Bs} {b:UInt8},b∈l→p b=false→b∈l.dropWhile p
 |c::l,b,hb,hp=>by
  rw[List.dropWhile_cons]
  split
  ·rename_i hc
   rcases List.mem_cons.1 hb with rfl|hb
   ·rw[hp]at hc;cases hc
   ·exact ycE hb hp
  ·exact hb
theorem ytW{l cs:Bs}:Lib.trimS l cs=[]↔∀b∈l,cs.contains b=true:=by
 unfold Lib.trimS Lib.trimLeftS Lib.trimRightS
 constructor
 ·intro h b hb
  cases hc:cs.contains b with
  |true=>rfl
  |false=>
   have h1:=ycE (List.mem_reverse.2 hb) hc
   have h2:=yeP h b (List.mem_reverse.2 h1)
   rw[hc]at h2;cases h2
 ·intro h
  rw[ykZ (l:=l.reverse) fun b hb=>h b (List.mem_reverse.1 hb)]
  rfl
end Go.Proofs.YtmkomlbiaebddaaGreatDoor
namespace Go.Proofs.YtmkomlbiaebddaaGreatDoor.Am
open Go Go.RowKit
def τWkN:TE:=[(3,⟨.int .i64,1,[.v (.i .i64) (show Int from 0)],(.i .i64),8⟩),
 (4,⟨.b,1,[.v .b (show Bool from false)],.b,1⟩),
 (5,⟨.int .u8,1,[.v (.i .u8) (show UInt8 from 0)],(.i .u8),1⟩),
 (9,⟨.s,1,[.v .s (show Bs from [])],.s,16⟩),
 (22,⟨.sl 24,1,[.nils],(.sl (.pr .s .s)),24⟩),
 (24,⟨.st [(9,0),(9,1)],2,[.v .s (show Bs from []),.v .s (show Bs from [])],(.pr .s .s),32⟩),
 (25,⟨.pt 79,1,[.nilp],.un,8⟩),
 (29,⟨.pt 38,1,[.nilp],.un,8⟩),
 (35,⟨.sl 53,1,[.nils],(.sl (.pr .s (.pr .s (.pr .s (.pr .s (.pr (.i .i64) (.pr (.i .i64) (.pr (.i .i64) (.sl (.pr .s (.pr .s (.pr .s (.i .i64))))))))))))),24⟩),
 (38,⟨.st [(35,0)],1,[.nils],(.pr (.sl (.pr .s (.pr .s (.pr .s (.pr .s (.pr (.i .i64) (.pr (.i .i64) (.pr (.i .i64) (.sl (.pr .s (.pr .s (.pr .s (.i .i64))))))))))))) .un),24⟩),
 (41,⟨.sl 9,1,[.nils],(.sl .s),24⟩),
 (51,⟨.sl 58,1,[.nils],(.sl (.pr .s (.pr .s (.pr .s (.i .i64))))),24⟩),
 (53,⟨.st [(9,0),(9,1),(9,2),(9,3),(3,4),(3,5),(3,6),(51,7)],8,[.v .s (show Bs from []),.v .s (show Bs from []),.v .s (show Bs from []),.v .s (show Bs from []),.v (.i .i64) (show Int from 0),.v (.i .i64) (show Int from 0),.v (.i .i64) (show Int from 0),.nils],(.pr .s (.pr .s (.pr .s (.pr .s (.pr (.i .i64) (.pr (.i .i64) (.pr (.i .i64) (.sl (.pr .s (.pr .s (.pr .s (.i .i64)))))))))))),112⟩),
 (58,⟨.st [(9,0),(9,1),(9,2),(3,3)],4,[.v .s (show Bs from []),.v .s (show Bs from []),.v .s (show Bs from []),.v (.i .i64) (show Int from 0)],(.pr .s (.pr .s (.pr .s (.i .i64)))),56⟩),
 (118,⟨.st [(41,0),(4,1)],2,[.nils,.v .b (show Bool from false)],(.pr (.sl .s) .b),32⟩)]
theorem τ_okWkN:TEok Tryz.prog τWkN:=ymL (by kernel_rfl) (by kernel_rfl)
theorem xeE:Tryz.prog.follows .mixedOrders=true:=by kernel_rfl
theorem fscWkN {G : List (Nat × Obj)} {o : Ops} [zlD G] [zkN G o] {Γ : CT} {η : HT} {f : FuncId} {fn : Func} {c : SC} (hΓ : ∀ B, GB G B → CTok Tryz.prog Γ B) (hf : Tryz.prog.funcs[f]? = some fn) (i : (fn.name == "runtime.NumGoroutine") = false := by kernel_rfl) (j : fn.body.isNone = false := by kernel_rfl) (l : Nat.ble c.I.sl.length fn.ntmps = true := by kernel_rfl) (r : Nat.beq fn.results.toList.length c.nr = true := by kernel_rfl) (e : fnS τWkN Γ η fn c.I c.outs = c.p := by kernel_rfl) : SCok Tryz.prog G f c := witO (G := G) (o := o) <| yrC xeE τ_okWkN hΓ hf (isFn hf i j) l r e
theorem xcM {G : List (Nat × Obj)} {o : Ops} [zlD G] [zkN G o] {Γ : CT} {η : HT} {f : FuncId} {fn : Func} {c : PC} (hΓ : ∀ B, GB G B → CTok Tryz.prog Γ B) (hf : Tryz.prog.funcs[f]? = some fn) (i : (fn.name == "runtime.NumGoroutine") = false := by kernel_rfl) (j : fn.body.isNone = false := by kernel_rfl) (l : Nat.ble c.ash.length fn.ntmps = true := by kernel_rfl) (r : c.cl = false := by kernel_rfl) (e : fnP τWkN Γ η fn c.ash c.rts = c.p := by kernel_rfl) : PCok Tryz.prog G f c := witO (G := G) (o := o) <| ygS xeE τ_okWkN hΓ hf (isFn hf i j) l r e
abbrev yvN:Type:=Bs×Bs×Bs×Int
abbrev YWkN1:Ty:=.pr .s (.pr .s (.pr .s (.i .i64)))
abbrev yhT:Type:=Bs×Bs×Bs×Bs×Int×Int×Int×List yvN
abbrev xaC:Ty:=.pr .s (.pr .s (.pr .s (.pr .s (.pr (.i .i64) (.pr (.i .i64) (.pr (.i .i64) (.sl YWkN1)))))))
abbrev xaL:OSh:=.blk 53 [hS,hS,hS,hS,hI,hI,hI,(.h (.sl YWkN1))]
section
variable {tabs:List (Nat×Obj)}[zlD tabs]{o:Ops}[zkN tabs o]
def zeI(_o:Ops)(v3:Int)(v4:Bs)(v5:Bs)(v6:Bs)(v7:Bs)(v8:Int)(v9:Int)(v10:Int)(v11:List yvN)(v12:Bs)(v13:Bs)(v14:Bs)(v15:Bs)(v16:Int)(v17:Int)(v18:Int)(v19:List yvN):Option ((Int×Bs×Bs×Bs×Bs×Int×Int×Int×(List yvN)×yhT)⊕(Bool⊕(Bs×Bs×Bs×Bs×Int×Int×Int×(List yvN)×yhT))):=
 bif decide (v3<(v11.length:Int))then((idx v11 v3).bind fun v20=>(idx v19 v3).bind fun v21=>let v22:Bool:=(!((v20.1==v21.1)&&((v20.2.1==v21.2.1)&&((v20.2.2.1==v21.2.2.1)&&(decide (v20.2.2.2=v21.2.2.2))))))
 bif v22 then some (.inr (.inl false))else some (.inl (w64 (v3+1),v4,v5,v6,v7,v8,v9,v10,v11,v12,v13,v14,v15,v16,v17,v18,v19)))else some (.inr (.inr (v4,v5,v6,v7,v8,v9,v10,v11,v12,v13,v14,v15,v16,v17,v18,v19)))
def zcG(o:Ops)(v0:yhT)(v1:yhT):Option (Bool):=
 let v2:Bool:=((v0.2.2.2.2.2.2.2.length:Int) != (v1.2.2.2.2.2.2.2.length:Int))
 bif v2 then(some false)else((iter (fun x=>zeI o x.1 x.2.1 x.2.2.1 x.2.2.2.1 x.2.2.2.2.1 x.2.2.2.2.2.1 x.2.2.2.2.2.2.1 x.2.2.2.2.2.2.2.1 x.2.2.2.2.2.2.2.2.1 x.2.2.2.2.2.2.2.2.2.1 x.2.2.2.2.2.2.2.2.2.2.1 x.2.2.2.2.2.2.2.2.2.2.2.1 x.2.2.2.2.2.2.2.2.2.2.2.2.1 x.2.2.2.2.2.2.2.2.2.2.2.2.2.1 x.2.2.2.2.2.2.2.2.2.2.2.2.2.2.1 x.2.2.2.2.2.2.2.2.2.2.2.2.2.2.2.1 x.2.2.2.2.2.2.2.2.2.2.2.2.2.2.2.2) ((0:Int),v0.1,v0.2.1,v0.2.2.1,v0.2.2.2.1,v0.2.2.2.2.1,v0.2.2.2.2.2.1,v0.2.2.2.2.2.2.1,v0.2.2.2.2.2.2.2,v1)).bind fun v23=>match v23 with
 |.inl v24=>(some v24)
 |.inr v25=>(bif(v25.1==v25.2.2.2.2.2.2.2.2.1)then(bif(v25.2.1==v25.2.2.2.2.2.2.2.2.2.1)then(bif(v25.2.2.1==v25.2.2.2.2.2.2.2.2.2.2.1)then(bif(v25.2.2.2.1==v25.2.2.2.2.2.2.2.2.2.2.2.1)then(bif(v25.2.2.2.2.1==v25.2.2.2.2.2.2.2.2.2.2.2.2.1)then(bif(v25.2.2.2.2.2.1==v25.2.2.2.2.2.2.2.2.2.2.2.2.2.1)then(some (v25.2.2.2.2.2.2.1==v25.2.2.2.2.2.2.2.2.2.2.2.2.2.2.1))else(some false))else(some false))else(some false))else(some false))else(some false))else(some false)))
def zgQ(o:Ops):PC:=⟨[(.h xaC),(.h xaC)],[.b],fun x=>zcG o x.1 x.2,false⟩
theorem zkS:PCok Tryz.prog tabs 32 (zgQ o):=xcM (o:=o) (η:=[(200004,.loop [] ⟨[(2,(.ptr 0 0)),(3,(.ptr 1 0)),(5,hI)],[xaL,xaL]⟩ [] [(some 1000000,⟨[(4,hB)],[]⟩),(some 0,⟨[(2,(.ptr 0 0)),(3,(.ptr 1 0))],[xaL,xaL]⟩)]),
 (4000006,.sch [(.pu,0,[]),(.pu,1,[]),(.pu,2,[]),(.pu,3,[]),(.pu,4,[]),(.pu,5,[]),(.pu,6,[]),(.pu,7,[]),(.pu,8,[]),(.pu,9,[]),(.pu,10,[])])]) (Γ:=⟨[],[],false,[]⟩) (ctok trivial trivial) Tryz.func32
def zfE(o:Ops)(v0:List yhT)(v1:List yhT)(v2:Int):Option (Int⊕(Bool⊕Unit)):=
 bif decide (v2<(v0.length:Int))then((idx v0 v2).bind fun v3=>(idx v1 v2).bind fun v4=>(zcG o v3 v4).bind fun v5=>bif(!v5)then some (.inr (.inl false))else some (.inl (w64 (v2+1))))else some (.inr (.inr ()))
def zdI(o:Ops)(v0:List yhT)(v1:List yhT):Option (Bool):=
 bif((v0.length:Int) != (v1.length:Int))then(some false)else((iter (zfE o v0 v1) (0:Int)).bind fun v6=>match v6 with
 |.inl v7=>(some v7)
 |.inr _v8=>(some true))
def ziW(o:Ops):PC:=⟨[(.h (.sl xaC)),(.h (.sl xaC))],[.b],fun x=>zdI o x.1 x.2,false⟩
theorem zqC:PCok Tryz.prog tabs 13 (ziW o):=xcM (o:=o) (η:=[(200004,.loop [] ⟨[(5,hI)],[]⟩ [0,1] [(some 1000000,⟨[(4,hB)],[]⟩),(some 0,⟨[],[]⟩)]),
 (4000006,.sch [(.pu,0,[]),(.pu,1,[]),(.pu,2,[]),(.pu,3,[]),(.pu,4,[]),(.pu,5,[]),(.pu,6,[]),(.pu,7,[]),(.mn,8,[]),(.pu,9,[])])]) (Γ:=⟨[(32,(zgQ o))],[],false,[]⟩) (ctok ⟨zkS,trivial⟩ trivial) Tryz.func13
end
section
variable {α β γ σ:Type}
def T(o:Option α)(P:α→Prop):Prop:=∃r,o=some r∧P r
theorem T.eq{o:Option α}{v:α}(h:T o fun r=>r=v):o=some v:=by
 obtain⟨r,h1,rfl⟩:=h;exact h1
theorem T.ok{a:α}{P:α→Prop}(h:P a):T (some a) P:=⟨a,rfl,h⟩
theorem T.bind{o:Option α}{f:α→Option β}{Q:α→Prop}{P:β→Prop}(h:T o Q)(g:∀a,Q a→T (f a) P):T (o.bind f) P:=by
 obtain⟨a,rfl,h⟩:=h
 exact g a h
theorem T.bif{c:Bool}{a b:Option α}{P:α→Prop}(h:c=true→T a P)(g:c=false→T b P):T (bif c then a else b) P:=by
 cases c
 ·exact g rfl
 ·exact h rfl
theorem T.dif{p:Prop}[Decidable p]{a b:Option α}{P:α→Prop}(h:p→T a P)(g:¬p→T b P):T (bif decide p then a else b) P:=
 T.bif (fun e=>h (of_decide_eq_true e)) fun e=>g (of_decide_eq_false e)
theorem T.mono{o:Option α}{P Q:α→Prop}(h:T o P)(g:∀a,P a→Q a):T o Q:=by
 obtain⟨a,h1,h2⟩:=h
 exact⟨a,h1,g a h2⟩
theorem T.get{o:Option Bool}{P:Bool→Prop}(h:T o P):o=some (o.getD false):=by
 obtain⟨a,rfl,_⟩:=h
 rfl
theorem T.at{o:Option α}{P:α→Prop}{a:α}(h:T o P)(e:o=some a):P a:=by
 obtain⟨b,e2,h2⟩:=h
 rw[e]at e2
 cases e2
 exact h2
theorem T.idx{l:List α}{i:Int}{P:α→Prop}(h0:0≤i)(h:i<(l.length:Int))(g:∀(k:Nat) (hk:k<l.length),i=(k:Int)→P l[k]):T (idx l i) P:=by
 obtain⟨k,rfl⟩:∃k:Nat,i=k:=⟨i.toNat,by omega⟩
 exact⟨_,zbO rfl (by omega),g k (by omega) rfl⟩
theorem T.ix{l:List α}{i:Int}(h0:0≤i)(h:i<(l.length:Int)):T (Go.Proofs.YtmkomlbiaebddaaGreatDoor.idx l i) fun _=>True:=T.idx h0 h fun _ _ _=>trivial
theorem T.iter{body:σ→Option (σ⊕β)}(I:σ→Prop)(m:σ→Nat)(G:β→Prop)(hr:∀s,I s→T (body s) fun r=>match r with
  |.inl s'=>I s'∧m s'<m s
  |.inr b=>G b) {s:σ} (hs:I s) (hm:m s<1099511627776):T (iter body s) G:=
 ycC I m G (fun s hs=>by
  obtain⟨r,h1,h2⟩:=hr s hs
  cases r with
  |inl s'=>exact .inl ⟨s',h1,h2⟩
  |inr b=>exact .inr ⟨b,h1,h2⟩) FU s hs (by unfold FU;exact hm)
theorem T.app{a b:List α}{P:List α→Prop}(h:a.length+b.length≤68719476736)(g:P (a++b)):T (app a b) P:=⟨_,zbA h,g⟩
theorem T.places{body:Int→Option (Int⊕β)}(n:Nat)(hn:n<1099511627776)(G:β→Prop)(hr:∀k:Nat,k≤n→T (body (k:Int)) fun r=>match r with
  |.inl s'=>s'=((k+1:Nat):Int)∧k<n
  |.inr b=>G b):T (Go.Proofs.YtmkomlbiaebddaaGreatDoor.iter body 0) G:=by
 refine T.iter (fun i=>0≤i∧i≤(n:Int)) (fun i=>(n-i).toNat) G (fun i hi=>?_) ⟨by omega,by omega⟩ (by omega)
 obtain⟨k,rfl⟩:∃k:Nat,i=k:=⟨i.toNat,by omega⟩
 refine(hr k (by omega)).mono fun r h=>?_
 cases r with
 |inl s=>obtain⟨rfl,h⟩:=h;exact⟨⟨by omega,by omega⟩,by omega⟩
 |inr b=>exact h
end
theorem zuR{k:Nat}(h:k<1099511627776):w64 ((k:Int)+1)=((k+1:Nat):Int):=by rw[zaS (by omega) (by omega)];omega
theorem trim_t(s cs:Bs)(h:s.length≤1048576)(h2:cs.length<4294967281)(h3:cs.all (fun b=>decide (b.toNat<128))=true):T (zaD.trim s cs) fun _=>True:=by
 refine⟨Lib.trimS s cs,?_,trivial⟩
 show yiR s cs=_
 unfold yiR
 rw[decide_eq_true (show s.length≤9223372036854775807 by omega),decide_eq_true h2,h3]
 rfl
theorem of_t(v:Bs)(n:Int)(cs:Bs)(hn:n≤1048576)(h2:cs.length<4294967281)(h3:cs.all (fun b=>decide (b.toNat<128))=true):T (zlM zaD v n cs) fun _=>True:=by
 unfold zlM
 refine T.bif (fun _=>T.dif (fun h=>?_) fun _=>T.ok trivial) fun _=>T.ok trivial
 exact(trim_t v cs (by omega) h2 h3).bind fun _ _=>T.ok trivial
theorem nameT(s:Bs):T (zdB zaD s) fun _=>True:=by
 unfold zdB
 exact(of_t s _ _ (by decide) (by decide) (by decide)).bind fun _ _=>T.ok trivial
abbrev L8:Type:=Bs
def nmB(s:L8):Bool:=(zdB zaD s).getD false
theorem xfL(s:L8):zdB zaD s=some (nmB s):=(nameT s).get
theorem xbZ{α:Type}{l:List α}{p:α→Bool}{k:Nat}(hk:k<l.length):(l.take (k+1)).all p=((l.take k).all p&&p l[k]):=by
 rw[List.take_succ_eq_append_getElem hk,List.all_append,List.all_cons,List.all_nil,Bool.and_true]
theorem all_no{α:Type}{l:List α}{p:α→Bool}{k:Nat}(hk:k<l.length)(h:p l[k]=false):l.all p=false:=by
 cases ha:l.all p with
 |false=>rfl
 |true=>rw[List.all_eq_true.1 ha _ (List.getElem_mem hk)]at h;cases h
theorem xdU{α R:Type}{l:List α}{p:α→Bool}{body:Int→Option (Int⊕R)}{bad good:R}(hl:l.length<1099511627776)
  (hb:∀(k:Nat) (hk:k<l.length),body (k:Int)=some (bif p l[k]then .inl ((k+1:Nat):Int)else .inr bad)) (he:body (l.length:Int)=some (.inr good)):iter body (0:Int)=some (bif l.all p then good else bad):=by
 have hT:T (iter body (0:Int)) fun r=>r=(bif l.all p then good else bad):=by
  refine T.iter (fun x=>0≤x∧x≤(l.length:Int)∧(l.take x.toNat).all p=true) (fun x=>l.length-x.toNat) _ (fun x hx=>?_) ⟨Int.le_refl _,by omega,rfl⟩ (by omega)
  obtain⟨h1,h2,h3⟩:=hx
  obtain⟨k,rfl⟩:∃k:Nat,x=k:=⟨x.toNat,by omega⟩
  rw[Int.toNat_natCast]at h3
  by_cases hk:k<l.length
  ·rw[hb k hk]
   cases hp:p l[k] with
   |true=>exact T.ok ⟨⟨by omega,by omega,by rw[Int.toNat_natCast,xbZ hk,h3,hp];rfl⟩,by omega⟩
   |false=>exact T.ok (by rw[all_no hk hp];rfl)
  ·obtain rfl:k=l.length:=by omega
   rw[he]
   rw[List.take_of_length_le (Nat.le_refl _)]at h3
   exact T.ok (by rw[h3];rfl)
 obtain⟨r,h1,rfl⟩:=hT
 exact h1
theorem yvL{α:Type}{l:List α}{p q:α→Bool}(h:∀x∈l,p x=q x):l.all p=l.all q:=by
 induction l with
 |nil=>rfl
 |cons x l ih=>rw[List.all_cons,List.all_cons,h x List.mem_cons_self,ih fun y hy=>h y (List.mem_cons_of_mem _ hy)]
theorem of_is{s cs:L8}{n:Int}(hn:n≤1048576)(h2:cs.length<4294967281)(h3:cs.all (fun b=>decide (b.toNat<128))=true):zlM zaD s n cs=some (s != []&&decide ((s.length:Int)≤n)&&s.all (cs.contains ·)):=by
 unfold zlM
 cases h0:s != ([]:L8) with
 |false=>rfl
 |true=>
  simp only[cond_true,Bool.true_and]
  by_cases hl:(s.length:Int)≤n
  ·rw[zaY hl,decide_eq_true hl]
   have ht:zaD.trim s cs=some (Lib.trimS s cs):=by
    show yiR s cs=_
    unfold yiR
    rw[decide_eq_true (show s.length≤9223372036854775807 by omega),decide_eq_true h2,h3]
    rfl
   rw[ht,zaA,Bool.true_and]
   congr 1
   rw[Bool.eq_iff_iff,beq_iff_eq,ytW,List.all_eq_true]
  ·rw[zaZ hl,decide_eq_false hl]
   rfl
abbrev yoE:L8:=[97,98,99,100,101,102,103,104,105,106,107,108,109,110,111,112,113,114,115,116,117,118,119,120,121,122,48,49,50,51,52,53,54,55,56,57,46,95,45]
def letB(b:UInt8):Bool:=(zbU zaD b).getD false
theorem yuZ(b:UInt8):zbU zaD b=some (letB b):=by
 have:=ynZ (fun b=>(zbU zaD b).isSome) (by kernel_rfl) b
 unfold letB
 cases h:zbU zaD b with
 |none=>rw[h]at this;cases this
 |some v=>rfl
theorem let_is(b:UInt8):yoE.contains b=letB b:=by
 have:=ynZ (fun b=>yoE.contains b==letB b) (by kernel_rfl) b
 simpa using this
theorem nm_is(s:L8):nmB s=(s != []&&decide (s.length≤24)&&s.all letB):=by
 have h:=xfL s
 unfold zdB at h
 rw[of_is (by decide) (by decide) (by decide),zaA]at h
 rw[←osi h,yvL fun b _=>let_is b]
 congr 2
 rw[decide_eq_decide]
 omega
theorem ne_len(s:L8):decide ((s.length:Int)≥1)=(s != []):=by
 cases s with
 |nil=>rfl
 |cons b l=>rw[decide_eq_true (by simp only[List.length_cons];omega)];rfl
theorem yzQ{s:L8}(hs:s.length≤1048576):zeY zaD s=some (nmB s):=by
 unfold zeY
 rw[xdU (l:=s) (p:=letB) (bad:=Sum.inl false) (good:=Sum.inr ()) (by omega) (fun k hk=>?_) ?_,zaA,nm_is]
 ·cases ha:s.all letB with
  |false=>simp
  |true=>
   simp only[cond_true,Bool.and_true]
   rw[←ne_len]
   by_cases h:(s.length:Int)≥1
   ·rw[zaY h,decide_eq_true h,Bool.true_and]
    congr 1
    rw[decide_eq_decide]
    omega
   ·rw[zaZ h,decide_eq_false h];rfl
 ·unfold zgU
  rw[zaZ (by omega)]
 ·unfold zgU
  rw[zaY (show(k:Int)<(s.length:Int) by omega),zbO rfl hk,zaA,yuZ,zaA]
  cases letB s[k] with
  |false=>rfl
  |true=>simp only[Bool.not_true,cond_false,cond_true];rw[zuR (by omega)]
def rdT(l:List L8)(q:Bool):L8×List L8×Bool:=match l with
 |[]=>([],[],true)
 |x::r=>(x,r,q)
def Sml(l:List L8):Prop:=l.length≤1048576∧∀t∈l,t.length≤1048576
theorem Sml.text{l:List L8}(h:Sml l)(q:Bool):(rdT l q).1.length≤1048576∧Sml (rdT l q).2.1:=by
 cases l with
 |nil=>exact⟨Nat.zero_le _,h⟩
 |cons x r=>exact⟨h.2 x List.mem_cons_self,by have:=h.1;simp only[List.length_cons]at this;show r.length≤_;omega,fun t ht=>h.2 t (List.mem_cons_of_mem _ ht)⟩
theorem Sml.drop{l:List L8}(h:Sml l)(n:Nat):Sml (l.drop n):=⟨by rw[List.length_drop];have:=h.1;omega,fun t ht=>h.2 t (List.mem_of_mem_drop ht)⟩
theorem Sml.take{l:List L8}(h:Sml l)(n:Nat):Sml (l.take n):=⟨by rw[List.length_take];have:=h.1;omega,fun t ht=>h.2 t (List.mem_of_mem_take ht)⟩
theorem Sml.nil:Sml []:=⟨Nat.zero_le _,fun _ h=>by cases h⟩
section
attribute [local irreducible] macF
theorem wrN{x:Int}(h:-9223372036854775808≤x)(h2:x<9223372036854775808):IntKind.i64.wrap x=x:=by
 simp only[IntKind.wrap,IntKind.signed,IntKind.bits]
 simp
 omega
theorem xaR{x:Nat}(hx:x<9223372036854775808):(BitVec.ofInt 64 (x:Int)).toNat=x:=by
 rw[BitVec.toNat_ofInt]
 omega
theorem and64{x y:Nat}(hx:x<9223372036854775808)(hy:y<9223372036854775808):bits .and .i64 (x:Int) (y:Int)=((x&&&y:Nat):Int):=by
 show IntKind.i64.wrap (((BitVec.ofInt 64 (x:Int)&&&BitVec.ofInt 64 (y:Int)).toNat:Nat):Int)=_
 rw[BitVec.toNat_and,xaR hx,xaR hy]
 have:x&&&y≤x:=Nat.and_le_left
 exact wrN (by omega) (by omega)
theorem or64{x y:Nat}(hx:x<9223372036854775808)(hy:y<9223372036854775808):bits .or .i64 (x:Int) (y:Int)=((x|||y:Nat):Int):=by
 show IntKind.i64.wrap (((BitVec.ofInt 64 (x:Int)|||BitVec.ofInt 64 (y:Int)).toNat:Nat):Int)=_
 rw[BitVec.toNat_or,xaR hx,xaR hy]
 have:x|||y<2^63:=Nat.or_lt_two_pow hx hy
 exact wrN (by omega) (by omega)
theorem yyF{k:IntKind}{a n:Nat}(hn:n≤k.bits):shrI k (a:Int) (n:Int)=((a/2^n:Nat):Int):=by
 unfold shrI
 rw[Int.toNat_natCast,Nat.min_eq_left hn,ztY]
theorem xeN{a n:Nat}(hn:n≤64)(h:a*2^n<9223372036854775808):shlI .i64 (a:Int) (n:Int)=((a*2^n:Nat):Int):=by
 unfold shlI
 rw[Int.toNat_natCast,show min n IntKind.i64.bits=n from Nat.min_eq_left hn,show(a:Int)*2^n=((a*2^n:Nat):Int) by rw[Int.natCast_mul,Int.natCast_pow];rfl]
 exact wrN (by omega) (by omega)
theorem zwB{a b n:Nat}(h:b<2^n):a*2^n|||b=a*2^n+b:=by
 rw[Nat.mul_comm,←Nat.two_pow_add_eq_or_of_lt h]
theorem yrH{n:Nat}(h:n<18446744073709551616):(i64 (n:Int)).toNat=n:=by
 have:=ypD (x:=(n:Int)) (by omega) (by omega)
 omega
theorem yoU(n:Nat):i8 (n:Int)=UInt8.ofNat (n%256):=by
 unfold i8
 congr 1
def be8(n k:Nat):L8:=(List.range k).map fun j=>UInt8.ofNat (n/2^(8*(7-j))%256)
theorem be8_s(n k:Nat):be8 n (k+1)=be8 n k++[UInt8.ofNat (n/2^(8*(7-k))%256)]:=by
 unfold be8
 rw[List.range_succ,List.map_append]
 rfl
theorem yhL(n k:Nat):(be8 n k).length=k:=by unfold be8;simp
theorem obig_e{n:Nat}(h:n<9223372036854775808):zqQ (i64 (n:Int)) 8=some (be8 n 8):=by
 have hi:iter (fun x=>znP (i64 (n:Int)) x.1 x.2) ((7:Int),([]:L8))=some (be8 n 8):=by
  refine zaM (fun k=>(7-(k:Int),be8 n k)) 8 (by omega) _ (fun k hk=>?_) ?_
  ·have hd:n/2^(8*(7-k))≤n:=Nat.div_le_self _ _
   have hl:=yhL n k
   unfold znP
   simp only[]
   rw[zaY (by omega),zaS (x:=8*(7-(k:Int))) (by omega) (by omega),decide_eq_true (show(0:Int)≤8*(7-(k:Int)) by omega),zeO rfl,zaA,yrH (by omega),show(8:Int)*(7-(k:Int))=((8*(7-k):Nat):Int) by omega,yyF (show 8*(7-k)≤IntKind.u64.bits by show 8*(7-k)≤64;omega),yrH (by omega),yoU,zbA (by simp only[List.length_cons,List.length_nil];omega),zaA,←be8_s,zaS (by omega) (by omega),show(7:Int)-(k:Int)-1=7-((k+1:Nat):Int) by omega]
  ·unfold znP
   simp only[]
   rw[zaZ (by omega)]
 unfold zqQ
 rw[show w64 ((8:Int)-1)=7 from by rw[zaS (by omega) (by omega)];rfl,hi,zaA]
theorem dbig_e{n:Nat}(h:n<9223372036854775808):iter (fun x=>zuE zaD (n:Int) x.1 x.2) ((56:Int),([]:L8))=some (be8 n 8):=by
 refine zaM (fun k=>(56-8*(k:Int),be8 n k)) 8 (by omega) _ (fun k hk=>?_) ?_
 ·have hd:n/2^(8*(7-k))≤n:=Nat.div_le_self _ _
  have hl:=yhL n k
  unfold zuE
  simp only[]
  rw[zaY (by omega),decide_eq_true (show(0:Int)≤56-8*(k:Int) by omega),zeO rfl,zaA,show(56:Int)-8*(k:Int)=((8*(7-k):Nat):Int) by omega,yyF (show 8*(7-k)≤IntKind.i64.bits by show 8*(7-k)≤64;omega),show(255:Int)=((255:Nat):Int)from rfl,and64 (by omega) (by omega),show n/2^(8*(7-k))&&&255=n/2^(8*(7-k))%256 from Nat.and_two_pow_sub_one_eq_mod _ 8,yoU,Nat.mod_mod,zbA (by simp only[List.length_cons,List.length_nil];omega),zaA,←be8_s,zaS (by omega) (by omega),show((8*(7-k):Nat):Int)-8=56-8*((k+1:Nat):Int) by omega]
 ·unfold zuE
  simp only[]
  rw[zaZ (by omega)]
theorem xbN(v:UInt64)(x:UInt8)(h:v.toNat<281474976710656):((i64 (shlI .u64 (v.toNat:Int) ((8:UInt64).toNat:Int)))|||(i64 (x.toNat:Int))).toNat=v.toNat*256+x.toNat:=by
 have hx:=x.toNat_lt
 have e:shlI .u64 (v.toNat:Int) ((8:UInt64).toNat:Int)=((v.toNat*256:Nat):Int):=by
  show IntKind.u64.wrap ((v.toNat:Int)*2^8)=_
  rw[zbR,show(v.toNat:Int)*2^8=((v.toNat*256:Nat):Int) by omega,yrH (by omega)]
 rw[UInt64.toNat_or,e,yrH (by omega),yrH (by omega)]
 exact zwB (n:=8) hx
theorem oval_e(a b c d:UInt8):∃v:UInt64,zlH [a,b,c,d]=some v∧v.toNat=((a.toNat*256+b.toNat)*256+c.toNat)*256+d.toNat:=by
 have ha:=a.toNat_lt;have hb:=b.toNat_lt;have hc:=c.toNat_lt;have hd:=d.toNat_lt
 have s0:=xbN 0 a (by decide)
 generalize g1:(i64 (shlI .u64 (((0:UInt64)).toNat:Int) ((8:UInt64).toNat:Int)))|||(i64 (a.toNat:Int))=v1 at s0
 rw[show(0:UInt64).toNat=0 from rfl,Nat.zero_mul,Nat.zero_add]at s0
 have s1:=xbN v1 b (by omega)
 generalize g2:(i64 (shlI .u64 ((v1).toNat:Int) ((8:UInt64).toNat:Int)))|||(i64 (b.toNat:Int))=v2 at s1
 have s2:=xbN v2 c (by omega)
 generalize g3:(i64 (shlI .u64 ((v2).toNat:Int) ((8:UInt64).toNat:Int)))|||(i64 (c.toNat:Int))=v3 at s2
 have s3:=xbN v3 d (by omega)
 generalize g4:(i64 (shlI .u64 ((v3).toNat:Int) ((8:UInt64).toNat:Int)))|||(i64 (d.toNat:Int))=v4 at s3
 refine⟨v4,?_,by rw[s3,s2,s1,s0]⟩
 have st:∀(v:UInt64) (k:Nat) (x:UInt8),idx [a,b,c,d] (k:Int)=some x→k<4→zhX [a,b,c,d] v (k:Int)=some (.inl ((i64 (shlI .u64 (v.toNat:Int) ((8:UInt64).toNat:Int)))|||(i64 (x.toNat:Int)),((k+1:Nat):Int))):=fun v k x hx hk=>by
  unfold zhX
  rw[zaY (by simp only[List.length_cons,List.length_nil];omega),zeO (by decide),zaA,hx,zaA]
  simp only[]
  rw[zaS (by omega) (by omega)]
  rfl
 have hi:iter (fun x=>zhX [a,b,c,d] x.1 x.2) ((0:UInt64),(0:Int))=some v4:=by
  refine zaM (fun k=>(match k with
   |0=>0
   |1=>v1
   |2=>v2
   |3=>v3
   |_=>v4,(k:Int))) 4 (by omega) _ (fun k hk=>?_) ?_
  ·have:k=0∨k=1∨k=2∨k=3:=by omega
   rcases this with rfl|rfl|rfl|rfl
   ·exact(st 0 0 a rfl (by omega)).trans (by rw[g1];rfl)
   ·exact(st v1 1 b rfl (by omega)).trans (by rw[g2];rfl)
   ·exact(st v2 2 c rfl (by omega)).trans (by rw[g3];rfl)
   ·exact(st v3 3 d rfl (by omega)).trans (by rw[g4];rfl)
  ·unfold zhX
   simp only[]
   rw[zaZ (by simp only[List.length_cons,List.length_nil];omega)]
 unfold zlH
 rw[hi,zaA]
def pw(k:Nat):Nat:=100000/10^k
def dg6(m k:Nat):L8:=(List.range k).map fun j=>UInt8.ofNat (48+m/pw j%10)
theorem dg6_s(m k:Nat):dg6 m (k+1)=dg6 m k++[UInt8.ofNat (48+m/pw k%10)]:=by
 unfold dg6
 rw[List.range_succ,List.map_append]
 rfl
theorem pw_s(k:Nat):pw k/10=pw (k+1):=by
 unfold pw
 rw[Nat.div_div_eq_div_mul,Nat.pow_succ]
theorem pw_pos{k:Nat}(h:k<6):0<pw k:=by
 have:k=0∨k=1∨k=2∨k=3∨k=4∨k=5:=by omega
 rcases this with rfl|rfl|rfl|rfl|rfl|rfl<;>decide
theorem pw_le(k:Nat):pw k≤100000:=Nat.div_le_self _ _
theorem ddig_e{m:Nat}(hm:m<9223372036854775808){v13:Int}{v14:UInt8}(hv:bits .or .i64 v13 (w64 (v14.toNat:Int))=(m:Int)):iter (fun x=>zuG zaD v13 v14 x.1 x.2) ((100000:Int),([]:L8))=some (dg6 m 6):=by
 refine zaM (fun k=>((pw k:Int),dg6 m k)) 6 (by omega) _ (fun k hk=>?_) ?_
 ·have hp:=pw_pos hk
  have hle:=pw_le k
  have hl:(dg6 m k).length=k:=by unfold dg6;simp
  have hd:m/pw k≤m:=Nat.div_le_self _ _
  have htd:Int.tdiv (m:Int) (pw k:Int)=((m/pw k:Nat):Int):=rfl
  have hdg:=dg6_s m k
  generalize m/pw k=q at hd htd hdg
  unfold zuG
  simp only[]
  rw[zaY (by omega),show((pw k:Int) != 0)=true from bne_iff_ne.2 (by omega),zeO rfl,zaA,hv,htd,zaS (x:=(q:Int)) (by omega) (by omega),decide_eq_true (show(0:Int)<10 by decide),zeO rfl,zaA,show Int.tmod (q:Int) 10=((q%10:Nat):Int)from rfl,zaS (x:=48+((q%10:Nat):Int)) (by omega) (by omega),show(48:Int)+((q%10:Nat):Int)=((48+q%10:Nat):Int) by omega,yoU,Nat.mod_eq_of_lt (show 48+q%10<256 by omega),zbA (by simp only[List.length_cons,List.length_nil];omega),zaA,←hdg,show((10:Int) != 0)=true from rfl,zeO rfl,zaA,show Int.tdiv (pw k:Int) 10=((pw k/10:Nat):Int)from rfl,pw_s,zaS (by omega) (by have:=pw_le (k+1);omega)]
 ·unfold zuG
  simp only[]
  rw[zaZ (show ¬((pw 6:Nat):Int)>0 by decide)]
theorem dec7a{y:Nat}(h1:1000000≤y)(h2:y<2000000):(Lib.decDigits y).drop 1=[UInt8.ofNat (48+y/10/10/10/10/10%10),UInt8.ofNat (48+y/10/10/10/10%10),UInt8.ofNat (48+y/10/10/10%10),UInt8.ofNat (48+y/10/10%10),UInt8.ofNat (48+y/10%10),UInt8.ofNat (48+y%10)]:=by
 have st:∀m:Nat,¬m<10→Lib.decDigits m=Lib.decDigits (m/10)++[UInt8.ofNat (48+m%10)]:=fun m h=>by rw[zuA,if_neg h]
 have b1:100000≤y/10∧y/10<200000:=by omega
 have e1:=st y (by omega)
 generalize y/10=y1 at e1 b1 ⊢
 have b2:10000≤y1/10∧y1/10<20000:=by omega
 have e2:=st y1 (by omega)
 generalize y1/10=y2 at e2 b2 ⊢
 have b3:1000≤y2/10∧y2/10<2000:=by omega
 have e3:=st y2 (by omega)
 generalize y2/10=y3 at e3 b3 ⊢
 have b4:100≤y3/10∧y3/10<200:=by omega
 have e4:=st y3 (by omega)
 generalize y3/10=y4 at e4 b4 ⊢
 have b5:10≤y4/10∧y4/10<20:=by omega
 have e5:=st y4 (by omega)
 generalize y4/10=y5 at e5 b5 ⊢
 have b6:1≤y5/10∧y5/10<2:=by omega
 have e6:=st y5 (by omega)
 generalize y5/10=y6 at e6 b6
 have e7:Lib.decDigits y6=[UInt8.ofNat (48+y6)]:=by rw[zuA,if_pos (by omega)]
 rw[e1,e2,e3,e4,e5,e6,e7]
 rfl
theorem dec7{x:Nat}(h:x<1000000):(Lib.decDigits (1000000+x)).drop 1=dg6 x 6:=by
 have h1:=dec7a (y:=1000000+x) (by omega) (by omega)
 have q5:(1000000+x)/10/10/10/10/10%10=x/100000%10:=by omega
 have q4:(1000000+x)/10/10/10/10%10=x/10000%10:=by omega
 have q3:(1000000+x)/10/10/10%10=x/1000%10:=by omega
 have q2:(1000000+x)/10/10%10=x/100%10:=by omega
 have q1:(1000000+x)/10%10=x/10%10:=by omega
 have q0:(1000000+x)%10=x/1%10:=by omega
 rw[q5,q4,q3,q2,q1,q0]at h1
 rw[h1]
 rfl
theorem dg6_mod(m:Nat):dg6 (m%1000000) 6=dg6 m 6:=by
 show [UInt8.ofNat (48+m%1000000/100000%10),UInt8.ofNat (48+m%1000000/10000%10),UInt8.ofNat (48+m%1000000/1000%10),UInt8.ofNat (48+m%1000000/100%10),UInt8.ofNat (48+m%1000000/10%10),UInt8.ofNat (48+m%1000000/1%10)]=[UInt8.ofNat (48+m/100000%10),UInt8.ofNat (48+m/10000%10),UInt8.ofNat (48+m/1000%10),UInt8.ofNat (48+m/100%10),UInt8.ofNat (48+m/10%10),UInt8.ofNat (48+m/1%10)]
 rw[show m%1000000/100000%10=m/100000%10 by omega,show m%1000000/10000%10=m/10000%10 by omega,show m%1000000/1000%10=m/1000%10 by omega,show m%1000000/100%10=m/100%10 by omega,show m%1000000/10%10=m/10%10 by omega,show m%1000000/1%10=m/1%10 by omega]
theorem m_bd{x b c d:Nat}(hx:x<128)(hb:b<256)(hc:c<256)(hd:d<256):x*16777216+b*65536+c*256+d<9223372036854775808:=by omega
theorem m_md{a b c d:Nat}(hb:b<256)(hc:c<256)(hd:d<256):(((a*256+b)*256+c)*256+d)%2147483648=a%128*16777216+b*65536+c*256+d:=by omega
theorem yzV{secret:L8}(h:secret.length≤1048576){n:Nat}(hn:n<9223372036854775808):zwU zaD secret (n:Int)=some (codeF secret (n:Int)):=by
 have hc:=(yfX (secret:=secret) (by omega) (n:Int)).1
 rw[←hc]
 have hl:=zpO secret (be8 n 8)
 have hoff:∀b:UInt8,((b&&&(15:UInt8)).toNat:Nat)≤15:=fun b=>by
  rw[UInt8.toNat_and];exact Nat.and_le_right
 unfold ziF zwU
 rw[obig_e hn,zaA,dbig_e hn,zaA,mac4_t h (by rw[yhL];omega),zaA,show macP secret (be8 n 8)=some (macF secret (be8 n 8))from ygB (by omega) (by rw[yhL];omega),zaA,show idx (macF secret (be8 n 8)) 31=some ((macF secret (be8 n 8))[31]'(by omega))from zbO (i:=31) rfl (by omega),zaA,zaA]
 have ho:=hoff ((macF secret (be8 n 8))[31]'(by omega))
 generalize ((macF secret (be8 n 8))[31]'(by omega)&&&(15:UInt8)).toNat=g at ho ⊢
 generalize macF secret (be8 n 8)=M at hl ⊢
 have h5:((i8 ((g:Int)+((4:UInt8).toNat:Int))).toNat:Int)=(g:Int)+4:=by
  rw[←zrP,show((4:UInt8).toNat:Int)=4 from rfl]
  simp only[IntKind.wrap,IntKind.signed,IntKind.bits]
  simp
  omega
 have h4:(M.take (g+4)).drop g=[M[g]'(by omega),M[g+1]'(by omega),M[g+2]'(by omega),M[g+3]'(by omega)]:=by
  apply List.ext_getElem
  ·simp;omega
  ·intro j j1 j2
   simp only[List.length_cons,List.length_nil]at j2
   rw[List.getElem_drop,List.getElem_take]
   have:j=0∨j=1∨j=2∨j=3:=by omega
   rcases this with rfl|rfl|rfl|rfl<;>rfl
 have h6:sub3 M (g:Int) ((g:Int)+4)=some [M[g]'(by omega),M[g+1]'(by omega),M[g+2]'(by omega),M[g+3]'(by omega)]:=by
  rw[show(g:Int)+4=((g+4:Nat):Int) by omega,yyL (by omega) (by omega),h4]
 simp only[]
 rw[h5,h6,zaA]
 rw[zaS (x:=(g:Int)) (by omega) (by omega),zbO (j:=(g:Int)) rfl (show g<M.length by omega),zaA,zeO (by decide),zaA]
 rw[zaS (x:=(g:Int)+1) (by omega) (by omega),zbO (j:=(g:Int)+1) (i:=g+1) (by omega) (by omega),zaA,zeO (by decide),zaA]
 rw[zaS (x:=(g:Int)+2) (by omega) (by omega),zbO (j:=(g:Int)+2) (i:=g+2) (by omega) (by omega),zaA,zeO (by decide),zaA]
 rw[zaS (x:=(g:Int)+3) (by omega) (by omega),zbO (j:=(g:Int)+3) (i:=g+3) (by omega) (by omega),zaA]
 generalize M[g]'(by omega)=a
 generalize M[g+1]'(by omega)=b
 generalize M[g+2]'(by omega)=c
 generalize M[g+3]'(by omega)=d
 have ha:=a.toNat_lt;have hb:=b.toNat_lt;have hcc:=c.toNat_lt;have hd:=d.toNat_lt
 obtain⟨v,hv,hvn⟩:=oval_e a b c d
 have ha7:(a&&&127).toNat=a.toNat%128:=by
  rw[UInt8.toNat_and];exact Nat.and_two_pow_sub_one_eq_mod _ 7
 have k1:shlI .i64 (w64 ((a&&&127).toNat:Int)) ((24:UInt64).toNat:Int)=((a.toNat%128*2^24:Nat):Int):=by
  rw[yjI,ha7]
  exact xeN (n:=24) (by omega) (by omega)
 have k2:shlI .i64 (w64 (b.toNat:Int)) ((16:UInt64).toNat:Int)=((b.toNat*2^16:Nat):Int):=by
  rw[yjI]
  exact xeN (n:=16) (by omega) (by omega)
 have k3:shlI .i64 (w64 (c.toNat:Int)) ((8:UInt64).toNat:Int)=((c.toNat*2^8:Nat):Int):=by
  rw[yjI]
  exact xeN (n:=8) (by omega) (by omega)
 have k4:bits .or .i64 (bits .or .i64 (bits .or .i64 ((a.toNat%128*2^24:Nat):Int) ((b.toNat*2^16:Nat):Int)) ((c.toNat*2^8:Nat):Int)) (w64 (d.toNat:Int))=((a.toNat%128*16777216+b.toNat*65536+c.toNat*256+d.toNat:Nat):Int):=by
  rw[or64 (by omega) (by omega),zwB (n:=24) (show b.toNat*2^16<2^24 by omega),show a.toNat%128*2^24+b.toNat*2^16=(a.toNat%128*256+b.toNat)*2^16 by omega,or64 (by omega) (by omega),zwB (n:=16) (show c.toNat*2^8<2^16 by omega),show(a.toNat%128*256+b.toNat)*2^16+c.toNat*2^8=((a.toNat%128*256+b.toNat)*256+c.toNat)*2^8 by omega,yjI,or64 (by omega) (by omega),zwB (n:=8) (show d.toNat<2^8 by omega)]
 rw[k1,k2,k3,ddig_e (m:=a.toNat%128*16777216+b.toNat*65536+c.toNat*256+d.toNat) (m_bd (Nat.mod_lt _ (by decide)) hb hcc hd) k4,zaA,hv,zaA,zeO (by decide),zaA]
 have e1:(v&&&(2147483647:UInt64)).toNat=a.toNat%128*16777216+b.toNat*65536+c.toNat*256+d.toNat:=by
  rw[UInt64.toNat_and,show(2147483647:UInt64).toNat=2^31-1 from rfl,Nat.and_two_pow_sub_one_eq_mod,hvn]
  exact m_md hb hcc hd
 rw[e1]
 generalize a.toNat%128*16777216+b.toNat*65536+c.toNat*256+d.toNat=m
 have e2:Int.tmod (m:Int) ((1000000:UInt64).toNat:Int)=((m%1000000:Nat):Int):=rfl
 have hlt:m%1000000<1000000:=Nat.mod_lt _ (by decide)
 rw[e2,yrH (by omega),zaS (x:=((m%1000000:Nat):Int)) (by omega) (by omega),zaS (by omega) (by omega),show((m%1000000:Nat):Int)+1000000=((1000000+m%1000000:Nat):Int) by omega,zxG _ (by omega),zaA]
 have hlen:1≤(Lib.decDigits (1000000+m%1000000)).length:=List.length_pos_iff.2 (decD_ne _)
 rw[show subL (Lib.decDigits (1000000+m%1000000)) 1=some ((Lib.decDigits (1000000+m%1000000)).drop 1)from zxQ (n:=1) hlen,zaA,dec7 hlt,dg6_mod]
end
section
attribute [local irreducible] stF macF
def numM(s:L8)(m:Int):Option Int:=bif numB s&&decide ((vaF s:Int)≤m)then some (vaF s:Int)else none
def mayK(k:KeyT):Bool:=(decide (1≤(k.1.length:Int))&&decide ((k.1.length:Int)≤86))&&(((k.2.1.length:Int)==32)&&(((k.2.2.1.length:Int)==32)&&(decide (0≤k.2.2.2)&&decide (k.2.2.2≤4294967295))))
theorem pmay_o(k:KeyT):zlS zaD k=some (mayK k):=by
 unfold zlS mayK
 rw[yrP,zaA,yrP]
 cases (decide (1≤(k.1.length:Int))&&decide ((k.1.length:Int)≤86)) with
 |false=>rfl
 |true=>
  cases ((k.2.1.length:Int)==32) with
  |false=>rfl
  |true=>cases ((k.2.2.1.length:Int)==32)<;>rfl
theorem dmay_o(k:KeyT):zfK zaD k=some (mayK k):=by
 unfold zfK mayK
 by_cases h1:(k.1.length:Int)≥1
 ·rw[zaY h1,decide_eq_true (show 1≤(k.1.length:Int)from h1)]
  by_cases h2:(k.1.length:Int)≤86
  ·rw[zaY h2,decide_eq_true h2]
   cases ((k.2.1.length:Int)==32) with
   |false=>rfl
   |true=>
    cases ((k.2.2.1.length:Int)==32) with
    |false=>rfl
    |true=>
     simp only[cond_true,Bool.true_and]
     by_cases h3:k.2.2.2≥0
     ·rw[zaY h3,decide_eq_true (show 0≤k.2.2.2 from h3)];rfl
     ·rw[zaZ h3,decide_eq_false (show ¬0≤k.2.2.2 from h3)];rfl
  ·rw[zaZ h2,decide_eq_false h2];rfl
 ·rw[zaZ h1,decide_eq_false (show ¬1≤(k.1.length:Int)from h1)];rfl
theorem ytD{k:KeyT}(h:mayK k=true):(1≤k.1.length∧k.1.length≤86)∧k.2.1.length=32∧k.2.2.1.length=32∧0≤k.2.2.2∧k.2.2.2≤4294967295:=by
 unfold mayK at h
 simp only[Bool.and_eq_true,decide_eq_true_eq,beq_iff_eq]at h
 obtain⟨⟨a,b⟩,c,d,e,f⟩:=h
 exact⟨⟨by omega,by omega⟩,by omega,by omega,e,f⟩
def hasK(ks:List KeyT)(id:L8):Bool:=ks.any fun k=>k.1==id
theorem yoJ(ks:List KeyT)(id:L8)(hk:ks.length≤4):(zaU zaD ks id=some (-1)∧∀k∈ks,k.1≠id)∨∃i:Nat,∃hi:i<ks.length,zaU zaD ks id=some (i:Int)∧ks[i].1=id:=by
 have hT:T (iter (zgW zaD ks id) (0:Int)) fun r=>match r with
   |.inl j=>∃i:Nat,∃hi:i<ks.length,j=(i:Int)∧ks[i].1=id
   |.inr _=>∀k∈ks,k.1≠id:=by
  refine T.iter (fun i=>0≤i∧i≤(ks.length:Int)∧∀k∈ks.take i.toNat,k.1≠id) (fun i=>ks.length-i.toNat) _ (fun i hi=>?_) ⟨Int.le_refl _,by omega,fun k hk=>by simp at hk⟩ (by omega)
  obtain⟨h1,h2,h3⟩:=hi
  obtain⟨j,rfl⟩:∃j:Nat,i=j:=⟨i.toNat,by omega⟩
  rw[Int.toNat_natCast]at h3
  unfold zgW
  refine T.dif (fun h=>?_) fun h=>T.ok ?_
  ·have hj:j<ks.length:=by omega
   rw[zbO rfl hj,zaA]
   cases hb:ks[j].1==id with
   |true=>exact T.ok ⟨j,hj,rfl,beq_iff_eq.1 hb⟩
   |false=>
    simp only[cond_false]
    rw[zaS (by omega) (by omega)]
    refine T.ok ⟨⟨by omega,by omega,fun k hk=>?_⟩,by omega⟩
    rw[show((j:Int)+1).toNat=j+1 by omega,List.take_succ_eq_append_getElem hj]at hk
    rcases List.mem_append.1 hk with hk|hk
    ·exact h3 k hk
    ·rw[List.mem_singleton.1 hk];exact fun e=>by rw[e,beq_self_eq_true]at hb;cases hb
  ·rw[List.take_of_length_le (by omega)]at h3
   exact h3
 obtain⟨r,h1,h2⟩:=hT
 unfold zaU
 rw[h1,zaA]
 cases r with
 |inl j=>obtain⟨i,hi,rfl,he⟩:=h2;exact .inr ⟨i,hi,rfl,he⟩
 |inr u=>exact .inl ⟨rfl,h2⟩
def keyG(a b c d:L8):KeyT:=(a,b,c,(numM d 4294967295).getD (-1))
def zmM:Nat→List L8→List KeyT→Option (List L8×List KeyT)
 |0,l,ks=>some (l,ks)
 |n+1,a::b::c::d::r,ks=>bif mayK (keyG a b c d) && !hasK ks a then zmM n r (ks++[keyG a b c d])else none
 |_+1,_,_=>none
theorem yuI{c:CrT}(h:c.2.2.2.2.2.2.2.length≤4):zcG zaD c c=some true:=by
 unfold zcG
 simp only[bne_self_eq_false,cond_false]
 have hi:iter (fun x=>zeI zaD x.1 x.2.1 x.2.2.1 x.2.2.2.1 x.2.2.2.2.1 x.2.2.2.2.2.1 x.2.2.2.2.2.2.1 x.2.2.2.2.2.2.2.1 x.2.2.2.2.2.2.2.2.1 x.2.2.2.2.2.2.2.2.2.1 x.2.2.2.2.2.2.2.2.2.2.1 x.2.2.2.2.2.2.2.2.2.2.2.1 x.2.2.2.2.2.2.2.2.2.2.2.2.1 x.2.2.2.2.2.2.2.2.2.2.2.2.2.1 x.2.2.2.2.2.2.2.2.2.2.2.2.2.2.1 x.2.2.2.2.2.2.2.2.2.2.2.2.2.2.2.1 x.2.2.2.2.2.2.2.2.2.2.2.2.2.2.2.2) (((0:Nat):Int),c.1,c.2.1,c.2.2.1,c.2.2.2.1,c.2.2.2.2.1,c.2.2.2.2.2.1,c.2.2.2.2.2.2.1,c.2.2.2.2.2.2.2,c)=some (.inr (c.1,c.2.1,c.2.2.1,c.2.2.2.1,c.2.2.2.2.1,c.2.2.2.2.2.1,c.2.2.2.2.2.2.1,c.2.2.2.2.2.2.2,c)):=by
  refine zaM (fun k=>((k:Int),c.1,c.2.1,c.2.2.1,c.2.2.2.1,c.2.2.2.2.1,c.2.2.2.2.2.1,c.2.2.2.2.2.2.1,c.2.2.2.2.2.2.2,c)) c.2.2.2.2.2.2.2.length (by omega) _ (fun k hk=>?_) ?_
  ·unfold zeI
   simp only[]
   rw[zaY (by omega),zbO rfl hk,zaA,zaA]
   simp only[beq_self_eq_true,Bool.true_and,decide_true,Bool.not_true,cond_false]
   rw[zaS (by omega) (by omega)]
   rfl
  ·unfold zeI
   simp only[]
   rw[zaZ (by omega)]
 rw[show iter _ ((0:Int),c.1,c.2.1,c.2.2.1,c.2.2.2.1,c.2.2.2.2.1,c.2.2.2.2.2.1,c.2.2.2.2.2.2.1,c.2.2.2.2.2.2.2,c)=_ from hi,zaA]
 simp only[beq_self_eq_true,cond_true]
theorem yyJ{l:List CrT}(hl:l.length≤1048576)(h:∀c∈l,c.2.2.2.2.2.2.2.length≤4):zdI zaD l l=some true:=by
 unfold zdI
 rw[bne_self_eq_false]
 simp only[cond_false]
 rw[xdU (l:=l) (p:=fun _=>true) (bad:=Sum.inl false) (good:=Sum.inr ()) (by omega) (fun k hk=>?_) ?_,zaA,List.all_eq_true.2 fun _ _=>rfl]
 ·rfl
 ·unfold zfE
  rw[zaZ (by omega)]
 ·unfold zfE
  rw[zaY (show(k:Int)<(l.length:Int) by omega),zbO rfl hk,zaA,zaA,yuI (h _ (List.getElem_mem hk)),zaA,zuR (by omega)]
  rfl
end
section
variable {γ:Type}
def posF:List (Bs×γ)→Bs→Nat
 |[],_=>0
 |p::m,u=>bif kltS p.1 u then posF m u+1 else 0
theorem ynO:∀(es:List (Bs×γ)) (u:Bs),posF es u≤es.length
 |[],_=>Nat.le_refl _
 |p::m,u=>by
  unfold posF
  have:=ynO m u
  cases kltS p.1 u with
  |true=>simp only[cond_true,List.length_cons];omega
  |false=>exact Nat.zero_le _
theorem ysJ:∀{es:List (Bs×γ)} {u:Bs} {j:Nat} (hj:j<es.length),j<posF es u→kltS es[j].1 u=true
 |p::m,u,j,hj,h=>by
  unfold posF at h
  cases hk:kltS p.1 u with
  |false=>rw[hk]at h;exact absurd h (Nat.not_lt_zero _)
  |true=>
   rw[hk]at h
   simp only[cond_true]at h
   cases j with
   |zero=>exact hk
   |succ j=>exact ysJ (es:=m) (by simp only[List.length_cons]at hj;omega) (by omega)
theorem ysK:∀{es:List (Bs×γ)} {u:Bs} (h:posF es u<es.length),kltS es[posF es u].1 u=false
 |p::m,u,h=>by
  cases hk:kltS p.1 u with
  |false=>
   have e:posF (p::m) u=0:=by unfold posF;rw[hk];rfl
   simp only[e]
   exact hk
  |true=>
   have e:posF (p::m) u=posF m u+1:=by
    show(bif kltS p.1 u then posF m u+1 else 0)=_
    rw[hk]
    rfl
   simp only[e,List.getElem_cons_succ]
   exact ysK (es:=m) (by rw[e]at h;simp only[List.length_cons]at h;omega)
theorem zrE{es:List (Bs×γ)}{u:Bs}(h:∀p∈es,u<p.1):mhas keqS es u=false:=by
 cases hk:mhas keqS es u with
 |false=>rfl
 |true=>
  obtain⟨v',hv⟩:=zkK.1 hk
  exact absurd (h _ hv) (List.lt_irrefl _)
theorem ygU:∀{es:List (Bs×γ)} (_:zuY es) (u:Bs),mhas keqS es u=match es[posF es u]? with
  |some p=>p.1==u
  |none=>false
 |[],_,u=>rfl
 |p::m,h,u=>by
  have hc:=List.pairwise_cons.1 h
  cases hk:kltS p.1 u with
  |true=>
   have e:posF (p::m) u=posF m u+1:=by
    show(bif kltS p.1 u then posF m u+1 else 0)=_
    rw[hk]
    rfl
   rw[e,List.getElem?_cons_succ,←ygU hc.2 u]
   have hne:p.1≠u:=fun e=>by rw[e]at hk;exact absurd (ztC.1 hk) (List.lt_irrefl _)
   conv=>lhs;unfold mhas;rw[ydK hne]
   rfl
  |false=>
   have e:posF (p::m) u=0:=by unfold posF;rw[hk];rfl
   rw[e,List.getElem?_cons_zero]
   simp only[]
   by_cases hu:p.1=u
   ·subst hu
    rw[zkK.2 ⟨p.2,List.mem_cons_self⟩,beq_self_eq_true]
   ·have hlt:u<p.1:=ynT (fun h2=>by rw[ztC.2 h2]at hk;cases hk) hu
    rw[zrE (es:=p::m) (fun q hq=>by
     rcases List.mem_cons.1 hq with rfl|hq
     ·exact hlt
     ·exact List.lt_trans hlt (hc.1 q hq)),beq_eq_false_iff_ne.2 hu]
theorem yoM:∀{es:List (Bs×γ)} (_:zuY es) (u:Bs) (c:γ),mset keqS kltS es u c=es.take (posF es u)++(u,c)::es.drop (bif mhas keqS es u then posF es u+1 else posF es u)
 |[],_,u,c=>rfl
 |p::m,h,u,c=>by
  have hc:=List.pairwise_cons.1 h
  cases hk:kltS p.1 u with
  |true=>
   have e:posF (p::m) u=posF m u+1:=by
    show(bif kltS p.1 u then posF m u+1 else 0)=_
    rw[hk]
    rfl
   have hne:p.1≠u:=fun e=>by rw[e]at hk;exact absurd (ztC.1 hk) (List.lt_irrefl _)
   have eh:mhas keqS (p::m) u=mhas keqS m u:=by
    conv=>lhs;unfold mhas;rw[ydK hne]
    rfl
   have ih:=yoM hc.2 u c
   unfold mset at ih ⊢
   rw[eh,e]
   cases hm:mhas keqS m u with
   |true=>
    rw[hm]at ih
    simp only[cond_true]at ih ⊢
    have:mrep keqS (p::m) u c=p::mrep keqS m u c:=by
     conv=>lhs;unfold mrep;rw[ydK hne]
     rfl
    rw[this,ih]
    rfl
   |false=>
    rw[hm]at ih
    simp only[cond_false]at ih ⊢
    have:mins kltS (p::m) u c=p::mins kltS m u c:=by
     conv=>lhs;unfold mins;rw[hk]
     rfl
    rw[this,ih]
    rfl
  |false=>
   have e:posF (p::m) u=0:=by unfold posF;rw[hk];rfl
   rw[e]
   unfold mset
   by_cases hu:p.1=u
   ·have eh:mhas keqS (p::m) u=true:=zkK.2 ⟨p.2,by rw[←hu];exact List.mem_cons_self⟩
    have:mrep keqS (p::m) u c=(u,c)::m:=by
     conv=>lhs;unfold mrep;rw[zpM.2 hu]
     try rw[hu]
     try rfl
    rw[eh]
    simp only[cond_true]
    rw[this]
    rfl
   ·have hlt:u<p.1:=ynT (fun h2=>by rw[ztC.2 h2]at hk;cases hk) hu
    have eh:mhas keqS (p::m) u=false:=zrE (es:=p::m) fun q hq=>by
     rcases List.mem_cons.1 hq with rfl|hq
     ·exact hlt
     ·exact List.lt_trans hlt (hc.1 q hq)
    have:mins kltS (p::m) u c=(u,c)::p::m:=by
     conv=>lhs;unfold mins;rw[hk]
     rfl
    rw[eh]
    simp only[cond_false]
    rw[this]
    rfl
theorem ypH:∀{es:List (Bs×γ)} (_:zuY es) (u:Bs),mhas keqS es u=true→mdel keqS es u=es.take (posF es u)++es.drop (posF es u+1)
 |p::m,h,u,hh=>by
  have hc:=List.pairwise_cons.1 h
  cases hk:kltS p.1 u with
  |true=>
   have e:posF (p::m) u=posF m u+1:=by
    show(bif kltS p.1 u then posF m u+1 else 0)=_
    rw[hk]
    rfl
   have hne:p.1≠u:=fun e=>by rw[e]at hk;exact absurd (ztC.1 hk) (List.lt_irrefl _)
   have eh:mhas keqS (p::m) u=mhas keqS m u:=by
    conv=>lhs;unfold mhas;rw[ydK hne]
    rfl
   have ih:=ypH hc.2 u (by rw[←eh];exact hh)
   have:mdel keqS (p::m) u=p::mdel keqS m u:=by
    conv=>lhs;unfold mdel;rw[ydK hne]
    rfl
   rw[this,ih,e]
   rfl
  |false=>
   have e:posF (p::m) u=0:=by unfold posF;rw[hk];rfl
   by_cases hu:p.1=u
   ·have:mdel keqS (p::m) u=m:=by
     conv=>lhs;unfold mdel;rw[zpM.2 hu]
     rfl
    rw[this,e]
    rfl
   ·have hlt:u<p.1:=ynT (fun h2=>by rw[ztC.2 h2]at hk;cases hk) hu
    have eh:mhas keqS (p::m) u=false:=zrE (es:=p::m) fun q hq=>by
     rcases List.mem_cons.1 hq with rfl|hq
     ·exact hlt
     ·exact List.lt_trans hlt (hc.1 q hq)
    rw[eh]at hh;cases hh
end
section
attribute [local irreducible] stF macF codeF
theorem yeD{f:Int→L8}{c:L8}:∀{l:List Int},(zmL f c l).2=false→zmL f c l=(0,false)
 |[],_=>rfl
 |s::l,h=>by
  unfold zmL at h ⊢
  cases hb:f s==c with
  |true=>rw[hb]at h;cases h
  |false=>rw[hb]at h;exact yeD h
theorem yuV{o cd:L8}{step:Int}(ho:o.length≤1048576)(h0:0≤step)(h1:step≤1099511627776):∀(n:Nat) (hi:Int) (k:Nat),hi+1=Fd.loS step 1+(n:Int)→hi≤step+1→n<k →
  zxC (zqW zaD o cd step 1) k hi=some (bif(zmL (codeF o) cd (Fd.downL hi n)).2 then .inl (zmL (codeF o) cd (Fd.downL hi n))else .inr ())
 |0,hi,k+1,h,_,_=>by
  refine zwA ?_
  have hj:zqH zaD step 1 hi=some (.inr ()):=by
   unfold zqH
   rw[zaS (by omega) (by omega)]
   unfold Fd.loS at h
   by_cases g:hi≥step-1
   ·rw[zaY g]
    split at h
    ·rw[zaZ (by omega)]
    ·omega
   ·rw[zaZ g]
  unfold zqW
  rw[hj,zaA]
  rfl
 |n+1,hi,k+1,h,hle,hk=>by
  have hlo:0≤Fd.loS step 1∧step-1≤Fd.loS step 1:=by unfold Fd.loS;split<;>omega
  have hj:zqH zaD step 1 hi=some (.inl ()):=by
   unfold zqH
   rw[zaS (by omega) (by omega),zaY (by omega),zaY (by omega)]
  obtain⟨m,rfl⟩:∃m:Nat,hi=m:=⟨hi.toNat,by omega⟩
  have hb:zqW zaD o cd step 1 (m:Int)=some (bif codeF o (m:Int)==cd then .inr (.inl ((m:Int),true))else .inl ((m:Int)-1)):=by
   unfold zqW
   rw[hj,zaA]
   simp only[]
   rw[yzV ho (by omega),zaA]
   cases codeF o (m:Int)==cd with
   |true=>rfl
   |false=>simp only[cond_false];rw[zaS (by omega) (by omega)]
  show _=some (bif(zmL (codeF o) cd ((m:Int)::Fd.downL ((m:Int)-1) n)).2 then Sum.inl (zmL (codeF o) cd ((m:Int)::Fd.downL ((m:Int)-1) n))else Sum.inr ())
  unfold zmL
  cases hc:codeF o (m:Int)==cd with
  |true=>
   rw[hc]at hb
   rw[zwA hb]
   rfl
  |false=>
   rw[hc]at hb
   rw[zxU hb]
   exact yuV ho h0 h1 n ((m:Int)-1) k (by omega) (by omega) (by omega)
theorem xcE{o cd:L8}{step:Int}(ho:o.length≤1048576)(h0:0≤step)(h1:step≤1099511627776):zxA zaD o cd step 1=some (zmL (codeF o) cd (Fd.stepsL step 1)):=by
 have hlo:0≤Fd.loS step 1∧Fd.loS step 1≤step:=by unfold Fd.loS;split<;>omega
 rw[Fd.stepsL_in (by omega) (by omega) (by omega) (by omega)]
 generalize hn:(step+1-Fd.loS step 1+1).toNat=n
 unfold zxA
 have hj:zyH zaD step 1=some (.inr ()):=by
  unfold zyH
  rw[zaZ (by omega),zaZ (by omega),zaZ (by decide),zaZ (by decide)]
 rw[hj,zaA]
 simp only[]
 have hlo2:step-1≤Fd.loS step 1:=by unfold Fd.loS;split<;>omega
 rw[zaS (by omega) (by omega),show iter _ (step+1)=_ from yuV ho h0 h1 n (step+1) FU (by omega) (Int.le_refl _) (by unfold FU;omega),zaA]
 cases hf:(zmL (codeF o) cd (Fd.downL (step+1) n)).2 with
 |true=>rfl
 |false=>rw[yeD hf];rfl
def dl(es:List (L8×CrT)):List CrT:=es.map (·.2)
theorem znV(es:List (L8×CrT)):(dl es).length=es.length:=List.length_map ..
theorem yvV{es:List (L8×CrT)}{k:Nat}(hk:k<es.length):(dl es)[k]'(by rw[znV];exact hk)=es[k].2:=List.getElem_map _
abbrev zC:CrT:=([],[],[],[],0,0,0,[])
variable {es:List (L8×CrT)}
theorem xfB(h:VEs es)(u:L8):zbK zaD u (dl es)=some ((posF es u:Int),mhas keqS es u,dl es):=by
 have hl:=h.len
 have hp:=ynO es u
 have hi:iter (fun x=>zcP zaD u x.1 x.2) ((0:Int),dl es)=some ((posF es u:Int),dl es):=by
  refine zaM (fun k=>((k:Int),dl es)) (posF es u) (by omega) _ (fun k hk=>?_) ?_
  ·have hkl:k<es.length:=by omega
   unfold zcP
   simp only[]
   rw[zaY (by rw[znV];omega),zbO rfl (by rw[znV];exact hkl),zaA,yvV hkl,(h.each _ (List.getElem_mem hkl)).user,show Op.bytesLess es[k].1 u=true from ysJ hkl hk]
   simp only[cond_true]
   rw[zuR (by omega)]
  ·unfold zcP
   simp only[]
   by_cases hkl:posF es u<es.length
   ·rw[zaY (by rw[znV];omega),zbO rfl (by rw[znV];exact hkl),zaA,yvV hkl,(h.each _ (List.getElem_mem hkl)).user,show Op.bytesLess es[posF es u].1 u=false from ysK hkl]
    rfl
   ·rw[zaZ (by rw[znV];omega)]
 unfold zbK
 rw[hi,zaA,ygU h.rises]
 simp only[]
 by_cases hkl:posF es u<es.length
 ·rw[zaY (by rw[znV];omega),zbO rfl (by rw[znV];exact hkl),zaA,yvV hkl,(h.each _ (List.getElem_mem hkl)).user,List.getElem?_eq_getElem hkl]
 ·rw[zaZ (by rw[znV];omega),List.getElem?_eq_none (by omega)]
theorem yhJ(h:VEs es){u:L8}(hm:mhas keqS es u=true):∃hk:posF es u<es.length,∀z,zeU keqS es u z=es[posF es u].2:=by
 have h1:=ygU h.rises u
 rw[hm]at h1
 by_cases hk:posF es u<es.length
 ·rw[List.getElem?_eq_getElem hk]at h1
  have he:es[posF es u].1=u:=beq_iff_eq.1 h1.symm
  refine⟨hk,fun z=>?_⟩
  unfold zeU
  have e:es[posF es u]=(u,es[posF es u].2):=Prod.ext he rfl
  have m:=List.getElem_mem hk
  rw[e]at m
  rw[zxB h.rises m]
 ·rw[List.getElem?_eq_none (by omega)]at h1;cases h1
theorem zyW(h:VEs es)(u:L8):zaH zaD u (dl es)=some (zeU keqS es u zC,mhas keqS es u,dl es):=by
 unfold zaH
 rw[xfB h,zaA]
 cases hm:mhas keqS es u with
 |false=>
  have:zeU keqS es u zC=zC:=by
   unfold zeU
   cases hq:mget keqS es u with
   |none=>rfl
   |some v=>rw[zkK.2 ⟨v,ztJ hq⟩]at hm;cases hm
  rw[this]
  rfl
 |true=>
  obtain⟨hk,h2⟩:=yhJ h hm
  simp only[Bool.not_true,cond_false]
  rw[zbO rfl (by rw[znV];exact hk),zaA,yvV hk,h2]
theorem yqH(h:VEs es)(c:CrT):zaG zaD c (dl es)=some (dl (mset keqS kltS es c.1 c)):=by
 have hl:=h.len
 have hp:=ynO es c.1
 have hd:=znV es
 have fin:∀n:Nat,n≤es.length→(Option.bind (subH (dl es) (posF es c.1:Int)) fun v6=>Option.bind (app ([]:List CrT) v6) fun v7=>Option.bind (app v7 ([c]:List CrT)) fun v8=>Option.bind (app v8 ((dl es).drop n)) fun v9=>some v9)=some (dl (es.take (posF es c.1)++(c.1,c)::es.drop n)):=fun n hn=>by
  rw[ybD (by omega),zaA,ztX _ (by rw[List.length_take];omega),zaA,zbA (by rw[List.length_take];simp only[List.length_cons,List.length_nil];omega),zaA,zbA (by rw[List.length_append,List.length_take,List.length_drop];simp only[List.length_cons,List.length_nil];omega),zaA]
  unfold dl
  rw[List.map_append,List.map_take,List.map_cons,List.map_drop,List.append_assoc]
  rfl
 unfold zaG
 rw[xfB h,zaA,yoM h.rises]
 simp only[]
 rw[zxQ (by omega),zaA]
 unfold zhH
 cases hm:mhas keqS es c.1 with
 |true=>
  obtain⟨hk,_⟩:=yhJ h hm
  simp only[cond_true]
  rw[zuR (by omega),zxQ (by omega),zaA,zaA]
  exact fin (posF es c.1+1) (by omega)
 |false=>
  simp only[cond_false]
  rw[zaA]
  exact fin (posF es c.1) hp
theorem zsR:∀{es:List (L8×CrT)} {u:L8} {z:CrT},zuY es→mhas keqS es u=true→mset keqS kltS es u (zeU keqS es u z)=es:=fun {es u z} h hm=>by
 have key:∀{es:List (L8×CrT)} {v:CrT},mget keqS es u=some v→mrep keqS es u v=es:=fun {es}=>by
  induction es with
  |nil=>intro v h;cases h
  |cons p m ih=>
   intro v h
   unfold mget at h
   unfold mrep
   cases hk:keqS p.1 u with
   |true=>
    rw[hk]at h
    cases h
    rw[←zpM.1 hk]
    rfl
   |false=>
    rw[hk]at h
    simp only[cond_false]
    rw[ih h]
 unfold mset
 rw[hm]
 obtain⟨v,hv⟩:=zkK.1 hm
 have hg:=zxB h hv
 unfold zeU
 rw[hg]
 exact key hg
def Bo(r:Option (Int×List (L8×CrT)))(q:Option (Int×List CrT)):Prop:=∃e es,r=some (e,es)∧q=some (e,dl es)∧VEs es
theorem zgP(h:VEs es)(e:Int):Bo (some (e,es)) (some (e,dl es)):=⟨_,_,rfl,rfl,h⟩
theorem set_bo(h:VEs es){u s p:L8}(hu:u.length≤1048576):Bo (zfL zaD u s p es) (zcT zaD u s p (dl es)):=by
 unfold zfL zpJ zcT zgX
 rw[xfL,zaA,yzQ hu,zaA]
 cases hb:nmB u with
 |false=>exact zgP h 155
 |true=>
  simp only[Bool.not_true,cond_false]
  cases hs:((s.length:Int) != 16) with
  |true=>exact zgP h 155
  |false=>
   have hs:s.length=16:=by
    have:=bne_eq_false_iff_eq.1 hs;omega
   simp only[cond_false]
   rw[yrP,zaA]
   by_cases h1:(p.length:Int)<1
   ·rw[zaY h1,decide_eq_false (show ¬(1:Int)≤(p.length:Int) by omega)];exact zgP h 155
   ·rw[zaZ h1,decide_eq_true (show(1:Int)≤(p.length:Int) by omega)]
    by_cases h2:(p.length:Int)>64
    ·rw[zaY h2,decide_eq_false (show ¬(p.length:Int)≤64 by omega)];exact zgP h 155
    ·rw[zaZ h2,decide_eq_true (show(p.length:Int)≤64 by omega)]
     simp only[Bool.and_self,Bool.not_true,cond_false,zaA]
     rw[zyW h,zaA]
     unfold zoU zhG
     have fin:∀c0:CrT,(mhas keqS es u=true∨es.length<64)→(c0.2.2.2.1=[]∨(16≤c0.2.2.2.1.length∧c0.2.2.2.1.length≤64))→(0≤c0.2.2.2.2.1∧c0.2.2.2.2.1≤2199023255552)→c0.2.2.2.2.2.2.2.length≤4→(∀k∈c0.2.2.2.2.2.2.2,(1≤k.1.length∧k.1.length≤86)∧k.2.1.length=32∧k.2.2.1.length=32∧0≤k.2.2.2∧k.2.2.2≤4294967295)→(c0.2.2.2.2.2.2.2.Pairwise fun x y=>x.1≠y.1) →
       Bo (Option.bind (zdW zaD p s) fun v13=>some ((0:Int),mset keqS kltS es u ((u,s,v13,c0.2.2.2.1,c0.2.2.2.2.1,(0:Int),(0:Int),c0.2.2.2.2.2.2.2):CrT)))
        (Option.bind (zcE zaD p s) fun v12=>Option.bind (zaG zaD ((u,s,v12,c0.2.2.2.1,c0.2.2.2.2.1,(0:Int),(0:Int),c0.2.2.2.2.2.2.2):CrT) (dl es)) fun v13=>some ((0:Int),v13)):=fun c0 g0 g1 g2 g3 g4 g5=>by
      rw[ybC (by omega) (by omega),zaA,ypV (by omega) (by omega),zaA,yqH h,zaA]
      exact⟨_,_,rfl,rfl,xeB h (yeX (by rw[xfL,hb]) hu hs (zpU _ _) g1 g2 (by omega) (by omega) g3 g4 g5) g0⟩
     rcases zyQ h u with hm|⟨c,hm,hg,hv⟩
     ·have hz:∀z:CrT,zeU keqS es u z=z:=fun z=>by
       unfold zeU
       cases hq:mget keqS es u with
       |none=>rfl
       |some v=>rw[zkK.2 ⟨v,ztJ hq⟩]at hm;cases hm
      simp only[hz,hm,Bool.not_false,cond_true,znV]
      by_cases hl:(es.length:Int)≥64
      ·rw[zaY hl,zaY hl,zaA,zaA];exact zgP h 156
      ·rw[zaZ hl,zaZ hl,zaA,zaA]
       exact fin zC (.inr (by omega)) (.inl rfl) ⟨by show(0:Int)≤0;omega,by show(0:Int)≤2199023255552;omega⟩ (Nat.zero_le _) (fun k hk=>by cases hk) .nil
     ·simp only[hg,hm,Bool.not_true,cond_false,zaA]
      exact fin c (.inl hm) hv.otp hv.step hv.keys hv.may hv.ids
theorem drop_bo(h:VEs es){u:L8}:Bo (zhE zaD u es) (zcM zaD u (dl es)):=by
 have hl:=h.len
 have hd:=znV es
 unfold zhE zcM
 rw[xfB h,zaA]
 cases hm:mhas keqS es u with
 |false=>exact zgP h 150
 |true=>
  obtain⟨hk,_⟩:=yhJ h hm
  have hs:=yfN es u
  simp only[Bool.not_true,cond_false]
  rw[ybD (by omega),zaA,zuR (by omega),zxQ (by omega),zaA,ztX _ (by rw[List.length_take];omega),zaA,zbA (by rw[List.length_take,List.length_drop];omega),zaA]
  refine⟨_,_,rfl,?_,⟨yqV h.rises,Nat.le_trans hs.length_le h.len,fun p hp=>h.each p (hs.subset hp)⟩⟩
  rw[ypH h.rises u hm]
  unfold dl
  rw[List.map_append,List.map_take,List.map_drop]
theorem ycR(h:VEs es){u:L8}{c':CrT}(hm:mhas keqS es u=true)(hc:VCr u c')(e:Int):Bo (some (e,mset keqS kltS es u c')) (Option.bind (zaG zaD c' (dl es)) fun v=>some (e,v)):=by
 rw[yqH h,zaA,hc.user]
 exact⟨_,_,rfl,rfl,xeB h hc (.inl hm)⟩
theorem yyZ(h:VEs es){u p:L8}{now:Int}:Bo (zbD zaD u p now es) (zcC zaD u p now (dl es)):=by
 unfold zbD zcC
 rw[xdB,zaA,ypW,zaA]
 cases hn:(decide (0≤now)&&decide (now≤1099511627776)) with
 |false=>exact zgP h 1
 |true=>
  simp only[Bool.and_eq_true,decide_eq_true_eq]at hn
  simp only[Bool.not_true,cond_false]
  rw[zyW h,zaA]
  unfold zkL
  rcases zyQ h u with hm|⟨c,hm,hg,hv⟩
  ·rw[hm];exact zgP h 150
  ·have hself:mset keqS kltS es u c=es:=by
    have:=zsR (z:=zC) h.rises hm
    rw[hg]at this
    exact this
   simp only[hg,hm,Bool.not_true,cond_false]
   have hf:=hv.fails
   have ht:=hv.till
   unfold zhO
   by_cases hu:now<c.2.2.2.2.2.2.1
   ·rw[zaY hu,zaY hu,zaA,zaA]
    simp only[]
    rw[show mset keqS kltS es u (c.1,c.2.1,c.2.2.1,c.2.2.2.1,c.2.2.2.2.1,c.2.2.2.2.2.1,c.2.2.2.2.2.2.1,c.2.2.2.2.2.2.2)=es from hself]
    exact zgP h 152
   ·rw[zaZ hu,zaZ hu]
    have h0:∃b,zgV zaD c.1 c.2.1 c.2.2.1 c.2.2.2.1 c.2.2.2.2.1 c.2.2.2.2.2.1 c.2.2.2.2.2.2.1 c.2.2.2.2.2.2.2 now p=some (b,c.1,c.2.1,c.2.2.1,c.2.2.2.1,c.2.2.2.2.1,c.2.2.2.2.2.1,c.2.2.2.2.2.2.1,c.2.2.2.2.2.2.2,now,p)∧zdD zaD p (c,true,dl es)=some (b,dl es,c):=by
     unfold zgV zdD
     rw[yrP,zaA]
     by_cases h1:(p.length:Int)≥1
     ·rw[zaY h1,decide_eq_true (show(1:Int)≤(p.length:Int)from h1)]
      by_cases h2:(p.length:Int)≤64
      ·rw[zaY h2,decide_eq_true h2]
       simp only[Bool.and_self,cond_true]
       rw[ybC (by omega) (by have:=hv.salt;omega),zaA,ypV (by omega) (by have:=hv.salt;omega),zaA,show zaD.same (stF p c.2.1) c.2.2.1=some (stF p c.2.1==c.2.2.1)from ?_,zaA]
       ·exact⟨_,rfl,rfl⟩
       ·show ywJ _ _=_
        unfold ywJ
        rw[zpU,hv.hash];rfl
      ·rw[zaZ h2,decide_eq_false h2];exact⟨_,rfl,rfl⟩
     ·rw[zaZ h1,decide_eq_false (show ¬(1:Int)≤(p.length:Int)from h1)];exact⟨_,rfl,rfl⟩
    obtain⟨b,hb,hb2⟩:=h0
    unfold zkU zfY
    rw[hb,hb2,zaA,zaA]
    have mk:∀{f t:Int},(0≤f∧f≤4)→(0≤t∧t≤2199023255552)→VCr u (c.1,c.2.1,c.2.2.1,c.2.2.2.1,c.2.2.2.2.1,f,t,c.2.2.2.2.2.2.2):=fun {f t} g1 g2=>by
     rw[hv.user]
     exact yeX hv.name hv.nlen hv.salt hv.hash hv.otp hv.step g1 g2 hv.keys hv.may hv.ids
    cases b with
    |true=>
     simp only[cond_true,zaA]
     have hp:=ycR h hm (mk (f:=0) (t:=0) (by omega) (by omega)) 0
     obtain⟨e,es',g1,g2,g3⟩:=hp
     cases g1
     refine⟨_,_,rfl,?_,g3⟩
     rw[yqH h,zaA]at g2
     rw[yqH h,zaA,zaA]
     exact g2
    |false=>
     simp only[cond_false,zaA]
     rw[zaS (x:=c.2.2.2.2.2.1+1) (by omega) (by omega),zaS (x:=now+300) (by omega) (by omega)]
     cases h5:((c.2.2.2.2.2.1+1:Int)==5) with
     |true=>exact ycR h hm (mk (f:=0) (t:=now+300) (by omega) (by omega)) 151
     |false=>
      have h5:=beq_eq_false_iff_ne.1 h5
      exact ycR h hm (mk (f:=c.2.2.2.2.2.1+1) (t:=c.2.2.2.2.2.2.1) (by omega) ht) 151
theorem xcC(h:VEs es){u a:L8}:Bo (zdY zaD u a es) (zcB zaD u a (dl es)):=by
 unfold zdY zjL zcB
 rw[zyW h,zaA]
 rcases zyQ h u with hm|⟨c,hm,hg,hv⟩
 ·rw[hm];exact zgP h 150
 ·have hself:mset keqS kltS es u c=es:=by
   have:=zsR (z:=zC) h.rises hm
   rw[hg]at this
   exact this
  simp only[hg,hm,Bool.not_true,cond_false]
  unfold zhS zgA
  rw[yrP,zaA]
  have same:Bo (some ((155:Int),mset keqS kltS es u (c.1,c.2.1,c.2.2.1,c.2.2.2.1,c.2.2.2.2.1,c.2.2.2.2.2.1,c.2.2.2.2.2.2.1,c.2.2.2.2.2.2.2))) (some ((155:Int),dl es)):=by
   rw[show mset keqS kltS es u (c.1,c.2.1,c.2.2.1,c.2.2.2.1,c.2.2.2.2.1,c.2.2.2.2.2.1,c.2.2.2.2.2.2.1,c.2.2.2.2.2.2.2)=es from hself]
   exact zgP h 155
  by_cases h1:(a.length:Int)<16
  ·rw[zaY h1,decide_eq_false (show ¬(16:Int)≤(a.length:Int) by omega)]
   exact same
  ·rw[zaZ h1,decide_eq_true (show(16:Int)≤(a.length:Int) by omega)]
   by_cases h2:(a.length:Int)>64
   ·rw[zaY h2,decide_eq_false (show ¬(a.length:Int)≤64 by omega)]
    exact same
   ·rw[zaZ h2,decide_eq_true (show(a.length:Int)≤64 by omega)]
    simp only[Bool.and_self,Bool.not_true,cond_false,zaA]
    refine ycR h hm ?_ 0
    rw[hv.user]
    exact yeX hv.name hv.nlen hv.salt hv.hash (.inr ⟨by omega,by omega⟩) (by omega) hv.fails hv.till hv.keys hv.may hv.ids
theorem code_bo(h:VEs es){u cd:L8}{now:Int}(hc:cd.length≤68719476736):Bo (zcR zaD u cd now es) (zcI zaD u cd now (dl es)):=by
 unfold zcR zcI
 rw[xdB,zaA,ypW,zaA]
 cases hn:(decide (0≤now)&&decide (now≤1099511627776)) with
 |false=>exact zgP h 1
 |true=>
  simp only[Bool.and_eq_true,decide_eq_true_eq]at hn
  simp only[Bool.not_true,cond_false]
  rw[zyW h,zaA]
  unfold zjF
  rcases zyQ h u with hm|⟨c,hm,hg,hv⟩
  ·rw[hm];exact zgP h 150
  ·have hself:mset keqS kltS es u c=es:=by
    have:=zsR (z:=zC) h.rises hm
    rw[hg]at this
    exact this
   have same:∀e:Int,Bo (some (e,mset keqS kltS es u (c.1,c.2.1,c.2.2.1,c.2.2.2.1,c.2.2.2.2.1,c.2.2.2.2.2.1,c.2.2.2.2.2.2.1,c.2.2.2.2.2.2.2))) (some (e,dl es)):=fun e=>by
    rw[show mset keqS kltS es u (c.1,c.2.1,c.2.2.1,c.2.2.2.1,c.2.2.2.2.1,c.2.2.2.2.2.1,c.2.2.2.2.2.2.1,c.2.2.2.2.2.2.2)=es from hself]
    exact zgP h e
   have ho:c.2.2.2.1.length≤64:=by rcases hv.otp with ho|ho;rw[ho];exact Nat.zero_le _;exact ho.2
   have hd:w64 (Int.tdiv now 30)=now/30:=by rw[Int.tdiv_eq_ediv_of_nonneg hn.1];exact zaS (by omega) (by omega)
   have hf:zaD.find c.2.2.2.1 cd (now/30) 1=some (zmL (codeF c.2.2.2.1) cd (Fd.stepsL (now/30) 1)):=by
    show yjU c.2.2.2.1 cd (now/30) 1=_
    unfold yjU
    rw[ysQ (by omega) (by omega)];rfl
   simp only[hg,hm,Bool.not_true,cond_false]
   unfold ziN
   cases hz:(c.2.2.2.1==([]:L8)) with
   |true=>exact same 154
   |false=>
    simp only[cond_false]
    rw[zeO (c:=((30:Int) != 0)) rfl,zaA,zaA,hd,hf,zaA,xcE (by omega) (by omega) (by omega),zaA]
    cases hr:zmL (codeF c.2.2.2.1) cd (Fd.stepsL (now/30) 1) with
    |mk r b=>
     unfold zmE zgE
     cases b with
     |false=>exact same 153
     |true=>
      simp only[Bool.not_true,cond_false]
      by_cases hs:r<c.2.2.2.2.1
      ·rw[zaY hs,zaY hs];exact same 153
      ·rw[zaZ hs,zaZ hs]
       simp only[zaA]
       have hmem:=findF_mem' hr
       rw[Fd.stepsL_in (by omega) (by omega) (by omega) (by omega)]at hmem
       have:=downL_le' hmem
       have hst:=hv.step
       rw[zaS (by omega) (by omega)]
       refine ycR h hm ?_ 0
       rw[hv.user]
       exact yeX hv.name hv.nlen hv.salt hv.hash hv.otp (by omega) hv.fails hv.till hv.keys hv.may hv.ids
theorem ynN(ks:List KeyT)(id:L8)(hk:ks.length≤4)(hi:ks.Pairwise fun x y=>x.1≠y.1):(zdU zaD ks id=some (-1)∧zaU zaD ks id=some (-1)∧∀k∈ks,k.1≠id)∨∃i:Nat,∃h:i<ks.length,zdU zaD ks id=some (i:Int)∧zaU zaD ks id=some (i:Int)∧ks[i].1=id:=by
 rcases at_t ks id hk with⟨h1,h2⟩|⟨i,h1,h2,h3⟩
 ·rcases yoJ ks id hk with⟨g1,g2⟩|⟨j,g1,g2,g3⟩
  ·exact .inl ⟨h1,g1,h2⟩
  ·exact absurd g3 (h2 _ (List.getElem_mem g1))
 ·rcases yoJ ks id hk with⟨g1,g2⟩|⟨j,g1,g2,g3⟩
  ·exact absurd h3 (g2 _ (List.getElem_mem h1))
  ·have hij:i=j:=Classical.byContradiction fun hne=>by
    rcases Nat.lt_or_gt_of_ne hne with hlt|hlt
    ·exact List.pairwise_iff_getElem.1 hi i j h1 g1 hlt (h3.trans g3.symm)
    ·exact List.pairwise_iff_getElem.1 hi j i g1 h1 hlt (g3.trans h3.symm)
   subst hij
   exact .inr ⟨i,h1,h2,g2,h3⟩
theorem ywF(h:VEs es){u:L8}{k:KeyT}:Bo (zcU zaD u k es) (zbX zaD u k (dl es)):=by
 unfold zcU zjD zbX
 rw[zyW h,zaA]
 rcases zyQ h u with hm|⟨c,hm,hg,hv⟩
 ·rw[hm];exact zgP h 150
 ·have hself:mset keqS kltS es u c=es:=by
   have:=zsR (z:=zC) h.rises hm
   rw[hg]at this
   exact this
  have same:∀e:Int,Bo (some (e,mset keqS kltS es u (c.1,c.2.1,c.2.2.1,c.2.2.2.1,c.2.2.2.2.1,c.2.2.2.2.2.1,c.2.2.2.2.2.2.1,c.2.2.2.2.2.2.2))) (some (e,dl es)):=fun e=>by
   rw[show mset keqS kltS es u (c.1,c.2.1,c.2.2.1,c.2.2.2.1,c.2.2.2.2.1,c.2.2.2.2.2.1,c.2.2.2.2.2.2.1,c.2.2.2.2.2.2.2)=es from hself]
   exact zgP h e
  have hkl:=hv.keys
  simp only[hg,hm,Bool.not_true,cond_false]
  unfold zgS zkJ zfQ
  rw[show zlS zaD (k.1,k.2.1,k.2.2.1,k.2.2.2)=_ from pmay_o k,zaA,dmay_o k,zaA]
  cases hmk:mayK k with
  |false=>exact same 155
  |true=>
   simp only[Bool.not_true,cond_false]
   rcases ynN c.2.2.2.2.2.2.2 k.1 hkl hv.ids with⟨ha,hb,hno⟩|⟨i,hi,ha,hb,he⟩
   ·rw[ha,zaA,hb,zaA,zaZ (by decide),zaZ (by decide),zaA,zaA]
    simp only[]
    by_cases hl:(c.2.2.2.2.2.2.2.length:Int)≥4
    ·rw[zaY hl,zaY hl];exact same 156
    ·rw[zaZ hl,zaZ hl,zbA (by simp only[List.length_cons,List.length_nil];omega),zaA,ztX _ (by omega)]
     simp only[zaA]
     rw[zbA (by simp only[List.length_cons,List.length_nil];omega),zaA]
     refine ycR h hm ?_ 0
     rw[hv.user]
     refine yeX hv.name hv.nlen hv.salt hv.hash hv.otp hv.step hv.fails hv.till (by rw[List.length_append];simp only[List.length_cons,List.length_nil];omega) (fun q hq=>?_) ?_
     ·rcases List.mem_append.1 hq with hq|hq
      ·exact hv.may q hq
      ·rw[List.mem_singleton.1 hq];exact ytD hmk
     ·refine List.pairwise_append.2 ⟨hv.ids,List.pairwise_singleton _ _,fun a ha b hb=>?_⟩
      rw[List.mem_singleton.1 hb]
      exact hno a ha
   ·rw[ha,zaA,hb,zaA,zaY (by omega),zaY (by omega)]
    exact same 155
theorem key_bo(h:VEs es){u id:L8}:∃q b,ziJ zaD u id es=some (q,b,es)∧zcN zaD u id (dl es)=some (q,b,dl es):=by
 have key:∀l:List KeyT,l.length≤4→(l.Pairwise fun x y=>x.1≠y.1)→∃q b,(Option.bind (zdU zaD l id) fun v4=>bif decide (v4<(0:Int))then some ((([]:L8),([]:L8),([]:L8),(0:Int)),false,es)else(Option.bind (idx l v4) fun v5=>some (v5,true,es)))=some (q,b,es)∧(Option.bind (zaU zaD l id) fun v4=>bif decide (v4<(0:Int))then some ((([]:L8),([]:L8),([]:L8),(0:Int)),false,dl es)else(Option.bind (idx l v4) fun v5=>some (v5,true,dl es)))=some (q,b,dl es):=fun l hl hp=>by
  rcases ynN l id hl hp with⟨h1,h2,_⟩|⟨i,hi,h1,h2,_⟩
  ·rw[h1,h2,zaA,zaA,zaY (by decide),zaY (by decide)];exact⟨_,_,rfl,rfl⟩
  ·rw[h1,h2,zaA,zaA,zaZ (by omega),zaZ (by omega),zbO rfl hi,zaA,zaA];exact⟨_,_,rfl,rfl⟩
 unfold ziJ zcN
 rw[zyW h,zaA]
 rcases zyQ h u with hm|⟨c,hm,hg,hv⟩
 ·have hz:∀z:CrT,zeU keqS es u z=z:=fun z=>by
   unfold zeU
   cases hq:mget keqS es u with
   |none=>rfl
   |some v=>rw[zkK.2 ⟨v,ztJ hq⟩]at hm;cases hm
  simp only[hz]
  exact key [] (Nat.zero_le _) .nil
 ·simp only[hg]
  exact key _ hv.keys hv.ids
theorem yyY(h:VEs es){u id:L8}{m:Int}:Bo (zbS zaD u id m es) (zbZ zaD u id m (dl es)):=by
 unfold zbS zjP zbZ
 rw[zyW h,zaA]
 rcases zyQ h u with hm|⟨c,hm,hg,hv⟩
 ·rw[hm];exact zgP h 150
 ·have hself:mset keqS kltS es u c=es:=by
   have:=zsR (z:=zC) h.rises hm
   rw[hg]at this
   exact this
  have same:∀e:Int,Bo (some (e,mset keqS kltS es u (c.1,c.2.1,c.2.2.1,c.2.2.2.1,c.2.2.2.2.1,c.2.2.2.2.2.1,c.2.2.2.2.2.2.1,c.2.2.2.2.2.2.2))) (some (e,dl es)):=fun e=>by
   rw[show mset keqS kltS es u (c.1,c.2.1,c.2.2.1,c.2.2.2.1,c.2.2.2.2.1,c.2.2.2.2.2.1,c.2.2.2.2.2.2.1,c.2.2.2.2.2.2.2)=es from hself]
   exact zgP h e
  have hkl:=hv.keys
  simp only[hg,hm,Bool.not_true,cond_false]
  unfold zhN
  rcases ynN c.2.2.2.2.2.2.2 id hkl hv.ids with⟨ha,hb,hno⟩|⟨i,hi,ha,hb,he⟩
  ·rw[ha,zaA,hb,zaA,zaY (by decide),zaY (by decide)]
   exact same 154
  ·have hki:=hv.may _ (List.getElem_mem hi)
   rw[ha,zaA,hb,zaA,zaZ (by omega),zaZ (by omega),zbO rfl hi,zaA,zaA]
   have hj:(zeG zaD c.1 c.2.1 c.2.2.1 c.2.2.2.1 c.2.2.2.2.1 c.2.2.2.2.2.1 c.2.2.2.2.2.2.1 c.2.2.2.2.2.2.2 id m c.2.2.2.2.2.2.2[i]=some (.inl (153,c.1,c.2.1,c.2.2.1,c.2.2.2.1,c.2.2.2.2.1,c.2.2.2.2.2.1,c.2.2.2.2.2.2.1,c.2.2.2.2.2.2.2,id,m))∧zcA zaD m (c,true,dl es) c.2.2.2.2.2.2.2[i]=some (.inl (153,dl es))) ∨
     (zeG zaD c.1 c.2.1 c.2.2.1 c.2.2.2.1 c.2.2.2.2.1 c.2.2.2.2.2.1 c.2.2.2.2.2.2.1 c.2.2.2.2.2.2.2 id m c.2.2.2.2.2.2.2[i]=some (.inr (c.1,c.2.1,c.2.2.1,c.2.2.2.1,c.2.2.2.2.1,c.2.2.2.2.2.1,c.2.2.2.2.2.2.1,c.2.2.2.2.2.2.2,id,m))∧zcA zaD m (c,true,dl es) c.2.2.2.2.2.2.2[i]=some (.inr (dl es,c))∧0≤m∧m≤4294967295):=by
    unfold zeG zcA
    by_cases g1:m>4294967295
    ·rw[zaY g1,zaY g1];exact .inl ⟨rfl,rfl⟩
    ·rw[zaZ g1,zaZ g1]
     by_cases g2:m≤c.2.2.2.2.2.2.2[i].2.2.2
     ·rw[zaY g2,zaY g2]
      unfold bne
      cases g3:(m==0) with
      |false=>exact .inl ⟨rfl,rfl⟩
      |true=>
       cases g4:(c.2.2.2.2.2.2.2[i].2.2.2==0) with
       |false=>exact .inl ⟨rfl,rfl⟩
       |true=>
        have g3:=beq_iff_eq.1 g3
        exact .inr ⟨rfl,rfl,by omega,by omega⟩
     ·rw[zaZ g2,zaZ g2];exact .inr ⟨rfl,rfl,by omega,by omega⟩
   rcases hj with⟨hj,hj2⟩|⟨hj,hj2,hn⟩
   ·rw[hj,hj2,zaA,zaA];exact same 153
   ·have hset:setL c.2.2.2.2.2.2.2 (i:Int) (c.2.2.2.2.2.2.2[i].1,c.2.2.2.2.2.2.2[i].2.1,c.2.2.2.2.2.2.2[i].2.2.1,m)=some (c.2.2.2.2.2.2.2.set i (c.2.2.2.2.2.2.2[i].1,c.2.2.2.2.2.2.2[i].2.1,c.2.2.2.2.2.2.2[i].2.2.1,m)):=by
     unfold setL
     rw[ysQ (by omega) (by omega)];rfl
    rw[hj,hj2,zaA,zaA]
    simp only[]
    rw[ztX _ (by omega),zaA,zaA,zeO (ysQ (by omega) (by omega)),zaA,zaA,zbO rfl hi,zaA,zaA,hset,zaA,zaA,zaA]
    refine ycR h hm ?_ 0
    rw[hv.user]
    exact yeX hv.name hv.nlen hv.salt hv.hash hv.otp hv.step hv.fails hv.till (by rw[List.length_set];exact hkl) (ysL hi hn hv.may) (yxJ hi hv.ids)
end
section
variable {P:Program}{G:List (Nat×Obj)}
theorem xaD{f:FuncId}{e:Ty}{T:TypeId}(hfn:IsFn P f)
  (hc:∀(a:Option Addr) (n c:Nat) (w:World),n≤c→Calls P f #[.slice a n c] w fun x w'=>x = .returned (.slice a n n)∧w'=w):
  SCok P G f ⟨⟨[(0,.own 0)],[.osl e T]⟩,1,[(none,⟨[(0,.own 1)],[.dead,.osl e T]⟩)],fun(xs:List (den e))=>some xs⟩:=by
 obtain⟨q,hq⟩:=zdX e
 have e0:∀y:den (.sl e),zdA [.osl e T] [.v (.sl e) y]=[.osl 0 e T y]:=fun y=>by rw[zdA,hq];rfl
 have e1:∀y:den (.sl e),zdA [.dead,.osl e T] [.v (.sl e) y]=[.dead,.osl 0 e T y]:=fun y=>by
  rw[zdA];exact congrArg (AO.dead :: ·) (e0 y)
 refine⟨hfn,fun S0 w0 us E0 L0 (xs:List (den e)) (d:List (den e)) _ hul R hy=>?_⟩
 have hd:xs=d:=osi hy
 subst hd
 have hul:us.length=1:=hul
 obtain⟨u,rfl⟩:∃u,us=[u]:=by
  match us,hul with
  |[u],_=>exact⟨u,rfl⟩
 have hput:(Shp.put (⟨[(0,.own 0)],[.osl e T]⟩:Shp) xs)=⟨[(0,.own 0 0)],[.osl 0 e T xs]⟩:=congrArg (fun hp=>(⟨[(0,.own 0 0)],hp⟩:St)) (e0 xs)
 have R:RelV ⟨S0,zbJ L0,w0⟩ S0 E0 L0 ⟨[(0,.own 0 0)],[.osl 0 e T xs]⟩ (fun t=>[u].getD t undef) w0:=by rw[←hput];exact R
 obtain⟨r0,ee0,g1,g2,v,v',cs,rs,rfl,rfl,hrl,hsm⟩:=R.obj 0 _ rfl
 have hL:L0.length=1:=R.lL
 have hE:E0.length=1:=R.lE
 obtain⟨h7,e1',h8,h9⟩:=(show VB S0 E0 (.own 0 0) u from R.sl 0)
 rw[g2]at h8;cases h8
 have hu:u=v':=(h9 _ _ _ rfl).2 rfl
 subst hu
 have hk:lkR L0 0=some (.osl v xs.length (tsz e) cs rs T):=by rw[zaR];exact g1
 obtain⟨r1,hL1⟩:∃r,L0=[r]:=by
  match L0,hL with
  |[r],_=>exact⟨r,rfl⟩
 have hr1:r1 = .osl v xs.length (tsz e) cs rs T:=by rw[hL1]at g1;exact osi g1
 have fin:∀{v2 u2:Value},HS ⟨S0,zbJ L0,w0⟩ S0 w0 [.osl v2 xs.length (tsz e) cs rs T]→Same S0 v2 u2 xs.length→u2.oneCell'=true→∃v',Ending.returned u2 = .returned v'∧∃S' E' L' σo V',(∀{γ:Type} (k:Ex→St→Option γ),out [] [(none,(⟨[(0,.own 1)],[.dead,.osl e T]⟩:Shp))] (xs:List (den e)) k=k .normal σo)∧Mem.le S0 S'∧Pin 1 E0 E'∧RelV ⟨S0,zbJ L0,w0⟩ S' E' L' σo V' w0∧Ver0 σo.hp∧1≤σo.hp.length∧v'=ydG (ycN V' 0 1):=fun {v2 u2} H hs h1=>by
  refine⟨u2,rfl,S0,[.dead,.osl 0 u2 (tsz e)],[.osl (.slice none 0 0) 0 0 [] [] 0,.osl v2 xs.length (tsz e) cs rs T],⟨[(0,.own 1 0)],[.dead,.osl 0 e T xs]⟩,fun _=>u2,fun k=>?_,Mem.le_refl _,fun k a hk0 ha=>?_,⟨H.nilOwn 0 0,rfl,rfl,fun i o h=>?_,fun t=>?_⟩,?_,by simp,rfl⟩
  ·show k (exOf none) ((Shp.put _ _).app [])=_
   rw[show(Shp.put (⟨[(0,.own 1)],[.dead,.osl e T]⟩:Shp) xs)=⟨[(0,.own 1 0)],[.dead,.osl 0 e T xs]⟩from congrArg (fun hp=>(⟨[(0,.own 1 0)],hp⟩:St)) (e1 _)]
   rfl
  ·obtain rfl:k=0:=by omega
   rw[g2]at ha;cases ha
   exact⟨.dead,rfl,.inl ⟨_,_,_,rfl,.inl rfl⟩⟩
  ·cases i with
   |zero=>cases h;exact⟨_,_,rfl,rfl,rfl,rfl⟩
   |succ i=>
    cases i with
    |zero=>cases h;exact⟨_,_,rfl,rfl,v2,u2,cs,rs,rfl,rfl,hrl,hs⟩
    |succ i=>simp at h
  ·cases t with
   |zero=>exact VR.ofC (show VC S0 _ (.own 1 0) u2 from⟨h1,_,rfl,fun r v' s he=>by cases he;exact⟨Nat.le_refl 0,fun _=>rfl⟩⟩)
   |succ t=>trivial
  ·intro i ver e' T' xs' hi
   cases i with
   |zero=>cases hi
   |succ i=>
    cases i with
    |zero=>cases hi;rfl
    |succ i=>simp at hi
 have hH:HS ⟨S0,zbJ L0,w0⟩ S0 w0 [.osl v xs.length (tsz e) cs rs T]:=by
  have:=R.hs
  rw[hL1,hr1]at this ⊢
  exact this
 rcases R.hs.own 0 _ hk with⟨hv,hn,_,_⟩|⟨b,c,fz,hv,h1,_⟩
 ·-- nothing is in it
  have hu:∃a,u = .slice a 0 0:=by
   rcases hsm with h|⟨_,_,_,a,h⟩
   ·exact⟨none,by rw[h,hv]⟩
   ·exact⟨a,h⟩
  obtain⟨a,rfl⟩:=hu
  refine(hc a 0 0 w0 (Nat.le_refl _)).mono ?_
  rintro x w' ⟨rfl,rfl⟩
  exact fin hH hsm rfl
 ·have hu:u=v:=by
   rcases hsm with h|⟨h,_⟩
   ·exact h
   ·rw[hv]at h;cases h
  subst hu
  subst hv
  refine(hc _ xs.length c w0 h1).mono ?_
  rintro x w' ⟨rfl,rfl⟩
  have h2:=HS.recap (k:=0) hH rfl
  exact fin h2 (.inl rfl) rfl
end
end Go.Proofs.YtmkomlbiaebddaaGreatDoor.Am
namespace Go.Proofs.YtmkomlbiaebddaaGreatDoor.Am
open Go Go.Proofs Go.RowKit
theorem xeZ(a:Option Addr)(n c:Nat)(w:World)(h:n≤c):Calls Tryz.prog 59 #[.slice a n c] w fun x w'=>x = .returned (.slice a n n)∧w'=w:=by
 go_enter Tryz.func59,Tryz.ntmps59
 go_wp2
 go_ret
 exact⟨rfl,rfl⟩
end Go.Proofs.YtmkomlbiaebddaaGreatDoor.Am
namespace Go.Proofs.YtmkomlbiaebddaaGreatDoor.Am
open Go Go.RowKit
section
variable {P:Program}{G:List (Nat×Obj)}
theorem ymA{f:FuncId}{K V:Ty}(hfn:IsFn P f)
  (hc:∀(b:Nat) (es:Array MapEntry) (ck:Nat) (w:World),w.heap[b]? = some (.map es ck)→Calls P f #[.map (some b)] w fun e w'=>e = .returned (.map (some w.heap.size))∧w'=w.alloc (.map es ck)):
  SCok P G f ⟨⟨[(0,.mpr 0)],[.mp true K V]⟩,1,[(none,⟨[(0,.mpr 1)],[.mp true K V,.mp true K V]⟩)],fun(es:List (den K×den V))=>some (es,es)⟩:=by
 obtain⟨q,hq⟩:=zdX (.mp K V)
 have e0:∀y:den (.mp K V),zdA [.mp true K V] [.v (.mp K V) y]=[.mp 0 K V y]:=fun y=>by simp only[zdA,hq];rfl
 refine⟨hfn,fun S0 w0 us E0 L0 (es:List (den K×den V)) (d:List (den K×den V)×List (den K×den V)) _ hul R hy=>?_⟩
 have hd:d=(es,es):=(osi hy).symm
 subst hd
 have hul:us.length=1:=hul
 obtain⟨u,rfl⟩:∃u,us=[u]:=by
  match us,hul with
  |[u],_=>exact⟨u,rfl⟩
 have hput:(Shp.put (⟨[(0,.mpr 0)],[.mp true K V]⟩:Shp) es)=⟨[(0,.mpr 0)],[.mp 0 K V es]⟩:=congrArg (fun hp=>(⟨[(0,.mpr 0)],hp⟩:St)) (e0 es)
 have R:RelV ⟨S0,zbJ L0,w0⟩ S0 E0 L0 ⟨[(0,.mpr 0)],[.mp 0 K V es]⟩ (fun t=>[u].getD t undef) w0:=by rw[←hput];exact R
 obtain⟨r1,e1',c1,c2,b,ents,ck,rfl,rfl,c3,c4⟩:=R.objN (i:=0) rfl
 obtain⟨_,e1,a5,a6⟩:=(show VB S0 E0 (.mpr 0) u from R.sl 0)
 rw[c2]at a5;cases a5
 have hu:=a6 _ _ _ _ rfl
 subst hu
 have hh1:w0.heap[b]? = some (.map ents.toArray ck):=R.hs.own 0 _ c1
 have hL:L0.length=1:=R.lL
 have hE:E0.length=1:=R.lE
 refine(hc b _ ck w0 hh1).mono ?_
 rintro x w' ⟨rfl,rfl⟩
 have H:HS ⟨S0,zbJ L0,w0⟩ S0 (w0.alloc (.map ents.toArray ck)) (.obj w0.heap.size (.map ents.toArray ck)::L0):=R.hs.push (Ext.alloc w0 _) (zaI w0 _) fun b hb=>by cases hb;exact Nat.le_refl _
 refine⟨_,rfl,S0,E0++[.mp 0 w0.heap.size ck ents],L0++[.obj w0.heap.size (.map ents.toArray ck)],⟨[(0,.mpr 1)],[.mp 0 K V es,.mp 0 K V es]⟩,fun _=>.map (some w0.heap.size),fun k=>?_,Mem.le_refl _,Pin.of (ELe.push _ _),⟨HS.snoc H,by simp[hL],by simp[hE],fun i o ho=>?_,fun t=>?_⟩,?_,by simp,rfl⟩
 ·show k (exOf none) _=_
  have h2:(Shp.put (⟨[(0,.mpr 1)],[.mp true K V,.mp true K V]⟩:Shp) ((es,es):List (den K×den V)×List (den K×den V)))=⟨[(0,.mpr 1)],[.mp 0 K V es,.mp 0 K V es]⟩:=by
   have e2:∀y z:den (.mp K V),zdA [.mp true K V,.mp true K V] [.v (.mp K V) y,.v (.mp K V) z]=[.mp 0 K V y,.mp 0 K V z]:=fun y z=>by
    rw[zdA,hq]
    simp only[]
    rw[e0];rfl
   exact congrArg (fun hp=>(⟨[(0,.mpr 1)],hp⟩:St)) (e2 es es)
  rw[h2];rfl
 ·cases i with
  |zero=>
   cases ho
   exact⟨_,_,by rw[List.getElem?_append_left (by omega),←zaR];exact c1,by rw[List.getElem?_append_left (by omega)];exact c2,b,ents,ck,rfl,rfl,c3,c4⟩
  |succ i=>
   cases i with
   |zero=>
    cases ho
    exact⟨_,_,by rw[List.getElem?_append_right (by omega),hL];rfl,by rw[List.getElem?_append_right (by omega),hE];rfl,w0.heap.size,ents,ck,rfl,rfl,c3,c4⟩
   |succ i=>simp at ho
 ·cases t with
  |zero=>exact VR.ofC (show VC S0 _ (.mpr 1) _ from⟨rfl,.mp 0 w0.heap.size ck ents,by rw[List.getElem?_append_right (by omega),hE];rfl,fun g b ck es he=>by cases he;rfl⟩)
  |succ t=>trivial
 ·intro i ver e' T' xs' hi
  cases i with
  |zero=>cases hi
  |succ i=>
   cases i with
   |zero=>cases hi
   |succ i=>simp at hi
end
end Go.Proofs.YtmkomlbiaebddaaGreatDoor.Am
namespace Go.Proofs
open Go.Shelf
def Tryz.mclone72_ren:Go.Shelf.Ren:=⟨fun|5=>72|7=>104|n=>n,fun|23=>77|25=>9|3=>74|4=>4|20=>20|n=>n,fun|n=>n⟩
theorem Tryz.mclone72:Go.Proofs.SlLaysW.n5 Tryz.prog Tryz.mclone72_ren:={
  mixed:=by kernel_rfl
  f5:=⟨Tryz.f72.name,by decide,Tryz.func72.trans (congrArg some (by kernel_rfl))⟩
  f7:=Tryz.func104.trans (congrArg some (by kernel_rfl))
  t4:=Tryz.underlying4
  a4:=Tryz.isAgg4
  z4:=Tryz.sizeOf4
  v4:=Tryz.zeroValue4
  t20:=Tryz.underlying20
  a20:=Tryz.isAgg20
  z20:=Tryz.sizeOf20
  v20:=Tryz.zeroValue20
  t23:=Tryz.underlying77
  a23:=Tryz.isAgg77
  z23:=Tryz.sizeOf77
  v23:=Tryz.zeroValue77 }
end Go.Proofs
namespace Go.Proofs.YtmkomlbiaebddaaGreatDoor.Am
open Go Go.RowKit
theorem mclone72(b:Nat)(es:Array MapEntry)(ck:Nat)(w:World)(hb:w.heap[b]? = some (.map es ck)):Calls Tryz.prog 72 #[.map (some b)] w fun e w'=>e = .returned (.map (some w.heap.size))∧w'=w.alloc (.map es ck):=AnyW.maps_Clone Tryz.mclone72 b es ck w hb
def τWkE:TE:=[(3,⟨.int .i64,1,[.v (.i .i64) (show Int from 0)],(.i .i64),8⟩),
 (4,⟨.b,1,[.v .b (show Bool from false)],.b,1⟩),
 (5,⟨.int .u8,1,[.v (.i .u8) (show UInt8 from 0)],(.i .u8),1⟩),
 (9,⟨.s,1,[.v .s (show Bs from [])],.s,16⟩),
 (22,⟨.sl 24,1,[.nils],(.sl (.pr .s .s)),24⟩),
 (24,⟨.st [(9,0),(9,1)],2,[.v .s (show Bs from []),.v .s (show Bs from [])],(.pr .s .s),32⟩),
 (25,⟨.pt 79,1,[.nilp],.un,8⟩),
 (29,⟨.pt 38,1,[.nilp],.un,8⟩),
 (35,⟨.sl 53,1,[.nils],(.sl (.pr .s (.pr .s (.pr .s (.pr .s (.pr (.i .i64) (.pr (.i .i64) (.pr (.i .i64) (.sl (.pr .s (.pr .s (.pr .s (.i .i64))))))))))))),24⟩),
 (38,⟨.st [(35,0)],1,[.nils],(.pr (.sl (.pr .s (.pr .s (.pr .s (.pr .s (.pr (.i .i64) (.pr (.i .i64) (.pr (.i .i64) (.sl (.pr .s (.pr .s (.pr .s (.i .i64))))))))))))) .un),24⟩),
 (41,⟨.sl 9,1,[.nils],(.sl .s),24⟩),
 (51,⟨.sl 58,1,[.nils],(.sl (.pr .s (.pr .s (.pr .s (.i .i64))))),24⟩),
 (53,⟨.st [(9,0),(9,1),(9,2),(9,3),(3,4),(3,5),(3,6),(51,7)],8,[.v .s (show Bs from []),.v .s (show Bs from []),.v .s (show Bs from []),.v .s (show Bs from []),.v (.i .i64) (show Int from 0),.v (.i .i64) (show Int from 0),.v (.i .i64) (show Int from 0),.nils],(.pr .s (.pr .s (.pr .s (.pr .s (.pr (.i .i64) (.pr (.i .i64) (.pr (.i .i64) (.sl (.pr .s (.pr .s (.pr .s (.i .i64)))))))))))),112⟩),
 (58,⟨.st [(9,0),(9,1),(9,2),(3,3)],4,[.v .s (show Bs from []),.v .s (show Bs from []),.v .s (show Bs from []),.v (.i .i64) (show Int from 0)],(.pr .s (.pr .s (.pr .s (.i .i64)))),56⟩),
 (63,⟨.sl 66,1,[.nils],(.sl (.pr (.i .i64) (.pr (.i .i64) (.pr (.i .i64) (.pr .s (.pr .s (.pr .s (.pr .s (.pr .s (.pr .s (.i .i64))))))))))),24⟩),
 (66,⟨.st [(3,0),(3,1),(3,2),(9,3),(9,4),(9,5),(58,6)],10,[.v (.i .i64) (show Int from 0),.v (.i .i64) (show Int from 0),.v (.i .i64) (show Int from 0),.v .s (show Bs from []),.v .s (show Bs from []),.v .s (show Bs from []),.v .s (show Bs from []),.v .s (show Bs from []),.v .s (show Bs from []),.v (.i .i64) (show Int from 0)],(.pr (.i .i64) (.pr (.i .i64) (.pr (.i .i64) (.pr .s (.pr .s (.pr .s (.pr .s (.pr .s (.pr .s (.i .i64)))))))))),128⟩),
 (68,⟨.sl 25,1,[.nils],.un,24⟩),
 (69,⟨.sl 29,1,[.nils],.un,24⟩),
 (74,⟨.st [(53,0)],8,[.v .s (show Bs from []),.v .s (show Bs from []),.v .s (show Bs from []),.v .s (show Bs from []),.v (.i .i64) (show Int from 0),.v (.i .i64) (show Int from 0),.v (.i .i64) (show Int from 0),.nils],(.pr .s (.pr .s (.pr .s (.pr .s (.pr (.i .i64) (.pr (.i .i64) (.pr (.i .i64) (.sl (.pr .s (.pr .s (.pr .s (.i .i64)))))))))))),112⟩),
 (77,⟨.map 9 74,1,[.nilm],(.mp .s (.pr .s (.pr .s (.pr .s (.pr .s (.pr (.i .i64) (.pr (.i .i64) (.pr (.i .i64) (.sl (.pr .s (.pr .s (.pr .s (.i .i64))))))))))))),8⟩),
 (79,⟨.st [(77,0)],1,[.nilm],(.pr (.mp .s (.pr .s (.pr .s (.pr .s (.pr .s (.pr (.i .i64) (.pr (.i .i64) (.pr (.i .i64) (.sl (.pr .s (.pr .s (.pr .s (.i .i64))))))))))))) .un),8⟩),
 (100,⟨.sl 5,1,[.nils],(.sl (.i .u8)),24⟩)]
theorem τ_okWkE:TEok Tryz.prog τWkE:=ymL (by kernel_rfl) (by kernel_rfl)
theorem xcW:Tryz.prog.follows .mixedOrders=true:=by kernel_rfl
theorem yiI {G : List (Nat × Obj)} {o : Ops} [zlD G] [zkN G o] {Γ : CT} {η : HT} {f : FuncId} {fn : Func} {c : SC} (hΓ : ∀ B, GB G B → CTok Tryz.prog Γ B) (hf : Tryz.prog.funcs[f]? = some fn) (i : (fn.name == "runtime.NumGoroutine") = false := by kernel_rfl) (j : fn.body.isNone = false := by kernel_rfl) (l : Nat.ble c.I.sl.length fn.ntmps = true := by kernel_rfl) (r : Nat.beq fn.results.toList.length c.nr = true := by kernel_rfl) (e : fnS τWkE Γ η fn c.I c.outs = c.p := by kernel_rfl) : SCok Tryz.prog G f c := witO (G := G) (o := o) <| yrC xcW τ_okWkE hΓ hf (isFn hf i j) l r e
theorem yoV {G : List (Nat × Obj)} {o : Ops} [zlD G] [zkN G o] {Γ : CT} {η : HT} {f : FuncId} {fn : Func} {c : PC} (hΓ : ∀ B, GB G B → CTok Tryz.prog Γ B) (hf : Tryz.prog.funcs[f]? = some fn) (i : (fn.name == "runtime.NumGoroutine") = false := by kernel_rfl) (j : fn.body.isNone = false := by kernel_rfl) (l : Nat.ble c.ash.length fn.ntmps = true := by kernel_rfl) (r : c.cl = false := by kernel_rfl) (e : fnP τWkE Γ η fn c.ash c.rts = c.p := by kernel_rfl) : PCok Tryz.prog G f c := witO (G := G) (o := o) <| ygS xcW τ_okWkE hΓ hf (isFn hf i j) l r e
abbrev zxM:Type:=Bs×Bs×Bs×Int
abbrev ydI:Ty:=.pr .s (.pr .s (.pr .s (.i .i64)))
abbrev yqU:Type:=Int×Int×Int×Bs×Bs×Bs×zxM
abbrev YWkE1:Ty:=.pr (.i .i64) (.pr (.i .i64) (.pr (.i .i64) (.pr .s (.pr .s (.pr .s ydI)))))
abbrev ziD:Type:=Bs×Bs×Bs×Bs×Int×Int×Int×List zxM
abbrev zrS:Ty:=.pr .s (.pr .s (.pr .s (.pr .s (.pr (.i .i64) (.pr (.i .i64) (.pr (.i .i64) (.sl ydI)))))))
abbrev zoG:Type:=Bs×Bs×Bs×Bs×Bs×Int×Int×Int×List zxM
abbrev ygH:OSh:=.blk 38 [(.h (.sl zrS))]
abbrev xbQ:OSh:=.blk 79 [(.mpr 1)]
abbrev yhQ:OSh:=.mp true .s zrS
section
variable {tabs:List (Nat×Obj)}[zlD tabs]{o:Ops}[zkN tabs o]
def zeL(_o:Ops)(v0:Int)(v1:Int):Option (Int):=
 (chk (decide ((0:Int)<v1))).bind fun _=>bif decide ((Int.tmod v0 v1)<0)then(some (w64 ((Int.tmod v0 v1)+v1)))else(some (Int.tmod v0 v1))
def zjX(o:Ops):PC:=⟨[hI,hI],[(.i .i64)],fun x=>zeL o x.1 x.2,false⟩
theorem zrV:PCok Tryz.prog tabs 21 (zjX o):=yoV (o:=o) (η:=[]) (Γ:=⟨[],[],false,[]⟩) (ctok trivial trivial) Tryz.func21
def ykI:SC:=⟨⟨[(0,(.mpr 0))],[yhQ]⟩,1,[(none,⟨[(0,(.mpr 1))],[yhQ,yhQ]⟩)],fun(es:List zoG)=>some (es,es)⟩
theorem ywU:SCok Tryz.prog tabs 72 ykI:=wit (G:=tabs)<|ymA (isFn Tryz.func72) mclone72
def zjO(_o:Ops)(v0:List zoG):Option (((List zoG)×List zoG)):=
 ((fun(es:List zoG)=>some (es,es)) v0).bind fun v1=>some v1
def zmW(o:Ops):SC:=⟨⟨[(0,(.ptr 0 0))],[xbQ,yhQ]⟩,1,[(none,⟨[(0,(.ptr 2 0))],[xbQ,yhQ,.blk 79 [(.mpr 3)],yhQ]⟩)],fun x=>zjO o x⟩
theorem zuM:SCok Tryz.prog tabs 29 (zmW o):=yiI (o:=o) (η:=[]) (Γ:=⟨[],[(72,ykI)],false,[]⟩) (ctok trivial ⟨ywU,trivial⟩) Tryz.func29
def zeB(_o:Ops)(v0:List ziD):Option (((List ziD)×List ziD)):=
 some (v0,v0)
def zhK(o:Ops):SC:=⟨⟨[(0,(.ptr 0 0))],[ygH]⟩,1,[(none,⟨[(0,(.ptr 1 0))],[ygH,ygH]⟩)],fun x=>zeB o x⟩
theorem znE:SCok Tryz.prog tabs 30 (zhK o):=yiI (o:=o) (η:=[]) (Γ:=⟨[],[],false,[]⟩) (ctok trivial trivial) Tryz.func30
def ypO:SC:=⟨⟨[(0,(.own 0))],[.osl ydI 58]⟩,1,[(none,⟨[(0,(.own 1))],[.dead,.osl ydI 58]⟩)],fun(xs:List zxM)=>some xs⟩
theorem yzX:SCok Tryz.prog tabs 59 ypO:=wit (G:=tabs)<|xaD (isFn Tryz.func59) xeZ
def zlC(_o:Ops)(v0:ziD):Option (ziD):=
 (app ([]:List zxM) v0.2.2.2.2.2.2.2).bind fun v1=>((fun(xs:List zxM)=>some xs) v1).bind fun v2=>some (v0.1,v0.2.1,v0.2.2.1,v0.2.2.2.1,v0.2.2.2.2.1,v0.2.2.2.2.2.1,v0.2.2.2.2.2.2.1,v2)
def zpL(o:Ops):SC:=⟨⟨[(0,(.h zrS))],[]⟩,1,[(none,⟨[(0,(.ag [hS,hS,hS,hS,hI,hI,hI,(.own 0)]))],[.osl ydI 58]⟩)],fun x=>zlC o x⟩
theorem zvW:SCok Tryz.prog tabs 38 (zpL o):=yiI (o:=o) (η:=[]) (Γ:=⟨[],[(61,zzW),(59,ypO)],false,[]⟩) (ctok trivial ⟨ygQ,⟨yzX,trivial⟩⟩) Tryz.func38
def ziB(o:Ops)(v0:Bs)(v1:List zoG):Option ((Bs×Bs×Bs×Bs×Int×Int×Int×Bool×(List zoG)×List zxM)):=
 let v2:ziD:=zeU keqS v1 v0 (([]:Bs),([]:Bs),([]:Bs),([]:Bs),(0:Int),(0:Int),(0:Int),([]:List zxM))
 (zlC o v2).bind fun v3=>some (v3.1,v3.2.1,v3.2.2.1,v3.2.2.2.1,v3.2.2.2.2.1,v3.2.2.2.2.2.1,v3.2.2.2.2.2.2.1,mhas keqS v1 v0,v1,v3.2.2.2.2.2.2.2)
def zpR(o:Ops):SC:=⟨⟨[(0,(.ptr 0 0)),(1,hS)],[xbQ,yhQ]⟩,2,[(none,⟨[(0,(.ag [hS,hS,hS,hS,hI,hI,hI,(.own 2)])),(1,hB)],[xbQ,yhQ,.osl ydI 58]⟩)],fun x=>ziB o x.1 x.2⟩
theorem zvZ:SCok Tryz.prog tabs 24 (zpR o):=yiI (o:=o) (η:=[]) (Γ:=⟨[],[(38,(zpL o))],false,[]⟩) (ctok trivial ⟨zvW,trivial⟩) Tryz.func24
def zhP(_o:Ops)(v1:Int)(v2:Bs):Option ((Int×Bs)⊕((Int×Bs))):=
 bif decide (v1>9)then((chk (decide ((0:Int)<10))).bind fun _=>(app ([i8 (w64 ((48:Int)+(Int.tmod v1 (10:Int))))]:Bs) v2).bind fun v3=>(chk (((10:Int) != 0))).bind fun _=>some (.inl (w64 (Int.tdiv v1 (10:Int)),v3)))else some (.inr (v1,v2))
def zaX(o:Ops)(v0:Int):Option Bs:=
 (iter (fun x=>zhP o x.1 x.2) (v0,([]:Bs))).bind fun v4=>(app ([i8 (w64 ((48:Int)+v4.1))]:Bs) v4.2).bind fun v5=>some v5
def zhZ(o:Ops):PC:=⟨[hI],[.s],fun x=>zaX o x,false⟩
theorem zmI:PCok Tryz.prog tabs 74 (zhZ o):=yoV (o:=o) (η:=[(200002,.loop [] ⟨[(0,hI),(3,hS)],[]⟩ [2] [(some 0,⟨[(0,hI),(3,hS)],[]⟩)])]) (Γ:=⟨[],[],false,[]⟩) (ctok trivial trivial) Tryz.func74
def zeH(o:Ops)(v0:List Bs)(v1:Int)(v2:Bs):Option ((Int×Bs)⊕Bs):=
 bif decide (v1<(v0.length:Int))then((idx v0 v1).bind fun v3=>(idx v0 v1).bind fun v4=>(zaX o (v3.length:Int)).bind fun v5=>(app v5 ([58]:Bs)).bind fun v6=>(app v6 v4).bind fun v7=>(app v2 v7).bind fun v8=>some (.inl (w64 (v1+1),v8)))else some (.inr v2)
def zeW(o:Ops)(v0:List Bs):Option Bs:=
 (iter (fun x=>zeH o v0 x.1 x.2) ((0:Int),([]:Bs))).bind fun v9=>some v9
def zkZ(o:Ops):PC:=⟨[(.h (.sl .s))],[.s],fun x=>zeW o x,false⟩
theorem zsK:PCok Tryz.prog tabs 75 (zkZ o):=yoV (o:=o) (η:=[(200003,.loop [] ⟨[(3,(.own 0)),(4,hI)],[.osl (.i .u8) 5]⟩ [0,2] [(some 0,⟨[(3,(.own 0))],[.osl (.i .u8) 5]⟩)]),
 (4000005,.sch [(.pu,0,[]),(.pu,1,[]),(.pu,2,[]),(.pu,3,[]),(.pu,4,[]),(.pu,5,[]),(.pu,8,[]),(.pu,9,[]),(.pu,10,[]),(.pu,11,[]),(.mn,6,[]),(.pu,7,[]),(.pu,12,[]),(.mn,13,[0]),(.mn,14,[])])]) (Γ:=⟨[(74,(zhZ o))],[],false,[]⟩) (ctok ⟨zmI,trivial⟩ trivial) Tryz.func75
def zbQ(o:Ops)(v9:Int)(v10:List ziD)(v11:List (Bs×Bs))(v12:Bs)(v13:Bs)(v14:Bs)(v15:Bs)(v16:Int)(v17:Int)(v18:Int)(v19:List zxM)(v20:List Bs):Option ((Int×(List ziD)×(List (Bs×Bs))×Bs×Bs×Bs×Bs×Int×Int×Int×(List zxM)×List Bs)⊕(((List ziD)×(List (Bs×Bs))×Bs×Bs×Bs×Bs×Int×Int×Int×(List zxM)×List Bs))):=
 bif decide (v9<(v19.length:Int))then((idx v19 v9).bind fun v21=>(idx v19 v9).bind fun v22=>(idx v19 v9).bind fun v23=>(idx v19 v9).bind fun v24=>(zaX o v24.2.2.2).bind fun v25=>(app v20 ([v21.1,v22.2.1,v23.2.2.1,v25]:List Bs)).bind fun v26=>some (.inl (w64 (v9+1),v10,v11,v12,v13,v14,v15,v16,v17,v18,v19,v26)))else some (.inr (v10,v11,v12,v13,v14,v15,v16,v17,v18,v19,v20))
def zcK(o:Ops)(v1:Int)(v2:List ziD)(v3:List (Bs×Bs)):Option ((Int×(List ziD)×List (Bs×Bs))⊕(((List ziD)×List (Bs×Bs)))):=
 bif decide (v1<(v2.length:Int))then((idx v2 v1).bind fun v4=>(zaX o v4.2.2.2.2.1).bind fun v5=>(zaX o v4.2.2.2.2.2.1).bind fun v6=>(zaX o v4.2.2.2.2.2.2.1).bind fun v7=>(zaX o (v4.2.2.2.2.2.2.2.length:Int)).bind fun v8=>(iter (fun x=>zbQ o x.1 x.2.1 x.2.2.1 x.2.2.2.1 x.2.2.2.2.1 x.2.2.2.2.2.1 x.2.2.2.2.2.2.1 x.2.2.2.2.2.2.2.1 x.2.2.2.2.2.2.2.2.1 x.2.2.2.2.2.2.2.2.2.1 x.2.2.2.2.2.2.2.2.2.2.1 x.2.2.2.2.2.2.2.2.2.2.2) ((0:Int),v2,v3,v4.1,v4.2.1,v4.2.2.1,v4.2.2.2.1,v4.2.2.2.2.1,v4.2.2.2.2.2.1,v4.2.2.2.2.2.2.1,v4.2.2.2.2.2.2.2,([v4.2.1,v4.2.2.1,v4.2.2.2.1,v5,v6,v7,v8]:List Bs))).bind fun v27=>(app ([108,111,103,105,110,47]:Bs) v27.2.2.1).bind fun v28=>(zeW o v27.2.2.2.2.2.2.2.2.2.2).bind fun v29=>(app v27.2.1 ([(v28,v29)]:List (Bs×Bs))).bind fun v30=>some (.inl (w64 (v1+1),v27.1,v30)))else some (.inr (v2,v3))
def zcS(o:Ops)(v0:List ziD):Option (((List ziD)×List (Bs×Bs))):=
 (iter (fun x=>zcK o x.1 x.2.1 x.2.2) ((0:Int),v0,([]:List (Bs×Bs)))).bind fun v31=>some v31
def zhJ(o:Ops):SC:=⟨⟨[(0,(.ptr 0 0))],[ygH]⟩,1,[(none,⟨[(0,(.own 1))],[ygH,.osl (.pr .s .s) 24]⟩)],fun x=>zcS o x⟩
theorem znH:SCok Tryz.prog tabs 33 (zhJ o):=yiI (o:=o) (η:=[(200008,.loop [] ⟨[(0,(.ptr 0 0)),(3,(.own 1)),(5,(.ptr 2 0)),(6,(.own 3)),(7,hI)],[ygH,.osl (.pr .s .s) 24,.blk 53 [hS,hS,hS,hS,hI,hI,hI,(.h (.sl ydI))],.osl .s 9]⟩ [2,4] [(some 2,⟨[(0,(.ptr 0 0)),(3,(.own 1)),(5,(.ptr 2 0)),(6,(.own 3))],[ygH,.osl (.pr .s .s) 24,.blk 53 [hS,hS,hS,hS,hI,hI,hI,(.h (.sl ydI))],.osl .s 9]⟩)]),
 (200003,.loop [] ⟨[(0,(.ptr 0 0)),(3,(.own 1)),(4,hI)],[ygH,.osl (.pr .s .s) 24]⟩ [2] [(some 0,⟨[(3,(.own 1))],[ygH,.osl (.pr .s .s) 24]⟩)]),
 (4000006,.sch [(.pu,0,[]),(.pu,1,[]),(.pu,2,[]),(.pu,3,[]),(.pu,4,[]),(.pu,5,[]),(.pu,6,[]),(.pu,7,[]),(.pu,9,[]),(.pu,10,[]),(.pu,12,[]),(.pu,13,[]),(.pu,15,[]),(.pu,16,[]),(.pu,17,[]),(.mn,8,[]),(.mn,11,[]),(.mn,14,[]),(.mn,18,[]),(.mn,19,[]),(.pu,20,[])]),
 (4000010,.sch [(.pu,0,[]),(.pu,1,[]),(.pu,2,[]),(.pu,3,[]),(.pu,4,[]),(.pu,5,[]),(.pu,6,[]),(.pu,7,[]),(.pu,8,[]),(.pu,9,[]),(.pu,10,[]),(.pu,11,[]),(.pu,12,[]),(.pu,13,[]),(.pu,14,[]),(.pu,15,[]),(.pu,16,[]),(.pu,17,[]),(.pu,18,[]),(.pu,19,[]),(.pu,20,[]),(.pu,21,[]),(.pu,22,[]),(.pu,23,[]),(.pu,24,[]),(.mn,25,[]),(.mn,26,[]),(.mn,27,[3]),(.mn,28,[])]),
 (4000011,.sch [(.pu,0,[]),(.pu,1,[]),(.pu,2,[]),(.pu,3,[]),(.pu,4,[]),(.mn,5,[]),(.pu,6,[]),(.mn,7,[]),(.mn,8,[1]),(.mn,9,[])])]) (Γ:=⟨[(74,(zhZ o)),(75,(zkZ o))],[],false,[]⟩) (ctok ⟨zmI,⟨zsK,trivial⟩⟩ trivial) Tryz.func33
def zeF(o:Ops)(v3:List (List zoG))(v4:List (List ziD))(v5:yqU)(v6:Int):Option (((List (List zoG))×(List (List ziD))×yqU)):=
 bif(v5.2.1==7)then((chk (decide ((0:Int)≤v6)&&decide (v6<(v3.length:Int)))).bind fun _=>(chk (decide ((0:Int)≤v6)&&decide (v6<(v3.length:Int)))).bind fun _=>(idx v3 v6).bind fun v7=>(zjO o v7).bind fun v8=>(setL v3 v6 v8.1).bind fun v9=>(app v9 ([v8.2]:List (List zoG))).bind fun v10=>(chk (decide ((0:Int)≤v6)&&decide (v6<(v4.length:Int)))).bind fun _=>(chk (decide ((0:Int)≤v6)&&decide (v6<(v4.length:Int)))).bind fun _=>(idx v4 v6).bind fun v11=>(zeB o v11).bind fun v12=>(setL v4 v6 v12.1).bind fun v13=>(app v13 ([v12.2]:List (List ziD))).bind fun v14=>some (v10,v14,v5))else some (v3,v4,v5)
def zdZ(o:Ops)(v18:(Bool×(List ziD)×List zoG))(v22:(Bs×Bs×Bs×Bs×Int×Int×Int×Bool×(List zoG)×List zxM))(v23:List (List zoG))(v25:(ziD×Bool×List ziD))(v26:List (List ziD)):Option (Bool⊕((List (List zoG))×(List (List ziD))×ziD)):=
 bif(!v18.1)then some (.inl false)else(bif(v22.2.2.2.2.2.2.2.1 != v25.2.1)then some (.inl false)else((zcG o (v22.1,v22.2.1,v22.2.2.1,v22.2.2.2.1,v22.2.2.2.2.1,v22.2.2.2.2.2.1,v22.2.2.2.2.2.2.1,v22.2.2.2.2.2.2.2.2.2) v25.1).bind fun v27=>bif(!v27)then some (.inl false)else some (.inr (v23,v26,v22.1,v22.2.1,v22.2.2.1,v22.2.2.2.1,v22.2.2.2.2.1,v22.2.2.2.2.2.1,v22.2.2.2.2.2.2.1,v22.2.2.2.2.2.2.2.2.2))))
def zeA(_o:Ops)(v31:Int)(v32:List (List zoG))(v33:List (List ziD))(v34:Bs)(v35:Bs)(v36:Bs)(v37:Bs)(v38:Int)(v39:Int)(v40:Int)(v41:List zxM):Option ((Int×(List (List zoG))×(List (List ziD))×ziD)⊕(((List (List zoG))×List (List ziD)))):=
 bif decide (v31<(v41.length:Int))then((chk (decide ((0:Int)≤v31)&&decide (v31<(v41.length:Int)))).bind fun _=>(setL v41 v31 (([111,118,101,114]:Bs),([]:Bs),([]:Bs),(0:Int))).bind fun v42=>some (.inl (w64 (v31+1),v32,v33,v34,v35,v36,v37,v38,v39,v40,v42)))else some (.inr (v32,v33))
def zhR(o:Ops)(v0:List yqU)(v2:Int)(v3:List (List zoG))(v4:List (List ziD)):Option ((Int×(List (List zoG))×List (List ziD))⊕(Bool⊕((List (List zoG))×List (List ziD)))):=
 bif decide (v2<(v0.length:Int))then((idx v0 v2).bind fun v5=>(zeL o v5.1 (v3.length:Int)).bind fun v6=>(zeF o v3 v4 v5 v6).bind fun v15=>(chk (decide ((0:Int)≤v6)&&decide (v6<(v15.1.length:Int)))).bind fun _=>(chk (decide ((0:Int)≤v6)&&decide (v6<(v15.1.length:Int)))).bind fun _=>(chk (decide ((0:Int)≤v6)&&decide (v6<(v15.2.1.length:Int)))).bind fun _=>(chk (decide ((0:Int)≤v6)&&decide (v6<(v15.2.1.length:Int)))).bind fun _=>(idx v15.1 v6).bind fun v16=>(idx v15.2.1 v6).bind fun v17=>(zeN o v15.2.2 v17 v16).bind fun v18=>(setL v15.2.1 v6 v18.2.1).bind fun v19=>(setL v15.1 v6 v18.2.2).bind fun v20=>(chk (decide ((0:Int)≤v6)&&decide (v6<(v20.length:Int)))).bind fun _=>(chk (decide ((0:Int)≤v6)&&decide (v6<(v20.length:Int)))).bind fun _=>(idx v20 v6).bind fun v21=>(ziB o v15.2.2.2.2.2.1 v21).bind fun v22=>(setL v20 v6 v22.2.2.2.2.2.2.2.2.1).bind fun v23=>(chk (decide ((0:Int)≤v6)&&decide (v6<(v19.length:Int)))).bind fun _=>(chk (decide ((0:Int)≤v6)&&decide (v6<(v19.length:Int)))).bind fun _=>(idx v19 v6).bind fun v24=>(zaH o v15.2.2.2.2.2.1 v24).bind fun v25=>(setL v19 v6 v25.2.2).bind fun v26=>(zdZ o v18 v22 v23 v25 v26).bind fun v28=>match v28 with
 |.inl v29=>some (.inr (.inl v29))
 |.inr v30=>((iter (fun x=>zeA o x.1 x.2.1 x.2.2.1 x.2.2.2.1 x.2.2.2.2.1 x.2.2.2.2.2.1 x.2.2.2.2.2.2.1 x.2.2.2.2.2.2.2.1 x.2.2.2.2.2.2.2.2.1 x.2.2.2.2.2.2.2.2.2.1 x.2.2.2.2.2.2.2.2.2.2) ((0:Int),v30)).bind fun v43=>some (.inl (w64 (v2+1),v43))))else some (.inr (.inr (v3,v4)))
def ziA(o:Ops)(v47:Int)(v48:List (List zoG))(v49:List (List ziD)):Option ((Int×(List (List zoG))×List (List ziD))⊕(Bool⊕Unit)):=
 bif decide (v47<(v48.length:Int))then((chk (decide ((0:Int)≤v47)&&decide (v47<(v48.length:Int)))).bind fun _=>(chk (decide ((0:Int)≤v47)&&decide (v47<(v48.length:Int)))).bind fun _=>(chk (decide ((0:Int)≤v47)&&decide (v47<(v49.length:Int)))).bind fun _=>(chk (decide ((0:Int)≤v47)&&decide (v47<(v49.length:Int)))).bind fun _=>(idx v49 v47).bind fun v50=>(idx v48 v47).bind fun v51=>(zdV o v51).bind fun v52=>(setL v48 v47 v52.1).bind fun v53=>(zdI o v52.2 v50).bind fun v54=>bif(!v54)then some (.inr (.inl false))else((chk (decide ((0:Int)≤v47)&&decide (v47<(v53.length:Int)))).bind fun _=>(chk (decide ((0:Int)≤v47)&&decide (v47<(v53.length:Int)))).bind fun _=>(chk (decide ((0:Int)≤v47)&&decide (v47<(v49.length:Int)))).bind fun _=>(chk (decide ((0:Int)≤v47)&&decide (v47<(v49.length:Int)))).bind fun _=>(idx v53 v47).bind fun v55=>(zeQ o v55).bind fun v56=>(setL v53 v47 v56.2).bind fun v57=>(idx v49 v47).bind fun v58=>(zcS o v58).bind fun v59=>(setL v49 v47 v59.1).bind fun v60=>(zbY o v56.1 v59.2).bind fun v61=>bif(!v61)then some (.inr (.inl false))else some (.inl (w64 (v47+1),v57,v60))))else some (.inr (.inr ()))
def zcV(o:Ops)(v0:List yqU):Option (Bool):=
 (znS o).bind fun v1=>(iter (fun x=>zhR o v0 x.1 x.2.1 x.2.2) ((0:Int),([v1]:List (List zoG)),([([]:List ziD)]:List (List ziD)))).bind fun v44=>match v44 with
 |.inl v45=>(some v45)
 |.inr v46=>((iter (fun x=>ziA o x.1 x.2.1 x.2.2) ((0:Int),v46)).bind fun v62=>match v62 with
 |.inl v63=>(some v63)
 |.inr _v64=>((some true).bind fun v65=>some v65))
def zoQ(o:Ops):PC:=⟨[(.h (.sl YWkE1))],[.b],fun x=>zcV o x,false⟩
theorem ybB:PCok Tryz.prog tabs 8 (zoQ o):=yoV (o:=o) (η:=[(2000016,.join [] [0,6,8] [(none,⟨[(4,(.fs 0)),(5,(.fs 1)),(7,(.ptr 2 0))],[.fam 25 [FSh.blk 79 [.mpr 1],.mp .s zrS],.fam 29 [FSh.blk 38 [.h (.sl zrS)]],.blk 66 [hI,hI,hI,hS,hS,hS,hS,hS,hS,hI]]⟩)]),
 (2000021,.join [] [0,6] [(some 1000000,⟨[(2,hB)],[]⟩),(none,⟨[(4,(.fs 0)),(5,(.fs 1)),(11,(.ptr 2 0))],[.fam 25 [FSh.blk 79 [.mpr 1],.mp .s zrS],.fam 29 [FSh.blk 38 [.h (.sl zrS)]],.blk 53 [hS,hS,hS,hS,hI,hI,hI,(.own 3)],.osl ydI 58]⟩)]),
 (200022,.loop [] ⟨[(4,(.fs 0)),(5,(.fs 1)),(11,(.ptr 2 0)),(15,hI)],[.fam 25 [FSh.blk 79 [.mpr 1],.mp .s zrS],.fam 29 [FSh.blk 38 [.h (.sl zrS)]],.blk 53 [hS,hS,hS,hS,hI,hI,hI,(.own 3)],.osl ydI 58]⟩ [0,6] [(some 2,⟨[(4,(.fs 0)),(5,(.fs 1))],[.fam 25 [FSh.blk 79 [.mpr 1],.mp .s zrS],.fam 29 [FSh.blk 38 [.h (.sl zrS)]]]⟩)]),
 (200006,.loop [] ⟨[(4,(.fs 0)),(5,(.fs 1)),(6,hI)],[.fam 25 [FSh.blk 79 [.mpr 1],.mp .s zrS],.fam 29 [FSh.blk 38 [.h (.sl zrS)]]]⟩ [0] [(some 1000000,⟨[(2,hB)],[]⟩),(some 0,⟨[(4,(.fs 0)),(5,(.fs 1))],[.fam 25 [FSh.blk 79 [.mpr 1],.mp .s zrS],.fam 29 [FSh.blk 38 [.h (.sl zrS)]]]⟩)]),
 (200026,.loop [] ⟨[(4,(.fs 0)),(5,(.fs 1)),(16,hI)],[.fam 25 [FSh.blk 79 [.mpr 1],.mp .s zrS],.fam 29 [FSh.blk 38 [.h (.sl zrS)]]]⟩ [] [(some 1000000,⟨[(2,hB)],[]⟩),(some 4,⟨[],[]⟩)]),
 (4000016,.sch [(.pu,0,[]),(.pu,1,[]),(.pu,2,[]),(.pu,3,[]),(.pu,4,[]),(.pu,5,[]),(.pu,6,[]),(.pu,7,[]),(.pu,8,[]),(.mn,9,[0,1]),(.pu,10,[])]),
 (4000017,.sch [(.pu,0,[]),(.pu,1,[]),(.pu,2,[]),(.pu,3,[]),(.pu,4,[]),(.pu,5,[]),(.la,10,[]),(.mn,6,[0]),(.pu,7,[]),(.pu,8,[]),(.pu,9,[11]),(.rv,10,[]),(.mn,11,[11]),(.pu,12,[])]),
 (4000018,.sch [(.pu,0,[]),(.pu,1,[]),(.pu,2,[]),(.pu,3,[]),(.pu,4,[]),(.pu,5,[]),(.la,10,[]),(.mn,6,[1]),(.pu,7,[]),(.pu,8,[]),(.pu,9,[14]),(.rv,10,[]),(.mn,11,[14]),(.pu,12,[])]),
 (4000028,.sch [(.pu,0,[]),(.pu,1,[]),(.pu,2,[]),(.pu,3,[]),(.pu,5,[0]),(.pu,6,[0]),(.pu,7,[0]),(.pu,8,[0]),(.pu,9,[0]),(.pu,10,[0]),(.pu,11,[0]),(.mn,4,[0]),(.mn,12,[]),(.pu,13,[]),(.pu,14,[]),(.pu,15,[]),(.pu,16,[]),(.pu,17,[]),(.pu,18,[]),(.pu,20,[0]),(.pu,21,[0]),(.pu,22,[0]),(.pu,23,[0]),(.mn,19,[0]),(.mn,24,[1]),(.mn,25,[]),(.pu,26,[]),(.pu,27,[])])]) (Γ:=⟨[(21,(zjX o)),(32,(zgQ o)),(13,(ziW o)),(11,(ziK o)),(12,ynW)],[(16,(zpD o)),(29,(zmW o)),(30,(zhK o)),(28,(zjU o)),(24,(zpR o)),(31,(zaL o)),(14,(zgY o)),(15,(zjH o)),(33,(zhJ o))],false,[(25,[FSh.blk 79 [.mpr 1],.mp .s zrS]),(29,[FSh.blk 38 [.h (.sl zrS)]])]⟩) (ctok ⟨zrV,⟨zkS,⟨zqC,⟨zoT,⟨yzL,trivial⟩⟩⟩⟩⟩ ⟨ztO,⟨zuM,⟨znE,⟨zrY,⟨zvZ,⟨zaN,⟨zkB,⟨znY,⟨znH,trivial⟩⟩⟩⟩⟩⟩⟩⟩⟩) Tryz.func8
end
end Go.Proofs.YtmkomlbiaebddaaGreatDoor.Am
