/- The law 'seneschallaw12.PeopleTexts' holds of every input whose arguments hold together at most 1048576 values and letters, and its card. Conditions: the row's listed tables hold what the program's text lays; the arguments' bulk is at most 1048576. -/
import Derived.KernelRfl
import Derived.Test.YtopanhneegpgcaaGreatDoorRows
import Derived.Test.YtopanhneegpgcaaGreatDoorTie
import Derived.Test.YtopanhneegpgcaaGreatDoorCards
import Derived.ProofKit
import Derived.OpenShut
import Derived.Carry
import Derived.JoinedCond
import Derived.ChangeMaps5
import Derived.Deep.SlicePairs
import Derived.Deep.DeepHandedRow
import Derived.Lib.LaidTab
import Derived.SevenTiedAt
import Derived.Stop.LaidErr
import Derived.Test.YtopanhneegpgcaaGreatDoorQtL
namespace Go.Proofs.YtopanhneegpgcaaGreatDoor.Am
open Go Go.RowKit
section
section
variable {S R:Type}
theorem yiK{f:S→List (Option (S⊕R))}(hne:∀s,f s≠[]):∀(n:Nat) {s:S} {r r':R} {m:Nat},Rng f n s r→Rng f m s r'→r=r'
 |0,_,_,_,_,h,_=>h.elim
 |_+1,_,_,_,0,_,h=>h.elim
 |n+1,s,r,r',m+1,h,h'=>by
  obtain⟨o,ho⟩:=List.exists_mem_of_ne_nil _ (hne s)
  have h1:=h o ho
  have h2:=h' o ho
  match o,h1,h2 with
  |some (.inl s'),h1,h2=>exact yiK hne n h1 h2
  |some (.inr r0),h1,h2=>exact h1.symm.trans h2
theorem yxH{f:S→List (Option (S⊕R))}(hne:∀s,f s≠[]){n:Nat}{s:S}{r:R}(h:Rng f n s r):rngA f s=some r:=by
 unfold rngA
 have hx:∃r n,Rng f n s r:=⟨r,n,h⟩
 rw[dif_pos hx]
 obtain⟨m,hm⟩:=hx.choose_spec
 rw[yiK hne m hm h]
theorem zzH{α γ:Type}(l:List α)(d:γ)(F:α→γ):rngL l d F≠[]:=by
 unfold rngL
 cases l<;>simp
def allE(eq:R→Bool)(g:S→Bool):List (Option (S⊕R))→Bool
 |[]=>true
 |none::_=>false
 |some (.inl s)::l=>g s&&allE eq g l
 |some (.inr r)::l=>eq r&&allE eq g l
def rngE(eq:R→Bool)(f:S→List (Option (S⊕R))):Nat→S→Bool
 |0,_=>false
 |n+1,s=>allE eq (rngE eq f n) (f s)
theorem yhL{eq:R→Bool}{g:S→Bool}{p:S→Prop}{r:R}(hr:∀x,eq x=true→x=r)(hg:∀s,g s=true→p s):∀{l:List (Option (S⊕R))},allE eq g l=true→∀o∈l,rngO p r o
 |[],_,_,ho=>by cases ho
 |none::_,h,_,_=>by cases h
 |some (.inl s)::l,h,o,ho=>by
  have h:(g s&&allE eq g l)=true:=h
  rcases List.mem_cons.1 ho with rfl|ho
  ·exact hg s (zaN h)
  ·exact yhL hr hg (zaQ h) o ho
 |some (.inr x)::l,h,o,ho=>by
  have h:(eq x&&allE eq g l)=true:=h
  rcases List.mem_cons.1 ho with rfl|ho
  ·exact hr x (zaN h)
  ·exact yhL hr hg (zaQ h) o ho
theorem yrT{eq:R→Bool}{f:S→List (Option (S⊕R))}{r:R}(hr:∀x,eq x=true→x=r):∀(n:Nat) {s:S},rngE eq f n s=true→Rng f n s r
 |0,_,h=>by cases h
 |n+1,_,h=>yhL hr (fun s hs=>yrT hr n hs) h
theorem ygB[DecidableEq R]{f:S→List (Option (S⊕R))}{s:S}(n:Nat)(r:R)(hne:∀s,f s≠[])(h:rngE (fun x=>decide (x=r)) f n s=true):rngA f s=some r:=
 yxH hne (yrT (fun _ hx=>of_decide_eq_true hx) n h)
end
abbrev uS:List (Bs×Bs×Bs×Bool×Int):=[([97,110,110],[97,110,110],[97,64,120],true,1)]
abbrev g1S:List (Bs×(List Bs×List Bs×List Bs)×Int):=[([103],([],[[104]],[]),2),([104],([[97,110,110]],[],[]),2)]
abbrev gS:List (Bs×(List Bs×List Bs×List Bs)×Int):=[([103],([],[[104]],[[114]]),3),([104],([[97,110,110]],[],[]),2)]
abbrev rS:List (Bs×Bs×List Bs):=[([114],[114],[[114,101,97,100]])]
abbrev cS:List (Bs×Bs×Bs×List Bs×List Bs×Bool×Bool×Bool×Bool):=[]
abbrev mS:List ((Bs×Bs)×Unit):=[]
abbrev wS:List (Bs×Bs):=[([103,114,111,117,112,47,103],[49,58,51,49,58,48,49,58,49,49,58,104,49,58,49,49,58,114]),([103,114,111,117,112,47,104],[49,58,50,49,58,49,51,58,97,110,110,49,58,48,49,58,48]),([114,111,108,101,47,114],[49,58,49,52,58,114,101,97,100]),([117,115,101,114,47,97,110,110],[51,58,97,64,120,49,58,49,49,58,49])]
theorem zaA{α β:Type}{a:α}{f:α→Option β}:Option.bind (some a) f=f a:=rfl
set_option synthInstance.maxSize 4000
set_option synthInstance.maxHeartbeats 400000
instance iA:DecidableEq Bs:=inferInstance
instance i2:DecidableEq (Bs×Bs×Bs×Bool×Int):=inferInstance
instance i7:DecidableEq (Bs×(List Bs×List Bs×List Bs)×Int):=inferInstance
instance i3:DecidableEq (Bs×Bs×List Bs):=inferInstance
instance i9:DecidableEq (Bs×Bs×Bs×List Bs×List Bs×Bool×Bool×Bool×Bool):=inferInstance
instance iM:DecidableEq ((Bs×Bs)×Unit):=inferInstance
theorem in_e:zcE zaH [97,110,110] uS gS rS cS mS=some ([[103],[104]],uS,gS,rS,cS,mS):=by
 unfold zcE
 rw[ygB 40 (uS,gS,rS,cS,mS,([([103],()),([104],())]:List (Bs×Unit))) (fun s=>by
  cases s with
  |inl x=>exact List.cons_ne_nil _ _
  |inr x=>exact zzH _ _ _) (by kernel_rfl)]
 kernel_rfl
theorem yuK:zbS zaH uS gS rS cS mS=some (true,uS,gS,rS,cS,mS):=by
 unfold zbS
 rw[ygB 10 (uS,gS,rS,cS,mS,([([103],[[104]]),([104],[])]:List (Bs×List Bs))) (by intro s;exact zzH _ _ _) (by kernel_rfl),zaA]
 rw[ygB 40 (uS,gS,rS,cS,mS,([]:List (Bs×List Bs))) (fun s=>by
  cases s with
  |inl x=>exact List.cons_ne_nil _ _
  |inr x=>exact zzH _ _ _) (by kernel_rfl)]
 kernel_rfl
theorem yyV:zbY zaH uS gS rS cS mS=some (true,uS,gS,rS,cS,mS):=by
 unfold zbY
 rw[show ziQ zaH uS gS rS cS mS=some (.inr (uS,gS,rS,cS,mS)) by kernel_rfl,zaA]
 show Option.bind (rngA _ (uS,gS,rS,cS,mS,List.map Prod.fst gS)) _=_
 rw[ygB 10 (.inl (uS,gS,rS,cS,mS)) (by intro s;exact zzH _ _ _) (by kernel_rfl),zaA]
 show Option.bind (rngA _ (uS,gS,rS,cS,mS,List.map Prod.fst mS)) _=_
 rw[ygB 10 (.inl (uS,gS,rS,cS,mS)) (by intro s;exact zzH _ _ _) (by kernel_rfl),zaA]
 show Option.bind (zbS zaH uS gS rS cS mS) _=_
 rw[yuK]
 rfl
theorem yzE:zcB zaH [97,110,110] uS gS rS cS mS=some ([[114,101,97,100]],uS,gS,rS,cS,mS):=by
 unfold zcB
 rw[in_e,zaA]
 kernel_rfl
theorem xcI:zdI zaH uS gS rS cS mS=some (wS,uS,gS,rS,cS,mS):=by kernel_rfl
theorem xbF:zhE zaH wS=some (.inr (0,uS,gS,rS,cS,mS)):=by
 unfold zhE
 rw[show zjM zaH=some ([],[],[],[],[]) by kernel_rfl,zaA]
 rw[show iter (fun x=>ztM zaH wS x.1 x.2.1 x.2.2.1 x.2.2.2.1 x.2.2.2.2.1 x.2.2.2.2.2) ((0:Int),([],[],[],[],[]))=some (.inr (uS,gS,rS,cS,mS)) by kernel_rfl,zaA]
 show Option.bind (zbY zaH uS gS rS cS mS) _=_
 rw[yyV]
 rfl
theorem xaN:zeQ zaH=some true:=by
 unfold zeQ
 rw[show zjM zaH=some ([],[],[],[],[]) by kernel_rfl,zaA]
 rw[show zhB zaH ([],[],[],[],[])=some (.inr (uS,g1S,[],cS,mS)) by kernel_rfl,zaA]
 show Option.bind (zdV zaH (uS,g1S,[],cS,mS)) _=_
 rw[show zdV zaH (uS,g1S,[],cS,mS)=some (.inr (uS,gS,rS,cS,mS)) by kernel_rfl,zaA]
 show Option.bind (zcE zaH [97,110,110] uS gS rS cS mS) _=_
 rw[in_e,zaA]
 show Option.bind (zcB zaH [97,110,110] uS gS rS cS mS) _=_
 rw[yzE,zaA]
 show Option.bind (zdI zaH uS gS rS cS mS) _=_
 rw[xcI,zaA]
 show Option.bind (zhE zaH wS) _=_
 rw[xbF]
 kernel_rfl
def yiZ:PC:=⟨[],[.b],fun _=>some true,false⟩
theorem ysX{G:List (Nat×Obj)}[zqN G]:PCok Tryz.prog G 24 yiZ:=by
 have h:=zoS (tabs:=G) (o:=zaH)
 unfold zhF at h
 rw[xaN]at h
 exact h
end
def τWkT:TE:=[(3,⟨.int .i64,1,[.v (.i .i64) (show Int from 0)],(.i .i64),8⟩),
 (4,⟨.b,1,[.v .b (show Bool from false)],.b,1⟩),
 (5,⟨.int .u8,1,[.v (.i .u8) (show UInt8 from 0)],(.i .u8),1⟩),
 (9,⟨.s,1,[.v .s (show Bs from [])],.s,16⟩),
 (22,⟨.sl 9,1,[.nils],(.sl .s),24⟩),
 (102,⟨.sl 5,1,[.nils],(.sl (.i .u8)),24⟩)]
theorem τ_okWkT:TEok Tryz.prog τWkT:=ysZ (by kernel_rfl) (by kernel_rfl)
theorem yvR:Tryz.prog.follows .mixedOrders=true:=by kernel_rfl
theorem fscWkT {G : List (Nat × Obj)} {o : Ops} [zqN G] [zlH G o] {Γ : CT} {η : HT} {f : FuncId} {fn : Func} {c : SC} (hΓ : ∀ B, GB G B → CTok Tryz.prog Γ B) (hf : Tryz.prog.funcs[f]? = some fn) (i : (fn.name == "runtime.NumGoroutine") = false := by kernel_rfl) (j : fn.body.isNone = false := by kernel_rfl) (l : Nat.ble c.I.sl.length fn.ntmps = true := by kernel_rfl) (r : Nat.beq fn.results.toList.length c.nr = true := by kernel_rfl) (e : fnS τWkT Γ η fn c.I c.outs = c.p := by kernel_rfl) : SCok Tryz.prog G f c := witO (G := G) (o := o) <| xcJ yvR τ_okWkT hΓ hf (isFn hf i j) l r e
theorem zrB {G : List (Nat × Obj)} {o : Ops} [zqN G] [zlH G o] {Γ : CT} {η : HT} {f : FuncId} {fn : Func} {c : PC} (hΓ : ∀ B, GB G B → CTok Tryz.prog Γ B) (hf : Tryz.prog.funcs[f]? = some fn) (i : (fn.name == "runtime.NumGoroutine") = false := by kernel_rfl) (j : fn.body.isNone = false := by kernel_rfl) (l : Nat.ble c.ash.length fn.ntmps = true := by kernel_rfl) (r : c.cl = false := by kernel_rfl) (e : fnP τWkT Γ η fn c.ash c.rts = c.p := by kernel_rfl) : PCok Tryz.prog G f c := witO (G := G) (o := o) <| xcW yvR τ_okWkT hΓ hf (isFn hf i j) l r e
section
variable {tabs:List (Nat×Obj)}[zqN tabs]{o:Ops}[zlH tabs o]
def zdL(_o:Ops)(v0:Bs):Option ((Int×Bool)⊕Unit):=
 bif(v0==([]:Bs))then some (.inl ((0:Int),false))else(bif decide ((v0.length:Int)>15)then some (.inl ((0:Int),false))else((idx v0 (0:Int)).bind fun v1=>bif((v1.toNat:Int)==((48:UInt8).toNat:Int))then(bif(v0 != ([48]:Bs))then some (.inl ((0:Int),false))else some (.inr ()))else some (.inr ())))
def zgT(_o:Ops)(v0:Bs)(v6:Int):Option ((Int×Bool)⊕Unit):=
 (idx v0 v6).bind fun v7=>bif decide ((v7.toNat:Int)<((48:UInt8).toNat:Int))then some (.inl ((0:Int),false))else((idx v0 v6).bind fun v8=>bif decide ((v8.toNat:Int)>((57:UInt8).toNat:Int))then some (.inl ((0:Int),false))else some (.inr ()))
def zcC(o:Ops)(v0:Bs)(v5:Int)(v6:Int):Option ((Int×Int)⊕((Int×Bool)⊕Int)):=
 bif decide (v6<(v0.length:Int))then((zgT o v0 v6).bind fun v9=>match v9 with
 |.inl v10=>some (.inr (.inl v10))
 |.inr _v11=>((idx v0 v6).bind fun v12=>let v13:Int:=w64 ((i8 ((v12.toNat:Int)-((48:UInt8).toNat:Int))).toNat:Int)
 some (.inl (w64 ((w64 ((10:Int)*v5))+v13),w64 (v6+1)))))else some (.inr (.inr v5))
def zcM(o:Ops)(v0:Bs):Option (Int×Bool):=
 (zdL o v0).bind fun v2=>match v2 with
 |.inl v3=>(some v3)
 |.inr _v4=>((iter (fun x=>zcC o v0 x.1 x.2) ((0:Int),(0:Int))).bind fun v14=>match v14 with
 |.inl v15=>(some v15)
 |.inr v16=>(some (v16,true)))
def zgW(o:Ops):PC:=⟨[hS],[(.i .i64),.b],fun x=>zcM o x,false⟩
theorem znP:PCok Tryz.prog tabs 62 (zgW o):=zrB (o:=o) (η:=[(2000003,.join [] [0] [(some 1000000,⟨[(2,hI),(3,hB)],[]⟩),(none,⟨[],[]⟩)]),
 (2000009,.join [] [0,4,5] [(some 1000000,⟨[(2,hI),(3,hB)],[]⟩),(none,⟨[],[]⟩)]),
 (200005,.loop [] ⟨[(4,hI),(5,hI)],[]⟩ [0] [(some 1000000,⟨[(2,hI),(3,hB)],[]⟩),(some 0,⟨[(4,hI)],[]⟩)])]) (Γ:=⟨[],[],false,[]⟩) (ctok trivial trivial) Tryz.func62
def zcL(_o:Ops)(v0:Bs)(v3:Int)(v4:List Bs):Option ((Int×List Bs)⊕((Int×List Bs))):=
 bif decide (v3<(v0.length:Int))then((idx v0 v3).bind fun v5=>bif((v5.toNat:Int) != ((58:UInt8).toNat:Int))then some (.inl (w64 (v3+1),v4))else some (.inr (v3,v4)))else some (.inr (v3,v4))
def zcN(_o:Ops)(v0:Bs)(v6:Int×List Bs)(v8:Int×Bool):Option (Bool⊕List Bs):=
 bif(!v8.2)then some (.inl false)else(bif(v6.1==(v0.length:Int))then some (.inl false)else(let v9:Bool:=decide (v8.1>(w64 ((w64 ((v0.length:Int)-v6.1))-1)))
 bif v9 then some (.inl false)else some (.inr v6.2)))
def zbK(o:Ops)(v0:Bs)(v1:Int)(v2:List Bs):Option ((Int×List Bs)⊕(Bool⊕List Bs)):=
 bif decide (v1<(v0.length:Int))then((iter (fun x=>zcL o v0 x.1 x.2) (v1,v2)).bind fun v6=>(sub3 v0 v1 v6.1).bind fun v7=>(zcM o v7).bind fun v8=>(zcN o v0 v6 v8).bind fun v10=>match v10 with
 |.inl v11=>some (.inr (.inl v11))
 |.inr v12=>((sub3 v0 (w64 (v6.1+1)) (w64 ((w64 (v6.1+1))+v8.1))).bind fun v13=>(app v12 ([v13]:List Bs)).bind fun v14=>some (.inl (w64 ((w64 (v6.1+1))+v8.1),v14))))else some (.inr (.inr v2))
def zcT(o:Ops)(v0:Bs):Option ((List Bs)×Bool):=
 (iter (fun x=>zbK o v0 x.1 x.2) ((0:Int),([]:List Bs))).bind fun v15=>match v15 with
 |.inl v16=>(some (([]:List Bs),v16))
 |.inr v17=>(some (v17,true))
def zhH(o:Ops):PC:=⟨[hS],[(.sl .s),.b],fun x=>zcT o x,false⟩
theorem zoJ:PCok Tryz.prog tabs 12 (zhH o):=zrB (o:=o) (η:=[(200005,.loop [] ⟨[(4,(.own 0)),(6,hI)],[.osl .s 9]⟩ [0,5] [(some 2,⟨[(4,(.own 0)),(6,hI)],[.osl .s 9]⟩)]),
 (2000010,.join [] [0,6,7] [(some 1000000,⟨[(2,.nils),(3,hB)],[]⟩),(none,⟨[(4,(.own 0))],[.osl .s 9]⟩)]),
 (200003,.loop [] ⟨[(4,(.own 0)),(5,hI)],[.osl .s 9]⟩ [0] [(some 1000000,⟨[(2,.nils),(3,hB)],[]⟩),(some 0,⟨[(4,(.own 0))],[.osl .s 9]⟩)])]) (Γ:=⟨[(62,(zgW o))],[],false,[]⟩) (ctok ⟨znP,trivial⟩ trivial) Tryz.func12
def zaY(_o:Ops)(v0:UInt8):Option (Bool):=
 bif decide ((v0.toNat:Int)≥((97:UInt8).toNat:Int))then(bif decide ((v0.toNat:Int)≤((122:UInt8).toNat:Int))then(some true)else(bif decide ((v0.toNat:Int)≥((48:UInt8).toNat:Int))then(bif decide ((v0.toNat:Int)≤((57:UInt8).toNat:Int))then(some true)else(bif((v0.toNat:Int)==((46:UInt8).toNat:Int))then(some true)else(bif((v0.toNat:Int)==((95:UInt8).toNat:Int))then(some true)else(some ((v0.toNat:Int)==((45:UInt8).toNat:Int))))))else(bif((v0.toNat:Int)==((46:UInt8).toNat:Int))then(some true)else(bif((v0.toNat:Int)==((95:UInt8).toNat:Int))then(some true)else(some ((v0.toNat:Int)==((45:UInt8).toNat:Int)))))))else(bif decide ((v0.toNat:Int)≥((48:UInt8).toNat:Int))then(bif decide ((v0.toNat:Int)≤((57:UInt8).toNat:Int))then(some true)else(bif((v0.toNat:Int)==((46:UInt8).toNat:Int))then(some true)else(bif((v0.toNat:Int)==((95:UInt8).toNat:Int))then(some true)else(some ((v0.toNat:Int)==((45:UInt8).toNat:Int))))))else(bif((v0.toNat:Int)==((46:UInt8).toNat:Int))then(some true)else(bif((v0.toNat:Int)==((95:UInt8).toNat:Int))then(some true)else(some ((v0.toNat:Int)==((45:UInt8).toNat:Int))))))
def zdK(o:Ops):PC:=⟨[(.h (.i .u8))],[.b],fun x=>zaY o x,false⟩
theorem zgI:PCok Tryz.prog tabs 64 (zdK o):=zrB (o:=o) (η:=[]) (Γ:=⟨[],[],false,[]⟩) (ctok trivial trivial) Tryz.func64
def zeO(o:Ops)(v0:Bs)(v1:Int):Option (Int⊕(Bool⊕Unit)):=
 bif decide (v1<(v0.length:Int))then((idx v0 v1).bind fun v2=>(zaY o v2).bind fun v3=>bif(!v3)then some (.inr (.inl false))else some (.inl (w64 (v1+1))))else some (.inr (.inr ()))
def zbF(o:Ops)(v0:Bs):Option (Bool):=
 (iter (zeO o v0) (0:Int)).bind fun v4=>match v4 with
 |.inl v5=>(some v5)
 |.inr _v6=>(bif decide ((v0.length:Int)≥1)then(some (decide ((v0.length:Int)≤24)))else(some false))
def zeM(o:Ops):PC:=⟨[hS],[.b],fun x=>zbF o x,false⟩
theorem ziI:PCok Tryz.prog tabs 14 (zeM o):=zrB (o:=o) (η:=[(200002,.loop [] ⟨[(3,hI)],[]⟩ [0] [(some 1000000,⟨[(2,hB)],[]⟩),(some 0,⟨[],[]⟩)])]) (Γ:=⟨[(64,(zdK o))],[],false,[]⟩) (ctok ⟨zgI,trivial⟩ trivial) Tryz.func14
def zeN(_o:Ops)(v0:Bs)(v1:Int):Option (Int⊕(Bool⊕Unit)):=
 bif decide (v1<(v0.length:Int))then((idx v0 v1).bind fun v2=>bif decide ((v2.toNat:Int)<((33:UInt8).toNat:Int))then some (.inr (.inl false))else((idx v0 v1).bind fun v3=>bif decide ((v3.toNat:Int)>((126:UInt8).toNat:Int))then some (.inr (.inl false))else some (.inl (w64 (v1+1)))))else some (.inr (.inr ()))
def zdE(o:Ops)(v0:Bs):Option (Bool):=
 (iter (zeN o v0) (0:Int)).bind fun v4=>match v4 with
 |.inl v5=>(some v5)
 |.inr _v6=>(bif decide ((v0.length:Int)≥1)then(some (decide ((v0.length:Int)≤128)))else(some false))
def ziR(o:Ops):PC:=⟨[hS],[.b],fun x=>zdE o x,false⟩
theorem zqH:PCok Tryz.prog tabs 16 (ziR o):=zrB (o:=o) (η:=[(200002,.loop [] ⟨[(3,hI)],[]⟩ [0] [(some 1000000,⟨[(2,hB)],[]⟩),(some 0,⟨[],[]⟩)])]) (Γ:=⟨[],[],false,[]⟩) (ctok trivial trivial) Tryz.func16
def zdU(o:Ops)(v0:Bs)(v1:Int):Option (Int⊕(Bool⊕Unit)):=
 bif decide (v1<(v0.length:Int))then((idx v0 v1).bind fun v2=>(zaY o v2).bind fun v3=>bif(!v3)then((idx v0 v1).bind fun v4=>bif((v4.toNat:Int) != ((58:UInt8).toNat:Int))then some (.inr (.inl false))else some (.inl (w64 (v1+1))))else some (.inl (w64 (v1+1))))else some (.inr (.inr ()))
def zcV(o:Ops)(v0:Bs):Option (Bool):=
 (iter (zdU o v0) (0:Int)).bind fun v5=>match v5 with
 |.inl v6=>(some v6)
 |.inr _v7=>(bif decide ((v0.length:Int)≥1)then(some (decide ((v0.length:Int)≤32)))else(some false))
def zhX(o:Ops):PC:=⟨[hS],[.b],fun x=>zcV o x,false⟩
theorem zoL:PCok Tryz.prog tabs 18 (zhX o):=zrB (o:=o) (η:=[(200002,.loop [] ⟨[(3,hI)],[]⟩ [0] [(some 1000000,⟨[(2,hB)],[]⟩),(some 0,⟨[],[]⟩)])]) (Γ:=⟨[(64,(zdK o))],[],false,[]⟩) (ctok ⟨zgI,trivial⟩ trivial) Tryz.func18
def zbP(o:Ops)(v0:Bs):Option (Bool):=
 bif decide ((v0.length:Int)>2)then((subH v0 (2:Int)).bind fun v1=>bif(v1==([117,58]:Bs))then((subL v0 (2:Int)).bind fun v2=>(zbF o v2).bind fun v3=>some v3)else((subH v0 (2:Int)).bind fun v4=>bif(v4==([99,58]:Bs))then((subL v0 (2:Int)).bind fun v5=>(zbF o v5).bind fun v6=>some v6)else(some false)))else(some false)
def zfB(o:Ops):PC:=⟨[hS],[.b],fun x=>zbP o x,false⟩
theorem zlD:PCok Tryz.prog tabs 20 (zfB o):=zrB (o:=o) (η:=[]) (Γ:=⟨[(14,(zeM o))],[],false,[]⟩) (ctok ⟨ziI,trivial⟩ trivial) Tryz.func20
def zeJ(_o:Ops)(v0:List Bs)(v1:List Bs)(v2:Int):Option (Int⊕(Bool⊕Unit)):=
 bif decide (v2<(v0.length:Int))then((idx v0 v2).bind fun v3=>(idx v1 v2).bind fun v4=>bif(v3 != v4)then some (.inr (.inl false))else some (.inl (w64 (v2+1))))else some (.inr (.inr ()))
def zcZ(o:Ops)(v0:List Bs)(v1:List Bs):Option (Bool):=
 bif((v0.length:Int) != (v1.length:Int))then(some false)else((iter (zeJ o v0 v1) (0:Int)).bind fun v5=>match v5 with
 |.inl v6=>(some v6)
 |.inr _v7=>(some true))
def ziO(o:Ops):PC:=⟨[(.h (.sl .s)),(.h (.sl .s))],[.b],fun x=>zcZ o x.1 x.2,false⟩
theorem zqF:PCok Tryz.prog tabs 21 (ziO o):=zrB (o:=o) (η:=[(200004,.loop [] ⟨[(5,hI)],[]⟩ [0,1] [(some 1000000,⟨[(4,hB)],[]⟩),(some 0,⟨[],[]⟩)]),
 (4000006,.sch [(.pu,0,[]),(.pu,1,[]),(.pu,2,[]),(.pu,3,[]),(.pu,4,[]),(.pu,5,[]),(.pu,6,[]),(.pu,7,[]),(.pu,8,[])])]) (Γ:=⟨[],[],false,[]⟩) (ctok trivial trivial) Tryz.func21
def zeX(_o:Ops)(v1:Int)(v2:Bs):Option ((Int×Bs)⊕((Int×Bs))):=
 bif decide (v1>9)then((chk (decide ((0:Int)<10))).bind fun _=>(app ([i8 (w64 ((48:Int)+(Int.tmod v1 (10:Int))))]:Bs) v2).bind fun v3=>(chk (((10:Int) != 0))).bind fun _=>some (.inl (w64 (Int.tdiv v1 (10:Int)),v3)))else some (.inr (v1,v2))
def zdG(o:Ops)(v0:Int):Option Bs:=
 (iter (fun x=>zeX o x.1 x.2) (v0,([]:Bs))).bind fun v4=>(app ([i8 (w64 ((48:Int)+v4.1))]:Bs) v4.2).bind fun v5=>some v5
def zjV(o:Ops):PC:=⟨[hI],[.s],fun x=>zdG o x,false⟩
theorem zsU:PCok Tryz.prog tabs 70 (zjV o):=zrB (o:=o) (η:=[(200002,.loop [] ⟨[(0,hI),(3,hS)],[]⟩ [2] [(some 0,⟨[(0,hI),(3,hS)],[]⟩)])]) (Γ:=⟨[],[],false,[]⟩) (ctok trivial trivial) Tryz.func70
def zcW(o:Ops)(v0:List Bs)(v1:Int)(v2:Bs):Option ((Int×Bs)⊕Bs):=
 bif decide (v1<(v0.length:Int))then((idx v0 v1).bind fun v3=>(idx v0 v1).bind fun v4=>(zdG o (v3.length:Int)).bind fun v5=>(app v5 ([58]:Bs)).bind fun v6=>(app v6 v4).bind fun v7=>(app v2 v7).bind fun v8=>some (.inl (w64 (v1+1),v8)))else some (.inr v2)
def zdA(o:Ops)(v0:List Bs):Option Bs:=
 (iter (fun x=>zcW o v0 x.1 x.2) ((0:Int),([]:Bs))).bind fun v9=>some v9
def ziH(o:Ops):PC:=⟨[(.h (.sl .s))],[.s],fun x=>zdA o x,false⟩
theorem zpM:PCok Tryz.prog tabs 23 (ziH o):=zrB (o:=o) (η:=[(200003,.loop [] ⟨[(3,(.own 0)),(4,hI)],[.osl (.i .u8) 5]⟩ [0,2] [(some 0,⟨[(3,(.own 0))],[.osl (.i .u8) 5]⟩)]),
 (4000005,.sch [(.pu,0,[]),(.pu,1,[]),(.pu,2,[]),(.pu,3,[]),(.pu,4,[]),(.pu,5,[]),(.pu,8,[]),(.pu,9,[]),(.pu,10,[]),(.pu,11,[]),(.mn,6,[]),(.pu,7,[]),(.pu,12,[]),(.mn,13,[0]),(.mn,14,[])])]) (Γ:=⟨[(70,(zjV o))],[],false,[]⟩) (ctok ⟨zsU,trivial⟩ trivial) Tryz.func23
def zcG(o:Ops)(v0:Bs):Option (Bool):=
 (zaP o v0).bind fun v4=>(zbF o v0).bind fun v5=>bif(v4==v5)then((zbJ o v0).bind fun v6=>(zdE o v0).bind fun v7=>bif(v6==v7)then((zbU o v0).bind fun v8=>(zcV o v0).bind fun v9=>bif(v8==v9)then((zaV o v0).bind fun v10=>(zbP o v0).bind fun v11=>some (v10==v11))else some false)else some false)else some false
def zcK(o:Ops)(v0:Bs)(v1:List Bs):Option (Bool):=
 (zjD o v0).bind fun v2=>(zcT o v0).bind fun v3=>(zcG o v0).bind fun v12=>bif v12 then(bif(v2.2==v3.2)then((zcZ o v2.1 v3.1).bind fun v13=>bif v13 then((o.form v1).bind fun v14=>(zdA o v1).bind fun v15=>bif(v14==v15)then((some true).bind fun v16=>some v16)else(some false))else(some false))else(some false))else(some false)
def zkG(o:Ops):PC:=⟨[hS,(.h (.sl .s))],[.b],fun x=>zcK o x.1 x.2,false⟩
theorem zyC:PCok Tryz.prog tabs 3 (zkG o):=zrB (o:=o) (η:=[(2000004,.join [] [1,5,6,7,8] [(none,⟨[(9,hB)],[]⟩)])]) (Γ:=⟨[(11,(zsO o)),(12,(zhH o)),(13,(zbD o)),(14,(zeM o)),(15,(zfS o)),(16,(ziR o)),(17,(zlN o)),(18,(zhX o)),(19,(zeC o)),(20,(zfB o)),(21,(ziO o)),(22,(zvQ o)),(23,(ziH o)),(24,yiZ)],[],false,[]⟩) (ctok ⟨yaT,⟨zoJ,⟨zbH,⟨ziI,⟨zjB,⟨zqH,⟨zrF,⟨zoL,⟨zgA,⟨zlD,⟨zqF,⟨(zlH.form (G:=tabs)),⟨zpM,⟨ysX,trivial⟩⟩⟩⟩⟩⟩⟩⟩⟩⟩⟩⟩⟩⟩ trivial) Tryz.func3
end
section
variable {α β γ σ:Type}
def T(o:Option α)(P:α→Prop):Prop:=∃r,o=some r∧P r
theorem T.ok{a:α}{P:α→Prop}(h:P a):T (some a) P:=⟨a,rfl,h⟩
theorem T.bind{o:Option α}{f:α→Option β}{Q:α→Prop}{P:β→Prop}(h:T o Q)(g:∀a,Q a→T (f a) P):T (o.bind f) P:=by
 obtain⟨a,rfl,h⟩:=h
 exact g a h
theorem T.bif{c:Bool}{a b:Option α}{P:α→Prop}(h:c=true→T a P)(g:c=false→T b P):T (bif c then a else b) P:=by
 cases c
 ·exact g rfl
 ·exact h rfl
theorem T.dif{p:Prop}[Decidable p]{a b:Option α}{P:α→Prop}(h:p→T a P)(g:¬p→T b P):T (bif decide p then a else b) P:=
 T.bif (fun e=>h (of_decide_eq_true e)) fun e=>g (of_decide_eq_false e)
theorem T.mono{o:Option α}{P Q:α→Prop}(h:T o P)(g:∀a,P a→Q a):T o Q:=by
 obtain⟨a,h1,h2⟩:=h
 exact⟨a,h1,g a h2⟩
theorem T.get{o:Option Bool}{P:Bool→Prop}(h:T o P):o=some (o.getD false):=by
 obtain⟨a,rfl,_⟩:=h
 rfl
theorem T.at{o:Option α}{P:α→Prop}{a:α}(h:T o P)(e:o=some a):P a:=by
 obtain⟨b,e2,h2⟩:=h
 rw[e]at e2
 cases e2
 exact h2
theorem T.idx{l:List α}{i:Int}{P:α→Prop}(h0:0≤i)(h:i<(l.length:Int))(g:∀(k:Nat) (hk:k<l.length),i=(k:Int)→P l[k]):T (idx l i) P:=by
 obtain⟨k,rfl⟩:∃k:Nat,i=k:=⟨i.toNat,by omega⟩
 exact⟨_,ztN rfl (by omega),g k (by omega) rfl⟩
theorem T.ix{l:List α}{i:Int}(h0:0≤i)(h:i<(l.length:Int)):T (Go.Proofs.YtopanhneegpgcaaGreatDoor.idx l i) fun _=>True:=T.idx h0 h fun _ _ _=>trivial
theorem T.iter{body:σ→Option (σ⊕β)}(I:σ→Prop)(m:σ→Nat)(G:β→Prop)(hr:∀s,I s→T (body s) fun r=>match r with
  |.inl s'=>I s'∧m s'<m s
  |.inr b=>G b) {s:σ} (hs:I s) (hm:m s<1099511627776):T (iter body s) G:=
 yfZ I m G (fun s hs=>by
  obtain⟨r,h1,h2⟩:=hr s hs
  cases r with
  |inl s'=>exact .inl ⟨s',h1,h2⟩
  |inr b=>exact .inr ⟨b,h1,h2⟩) FU s hs (by unfold FU;exact hm)
theorem zwX{a b:List α}(h:a.length+b.length≤68719476736):app a b=some (a++b):=by
 unfold app
 rw[zgB (by unfold LIM;omega)]
theorem T.app{a b:List α}{P:List α→Prop}(h:a.length+b.length≤68719476736)(g:P (a++b)):T (app a b) P:=⟨_,zwX h,g⟩
theorem T.places{body:Int→Option (Int⊕β)}(n:Nat)(hn:n<1099511627776)(G:β→Prop)(hr:∀k:Nat,k≤n→T (body (k:Int)) fun r=>match r with
  |.inl s'=>s'=((k+1:Nat):Int)∧k<n
  |.inr b=>G b):T (Go.Proofs.YtopanhneegpgcaaGreatDoor.iter body 0) G:=by
 refine T.iter (fun i=>0≤i∧i≤(n:Int)) (fun i=>(n-i).toNat) G (fun i hi=>?_) ⟨by omega,by omega⟩ (by omega)
 obtain⟨k,rfl⟩:∃k:Nat,i=k:=⟨i.toNat,by omega⟩
 refine(hr k (by omega)).mono fun r h=>?_
 cases r with
 |inl s=>obtain⟨rfl,h⟩:=h;exact⟨⟨by omega,by omega⟩,by omega⟩
 |inr b=>exact h
end
theorem xaD(s:ByteArray)(pos:Nat):1≤(Utf8.decode s pos).2:=by
 unfold Utf8.decode
 simp only[]
 repeat' split
 all_goals simp
theorem xcL{l:Bs}{p:Nat}(h:p<l.length):p<nxP l p:=by
 unfold nxP dec
 rw[zgB h]
 have:=xaD ⟨l.toArray⟩ p
 omega
theorem xeD(s cs:Bs)(h:s.length≤1048576)(h2:cs.length<4294967281)(h3:cs.all (fun b=>decide (b.toNat<128))=true):T (zaH.trim s cs) fun _=>True:=by
 refine⟨Lib.trimS s cs,?_,trivial⟩
 show zxK s cs=_
 unfold zxK
 rw[decide_eq_true (show s.length≤9223372036854775807 by omega),decide_eq_true h2,h3]
 rfl
theorem of_t(v:Bs)(n:Int)(cs:Bs)(hn:n≤1048576)(h2:cs.length<4294967281)(h3:cs.all (fun b=>decide (b.toNat<128))=true):T (zgE zaH v n cs) fun _=>True:=by
 unfold zgE
 refine T.bif (fun _=>T.dif (fun h=>?_) fun _=>T.ok trivial) fun _=>T.ok trivial
 exact(xeD v cs (by omega) h2 h3).bind fun _ _=>T.ok trivial
theorem yyH(s:Bs):T (zbU zaH s) fun _=>True:=by
 unfold zbU
 exact(of_t s _ _ (by decide) (by decide) (by decide)).bind fun _ _=>T.ok trivial
theorem ypM(s:Bs):T (zaP zaH s) fun _=>True:=by
 unfold zaP
 exact(of_t s _ _ (by decide) (by decide) (by decide)).bind fun _ _=>T.ok trivial
theorem yvU{α:Type}{s:List α}{n:Int}(h0:0≤n)(h:n≤(s.length:Int)):T (subH s n) fun _=>True:=by
 obtain⟨k,rfl⟩:∃k:Nat,n=k:=⟨n.toNat,by omega⟩
 unfold subH
 rw[decide_eq_true (show(0:Int)≤(k:Int) by omega),decide_eq_true h]
 exact⟨_,rfl,trivial⟩
theorem yvX{α:Type}{s:List α}{n:Int}(h0:0≤n)(h:n≤(s.length:Int)):T (subL s n) fun _=>True:=by
 obtain⟨k,rfl⟩:∃k:Nat,n=k:=⟨n.toNat,by omega⟩
 unfold subL
 rw[decide_eq_true (show(0:Int)≤(k:Int) by omega),decide_eq_true h]
 exact⟨_,rfl,trivial⟩
theorem xeS(s:Bs):T (zaV zaH s) fun _=>True:=by
 unfold zaV
 refine T.dif (fun h=>(yvU (by omega) (by omega)).bind fun _ _=>T.bif (fun _=>(yvX (by omega) (by omega)).bind fun _ _=>(ypM _).bind fun _ _=>T.ok trivial) fun _=>(yvU (by omega) (by omega)).bind fun _ _=>T.bif (fun _=>(yvX (by omega) (by omega)).bind fun _ _=>(ypM _).bind fun _ _=>T.ok trivial) fun _=>T.ok trivial) fun _=>T.ok trivial
theorem xbV(s:Bs):T (zbJ zaH s) fun _=>True:=by
 unfold zbJ
 refine T.bif (fun _=>T.dif (fun h=>?_) fun _=>T.ok trivial) fun _=>T.ok trivial
 refine T.bind (Q:=fun _=>True) ?_ fun _ _=>T.ok trivial
 unfold zbQ zdY zdX
 refine T.bind (Q:=fun _=>True) (T.bind (Q:=fun _=>True) (T.bind (Q:=fun _=>True) (T.iter (fun x=>x.1=s∧0≤x.2) (fun x=>s.length-x.2.toNat) (fun _=>True) (fun x hx=>?_) ⟨rfl,Int.le_refl _⟩ (by simp;omega)) fun r _=>?_) fun _ _=>T.ok trivial) fun _ _=>T.ok trivial
 ·obtain⟨v,i⟩:=x
  obtain⟨rfl,h0⟩:=hx
  unfold zdH
  simp only at h0 ⊢
  refine T.dif (fun h2=>?_) fun _=>T.ok trivial
  refine T.bind (Q:=fun _=>True) ?_ fun _ _=>T.bif (fun _=>T.ok trivial) fun _=>T.ok ⟨⟨rfl,by simp⟩,?_⟩
  ·unfold zfD
   exact T.dif (fun _=>T.ok trivial) fun _=>T.ok trivial
  ·have:=xcL h2
   simp only[Int.toNat_natCast]
   omega
 ·cases r<;>exact T.ok trivial
abbrev L8:Type:=Bs
def scB(s:L8):Bool:=(zbU zaH s).getD false
def nmB(s:L8):Bool:=(zaP zaH s).getD false
def prB(s:L8):Bool:=(zaV zaH s).getD false
def txB(s:L8):Bool:=(zbJ zaH s).getD false
theorem xcX(s:L8):zbU zaH s=some (scB s):=(yyH s).get
theorem yzG(s:L8):zaP zaH s=some (nmB s):=(ypM s).get
theorem xbG(s:L8):zaV zaH s=some (prB s):=(xeS s).get
theorem xcB(s:L8):zbJ zaH s=some (txB s):=(xbV s).get
theorem ydA{k:Nat}(h:k<1099511627776):w64 ((k:Int)+1)=((k+1:Nat):Int):=by rw[zxA (by omega) (by omega)];omega
theorem ynV(u:Nat)(hu:u<1000000000000000):zeF zaH (Lib.decDigits u)=some (.inr ()):=by
 have hl:=zsW 15 u (by decide) hu
 have ht:zaH.trim (Lib.decDigits u) tenL=some []:=yrI u hu
 unfold zeF
 by_cases h0:u=0
 ·subst h0
  rw[show Lib.decDigits 0=[48] by rw[zjC];rfl]at ht ⊢
  rw[show zaH.trim ([48]:Bs) ([48,49,50,51,52,53,54,55,56,57]:Bs)=some []from ht]
  rfl
 ·obtain⟨b,l,h1,h2⟩:=ymT u h0
  rw[h1]at hl ht ⊢
  rw[show((b::l:Bs)==[])=false from rfl]
  simp only[cond_false]
  rw[zhK (by simp only[List.length_cons]at hl ⊢;omega),show idx (b::l) 0=some b from rfl,zaA]
  have:((b.toNat:Int)==((48:UInt8).toNat:Int))=false:=beq_eq_false_iff_ne.2 fun e=>h2 (UInt8.toNat_inj.1 (by exact_mod_cast e))
  rw[this]
  simp only[cond_false]
  rw[show zaH.trim (b::l) ([48,49,50,51,52,53,54,55,56,57]:Bs)=some []from ht,zaA]
  rfl
theorem yqC(u:Nat)(hu:u<1000000000000000):zbZ zaH (Lib.decDigits u)=some ((u:Int),true):=by
 unfold zbZ
 rw[ynV u hu,zaA]
 simp only[]
 rw[show zaH.atoi (Lib.decDigits u)=some ((u:Int),false)from ymR u hu,zaA]
 rfl
theorem zqY:∀(a b:List Bs),zdZ (a++b)=zdZ a++zdZ b
 |[],_=>rfl
 |t::a,b=>by
  show Lib.decDigits t.length++58::(t++zdZ (a++b))=(Lib.decDigits t.length++58::(t++zdZ a))++zdZ b
  rw[zqY a b];simp
theorem yyU(ts:List Bs)(hl:(zdZ ts).length<4294967281)(hn:ts.length<1099511627776):zfG ts=some (zdZ ts):=by
 have key:∀(k:Nat),(zdZ (ts.take k)).length≤(zdZ ts).length:=fun k=>by
  have:=zqY (ts.take k) (ts.drop k)
  rw[List.take_append_drop]at this
  rw[this,List.length_append];omega
 have h:iter (zeG ts) ((((0:Nat):Int)),zdZ (ts.take 0))=some (zdZ ts):=by
  refine ydZ (fun k=>((k:Int),zdZ (ts.take k))) ts.length hn (zdZ ts) (fun k hk=>?_) ?_
  ·have ht:ts.take (k+1)=ts.take k++[ts[k]]:=by rw[List.take_succ_eq_append_getElem hk]
   have e:zdZ (ts.take (k+1))=zdZ (ts.take k)++(Lib.decDigits ts[k].length++58::ts[k]):=by
    rw[ht,zqY];simp[zdZ]
   have h1:=key (k+1)
   rw[e]at h1
   simp only[List.length_append,List.length_cons]at h1
   unfold zeG
   simp only[]
   rw[zgB (by omega),ztN rfl hk,zaA,ynQ _ (by omega),zaA,Am.zwX (by simp only[List.length_cons,List.length_nil];omega),zaA,Am.zwX (by simp only[List.length_append,List.length_cons,List.length_nil];omega),zaA]
   unfold zdD
   rw[show zfW (zdZ (ts.take k))=some _ from rfl,zaA,Am.zwX (by simp only[List.length_append,List.length_cons,List.length_nil];omega),zaA,zaA,zxA (by omega) (by omega),e]
   simp
  ·unfold zeG
   simp only[]
   rw[zhK (by omega),List.take_length]
 unfold zfG
 have h:iter (zeG ts) ((0:Int),([]:Bs))=some (zdZ ts):=h
 rw[h,zaA,zaA,yrR (decide_eq_true (by omega)),zaA]
def numR(s:L8):Int×Bool:=bif numB s then((vaF s:Int),true)else(0,false)
theorem xbL{s:L8}(h:s.length≤1048576):zaH.trim s tenL=some (Lib.trimS s tenL):=by
 show zxK s tenL=_
 unfold zxK
 rw[decide_eq_true (show s.length≤9223372036854775807 by omega),decide_eq_true (show tenL.length<4294967281 by decide),show tenL.all (fun b=>decide (b.toNat<128))=true by decide]
 rfl
theorem is48(b:UInt8):((b.toNat:Int)==((48:UInt8).toNat:Int))=(b==48):=by
 have:=zoN (fun b=>((b.toNat:Int)==((48:UInt8).toNat:Int))==(b==48)) (by kernel_rfl) b
 simpa using this
theorem ynI{b:UInt8}{l:L8}(hl:¬((b::l).length:Int)>15)(h48:(b==48)=false):numB (b::l)=(b::l).all digB:=by
 unfold numB
 rw[decide_eq_true (show(b::l).length≤15 by omega)]
 have h1:((b::l).head? != some 48)=true:=by simpa using h48
 rw[h1]
 rfl
theorem ybV(s:L8)(h:s.length≤1048576):zbZ zaH s=some (numR s):=by
 cases hb:numB s with
 |true=>
  have hd:=yhU hb
  unfold numR
  rw[hb]
  have:=yqC (vaF s) hd.2
  rw[hd.1]at this
  exact this
 |false=>
  have hj:zeF zaH s=some (.inl (0,false)):=by
   unfold zeF
   cases s with
   |nil=>rfl
   |cons b l=>
    rw[show((b::l:L8)==[])=false from rfl]
    simp only[cond_false]
    by_cases hl:((b::l).length:Int)>15
    ·rw[zgB hl]
    ·rw[zhK hl,show idx (b::l) 0=some b from rfl,zaA,is48]
     cases h48:b==48 with
     |true=>
      simp only[cond_true]
      cases hz:(b::l) != ([48]:L8) with
      |true=>rfl
      |false=>
       have e:b::l=[48]:=by simpa using hz
       rw[e]at hb;exact absurd hb (by decide)
     |false=>
      simp only[cond_false]
      rw[ynI hl h48]at hb
      rw[show zaH.trim (b::l) ([48,49,50,51,52,53,54,55,56,57]:L8)=some (Lib.trimS (b::l) tenL)from xbL h,zaA,ytC,hb]
      rfl
  unfold zbZ numR
  rw[hj,hb]
  rfl
theorem xcY{b:UInt8}(h:48≤b.toNat∧b.toNat≤57):(i8 ((b.toNat:Int)-((48:UInt8).toNat:Int))).toNat=b.toNat-48:=by
 have:=zoN (fun b=>!digB b||((i8 ((b.toNat:Int)-((48:UInt8).toNat:Int))).toNat==b.toNat-48)) (by kernel_rfl) b
 rw[ydQ.2 h]at this
 simpa using this
theorem dg_j(b:UInt8){α:Type}(x y:Option α):(bif decide ((b.toNat:Int)<((48:UInt8).toNat:Int))then x else(bif decide ((b.toNat:Int)>((57:UInt8).toNat:Int))then x else y))=bif digB b then y else x:=by
 have e1:((48:UInt8).toNat:Int)=48:=rfl
 have e2:((57:UInt8).toNat:Int)=57:=rfl
 rw[e1,e2]
 unfold digB
 by_cases h1:(b.toNat:Int)<48
 ·rw[zgB h1,decide_eq_false (show ¬48≤b.toNat by omega)];rfl
 ·rw[zhK h1,decide_eq_true (show 48≤b.toNat by omega)]
  by_cases h2:(b.toNat:Int)>57
  ·rw[zgB h2,decide_eq_false (show ¬b.toNat≤57 by omega)];rfl
  ·rw[zhK h2,decide_eq_true (show b.toNat≤57 by omega)];rfl
theorem ydT{α:Type}{l:List α}{p:α→Bool}{k:Nat}(hk:k<l.length):(l.take (k+1)).all p=((l.take k).all p&&p l[k]):=by
 rw[List.take_succ_eq_append_getElem hk,List.all_append,List.all_cons,List.all_nil,Bool.and_true]
theorem yrG{α:Type}{l:List α}{p:α→Bool}{k:Nat}(hk:k<l.length)(h:p l[k]=false):l.all p=false:=by
 cases ha:l.all p with
 |false=>rfl
 |true=>rw[List.all_eq_true.1 ha _ (List.getElem_mem hk)]at h;cases h
theorem ysV{s:L8}{k:Nat}(hk:k<s.length):vaF (s.take (k+1))=10*vaF (s.take k)+(s[k].toNat-48):=by
 rw[List.take_succ_eq_append_getElem hk,yjO]
theorem xcC{s:L8}{R:Type}{body:Int×Int→Option ((Int×Int)⊕(R⊕Int))}{bad:R}(hs:s.length≤15)
  (hb:∀(n:Nat) (k:Nat) (hk:k<s.length),n<1000000000000000→body ((n:Int),(k:Int))=some (bif digB s[k]then .inl (((10*n+(s[k].toNat-48):Nat):Int),((k+1:Nat):Int))else .inr (.inl bad)))
  (he:∀n:Int,body (n,(s.length:Int))=some (.inr (.inr n))):iter body ((0:Int),(0:Int))=some (bif s.all digB then .inr (vaF s:Int)else .inl bad):=by
 have hT:T (iter body ((0:Int),(0:Int))) fun r=>r=(bif s.all digB then .inr (vaF s:Int)else .inl bad):=by
  refine T.iter (fun x=>0≤x.2∧x.2≤(s.length:Int)∧(s.take x.2.toNat).all digB=true∧x.1=(vaF (s.take x.2.toNat):Int)) (fun x=>s.length-x.2.toNat) _ (fun x hx=>?_) ⟨Int.le_refl _,by simp,rfl,rfl⟩ (by simp;omega)
  obtain⟨n,i⟩:=x
  obtain⟨h1,h2,h3,h4⟩:=hx
  simp only at h1 h2 h3 h4
  obtain⟨k,rfl⟩:∃k:Nat,i=k:=⟨i.toNat,by omega⟩
  rw[Int.toNat_natCast]at h3 h4
  subst h4
  by_cases hk:k<s.length
  ·have hv:vaF (s.take k)<1000000000000000:=yxD (yqW h3) (by rw[List.length_take];omega)
   rw[hb _ k hk hv]
   cases hd:digB s[k] with
   |true=>
    refine T.ok ⟨⟨by simp only[];omega,by simp only[];omega,?_,?_⟩,by simp only[];omega⟩
    ·simp only[Int.toNat_natCast];rw[ydT hk,h3,hd];rfl
    ·simp only[Int.toNat_natCast];rw[ysV hk]
   |false=>exact T.ok (by rw[yrG hk hd];rfl)
  ·obtain rfl:k=s.length:=by omega
   rw[he]
   rw[List.take_of_length_le (Nat.le_refl _)]at h3 ⊢
   exact T.ok (by rw[h3];rfl)
 obtain⟨r,h1,rfl⟩:=hT
 exact h1
theorem yuV{n:Nat}(h:n≤9223372036854775807):w64 (n:Int)=(n:Int):=zxA (by omega) (by omega)
theorem ylK(s:L8):zcM zaH s=some (numR s):=by
 have main:s.length≤15→(Option.bind (iter (fun x=>zcC zaH s x.1 x.2) ((0:Int),(0:Int))) fun v14=>match v14 with
   |.inl v15=>(some v15)
   |.inr v16=>(some (v16,true)))=some (bif s.all digB then((vaF s:Int),true)else(0,false)):=fun hs=>by
  rw[xcC (bad:=((0:Int),false)) hs (fun n k hk hn=>?_) (fun n=>?_),zaA]
  ·cases s.all digB<;>rfl
  ·unfold zcC zgT
   simp only[]
   rw[zgB (show(k:Int)<(s.length:Int) by omega),ztN rfl hk,zaA,zaA,dg_j]
   cases hd:digB s[k] with
   |false=>rfl
   |true=>
    have h1:=ydQ.1 hd
    simp only[cond_true,zaA]
    rw[xcY h1,yuV (show s[k].toNat-48≤9223372036854775807 by omega),show(10:Int)*(n:Int)=((10*n:Nat):Int) by omega,yuV (show 10*n≤9223372036854775807 by omega),show((10*n:Nat):Int)+((s[k].toNat-48:Nat):Int)=((10*n+(s[k].toNat-48):Nat):Int) by omega,yuV (show 10*n+(s[k].toNat-48)≤9223372036854775807 by omega),ydA (by omega)]
  ·unfold zcC
   simp only[]
   rw[zhK (by omega)]
 unfold zcM
 cases s with
 |nil=>rfl
 |cons b l=>
  have hj:zdL zaH (b::l)=some (bif decide (((b::l).length:Int)>15)then .inl (0,false)else(bif b==48 then(bif(b::l) != ([48]:L8)then .inl (0,false)else .inr ())else .inr ())):=by
   unfold zdL
   rw[show((b::l:L8)==[])=false from rfl]
   simp only[cond_false]
   by_cases hl:((b::l).length:Int)>15
   ·rw[zgB hl,zgB hl]
   ·rw[zhK hl,zhK hl,show idx (b::l) 0=some b from rfl,zaA,is48]
    cases b==48 with
    |false=>rfl
    |true=>cases (b::l) != ([48]:L8)<;>rfl
  rw[hj,zaA]
  by_cases hl:((b::l).length:Int)>15
  ·rw[zgB hl]
   have e:numB (b::l)=false:=by
    unfold numB
    rw[decide_eq_false (show ¬(b::l).length≤15 by omega)]
    rfl
   unfold numR
   rw[e]
   rfl
  ·rw[zhK hl]
   cases h48:b==48 with
   |false=>
    unfold numR
    rw[ynI hl h48]
    exact main (by omega)
   |true=>
    simp only[cond_true]
    cases hz:(b::l) != ([48]:L8) with
    |true=>
     have e:numB (b::l)=false:=by
      have h1:b=48:=by simpa using h48
      subst h1
      have h2:((48::l:L8)==[48])=false:=by simpa using hz
      unfold numB
      rw[h2]
      simp
     unfold numR
     rw[e]
     rfl
    |false=>
     have e:b::l=[48]:=by simpa using hz
     have:=main (by omega)
     simp only[cond_false]
     refine this.trans ?_
     rw[e]
     rfl
theorem ymW(f:Nat):txtF f []=some []:=by cases f<;>rfl
def txtR(acc:List L8)(o:Option (List L8)):Bool⊕List L8:=match o with
 |some l=>.inr (acc++l)
 |none=>.inl false
theorem ygQ(acc:List L8)(t:L8)(o:Option (List L8)):txtR acc (o.map (t :: ·))=txtR (acc++[t]) o:=by
 cases o with
 |none=>rfl
 |some l=>show Sum.inr (acc++t::l)=Sum.inr ((acc++[t])++l);simp
theorem xcE(f:Nat)(b:UInt8)(s:L8):txtF (f+1) (b::s)=match colF (b::s) with
  |none=>none
  |some (h,r)=>bif numB h&&decide (vaF h≤r.length)then(txtF f (r.drop (vaF h))).map (r.take (vaF h) :: ·)else none:=rfl
theorem xfJ{s:L8}(h:s.length≤1048576):zaH.cut s ([58]:L8)=some (Lib.cut s [58]):=by
 show cutP s [58]=_
 unfold cutP
 rw[decide_eq_true (show s.length<4294967281 by omega)]
 rfl
theorem ywQ:∀(f:Nat) (s:L8) (acc:List L8) (k:Nat),s.length≤f→f<k→acc.length+f≤1048577→s.length≤1048576→zuL (fun x:L8×List L8=>zhR zaH x.1 x.2) k (s,acc)=some (txtR acc (txtF f s))
 |f,[],acc,k+1,_,_,_,_=>by
  rw[ymW]
  refine zjT ?_
  show some (Sum.inr (Sum.inr acc))=some (Sum.inr (Sum.inr (acc++[])))
  rw[List.append_nil]
 |0,b::s,_,_,h,_,_,_=>by simp at h
 |f+1,b::s,acc,k+1,hl,hk,ha,hs=>by
  have hbody:zhR zaH (b::s) acc=match colF (b::s) with
    |none=>some (.inr (.inl false))
    |some (h,r)=>bif numB h&&decide (vaF h≤r.length)then some (.inl (r.drop (vaF h),acc++[r.take (vaF h)]))else some (.inr (.inl false)):=by
   unfold zhR
   rw[show((b::s:L8) != [])=true from rfl]
   simp only[cond_true]
   rw[xfJ hs,zaA,xaK]
   cases hc:colF (b::s) with
   |none=>
    simp only[]
    rw[ybV _ hs,zaA]
    rfl
   |some p=>
    obtain⟨h,r⟩:=p
    have he:=(zoD hc).1
    have hlen:h.length+r.length+1=(b::s).length:=by rw[he];simp;omega
    simp only[]
    rw[ybV h (by omega),zaA]
    unfold zoY numR
    cases hn:numB h with
    |false=>rfl
    |true=>
     simp only[cond_true,Bool.not_true,cond_false,Bool.true_and]
     by_cases hv:vaF h≤r.length
     ·rw[zhK (show ¬((vaF h:Nat):Int)>(r.length:Int) by omega),zaA,decide_eq_true hv]
      simp only[cond_true]
      rw[ypA hv,zaA,zwX (by simp;omega),zaA,ysI hv,zaA]
     ·rw[zgB (show((vaF h:Nat):Int)>(r.length:Int) by omega),zaA,decide_eq_false hv]
      rfl
  rw[xcE]
  cases hc:colF (b::s) with
  |none=>
   rw[hc]at hbody
   exact zjT hbody
  |some p=>
   obtain⟨h,r⟩:=p
   have he:=(zoD hc).1
   have hlen:h.length+r.length+1=(b::s).length:=by rw[he];simp;omega
   rw[hc]at hbody
   simp only[]at hbody ⊢
   cases hb:numB h&&decide (vaF h≤r.length) with
   |false=>
    rw[hb]at hbody
    exact zjT hbody
   |true=>
    rw[hb]at hbody
    simp only[cond_true]at hbody ⊢
    rw[zsZ hbody,ygQ]
    exact ywQ f (r.drop (vaF h)) (acc++[r.take (vaF h)]) k (by rw[List.length_drop];omega) (by omega) (by simp;omega) (by rw[List.length_drop];omega)
def txtP(s:L8):List L8×Bool:=((txtF s.length s).getD [],(txtF s.length s).isSome)
theorem ynS{s:L8}(h:s.length≤1048576):zjD zaH s=some (txtP s):=by
 unfold zjD
 rw[show iter _ (s,([]:List L8))=_ from ywQ s.length s [] FU (Nat.le_refl _) (by unfold FU;omega) (by simp;omega) h,zaA]
 unfold txtP
 cases txtF s.length s<;>rfl
def colN(l:L8):Nat:=match colF l with
 |some p=>p.1.length
 |none=>l.length
theorem yaY(b:UInt8)(l:L8):colN (b::l)=if b=58 then 0 else colN l+1:=by
 unfold colN
 rw[colF]
 by_cases h:b=58
 ·rw[if_pos h,if_pos h];rfl
 ·rw[if_neg h,if_neg h]
  cases colF l<;>rfl
theorem ygV:∀l:L8,colN l≤l.length
 |[]=>Nat.le_refl _
 |b::l=>by
  rw[yaY]
  split
  ·exact Nat.zero_le _
  ·have:=ygV l;simp only[List.length_cons];omega
theorem ypW:∀(l:L8) (k:Nat),k<colN l→∃c,l[k]? = some c∧c≠58
 |[],k,h=>by simp[colN,colF]at h
 |b::l,k,h=>by
  rw[yaY]at h
  split at h
  ·omega
  ·rename_i hb
   cases k with
   |zero=>exact⟨b,rfl,hb⟩
   |succ k=>
    obtain⟨c,h1,h2⟩:=ypW l k (by omega)
    exact⟨c,by simpa using h1,h2⟩
theorem yoP:∀(l:L8),colN l<l.length→l[colN l]? = some 58
 |[],h=>by simp at h
 |b::l,h=>by
  rw[yaY]at h ⊢
  split
  ·rename_i hb;rw[hb];rfl
  ·rename_i hb
   rw[if_neg hb]at h
   simp only[List.length_cons]at h
   have:=yoP l (by omega)
   simpa using this
theorem is58(b:UInt8):((b.toNat:Int) != ((58:UInt8).toNat:Int))=(b != 58):=by
 have:=zoN (fun b=>((b.toNat:Int) != ((58:UInt8).toNat:Int))==(b != 58)) (by kernel_rfl) b
 simpa using this
theorem yzV{s:L8}{a:Nat}(acc:List L8)(ha:a≤s.length)(hs:s.length≤1048576):iter (fun x:Int×List L8=>zcL zaH s x.1 x.2) ((a:Int),acc)=some (((a+colN (s.drop a):Nat):Int),acc):=by
 have hle:=ygV (s.drop a)
 rw[List.length_drop]at hle
 refine ydZ (fun k=>(((a+k:Nat):Int),acc)) (colN (s.drop a)) (by omega) _ (fun k hk=>?_) ?_
 ·obtain⟨c,h1,h2⟩:=ypW _ _ hk
  rw[List.getElem?_drop]at h1
  have hlt:=(List.getElem?_eq_some_iff.1 h1).1
  have he:=(List.getElem?_eq_some_iff.1 h1).2
  unfold zcL
  simp only[]
  rw[zgB (by omega),ztN rfl hlt,zaA,he,is58,show(c != 58)=true by simpa using h2]
  simp only[cond_true]
  rw[ydA (by omega)]
  rfl
 ·unfold zcL
  simp only[]
  by_cases hlt:a+colN (s.drop a)<s.length
  ·have h1:=yoP (s.drop a) (by rw[List.length_drop];omega)
   rw[List.getElem?_drop]at h1
   have he:=(List.getElem?_eq_some_iff.1 h1).2
   rw[zgB (by omega),ztN rfl hlt,zaA,he]
   rfl
  ·rw[zhK (by omega)]
theorem ywL{s:L8}(hs:s.length≤1048576):∀(f a:Nat) (acc:List L8) (k:Nat),a≤s.length→s.length-a≤f→f<k→acc.length+f≤1048577→zuL (fun x:Int×List L8=>zbK zaH s x.1 x.2) k ((a:Int),acc)=some (txtR acc (txtF f (s.drop a)))
 |f,a,acc,k+1,ha,hf,hk,hc=>by
  by_cases he:a=s.length
  ·subst he
   rw[List.drop_length,ymW]
   refine zjT ?_
   unfold zbK
   simp only[]
   rw[zhK (by omega)]
   show some (Sum.inr (Sum.inr acc))=some (Sum.inr (Sum.inr (acc++[])))
   rw[List.append_nil]
  ·have halt:a<s.length:=by omega
   have hd:=List.drop_eq_getElem_cons halt
   obtain⟨f,rfl⟩:∃g,f=g+1:=⟨f-1,by omega⟩
   have hle:=ygV (s.drop a)
   have hdl:(s.drop a).length=s.length-a:=List.length_drop ..
   have hsub:sub3 s (a:Int) ((a+colN (s.drop a):Nat):Int)=some ((s.drop a).take (colN (s.drop a))):=by
    have:=yqI (l:=s) (n:=a) (m:=a+colN (s.drop a)) (by omega) (by omega)
    rw[this,List.drop_take]
    congr 2
    omega
   have hbody:zbK zaH s (a:Int) acc=match colF (s.drop a) with
     |none=>some (.inr (.inl false))
     |some (h,r)=>bif numB h&&decide (vaF h≤r.length)then some (.inl (((a+h.length+1+vaF h:Nat):Int),acc++[r.take (vaF h)]))else some (.inr (.inl false)):=by
    unfold zbK
    rw[zgB (show(a:Int)<(s.length:Int) by omega),yzV acc ha hs,zaA]
    simp only[]
    rw[hsub,zaA,ylK,zaA]
    cases hcl:colF (s.drop a) with
    |none=>
     have hn:colN (s.drop a)=s.length-a:=by unfold colN;rw[hcl];exact hdl
     have hj:∀v,zcN zaH s (((a+colN (s.drop a):Nat):Int),acc) v=some (.inl false):=fun v=>by
      unfold zcN
      cases v.2 with
      |false=>rfl
      |true=>
       simp only[Bool.not_true,cond_false]
       rw[show(((a+colN (s.drop a):Nat):Int)==(s.length:Int))=true from beq_iff_eq.2 (by omega)]
       rfl
     rw[hj,zaA]
    |some p=>
     obtain⟨h,r⟩:=p
     have hcs:=(zoD hcl).1
     have hn:colN (s.drop a)=h.length:=by unfold colN;rw[hcl]
     have ht:(s.drop a).take h.length=h:=by rw[hcs];simp
     have hlen:h.length+r.length+1=s.length-a:=by rw[←hdl,hcs];simp;omega
     have hr:s.drop (a+h.length+1)=r:=by
      rw[show a+h.length+1=a+(h.length+1) by omega,←List.drop_drop,hcs]
      simp[List.drop_append]
     rw[hn,ht]
     simp only[]
     unfold zcN numR
     cases hb:numB h with
     |false=>rfl
     |true=>
      simp only[cond_true,Bool.not_true,cond_false,Bool.true_and]
      rw[show(((a+h.length:Nat):Int)==(s.length:Int))=false from beq_eq_false_iff_ne.2 (by omega)]
      simp only[cond_false]
      rw[zxA (x:=(s.length:Int)-((a+h.length:Nat):Int)) (by omega) (by omega),zxA (x:=(s.length:Int)-((a+h.length:Nat):Int)-1) (by omega) (by omega)]
      have hvl:=(yhU hb).2
      by_cases hv:vaF h≤r.length
      ·rw[decide_eq_false (show ¬((vaF h:Nat):Int)>(s.length:Int)-((a+h.length:Nat):Int)-1 by omega),decide_eq_true hv]
       simp only[cond_false,cond_true,zaA]
       rw[ydA (show a+h.length<1099511627776 by omega),show(((a+h.length+1:Nat):Int)+((vaF h:Nat):Int))=((a+h.length+1+vaF h:Nat):Int) by omega,yuV (by omega),yqI (n:=a+h.length+1) (m:=a+h.length+1+vaF h) (by omega) (by omega),zaA,List.drop_take,hr,show a+h.length+1+vaF h-(a+h.length+1)=vaF h by omega,zwX (by simp;omega),zaA]
      ·rw[decide_eq_true (show((vaF h:Nat):Int)>(s.length:Int)-((a+h.length:Nat):Int)-1 by omega),decide_eq_false hv]
       rfl
   have htx:txtF (f+1) (s.drop a)=match colF (s.drop a) with
     |none=>none
     |some (h,r)=>bif numB h&&decide (vaF h≤r.length)then(txtF f (r.drop (vaF h))).map (r.take (vaF h) :: ·)else none:=by
    rw[hd,xcE]
   rw[htx]
   cases hcl:colF (s.drop a) with
   |none=>
    rw[hcl]at hbody
    exact zjT hbody
   |some p=>
    obtain⟨h,r⟩:=p
    have hcs:=(zoD hcl).1
    have hlen:h.length+r.length+1=s.length-a:=by rw[←hdl,hcs];simp;omega
    have hr:s.drop (a+h.length+1)=r:=by
     rw[show a+h.length+1=a+(h.length+1) by omega,←List.drop_drop,hcs]
     simp[List.drop_append]
    rw[hcl]at hbody
    simp only[]at hbody ⊢
    cases hb:numB h&&decide (vaF h≤r.length) with
    |false=>
     rw[hb]at hbody
     exact zjT hbody
    |true=>
     have hv:vaF h≤r.length:=by
      rw[Bool.and_eq_true,decide_eq_true_eq]at hb
      exact hb.2
     rw[hb]at hbody
     simp only[cond_true]at hbody ⊢
     rw[zsZ hbody,ygQ,show r.drop (vaF h)=s.drop (a+h.length+1+vaF h) by rw[←hr,List.drop_drop]]
     exact ywL hs f (a+h.length+1+vaF h) (acc++[r.take (vaF h)]) k (by omega) (by omega) (by omega) (by simp;omega)
theorem yqO{s:L8}(h:s.length≤1048576):zcT zaH s=some (txtP s):=by
 unfold zcT
 have:=ywL h s.length 0 [] FU (Nat.zero_le _) (by omega) (by unfold FU;omega) (by simp;omega)
 rw[List.drop_zero]at this
 rw[show iter _ ((0:Int),([]:List L8))=_ from this,zaA]
 unfold txtP
 cases txtF s.length s<;>rfl
theorem yjY{α R:Type}{l:List α}{p:α→Bool}{body:Int→Option (Int⊕R)}{bad good:R}(hl:l.length<1099511627776)
  (hb:∀(k:Nat) (hk:k<l.length),body (k:Int)=some (bif p l[k]then .inl ((k+1:Nat):Int)else .inr bad)) (he:body (l.length:Int)=some (.inr good)):iter body (0:Int)=some (bif l.all p then good else bad):=by
 have hT:T (iter body (0:Int)) fun r=>r=(bif l.all p then good else bad):=by
  refine T.iter (fun x=>0≤x∧x≤(l.length:Int)∧(l.take x.toNat).all p=true) (fun x=>l.length-x.toNat) _ (fun x hx=>?_) ⟨Int.le_refl _,by omega,rfl⟩ (by omega)
  obtain⟨h1,h2,h3⟩:=hx
  obtain⟨k,rfl⟩:∃k:Nat,x=k:=⟨x.toNat,by omega⟩
  rw[Int.toNat_natCast]at h3
  by_cases hk:k<l.length
  ·rw[hb k hk]
   cases hp:p l[k] with
   |true=>exact T.ok ⟨⟨by omega,by omega,by rw[Int.toNat_natCast,ydT hk,h3,hp];rfl⟩,by omega⟩
   |false=>exact T.ok (by rw[yrG hk hp];rfl)
  ·obtain rfl:k=l.length:=by omega
   rw[he]
   rw[List.take_of_length_le (Nat.le_refl _)]at h3
   exact T.ok (by rw[h3];rfl)
 obtain⟨r,h1,rfl⟩:=hT
 exact h1
theorem yeW{α:Type}{l:List α}{p q:α→Bool}(h:∀x∈l,p x=q x):l.all p=l.all q:=by
 induction l with
 |nil=>rfl
 |cons x l ih=>rw[List.all_cons,List.all_cons,h x List.mem_cons_self,ih fun y hy=>h y (List.mem_cons_of_mem _ hy)]
theorem xeA{s cs:L8}{n:Int}(hn:n≤1048576)(h2:cs.length<4294967281)(h3:cs.all (fun b=>decide (b.toNat<128))=true):zgE zaH s n cs=some (s != []&&decide ((s.length:Int)≤n)&&s.all (cs.contains ·)):=by
 unfold zgE
 cases h0:s != ([]:L8) with
 |false=>rfl
 |true=>
  simp only[cond_true,Bool.true_and]
  by_cases hl:(s.length:Int)≤n
  ·rw[zgB hl,decide_eq_true hl]
   have ht:zaH.trim s cs=some (Lib.trimS s cs):=by
    show zxK s cs=_
    unfold zxK
    rw[decide_eq_true (show s.length≤9223372036854775807 by omega),decide_eq_true h2,h3]
    rfl
   rw[ht,zaA,Bool.true_and]
   congr 1
   rw[Bool.eq_iff_iff,beq_iff_eq,zyX,List.all_eq_true]
  ·rw[zhK hl,decide_eq_false hl]
   rfl
abbrev yjB:L8:=[97,98,99,100,101,102,103,104,105,106,107,108,109,110,111,112,113,114,115,116,117,118,119,120,121,122,48,49,50,51,52,53,54,55,56,57,46,95,45]
def letB(b:UInt8):Bool:=(zaY zaH b).getD false
theorem ygN(b:UInt8):zaY zaH b=some (letB b):=by
 have:=zoN (fun b=>(zaY zaH b).isSome) (by kernel_rfl) b
 unfold letB
 cases h:zaY zaH b with
 |none=>rw[h]at this;cases this
 |some v=>rfl
theorem xeB(b:UInt8):yjB.contains b=letB b:=by
 have:=zoN (fun b=>yjB.contains b==letB b) (by kernel_rfl) b
 simpa using this
abbrev ygT:L8:=[97,98,99,100,101,102,103,104,105,106,107,108,109,110,111,112,113,114,115,116,117,118,119,120,121,122,48,49,50,51,52,53,54,55,56,57,46,95,45,58]
theorem xaM(b:UInt8):ygT.contains b=(letB b||b==58):=by
 have:=zoN (fun b=>ygT.contains b==(letB b||b==58)) (by kernel_rfl) b
 simpa using this
theorem xfG(s:L8):nmB s=(s != []&&decide (s.length≤24)&&s.all letB):=by
 have h:=yzG s
 unfold zaP at h
 rw[xeA (by decide) (by decide) (by decide),zaA]at h
 rw[←osi h,yeW fun b _=>xeB b]
 congr 2
 rw[decide_eq_decide]
 omega
theorem ynZ(s:L8):decide ((s.length:Int)≥1)=(s != []):=by
 cases s with
 |nil=>rfl
 |cons b l=>rw[decide_eq_true (by simp only[List.length_cons];omega)];rfl
theorem yiU{s:L8}(hs:s.length≤1048576):zbF zaH s=some (nmB s):=by
 unfold zbF
 rw[yjY (l:=s) (p:=letB) (bad:=Sum.inl false) (good:=Sum.inr ()) (by omega) (fun k hk=>?_) ?_,zaA,xfG]
 ·cases ha:s.all letB with
  |false=>simp
  |true=>
   simp only[cond_true,Bool.and_true]
   rw[←ynZ]
   by_cases h:(s.length:Int)≥1
   ·rw[zgB h,decide_eq_true h,Bool.true_and]
    congr 1
    rw[decide_eq_decide]
    omega
   ·rw[zhK h,decide_eq_false h];rfl
 ·unfold zeO
  rw[zhK (by omega)]
 ·unfold zeO
  rw[zgB (show(k:Int)<(s.length:Int) by omega),ztN rfl hk,zaA,ygN,zaA]
  cases letB s[k] with
  |false=>rfl
  |true=>simp only[Bool.not_true,cond_false,cond_true];rw[ydA (by omega)]
theorem sc_is(s:L8):scB s=(s != []&&decide (s.length≤32)&&s.all fun b=>letB b||b==58):=by
 have h:=xcX s
 unfold zbU at h
 rw[xeA (by decide) (by decide) (by decide),zaA]at h
 rw[←osi h,yeW (q:=fun b=>letB b||b==58) fun b _=>xaM b]
 congr 2
 rw[decide_eq_decide]
 omega
theorem yoA{s:L8}(hs:s.length≤1048576):zcV zaH s=some (scB s):=by
 unfold zcV
 rw[yjY (l:=s) (p:=fun b=>letB b||b==58) (bad:=Sum.inl false) (good:=Sum.inr ()) (by omega) (fun k hk=>?_) ?_,zaA,sc_is]
 ·cases ha:s.all fun b=>letB b||b==58 with
  |false=>simp
  |true=>
   simp only[cond_true,Bool.and_true]
   rw[←ynZ]
   by_cases h:(s.length:Int)≥1
   ·rw[zgB h,decide_eq_true h,Bool.true_and]
    congr 1
    rw[decide_eq_decide]
    omega
   ·rw[zhK h,decide_eq_false h];rfl
 ·unfold zdU
  rw[zhK (by omega)]
 ·unfold zdU
  rw[zgB (show(k:Int)<(s.length:Int) by omega),ztN rfl hk,zaA,ygN,zaA]
  cases letB s[k] with
  |true=>simp only[Bool.not_true,cond_false,cond_true,Bool.true_or];rw[ydA (by omega)]
  |false=>
   simp only[Bool.not_false,cond_true,zaA,Bool.false_or]
   rw[is58]
   cases h58:s[k]==58 with
   |true=>rw[show(s[k] != 58)=false by rw[bne,h58];rfl];simp only[cond_false,cond_true];rw[ydA (by omega)]
   |false=>rw[show(s[k] != 58)=true by rw[bne,h58];rfl];rfl
def okB(b:UInt8):Bool:=decide (33≤b.toNat)&&decide (b.toNat≤126)
theorem yoY{l:L8}{k:Nat}(hk:k<l.length)(h:l[k].toNat<128):nxR l k=(l[k].toNat:Int)∧nxP l k=k+1:=by
 have hg:((⟨l.toArray⟩:ByteArray).get! k)=l[k]:=by
  simp[ByteArray.get!,hk]
 unfold nxR nxP dec Utf8.decode
 simp only[Nat.add_zero,hg]
 rw[if_pos h,zgB hk]
 exact⟨rfl,rfl⟩
theorem yuQ{l:L8}{k:Nat}(hk:k<l.length)(h:128≤l[k].toNat):nxR l k>126:=by
 have hg:((⟨l.toArray⟩:ByteArray).get! k)=l[k]:=by
  simp[ByteArray.get!,hk]
 have e:Utf8.runeError>126:=by decide
 unfold nxR dec Utf8.decode
 simp only[Nat.add_zero,hg]
 rw[if_neg (by omega)]
 repeat' split
 all_goals first|(simp only[];omega)|(simp only[];rename_i h1;simp only[Bool.and_eq_true,decide_eq_true_eq]at h1;omega)
theorem okB_t{b:UInt8}(h:okB b=true):33≤b.toNat∧b.toNat≤126:=by
 unfold okB at h
 simp only[Bool.and_eq_true,decide_eq_true_eq]at h
 exact h
theorem yuS{s:L8}(hs:s.length≤1048576):zbQ zaH s=some (!s.all okB):=by
 have hT:T (iter (fun x:L8×Int=>zdH zaH true x.1 x.2) (s,(0:Int))) fun r=>match r with
   |.inl i=>0≤i∧s.all okB=false
   |.inr _=>s.all okB=true:=by
  refine T.iter (fun x=>x.1=s∧0≤x.2∧x.2≤(s.length:Int)∧(s.take x.2.toNat).all okB=true) (fun x=>s.length-x.2.toNat) _ (fun x hx=>?_) ⟨rfl,Int.le_refl _,by simp,rfl⟩ (by simp;omega)
  obtain⟨v,i⟩:=x
  obtain⟨e,h1,h2,h3⟩:=hx
  simp only at e h1 h2 h3
  subst e
  obtain⟨k,rfl⟩:∃k:Nat,i=k:=⟨i.toNat,by omega⟩
  rw[Int.toNat_natCast]at h3
  unfold zdH
  simp only[Int.toNat_natCast]
  refine T.dif (fun hk=>?_) fun hk=>T.ok ?_
  ·have hp:zfD zaH (nxR v k)=some (!okB v[k]):=by
    unfold zfD
    rcases Nat.lt_or_ge v[k].toNat 128 with hlo|hhi
    ·rw[(yoY hk hlo).1]
     unfold okB
     by_cases h33:(v[k].toNat:Int)<33
     ·rw[zgB h33,decide_eq_false (show ¬33≤v[k].toNat by omega)];rfl
     ·rw[zhK h33,decide_eq_true (show 33≤v[k].toNat by omega),Bool.true_and]
      congr 1
      by_cases h126:(v[k].toNat:Int)>126
      ·rw[decide_eq_true h126,decide_eq_false (show ¬v[k].toNat≤126 by omega)];rfl
      ·rw[decide_eq_false h126,decide_eq_true (show v[k].toNat≤126 by omega)];rfl
    ·have:=yuQ hk hhi
     rw[zhK (by omega),decide_eq_true this]
     unfold okB
     rw[decide_eq_false (show ¬v[k].toNat≤126 by omega),Bool.and_false]
     rfl
   rw[hp,zaA]
   cases hb:okB v[k] with
   |false=>
    refine T.bif (fun _=>T.ok ⟨by omega,yrG hk hb⟩) fun h=>?_
    cases h
   |true=>
    refine T.bif (fun h=>?_) fun _=>T.ok ?_
    ·cases h
    ·have hlt:=okB_t hb
     rw[(yoY hk (by omega)).2]
     refine⟨⟨rfl,by simp only[];omega,by simp only[];omega,?_⟩,by simp only[];omega⟩
     simp only[Int.toNat_natCast]
     rw[ydT hk,h3,hb]
     rfl
  ·rw[List.take_of_length_le (by omega)]at h3
   exact h3
 obtain⟨r,h1,h2⟩:=hT
 unfold zbQ zdY zdX
 rw[h1]
 cases r with
 |inl i=>
  simp only[zaA]
  rw[decide_eq_true (show i≥0 from h2.1),h2.2]
  rfl
 |inr u=>
  simp only[zaA]
  rw[show s.all okB=true from h2]
  rfl
theorem tx_is(s:L8)(hs:s.length≤1048576):txB s=(s != []&&decide (s.length≤128)&&s.all okB):=by
 have h:=xcB s
 unfold zbJ at h
 rw[yuS hs]at h
 cases h0:s != ([]:L8) with
 |false=>rw[h0]at h;rw[←osi h];rfl
 |true=>
  rw[h0]at h
  simp only[cond_true,zaA,Bool.not_not]at h
  by_cases hl:(s.length:Int)≤128
  ·rw[zgB hl]at h
   rw[←osi h,decide_eq_true (show s.length≤128 by omega)];rfl
  ·rw[zhK hl]at h
   rw[←osi h,decide_eq_false (show ¬s.length≤128 by omega)];rfl
theorem ok_j(b:UInt8){α:Type}(x y:Option α):(bif decide ((b.toNat:Int)<((33:UInt8).toNat:Int))then x else(bif decide ((b.toNat:Int)>((126:UInt8).toNat:Int))then x else y))=bif okB b then y else x:=by
 have e1:((33:UInt8).toNat:Int)=33:=rfl
 have e2:((126:UInt8).toNat:Int)=126:=rfl
 rw[e1,e2]
 unfold okB
 by_cases h1:(b.toNat:Int)<33
 ·rw[zgB h1,decide_eq_false (show ¬33≤b.toNat by omega)];rfl
 ·rw[zhK h1,decide_eq_true (show 33≤b.toNat by omega)]
  by_cases h2:(b.toNat:Int)>126
  ·rw[zgB h2,decide_eq_false (show ¬b.toNat≤126 by omega)];rfl
  ·rw[zhK h2,decide_eq_true (show b.toNat≤126 by omega)];rfl
theorem ytT{s:L8}(hs:s.length≤1048576):zdE zaH s=some (txB s):=by
 unfold zdE
 rw[yjY (l:=s) (p:=okB) (bad:=Sum.inl false) (good:=Sum.inr ()) (by omega) (fun k hk=>?_) ?_,zaA,tx_is s hs]
 ·cases ha:s.all okB with
  |false=>simp
  |true=>
   simp only[cond_true,Bool.and_true]
   rw[←ynZ]
   by_cases h:(s.length:Int)≥1
   ·rw[zgB h,decide_eq_true h,Bool.true_and]
    congr 1
    rw[decide_eq_decide]
    omega
   ·rw[zhK h,decide_eq_false h];rfl
 ·unfold zeN
  rw[zhK (by omega)]
 ·unfold zeN
  rw[zgB (show(k:Int)<(s.length:Int) by omega),ztN rfl hk,zaA,zaA,ok_j]
  cases okB s[k] with
  |false=>rfl
  |true=>simp only[cond_true];rw[ydA (by omega)]
theorem yuB{s:L8}(hs:s.length≤1048576):zbP zaH s=some (prB s):=by
 rw[←xbG]
 unfold zbP zaV
 by_cases hl:(s.length:Int)>2
 ·rw[zgB hl,zgB hl,show subH s 2=some (s.take 2)from ypA (n:=2) (by omega),zaA,zaA,show subL s 2=some (s.drop 2)from ysI (n:=2) (by omega)]
  simp only[zaA]
  rw[yiU (by rw[List.length_drop];omega),yzG]
 ·rw[zhK hl,zhK hl]
theorem ywE{n:Nat}(h:n<256):i8 ((n:Nat):Int)=UInt8.ofNat n:=by unfold i8;congr 1;omega
theorem ymL{m:Nat}(h:¬m<10):Lib.decDigits m=Lib.decDigits (m/10)++[UInt8.ofNat (48+m%10)]:=by rw[zjC,if_neg h]
theorem yxX(u:Nat)(hu:u<9223372036854775808):zdG zaH (u:Int)=some (Lib.decDigits u):=by
 unfold zdG
 have h19:=zsW 19 u (by decide) (by omega)
 have hI:T (iter (fun x=>zeX zaH x.1 x.2) ((u:Int),([]:Bs))) fun r=>∃d:Nat,d<10∧r.1=(d:Int)∧UInt8.ofNat (48+d)::r.2=Lib.decDigits u:=by
  refine T.iter (fun x=>∃m:Nat,x.1=(m:Int)∧m<9223372036854775808∧Lib.decDigits m++x.2=Lib.decDigits u) (fun x=>(Lib.decDigits x.1.toNat).length) _ (fun x hx=>?_) ⟨u,rfl,hu,by simp⟩ (by simp only[Int.toNat_natCast];omega)
  obtain⟨v,s⟩:=x
  obtain⟨m,e,hm,hd⟩:=hx
  simp only at e hd
  subst e
  unfold zeX
  by_cases h9:(m:Int)>9
  ·have hmod:w64 ((48:Int)+Int.tmod (m:Int) 10)=((48+m%10:Nat):Int):=by
    have:Int.tmod (m:Int) 10=((m%10:Nat):Int):=by rw[Int.tmod_eq_emod_of_nonneg (by omega)];omega
    rw[this,zxA (by omega) (by omega)];omega
   have hdiv:w64 (Int.tdiv (m:Int) 10)=((m/10:Nat):Int):=by
    have:Int.tdiv (m:Int) 10=((m/10:Nat):Int):=by rw[Int.tdiv_eq_ediv_of_nonneg (by omega)];omega
    rw[this,zxA (by omega) (by omega)]
   have hsl:s.length≤19:=by
    have:=congrArg List.length hd
    rw[List.length_append]at this;omega
   have hst:=ymL (m:=m) (by omega)
   rw[zgB h9,decide_eq_true (show(0:Int)<10 by decide),yrR rfl,zaA,hmod,hdiv,zwX (by simp;omega),zaA,show((10:Int) != 0)=true from rfl,yrR rfl,zaA,ywE (by omega)]
   refine T.ok ⟨⟨m/10,rfl,by omega,?_⟩,?_⟩
   ·simp only[]
    rw[hst,List.append_assoc]at hd
    exact hd
   ·simp only[Int.toNat_natCast]
    rw[hst,List.length_append];simp
  ·rw[zhK h9]
   refine T.ok ⟨m,by omega,rfl,?_⟩
   rw[zjC,if_pos (by omega)]at hd
   exact hd
 obtain⟨r,h1,d,h2,h3,h4⟩:=hI
 rw[h1,zaA,h3,zxA (by omega) (by omega),show(48:Int)+(d:Int)=((48+d:Nat):Int) by omega,ywE (by omega)]
 have:r.2.length≤19:=by
  have:=congrArg List.length h4
  rw[List.length_cons]at this;omega
 rw[zwX (by simp;omega),zaA]
 exact congrArg some h4
theorem ytR(l:List L8)(hl:(zdZ l).length≤100000000)(hn:l.length≤1048576):zdA zaH l=some (zdZ l):=by
 unfold zdA
 have hI:iter (fun x=>zcW zaH l x.1 x.2) ((0:Int),([]:Bs))=some (zdZ l):=by
  refine ydZ (fun k=>((k:Int),zdZ (l.take k))) l.length (by omega) _ (fun k hk=>?_) ?_
  ·have hsp:zdZ l=zdZ (l.take k)++(Lib.decDigits l[k].length++58::(l[k]++zdZ (l.drop (k+1)))):=by
    conv=>lhs;rw[←List.take_append_drop k l,zqY]
    rw[List.drop_eq_getElem_cons hk];rfl
   have hlen:=congrArg List.length hsp
   simp only[List.length_append,List.length_cons]at hlen
   unfold zcW
   rw[zgB (show(k:Int)<(l.length:Int) by omega),ztN rfl hk,zaA,zaA,yxX _ (by omega),zaA,zwX (by simp;omega),zaA,zwX (by simp;omega),zaA,zwX (by simp;omega),zaA,ydA (by omega),List.take_succ_eq_append_getElem hk,zqY]
   simp only[zdZ,List.append_assoc,List.append_nil,List.cons_append,List.nil_append]
  ·unfold zcW
   rw[zhK (by omega),List.take_length]
 rw[hI,zaA]
theorem yxS{a:List L8}(h:a.length≤1048576):zcZ zaH a a=some true:=by
 unfold zcZ
 rw[bne_self_eq_false]
 simp only[cond_false]
 rw[yjY (l:=a) (p:=fun _=>true) (bad:=Sum.inl false) (good:=Sum.inr ()) (by omega) (fun k hk=>?_) ?_,zaA,List.all_eq_true.2 fun _ _=>rfl]
 ·rfl
 ·unfold zeJ
  rw[zhK (by omega)]
 ·unfold zeJ
  rw[zgB (show(k:Int)<(a.length:Int) by omega),ztN rfl hk,zaA,zaA,bne_self_eq_false,ydA (by omega)]
  rfl
section
variable {tabs:List (Nat×Obj)}[zqN tabs]{o:Ops}[zlH tabs o]
end
end Go.Proofs.YtopanhneegpgcaaGreatDoor.Am
namespace Go.Proofs.YtopanhneegpgcaaGreatDoor
open Go Go.RowKit
section
open Go Go.RowKit Go.ChangeShapes Go.WideShapes Go.ChangeAt
section
variable {H:Type}{enc:TypeId×Value→H}{P:Program}{W W':World}
theorem zzA(hl:laidOutB P=true)(hx:Below W.heap.size W W'):∀{ts:List TypeId} {vs:LV} {ds:List (DataW H)} {ps:List MemPlace},ts.all (fun t=>P.readableRec t&&decide (t<P.types.size))=true →
  DataW.TrodAll enc P W 0 (fun _=>true) true ts vs ds ps→(∀x∈ps,x.block<W.heap.size)→DataW.TrodAll enc P W' 0 (fun b=>decide (b<W.heap.size)) true ts vs ds ps
 |[],vs,ds,ps,_,h,_=>by
  obtain⟨rfl,rfl,rfl⟩:=trodAll_nil h
  exact trodAll_mk0
 |t::ts,vs,ds,ps,ha,h,hlt=>by
  obtain⟨v,vs',d,ds',p,q,rfl,rfl,rfl,h0,hr⟩:=trodAll_cons h
  simp only[List.all_cons,Bool.and_eq_true,decide_eq_true_eq]at ha
  exact trodAll_cons_mk (Below.trod hl ha.1.1 ha.1.2 h0 hx fun x hx=>hlt x (List.mem_append.2 (.inl hx)))
   (zzA hl hx ha.2 hr fun x hx=>hlt x (List.mem_append.2 (.inr hx)))
theorem trodAll_length:∀{ts:List TypeId} {vs:LV} {ds:List (DataW H)} {ps:List MemPlace} {w:World} {b:Nat} {sp:Nat→Bool} {hd:Bool},DataW.TrodAll enc P w b sp hd ts vs ds ps→vs.length=ts.length∧ds.length=ts.length
 |[],vs,ds,ps,_,_,_,_,h=>by
  obtain⟨rfl,rfl,rfl⟩:=trodAll_nil h
  exact⟨rfl,rfl⟩
 |t::ts,vs,ds,ps,_,_,_,_,h=>by
  obtain⟨v,vs',d,ds',p,q,rfl,rfl,rfl,h0,hr⟩:=trodAll_cons h
  have:=trodAll_length hr
  simp[this.1,this.2]
theorem ysT{f:Func}{s:ChangeSpec}{args:Array Value}{ds gs:List (DataW H)}{before:List MemPlace}{B:TypeId}{n:Nat}(hl:laidOutB P=true)(hv:s.vars=[])
  (hp:f.params.toList.all (fun t=>P.readableRec t&&decide (t<P.types.size))=true) (hn:f.params.toList.length=n) (hB:P.underlying B=some .bool) (hr:f.resultTypes = #[B])
  (hfn:∀ds:List (DataW H),ds.length=n→(s.fn H (ds++[])).results=[.lit (.bool true)]∧(s.fn H (ds++[])).args=ds∧(s.fn H (ds++[])).vars=[])
  (hW:DataW.Whole enc P f.params.toList s.vars false W args.toList ds gs before) (hx:Ext W W'):s.post enc P f false true false false W args (.bool true) W':=by
 have hW':=hW
 obtain⟨p,q,hA,hV,rfl,_,_⟩:=hW
 rw[hv]at hV
 obtain⟨rfl,rfl⟩:=trodVars_none hV
 have hA:DataW.TrodAll enc P W 0 (fun _=>true) true f.params.toList args.toList ds p:=hA
 have hlen:=trodAll_length hA
 obtain⟨f1,f2,f3⟩:=hfn ds (hlen.2.trans hn)
 refine⟨ds,[],p++[],[],p,[],hW',?_,?_,?_,Below.frame hx _,fun h=>by cases h⟩
 ·rw[f1,hr]
  exact trodAll_mk1 (shut_bool hB _)
 ·rw[f2]
  exact zzA hl hx hp hA fun x hxp=>by simpa using hW'.lt x (by simp[hxp])
 ·rw[f3,hv];exact rfl
variable {b0:Nat}{T E:TypeId}{v:Value}
theorem yvE{fits:TypeId→Bool}:∀{d:Nat} {e:TypeId} {count off n:Nat},rowAt P fits d e count off n=true→off≤count*P.cellsOf e
 |0,_,_,_,_,h=>by simp[rowAt]at h
 |d+1,e,count,off,n,h=>by
  unfold rowAt at h
  by_cases hs:P.cellsOf e=0
  ·simp[hs]at h
  ·have hd:=Nat.div_add_mod off (P.cellsOf e)
   have hm:=Nat.mod_lt off (Nat.pos_of_ne_zero hs)
   simp only[hs,if_false,Bool.or_eq_true,Bool.and_eq_true,decide_eq_true_eq,beq_iff_eq]at h
   rcases h with⟨⟨h1,h2⟩,_⟩|⟨h1,_⟩
   ·have h3:P.cellsOf e*(off/P.cellsOf e)≤P.cellsOf e*count:=Nat.mul_le_mul_left _ (by omega)
    rw[Nat.mul_comm count];omega
   ·have h3:P.cellsOf e*(off/P.cellsOf e+1)≤P.cellsOf e*count:=Nat.mul_le_mul_left _ (by omega)
    rw[Nat.mul_add,Nat.mul_one]at h3
    rw[Nat.mul_comm count];omega
theorem yfN:∀{d:Nat} {e:TypeId} {count off:Nat} {u:TypeId} {n:Nat},liesAt P d e count off u n=true→off≤count*P.cellsOf e
 |0,_,_,_,_,_,h=>by simp[liesAt]at h
 |d+1,e,count,off,u,n,h=>by
  unfold liesAt at h
  rw[Bool.or_eq_true]at h
  rcases h with h|h
  ·exact yvE h
  ·split at h
   ·exact yfN h
   ·cases h
theorem ytX{a:Addr}{len cap:Nat}(hu:P.underlying T=some (.slice E))(h:Value.okWide P W .any b0 T (.slice (some a) len cap)):
  a.spot=none∧∃cs R fz,W.heap[a.block]? = some (.cells cs R fz)∧a.off≤cs.size:=by
 simp only[Value.okWide,Cell.okWide,Cell.ok,hu]at h
 obtain⟨_,_,_,h2,row,cells,h3,h4⟩:=h
 refine⟨h2,?_⟩
 unfold World.shape? at h3
 split at h3
 ·rename_i c elem fz hb
  simp only[Option.some.injEq,Prod.mk.injEq]at h3
  obtain⟨rfl,rfl⟩:=h3
  have h5:=yfN h4
  have h6:=Nat.div_mul_le_self c.size (P.cellsOf elem)
  exact⟨c,_,fz,hb,by omega⟩
 ·cases h3
theorem ok_slice(hu:P.underlying T=some (.slice E))(h:Value.okWide P W .any b0 T v):v = .slice none 0 0∨∃a len cap,v = .slice (some a) len cap:=by
 simp only[Value.okWide,Cell.okWide,Cell.ok,hu]at h
 cases v with
 |slice a len cap=>
  cases a with
  |none=>
   left
   cases len with
   |zero=>cases cap with
    |zero=>rfl
    |succ n=>simp at h
   |succ n=>simp at h
  |some a=>exact .inr ⟨a,len,cap,rfl⟩
 |_=>simp at h
theorem yiX{l r:List (DataW H)}:Rows.uptoBulkAll (l++r)=Rows.uptoBulkAll l+Rows.uptoBulkAll r:=by
 induction l with
 |nil=>simp[Rows.uptoBulkAll]
 |cons x l ih=>simp only[List.cons_append,Rows.uptoBulkAll,ih];omega
end
end
end Go.Proofs.YtopanhneegpgcaaGreatDoor
namespace Go.Proofs.YtopanhneegpgcaaGreatDoor.Am
open Go Go.RowKit Go.ChangeShapes Go.WideShapes Go.ChangeAt
def dsz:(t:Ty)→den t→Nat
 |.s,x=>List.length x+1
 |.pr a c,x=>dsz a x.1+dsz c x.2
 |.un,_=>0
 |.sl e,x=>(List.map (dsz e) x).sum+1
 |_,_=>1
def fOk(q:TypeId→Ty→Bool)(c:TypeId→Nat):List Field→Nat→Ty→Bool
 |[],_,t=>match t with
  |.un=>true
  |_=>false
 |[f],off,t=>(q f.type t&&(Nat.beq f.offset off&&Nat.beq (c f.type) (tsz t)))||(match t with
  |.pr a .un=>q f.type a&&(Nat.beq f.offset off&&Nat.beq (c f.type) (tsz a))
  |_=>false)
 |f::g::fs,off,t=>match t with
  |.pr a r=>(q f.type a&&(Nat.beq f.offset off&&Nat.beq (c f.type) (tsz a)))&&fOk q c (g::fs) (off+tsz a) r
  |_=>false
def tyOk(P:Program):Nat→TypeId→Ty→Bool
 |0,_,_=>false
 |n+1,T,t=>match P.underlying T,t with
  |some (.int k),.i k'=>(ikEq k k').isSome
  |some .bool,.b=>true
  |some .string,.s=>true
  |some (.slice E),.sl e=>tyOk P n E e&&(Nat.beq (P.cellsOf E) (tsz e)&&Nat.blt 0 (tsz e))
  |some (.struct fs),t=>(Nat.beq (P.cellsOf T) (tsz t) && !(one t))&&fOk (tyOk P n) P.cellsOf fs.toList 0 t
  |_,_=>false
section
variable {H:Type}{enc:TypeId×Value→H}{P:Program}{W:World}{sp:Nat→Bool}{S:Mem}
theorem xcQ:∀{k:IntKind} {n:Int},(Lit.int k n).wf=true→toI k (ofI k n)=n:=fun {k n} h=>by
 rw[yoI]
 cases k<;>simp[Lit.wf,IntKind.min,IntKind.max,IntKind.signed,IntKind.bits]at h<;>simp[IntKind.wrap,IntKind.signed,IntKind.bits]<;>omega
theorem ygJ{a c:Ty}{cs:LV}{x:den a}{y:den c}(hx:rep a S (cs.take (tsz a)) x)(hy:rep c S (cs.drop (tsz a)) y):rep (.pr a c) S cs (x,y):=
 ⟨_,_,(List.take_append_drop (tsz a) cs).symm,hx,hy⟩
theorem ywH:rep .un S ([]:LV) ():=rfl
theorem yfA{q:TypeId→Ty→Bool}{fuel:Nat}(hq:∀(T:TypeId) (t:Ty),q T t=true→∀cs d ps,DataW.trod enc P W 0 sp true fuel T cs=some (d,ps)→∃x:den t,rep t S cs x∧dsz t x≤Rows.uptoBulk d){cs:LV}:
  ∀(fs:List Field) (off:Nat) (t:Ty) (xs:List (DataW H×List MemPlace)),fOk q P.cellsOf fs off t=true→cs.length=off+tsz t →
   A2 (fun(f:Field) y=>DataW.trod enc P W 0 sp true fuel f.type ((cs.drop f.offset).take (P.cellsOf f.type))=some y) fs xs →
   ∃x:den t,rep t S (cs.drop off) x∧dsz t x≤Rows.uptoBulkAll (xs.map (·.1))
 |[],off,t,xs,h,hl,hA=>by
  cases t<;>simp only[fOk]at h<;>try (cases h;done)
  cases hA
  refine⟨(),?_,Nat.zero_le _⟩
  rw[List.drop_eq_nil_of_le (by rw[hl];exact Nat.le_refl _)]
  exact ywH
 |[f],off,t,xs,h,hl,hA=>by
  cases hA with
  | @cons _ y _ _ h1 h2=>
   cases h2
   simp only[fOk,Bool.or_eq_true]at h
   rcases h with h|h
   ·rw[Bool.and_eq_true,Bool.and_eq_true]at h
    obtain⟨h0,h2,h3⟩:=h
    have h2:=Nat.eq_of_beq_eq_true h2
    have h3:=Nat.eq_of_beq_eq_true h3
    obtain⟨x,hx,hd⟩:=hq _ _ h0 _ _ _ h1
    refine⟨x,?_,by simp only[List.map_cons,List.map_nil,Rows.uptoBulkAll];omega⟩
    rw[h2,h3,List.take_of_length_le (by rw[List.length_drop];omega)]at hx
    exact hx
   ·cases t with
    |pr a c=>
     cases c with
     |un=>
      rw[Bool.and_eq_true,Bool.and_eq_true]at h
      obtain⟨h0,h2,h3⟩:=h
      have h2:=Nat.eq_of_beq_eq_true h2
      have h3:=Nat.eq_of_beq_eq_true h3
      obtain⟨x,hx,hd⟩:=hq _ _ h0 _ _ _ h1
      rw[h2,h3]at hx
      have hl:cs.length=off+tsz a:=hl
      refine⟨(x,()),ygJ hx ?_,by simp only[List.map_cons,List.map_nil,Rows.uptoBulkAll];show dsz a x+0≤_;omega⟩
      rw[List.drop_eq_nil_of_le (by rw[List.length_drop];omega)]
      exact ywH
     |_=>simp at h
    |_=>simp at h
 |f::g::fs,off,t,xs,h,hl,hA=>by
  cases t with
  |pr a r=>
   simp only[fOk]at h
   rw[Bool.and_eq_true,Bool.and_eq_true,Bool.and_eq_true]at h
   obtain⟨⟨h1,h2,h3⟩,h4⟩:=h
   have h2:=Nat.eq_of_beq_eq_true h2
   have h3:=Nat.eq_of_beq_eq_true h3
   have hl:cs.length=off+(tsz a+tsz r):=hl
   cases hA with
   | @cons _ y _ ys g1 g2=>
    obtain⟨x,hx,hd⟩:=hq _ _ h1 _ _ _ g1
    obtain⟨z,hz,he⟩:=yfA hq (g::fs) (off+tsz a) r ys h4 (by omega) g2
    rw[h2,h3]at hx
    refine⟨(x,z),ygJ hx (by rw[List.drop_drop];exact hz),?_⟩
    simp only[List.map_cons,Rows.uptoBulkAll]
    show dsz a x+dsz r z≤_
    omega
  |_=>simp[fOk]at h
theorem ywK{α β:Type}{R:α→β→Prop}:∀{l:List α} {m:List β},l.length=m.length→(∀(i:Nat) (a:α) (b:β),l[i]? = some a→m[i]? = some b→R a b)→A2 R l m
 |[],[],_,_=>.nil
 |[],_::_,h,_=>by cases h
 |_::_,[],h,_=>by cases h
 |a::l,b::m,h,hR=>.cons (hR 0 a b rfl rfl) (ywK (by simpa using h) fun i a b ha hb=>hR (i+1) a b (by simpa using ha) (by simpa using hb))
theorem yrF{e:Ty}:∀{xs:List (den e)} {cs ds:LV} {x:den e},@RL (den e) (rpD e) S cs xs→rep e S ds x→@RL (den e) (rpD e) S (cs++ds) (xs++[x])
 |[],cs,ds,x,h,hx=>by
  have h:cs=[]:=h
  subst h
  exact⟨ds,[],by simp,hx,rfl⟩
 |y::xs,cs,ds,x,h,hx=>by
  obtain⟨c,d,rfl,h1,h2⟩:=h
  exact⟨c,d++ds,by simp,h1,yrF h2 hx⟩
theorem sl_of{T E:TypeId}{e:Ty}{fuel:Nat}(hu:P.underlying T=some (.slice E))(hc:P.cellsOf E=tsz e)(hz:0<tsz e)(hq:∀(m:Nat) (cs:LV) (d:DataW H) (ps:List MemPlace),DataW.trod enc P W 0 (fun _=>true) true m E cs=some (d,ps)→∃x:den e,rep e (znM W) cs x∧dsz e x≤Rows.uptoBulk d){cs:LV}{d:DataW H}{ps:List MemPlace}(hd:DataW.trod enc P W 0 (fun _=>true) true fuel T cs=some (d,ps)):
  ∃xs:List (den e),rep (.sl e) (znM W) cs xs∧dsz (.sl e) xs≤Rows.uptoBulk d:=by
 rcases DataW.trod_slice hu hd with⟨rfl,h2⟩|⟨a,len,cap,elems,rest,m,rfl,rfl,h2,_,hlc,_,hel,hget,hrest,_⟩
 ·cases h2
  exact⟨[],⟨_,rfl,[],.inl ⟨⟨none,rfl⟩,rfl,rfl⟩,rfl⟩,Nat.le_refl _⟩
 ·cases h2
  by_cases hcap:cap=0
  ·subst hcap
   obtain rfl:len=0:=by omega
   refine⟨[],⟨_,rfl,[],.inl ⟨⟨some a,rfl⟩,rfl,rfl⟩,rfl⟩,?_⟩
   show 0+1≤_
   simp only[Rows.uptoBulk]
   omega
  have h0:∃us,W.cells? 0 a (P.cellsOf E)=some us:=by
   by_cases hl0:len=0
   ·subst hl0
    obtain⟨g1,g2⟩:=hrest rfl
    have g3:=g2 0 (by omega)
    rw[List.getElem?_eq_getElem (by omega:0<rest.length)]at g3
    obtain⟨us,hus,_⟩:=Option.bind_eq_some_iff.1 g3
    rw[show a.add ((0+0)*P.cellsOf E)=a by simp[Addr.add]]at hus
    exact⟨us,hus⟩
   ·have g3:=hget 0 (by omega)
    rw[List.getElem?_eq_getElem (by omega:0<elems.length)]at g3
    obtain⟨us,hus,_⟩:=Option.bind_eq_some_iff.1 g3
    rw[show a.add (0*P.cellsOf E)=a by simp[Addr.add]]at hus
    exact⟨us,hus⟩
  obtain⟨us,hus⟩:=h0
  obtain⟨_,hul,huc⟩:=World.cells?_some hus
  have hc0:=huc 0 (by omega)
  rw[show a.add 0=a by simp[Addr.add],List.getElem?_eq_getElem (by omega:0<us.length)]at hc0
  obtain⟨blk,off,spot⟩:=a
  obtain⟨cs,R,fz,hb,hsp,ho⟩:∃cs R fz,W.heap[blk]? = some (.cells cs R fz)∧spot=none∧off≤cs.size:=by
   unfold World.cell? at hc0
   dsimp only at hc0
   split at hc0
   ·rename_i c R fz hb
    cases spot with
    |some s=>simp at hc0
    |none=>
     rw[if_neg (by simp)]at hc0
     have:=(Array.getElem?_eq_some_iff.1 hc0).1
     exact⟨c,R,fz,hb,rfl,Nat.le_of_lt this⟩
   ·cases hc0
  subst hsp
  have ad:∀j,(⟨blk,off,none⟩:Addr).add j=⟨blk,off+j,none⟩:=fun j=>by simp[Addr.add]
  have each:∀i,i<len→∃y x,elems[i]? = some y∧rep e (znM W) (piece cs.toList (off+i*tsz e) (tsz e)) x∧dsz e x≤Rows.uptoBulk y.1∧off+(i+1)*tsz e≤cs.toList.length:=fun i hi=>by
   have hg:=hget i hi
   obtain⟨y,hy⟩:∃y,elems[i]? = some y:=⟨_,List.getElem?_eq_getElem (by omega)⟩
   rw[hy]at hg
   obtain⟨us,hus,hg⟩:=Option.bind_eq_some_iff.1 hg
   obtain⟨_,hul,huc⟩:=World.cells?_some hus
   obtain⟨x,hx,hdx⟩:=hq m us y.1 y.2 hg
   rw[hc,ad]at huc
   rw[hc]at hul
   have hcell:∀j,j<tsz e→cs.toList[off+i*tsz e+j]? = us[j]?:=fun j hj=>by
    have:=huc j hj
    rw[show(⟨blk,off+i*tsz e,none⟩:Addr).add j=⟨blk,off+i*tsz e+j,none⟩ by simp[Addr.add]]at this
    simp only[World.cell?,hb,Option.isSome_none,if_neg (show ¬(false=true) by decide)]at this
    simpa using this
   have hlen:off+(i+1)*tsz e≤cs.toList.length:=by
    have h1:=hcell (tsz e-1) (by omega)
    rw[List.getElem?_eq_getElem (by omega:tsz e-1<us.length)]at h1
    have:=(List.getElem?_eq_some_iff.1 h1).1
    rw[Nat.add_mul];omega
   refine⟨y,x,hy,?_,hdx,hlen⟩
   have:piece cs.toList (off+i*tsz e) (tsz e)=us:=by
    apply List.ext_getElem?
    intro j
    rw[zaM,List.getElem?_take]
    by_cases hj:j<tsz e
    ·rw[if_pos hj,List.getElem?_drop];exact hcell j hj
    ·rw[if_neg hj,List.getElem?_eq_none (by omega)]
   rw[this];exact hx
  have key:∀k,k≤len→∃xs:List (den e),xs.length=k∧@RL (den e) (rpD e) (znM W) (piece cs.toList off (k*tsz e)) xs∧(List.map (dsz e) xs).sum≤Rows.uptoBulkAll ((elems.take k).map (·.1)):=by
   intro k
   induction k with
   |zero=>intro _;exact⟨[],rfl,by simp[piece,RL],Nat.zero_le _⟩
   |succ k ih=>
    intro hk
    obtain⟨xs,h1,h2,h3⟩:=ih (by omega)
    obtain⟨y,x,g1,g2,g3,_⟩:=each k (by omega)
    refine⟨xs++[x],by simp[h1],?_,?_⟩
    ·have e2:piece cs.toList off ((k+1)*tsz e)=piece cs.toList off (k*tsz e)++piece cs.toList (off+k*tsz e) (tsz e):=by
      rw[zaM,zaM,zaM,Nat.add_mul,Nat.one_mul,List.take_add,List.drop_drop]
     rw[e2]
     exact yrF h2 g2
    ·rw[List.take_add_one,g1]
     simp only[Option.toList_some,List.map_append,List.map_cons,List.map_nil,List.sum_append,List.sum_cons,List.sum_nil,yiX,Rows.uptoBulkAll]
     omega
  obtain⟨xs,h1,h2,h3⟩:=key len (Nat.le_refl _)
  have hfit:off+len*tsz e≤cs.toList.length:=by
   rcases Nat.eq_zero_or_pos len with h0|h0
   ·subst h0;rw[Array.length_toList];omega
   ·obtain⟨_,_,_,_,_,h4⟩:=each (len-1) (by omega)
    rwa[Nat.sub_add_cancel h0]at h4
  refine⟨xs,⟨_,rfl,piece cs.toList off (len*tsz e),?_,h2⟩,?_⟩
  ·right
   refine⟨blk,off,cap,cs.toList,R,fz,?_,by rw[h1];exact hlc,by simpa[znM]using hb,?_,?_⟩
   ·rw[h1]
   ·rw[h1];show _+_*(rpD e).sz≤_;rw[zfM];exact hfit
   ·rw[h1];show piece _ _ (_*(rpD e).sz)=_;rw[zfM]
  ·rw[List.take_of_length_le (by omega)]at h3
   show(List.map (dsz e) xs).sum+1≤_
   simp only[Rows.uptoBulk]
   omega
theorem ydE:∀(n:Nat) (T:TypeId) (t:Ty),tyOk P n T t=true→∀(fuel:Nat) (cs:LV) (d:DataW H) (ps:List MemPlace),DataW.trod enc P W 0 (fun _=>true) true fuel T cs=some (d,ps)→∃x:den t,rep t (znM W) cs x∧dsz t x≤Rows.uptoBulk d
 |0,_,_,h,_,_,_,_,_=>by cases h
 |n+1,T,t,h,fuel,cs,d,ps,hd=>by
  unfold tyOk at h
  split at h
  ·rename_i k k' hu
   obtain⟨hk,_⟩:=Option.isSome_iff_exists.1 h
   obtain rfl:=hk.down
   obtain⟨m,rfl,he,hw⟩:=DataW.trod_int hu hd
   cases he
   exact⟨ofI _ m,(by show [Value.int _ m]=[.int _ (toI _ (ofI _ m))];rw[xcQ hw]),Nat.le_refl 1⟩
  ·rename_i hu
   obtain⟨b,rfl,he⟩:=DataW.trod_bool hu hd
   cases he
   exact⟨b,rfl,Nat.le_refl 1⟩
  ·rename_i hu
   obtain⟨s,rfl,he,_⟩:=DataW.trod_string hu hd
   cases he
   exact⟨s.data.toList,(by show [Value.string s]=[str s.data.toList];simp[str]),Nat.le_refl _⟩
  ·rename_i E e hu
   rw[Bool.and_eq_true,Bool.and_eq_true]at h
   obtain⟨h1,h2,h3⟩:=h
   exact sl_of hu (Nat.eq_of_beq_eq_true h2) (by rw[zgC]at h3;simpa using h3) (fun m cs d ps hd=>ydE n E e h1 m cs d ps hd) hd
  ·rename_i fs hu
   rw[Bool.and_eq_true,Bool.and_eq_true]at h
   obtain⟨⟨h1,_⟩,h2⟩:=h
   have h1:=Nat.eq_of_beq_eq_true h1
   obtain⟨xs,fuel,rfl,he,hl,hxl,hm⟩:=DataW.trod_struct hu hd
   cases he
   obtain⟨x,hx,hb⟩:=yfA (S:=znM W) (fuel:=fuel) (fun T' t' hq cs d ps=>ydE n T' t' hq fuel cs d ps) fs.toList 0 _ xs h2 (by rw[hl,h1];omega) (ywK (by simp[hxl]) fun i f y hf hy=>(hm i f (by simpa using hf)).trans hy)
   exact⟨x,by simpa using hx,by simp only[Rows.uptoBulk];omega⟩
  ·cases h
variable {b0:Nat}{T E:TypeId}{v:Value}
theorem ysW{n:Nat}{e:Ty}(hu:P.underlying T=some (.slice E))(he:tyOk P n E e=true)(hc:P.cellsOf E=tsz e)(hz:0<tsz e)(h:Value.okWide P W .any b0 T v){d:DataW H}{ps:List MemPlace}(hd:DataW.Trod enc P W 0 (fun _=>true) true T v d ps):
  ∃xs:List (den e),@RdS (den e) (rpD e) (znM W) v xs∧dsz (.sl e) xs≤Rows.uptoBulk d:=by
 obtain⟨fuel,hf⟩:=hd
 have hv:=ok_slice hu h
 have hcells:v.cells.toList=[v]:=by
  rcases hv with rfl|⟨a,len,cap,rfl⟩<;>rfl
 rw[hcells]at hf
 rcases DataW.trod_slice hu hf with⟨h1,h2⟩|⟨a,len,cap,elems,rest,m,rfl,h1,h2,_,hlc,_,hel,hget,_,_⟩
 ·simp only[List.cons.injEq,and_true]at h1
  subst h1
  cases h2
  exact⟨[],⟨[],.inl ⟨⟨none,rfl⟩,rfl,rfl⟩,rfl⟩,Nat.le_refl _⟩
 ·simp only[List.cons.injEq,and_true]at h1
  subst h1
  cases h2
  obtain⟨hsp,cs,R,fz,hb,ho⟩:=ytX hu h
  obtain⟨blk,off,spot⟩:=a
  dsimp only at hsp hb ho
  subst hsp
  have ad:∀j,(⟨blk,off,none⟩:Addr).add j=⟨blk,off+j,none⟩:=fun j=>by simp[Addr.add]
  have each:∀i,i<len→∃y x,elems[i]? = some y∧rep e (znM W) (piece cs.toList (off+i*tsz e) (tsz e)) x∧dsz e x≤Rows.uptoBulk y.1∧off+(i+1)*tsz e≤cs.toList.length:=fun i hi=>by
   have hg:=hget i hi
   obtain⟨y,hy⟩:∃y,elems[i]? = some y:=⟨_,List.getElem?_eq_getElem (by omega)⟩
   rw[hy]at hg
   obtain⟨us,hus,hg⟩:=Option.bind_eq_some_iff.1 hg
   obtain⟨_,hul,huc⟩:=World.cells?_some hus
   obtain⟨x,hx,hdx⟩:=ydE n E e he m us y.1 y.2 hg
   rw[hc,ad]at huc
   rw[hc]at hul
   have hcell:∀j,j<tsz e→cs.toList[off+i*tsz e+j]? = us[j]?:=fun j hj=>by
    have:=huc j hj
    rw[show(⟨blk,off+i*tsz e,none⟩:Addr).add j=⟨blk,off+i*tsz e+j,none⟩ by simp[Addr.add]]at this
    simp only[World.cell?,hb,Option.isSome_none,if_neg (show ¬(false=true) by decide)]at this
    simpa using this
   have hlen:off+(i+1)*tsz e≤cs.toList.length:=by
    have h1:=hcell (tsz e-1) (by omega)
    rw[List.getElem?_eq_getElem (by omega:tsz e-1<us.length)]at h1
    have:=(List.getElem?_eq_some_iff.1 h1).1
    rw[Nat.add_mul];omega
   refine⟨y,x,hy,?_,hdx,hlen⟩
   have:piece cs.toList (off+i*tsz e) (tsz e)=us:=by
    apply List.ext_getElem?
    intro j
    rw[zaM,List.getElem?_take]
    by_cases hj:j<tsz e
    ·rw[if_pos hj,List.getElem?_drop];exact hcell j hj
    ·rw[if_neg hj,List.getElem?_eq_none (by omega)]
   rw[this];exact hx
  have key:∀k,k≤len→∃xs:List (den e),xs.length=k∧@RL (den e) (rpD e) (znM W) (piece cs.toList off (k*tsz e)) xs∧(List.map (dsz e) xs).sum≤Rows.uptoBulkAll ((elems.take k).map (·.1)):=by
   intro k
   induction k with
   |zero=>intro _;exact⟨[],rfl,by simp[piece,RL],Nat.zero_le _⟩
   |succ k ih=>
    intro hk
    obtain⟨xs,h1,h2,h3⟩:=ih (by omega)
    obtain⟨y,x,g1,g2,g3,_⟩:=each k (by omega)
    refine⟨xs++[x],by simp[h1],?_,?_⟩
    ·have e2:piece cs.toList off ((k+1)*tsz e)=piece cs.toList off (k*tsz e)++piece cs.toList (off+k*tsz e) (tsz e):=by
      rw[zaM,zaM,zaM,Nat.add_mul,Nat.one_mul,List.take_add,List.drop_drop]
     rw[e2]
     exact yrF h2 g2
    ·rw[List.take_add_one,g1]
     simp only[Option.toList_some,List.map_append,List.map_cons,List.map_nil,List.sum_append,List.sum_cons,List.sum_nil,yiX,Rows.uptoBulkAll]
     omega
  obtain⟨xs,h1,h2,h3⟩:=key len (Nat.le_refl _)
  have hfit:off+len*tsz e≤cs.toList.length:=by
   rcases Nat.eq_zero_or_pos len with h0|h0
   ·subst h0;rw[Array.length_toList];omega
   ·obtain⟨_,_,_,_,_,h4⟩:=each (len-1) (by omega)
    rwa[Nat.sub_add_cancel h0]at h4
  refine⟨xs,⟨piece cs.toList off (len*tsz e),?_,h2⟩,?_⟩
  ·right
   refine⟨blk,off,cap,cs.toList,R,fz,?_,by rw[h1];exact hlc,by simpa[znM]using hb,?_,?_⟩
   ·rw[h1]
   ·rw[h1];show _+_*(rpD e).sz≤_;rw[zfM];exact hfit
   ·rw[h1];show piece _ _ (_*(rpD e).sz)=_;rw[zfM]
  ·rw[List.take_of_length_le (by omega)]at h3
   show(List.map (dsz e) xs).sum+1≤_
   simp only[Rows.uptoBulk]
   omega
def xeL(P:Program)(T:TypeId)(t:Ty):Bool:=match P.underlying T,t with
 |some (.slice E),.sl e=>tyOk P 8 E e&&(Nat.beq (P.cellsOf E) (tsz e)&&Nat.blt 0 (tsz e))
 |_,t=>tyOk P 8 T t
theorem argD_ok{t:Ty}(ha:xeL P T t=true)(h:Value.okWide P W .any b0 T v){d:DataW H}{ps:List MemPlace}(hd:DataW.Trod enc P W 0 (fun _=>true) true T v d ps):
  ∃x:den t,rep1 t (znM W) v x∧dsz t x≤Rows.uptoBulk d:=by
 unfold xeL at ha
 split at ha
 ·rename_i E e hu
  rw[Bool.and_eq_true,Bool.and_eq_true]at ha
  obtain⟨h1,h2,h3⟩:=ha
  obtain⟨xs,g1,g2⟩:=ysW hu h1 (Nat.eq_of_beq_eq_true h2) (by rw[zgC]at h3;simpa using h3) h hd
  exact⟨xs,⟨v,rfl,g1⟩,g2⟩
 ·obtain⟨fuel,hf⟩:=hd
  obtain⟨x,hx,hb⟩:=ydE 8 T _ ha fuel _ _ _ hf
  refine⟨x,?_,hb⟩
  unfold rep1
  unfold tyOk at ha
  split at ha
  ·rename_i hu
   have hv:v.cells.toList=[v]:=by
    simp only[Value.okWide,Cell.okWide,Cell.ok]at h
    cases v<;>simp_all<;>rfl
   rw[hv]at hx
   rw[if_pos (show one (.i _)=true from rfl)];exact hx
  ·rename_i hu
   have hv:v.cells.toList=[v]:=by
    simp only[Value.okWide,Cell.okWide,Cell.ok]at h
    cases v<;>simp_all<;>rfl
   rw[hv]at hx
   rw[if_pos (show one .b=true from rfl)];exact hx
  ·rename_i hu
   have hv:v.cells.toList=[v]:=by
    simp only[Value.okWide,Cell.okWide,Cell.ok]at h
    cases v<;>simp_all<;>rfl
   rw[hv]at hx
   rw[if_pos (show one .s=true from rfl)];exact hx
  ·rename_i hu hno
   exact(hno _ _ hu rfl).elim
  ·rename_i fs hu _
   rw[Bool.and_eq_true,Bool.and_eq_true]at ha
   simp only[Value.okWide,hu]at h
   obtain⟨cs,rfl,_,_⟩:=h
   rw[if_neg (by simpa using ha.1.2)]
   exact⟨cs.toList,by simp,hx⟩
  ·cases ha
def posT:Ty→Bool
 |.un=>false
 |.pr a c=>posT a||posT c
 |_=>true
theorem ygY:∀{e:Ty},posT e=true→∀x:den e,1≤dsz e x
 |.i _,_,_=>Nat.le_refl 1
 |.b,_,_=>Nat.le_refl 1
 |.s,_,_=>Nat.le_add_left 1 _
 |.er,_,_=>Nat.le_refl 1
 |.sl _,_,_=>Nat.le_add_left 1 _
 |.mp _ _,_,_=>Nat.le_refl 1
 |.pr a c,h,x=>by
  show 1≤dsz a x.1+dsz c x.2
  have h:(posT a||posT c)=true:=h
  rw[Bool.or_eq_true]at h
  rcases h with h|h
  ·have:=ygY h x.1;omega
  ·have:=ygY h x.2;omega
theorem yrE{e:Ty}(he:posT e=true):∀xs:List (den e),xs.length+1≤dsz (.sl e) xs
 |[]=>Nat.le_refl 1
 |x::xs=>by
  have h1:=ygY he x
  have h2:xs.length+1≤(List.map (dsz e) xs).sum+1:=yrE he xs
  show(x::xs).length+1≤(List.map (dsz e) (x::xs)).sum+1
  simp only[List.length_cons,List.map_cons,List.sum_cons]
  omega
theorem xfC{t:Ty}{S:Mem}{E:List EI}{v:Value}{x:den t}(h:rep1 t S v x):VR S E (svOf t x) v:=yqZ (l:=[t]) h
end
end Go.Proofs.YtopanhneegpgcaaGreatDoor.Am
namespace Go.Proofs.YtopanhneegpgcaaGreatDoor.Am
open Go Go.RowKit
theorem ywF{e:Ty}{x:den e}:∀{xs:List (den e)},x∈xs→dsz e x≤dsz (.sl e) xs
 |y::ys,h=>by
  show _≤(List.map (dsz e) (y::ys)).sum+1
  simp only[List.map_cons,List.sum_cons]
  rcases List.mem_cons.1 h with rfl|h
  ·omega
  ·have:dsz e x≤(List.map (dsz e) ys).sum+1:=ywF h
   omega
theorem yvP{e:Ty}(x:den e)(l:List (den e)):dsz (.sl e) (x::l)=dsz e x+dsz (.sl e) l:=by
 show(List.map (dsz e) (x::l)).sum+1=dsz e x+((List.map (dsz e) l).sum+1)
 rw[List.map_cons,List.sum_cons];omega
theorem ygP:∀(l:List L8),(∀t∈l,t.length≤1048576)→(zdZ l).length+8≤8*dsz (.sl .s) l
 |[],_=>by decide
 |t::l,h=>by
  have ih:=ygP l fun x hx=>h x (List.mem_cons_of_mem _ hx)
  have ht:=h t List.mem_cons_self
  have hd:=zsW 7 t.length (by decide) (by omega)
  have e1:dsz (.sl .s) (t::l:List L8)=t.length+1+dsz (.sl .s) l:=yvP (e:=.s) t l
  have e2:(zdZ (t::l)).length=(Lib.decDigits t.length).length+1+t.length+(zdZ l).length:=by
   show(Lib.decDigits t.length++58::(t++zdZ l)).length=_
   simp only[List.length_append,List.length_cons];omega
  rw[e1,e2];omega
theorem xfA{l:List L8}{k:Nat}(hk:dsz (.sl .s) l≤k):(∀t∈l,t.length≤k)∧l.length≤k:=by
 have h1:l.length+1≤dsz (.sl .s) l:=yrE (e:=.s) rfl l
 refine⟨fun t ht=>?_,by omega⟩
 have h2:dsz .s t≤dsz (.sl .s) l:=ywF (e:=.s) ht
 have h3:dsz .s t=t.length+1:=rfl
 omega
theorem ymH(v0:L8)(v1:List L8)(hk:dsz .s v0+dsz (.sl .s) v1≤1048576):zcK zaH v0 v1=some true:=by
 have h3:dsz .s v0=v0.length+1:=rfl
 have hs:=xfA (l:=v1) (k:=1048576) (by omega)
 have hf:=ygP v1 hs.1
 have h0:v0.length≤1048576:=by omega
 unfold zcK
 rw[ynS h0,zaA,yqO h0,zaA]
 have hj:zcG zaH v0=some true:=by
  unfold zcG
  rw[yzG,zaA,yiU h0,zaA,show(nmB v0==nmB v0)=true from beq_self_eq_true _]
  show Option.bind (zbJ zaH v0) _=_
  rw[xcB,zaA,ytT h0,zaA,show(txB v0==txB v0)=true from beq_self_eq_true _]
  show Option.bind (zbU zaH v0) _=_
  rw[xcX,zaA,yoA h0,zaA,show(scB v0==scB v0)=true from beq_self_eq_true _]
  show Option.bind (zaV zaH v0) _=_
  rw[xbG,zaA,yuB h0,zaA,show(prB v0==prB v0)=true from beq_self_eq_true _]
 rw[hj,zaA,cond_true,show((txtP v0).2==(txtP v0).2)=true from beq_self_eq_true _,cond_true]
 have hl:(txtP v0).1.length≤1048576:=by
  unfold txtP
  cases ht:txtF v0.length v0 with
  |none=>exact Nat.zero_le _
  |some l=>exact Nat.le_trans (yyJ ht).1 h0
 rw[yxS hl,zaA,cond_true,show zaH.form v1=some (zdZ v1)from yyU v1 (by omega) (by omega),zaA,ytR v1 (by omega) hs.2,zaA,show(zdZ v1==zdZ v1)=true from beq_self_eq_true _]
 rfl
end Go.Proofs.YtopanhneegpgcaaGreatDoor.Am
namespace Go.Proofs.YtopanhneegpgcaaGreatDoor
open Go Go.RowKit
section
open Go Go.RowKit Go.ChangeShapes Go.WideShapes Go.ChangeAt
attribute [local irreducible] Value.okWide
theorem yzN{W:World}(h:W.ShapedOpen Tryz.prog)(hL:laidMet Tryz.prog Rows.peopleTextsUptoRow.laid W):∃G:List (Nat×Obj),Am.zqN G∧Am.GS G (znM W):=by
 obtain⟨m,hm⟩:=Tryz.laysM219.s1_3 W h
 have hm:W.cell? ⟨0,0,none⟩=some (.int .i64 m):=hm
 have h0:∃c E fz,W.heap[0]? = some (.cells c E fz)∧c[0]? = some (.int .i64 m):=by
  unfold World.cell? at hm
  split at hm
  ·rename_i c E fz hb
   simp only[Option.isSome_none,if_neg (show ¬(false=true) by decide)]at hm
   exact⟨c,E,fz,hb,hm⟩
  ·cases hm
 obtain⟨c,E,fz,h1,h2⟩:=h0
 have hT := Lib.tabIs_of_head (P := Tryz.prog) (k := .u64) (zs := Lib.pow10Tab) (g := 3) (t := 298) (e := 249) (n := 20) (by kernel_rfl) (by kernel_rfl) (by kernel_rfl) (by kernel_rfl) (by kernel_rfl) (by kernel_rfl) (show laidMet Tryz.prog (("internal/strconv.uint64pow10", Lib.tabData .u64 Lib.pow10Tab) :: _) W from hL.tail.tail)
 have h3:∃T f,W.heap[3]? = some (.cells yrX.toArray T f):=by
  unfold Lib.TabIs World.var? at hT
  rw [show Tryz.prog.globalNamed "internal/strconv.uint64pow10" = some 3 by kernel_rfl, Option.bind_some] at hT
  split at hT
  ·rename_i cs T f hb
   cases hT
   exact⟨T,f,hb⟩
  ·cases hT
 obtain⟨T,f,h4⟩:=h3
 refine⟨[(0,.cells c E fz),(3,.cells yrX.toArray T f)],⟨fun S hS=>⟨⟨c,E,fz,m,hS _ (List.mem_cons_self ..),h2⟩,T,f,hS _ (List.mem_cons_of_mem _ (List.mem_cons_self ..))⟩⟩,fun p hp=>?_⟩
 rcases List.mem_cons.1 hp with rfl|hp
 ·exact h1
 ·rcases List.mem_cons.1 hp with rfl|hp
  ·exact h4
  ·cases hp
theorem ztL(H:Type)(enc:TypeId×Value→H)(W:World)(base:Nat)(args:Array Value)(ds gs:List (DataW H))(before:List MemPlace)
  (hval:∀(j:Nat) t v,Tryz.f3.params[j]? = some t→args[j]? = some v→Value.okWide Tryz.prog W .any base t v)
  (hW:DataW.Whole enc Tryz.prog Tryz.f3.params.toList Rows.peopleTextsSpec.vars false W args.toList ds gs before) (hk:Rows.uptoSmall H (ds++gs)=true) (hsh:W.ShapedOpen Tryz.prog) (hL:laidMet Tryz.prog Rows.peopleTextsUptoRow.laid W):
  Calls Tryz.prog 3 args W fun e W'=>∃v,e = .returned v∧Rows.peopleTextsSpec.post enc Tryz.prog Tryz.f3 false true false false W args v W':=by
 have hW':=hW
 obtain⟨p,q,hA0,hV,rfl,_,_⟩:=hW
 have hA:DataW.TrodAll enc Tryz.prog W 0 (fun _=>true) true Tryz.f3.params.toList args.toList ds p:=hA0
 rw[Tryz.params3]at hA hval
 obtain⟨v0,vs0,d0,ds0,p0,q0,hargs,rfl,rfl,t0,r0⟩:=trodAll_cons hA
 obtain⟨v1,vs1,d1,ds1,p1,q1,rfl,rfl,rfl,t1,r1⟩:=trodAll_cons r0
 obtain⟨rfl,rfl,rfl⟩:=trodAll_nil r1
 obtain rfl:args = #[v0,v1]:=by cases args;simp_all
 obtain⟨rfl,rfl⟩:=trodVars_none hV
 obtain⟨x0,e0,b0⟩:=Am.argD_ok (t:=.s) (show Am.xeL Tryz.prog 9 .s=true by kernel_rfl) (hval 0 9 v0 rfl rfl) t0
 obtain⟨x1,e1,b1⟩:=Am.argD_ok (t:=(.sl .s)) (show Am.xeL Tryz.prog 22 (.sl .s)=true by kernel_rfl) (hval 1 22 v1 rfl rfl) t1
 simp only[List.append_nil,Rows.uptoSmall,decide_eq_true_eq,Rows.uptoBulkAll]at hk
 obtain⟨G,hG,hGS⟩:=yzN hsh hL
 refine((Am.zyC (tabs:=G) (o:=Am.zaH)).ok (znM W) W [v0,v1] (x0,x1) true hGS (yrM W) (.cons (Am.xfC e0) (.cons (Am.xfC e1) .nil)) (Am.ymH x0 x1 (by omega))).mono fun e W' ⟨hx,v,he,hr,_⟩=>?_
 have hr:[v]=[Value.bool true]:=hr
 rw[(List.cons.inj hr).1]at he
 subst he
 refine⟨_,rfl,ysT (B:=4) (n:=2) (by kernel_rfl) rfl (by kernel_rfl) (by kernel_rfl) (by kernel_rfl) (by kernel_rfl) (fun ds hds=>?_) hW' hx⟩
 match ds,hds with
 |[x0,x1],_=>exact⟨rfl,rfl,rfl⟩
theorem yuN:ownKnob Tryz.prog.godebug=none:=by kernel_rfl
def ybQ:DataW Unit→LV
 |.lit (.int k n)=>[.int k n]
 |.agg l=>go l
 |_=>[]
where go:List (DataW Unit)→LV
 |[]=>[]
 |d::l=>ybQ d++go l
def zoQ(l:LV):Obj→Obj
 |.cells _ t frozen=>.cells l.toArray t frozen
 |o=>o
noncomputable def yaM(os:Os):World:={ World.holding Tryz.prog os ⟨#[],#[],[]⟩with heap:=(((((((((World.holding Tryz.prog os ⟨#[],#[],[]⟩).heap).modify 6 (zoQ (ybQ Rows.laid_math_bits_deBruijn32tab))).modify 7 (zoQ (ybQ Rows.laid_math_bits_deBruijn64tab))).modify 3 (zoQ (ybQ Rows.laid_internal_strconv_uint64pow10))).modify 5 (zoQ (ybQ Rows.laid_unicode_utf8_acceptRanges))).modify 2 (zoQ [.iface 312 (.pointer (some ⟨(World.holding Tryz.prog os ⟨#[],#[],[]⟩).heap.size+0,0,none⟩))])).modify 1 (zoQ [.iface 312 (.pointer (some ⟨(World.holding Tryz.prog os ⟨#[],#[],[]⟩).heap.size+1,0,none⟩))])).modify 4 (zoQ (ybQ Go.Pinned.utf8First))) ++ #[.cells #[.string ⟨#[118,97,108,117,101,32,111,117,116,32,111,102,32,114,97,110,103,101]⟩] 314,.cells #[.string ⟨#[105,110,118,97,108,105,100,32,115,121,110,116,97,120]⟩] 314] }
theorem ztE(os:Os):laidMet Tryz.prog Rows.peopleTextsUptoRow.laid ((yaM os).forCall (fun _ _=>0) ⟨#[],#[.string ⟨#[]⟩,.slice none 0 0],[]⟩).memory:=
 laidMet_of_run' 8 (by kernel_rfl) (by kernel_rfl)
theorem zwG(os:Os){H:Type}(enc:TypeId×Value→H):∃places,DataW.whole enc Tryz.prog ((yaM os).forCall (fun _ _=>0) ⟨#[],#[.string ⟨#[]⟩,.slice none 0 0],[]⟩).memory Tryz.f3.params.toList Rows.peopleTextsSpec.vars false (#[.string ⟨#[]⟩,.slice none 0 0]:Array Value).toList 8=some ([.lit (.string []),.nil],[],places):=
 ⟨[],by kernel_rfl⟩
set_option maxRecDepth 100000 in
theorem zvM(os:Os)(started:os.Started)(H:Type)(enc:TypeId×Value→H)(F:Stop.Interp):
  ReturnsInHanded {} Tryz.checked os 3 .any ((Rows.OpenSpec.upto Rows.peopleTextsSpec).preRow enc Tryz.prog Tryz.f3 Rows.peopleTextsUptoRow.domain false Rows.peopleTextsUptoRow.laid) (((Rows.OpenSpec.upto Rows.peopleTextsSpec).at F).post enc Tryz.prog Tryz.f3 false true false false):=by
 obtain⟨places,hx⟩:=zwG os enc
 refine returnsInHanded_of_row (C:=Tryz.checked) (s:=Rows.OpenSpec.upto Rows.peopleTextsSpec) yuN started (by kernel_rfl) Tryz.func3
  (witness_row_at (enc:=enc) (C:=Tryz.checked) false (yaM os) #[.string ⟨#[]⟩,.slice none 0 0] rfl (by kernel_rfl) (by kernel_rfl) (by kernel_rfl)
   (OpenSpec.preRow_of_cond 8 hx (by kernel_rfl) (fun k hk=>by cases hk;kernel_rfl) (by kernel_rfl) (ztE os))) ?_
 intro W base args ds gs before hval hW _ hcond _ hL hsh _
 exact ztL H enc W base args ds gs before hval hW (hcond _ rfl) hsh hL
set_option maxRecDepth 100000 in
set_option maxHeartbeats 40000000 in
theorem zwH:joinedFacts Tryz.pinned.checked.prog 3 Tryz.f3 (Rows.OpenSpec.upto Rows.peopleTextsSpec).bare Rows.peopleTextsUptoRow=true:=by
 simp only[joinedFacts,Bool.and_eq_true]
 repeat' refine And.intro ?_ ?_
 all_goals (as_aux_lemma=>kernel_rfl)
theorem zzB:Rows.PeopleTextsUptoSaid:=
 OpenClaim.holds_of_cond 3 Tryz.f3 rfl rfl rfl rfl rfl rfl rfl ⟨rfl,rfl,rfl,rfl,rfl⟩ rfl rfl rfl rfl rfl (by kernel_rfl) Tryz.func3 zwH
  (of_decide_eq_true (by kernel_rfl)) (by unfold Func.isWrapper;first|(rw[if_pos (by decide +kernel)];kernel_rfl)|(rw[if_neg (by decide +kernel)];exact⟨rfl,rfl⟩))
  (fun os started H enc _ F=>by rw[OpenClaim.pre_eq_preRow];exact zvM os started H enc F)
theorem zwM (f : FuncId) (fn : Func) (hf : Tryz.pinned.checked.prog.funcNamed "seneschal/seneschallaw12.PeopleTexts" = some f) (hfn : Tryz.pinned.checked.prog.funcs[f]? = some fn) :
  true=Tryz.pinned.checked.prog.looks []∧∀(j:Nat) t,fn.params[j]? = some t→Tryz.pinned.checked.prog.wantsStandIn t=false:=by
 obtain rfl : f = 3 := osi ((show Tryz.prog.funcNamed "seneschal/seneschallaw12.PeopleTexts" = some 3 by kernel_rfl).symm.trans hf) |>.symm
 obtain rfl:fn=Tryz.f3:=(osi (Tryz.func3.symm.trans hfn)).symm
 refine⟨by kernel_rfl,fun j t ht=>?_⟩
 rw[Tryz.params3]at ht
 have hm:t∈[9,22]:=by simpa using Array.mem_of_getElem? ht
 have hall:([9,22].all fun u=>!Tryz.prog.wantsStandIn u)=true:=by kernel_rfl
 exact(show Tryz.prog.wantsStandIn t=false by simpa using List.all_eq_true.1 hall t hm)
theorem peopleTexts_said : Rows.PeopleTextsUptoCardSaid :=
 Claim7.holds_tied_plain_at .later [] _ _ _ _ zzB (fun _ h=>by cases h) (by as_aux_lemma=>kernel_rfl) (fun _ h=>by cases h) peopleTextsUpto_row_tie rfl ⟨rfl,rfl⟩ (by as_aux_lemma=>kernel_rfl) rfl zwM (by as_aux_lemma=>kernel_rfl)
end
end Go.Proofs.YtopanhneegpgcaaGreatDoor
