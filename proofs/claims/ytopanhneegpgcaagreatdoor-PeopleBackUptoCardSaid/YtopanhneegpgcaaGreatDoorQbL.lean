/- Parts of one proof. Conditions: as each theorem says. -/
import Derived.KernelRfl
import Derived.Test.YtopanhneegpgcaaGreatDoorQbK
namespace Go.Proofs.YtopanhneegpgcaaGreatDoor.Am
open Go Go.RowKit
def τWkF:TE:=[(3,⟨.int .i64,1,[.v (.i .i64) (show Int from 0)],(.i .i64),8⟩),
 (4,⟨.b,1,[.v .b (show Bool from false)],.b,1⟩),
 (9,⟨.s,1,[.v .s (show Bs from [])],.s,16⟩),
 (22,⟨.sl 9,1,[.nils],(.sl .s),24⟩),
 (25,⟨.fn,1,[.nilf],.un,8⟩),
 (31,⟨.sl 33,1,[.nils],(.sl (.pr .s .s)),24⟩),
 (33,⟨.st [(9,0),(9,1)],2,[.v .s (show Bs from []),.v .s (show Bs from [])],(.pr .s .s),32⟩),
 (34,⟨.pt 128,1,[.nilp],.un,8⟩),
 (49,⟨.st [(9,0),(22,1)],2,[.v .s (show Bs from []),.nils],(.pr .s (.sl .s)),40⟩),
 (51,⟨.st [(9,0),(9,1),(22,2),(22,3),(4,4),(4,5),(4,6),(4,7)],8,[.v .s (show Bs from []),.v .s (show Bs from []),.nils,.nils,.v .b (show Bool from false),.v .b (show Bool from false),.v .b (show Bool from false),.v .b (show Bool from false)],(.pr .s (.pr .s (.pr (.sl .s) (.pr (.sl .s) (.pr .b (.pr .b (.pr .b .b))))))),88⟩),
 (54,⟨.sl 57,1,[.nils],(.sl (.pr .s (.pr (.sl .s) (.pr (.sl .s) (.pr (.sl .s) (.i .i64)))))),24⟩),
 (57,⟨.st [(9,0),(22,1),(22,2),(22,3),(3,4)],5,[.v .s (show Bs from []),.nils,.nils,.nils,.v (.i .i64) (show Int from 0)],(.pr .s (.pr (.sl .s) (.pr (.sl .s) (.pr (.sl .s) (.i .i64))))),96⟩),
 (64,⟨.sl 51,1,[.nils],(.sl (.pr .s (.pr .s (.pr (.sl .s) (.pr (.sl .s) (.pr .b (.pr .b (.pr .b .b)))))))),24⟩),
 (67,⟨.sl 77,1,[.nils],(.sl (.pr .s (.pr .s (.pr .b (.i .i64))))),24⟩),
 (69,⟨.sl 49,1,[.nils],(.sl (.pr .s (.sl .s))),24⟩),
 (72,⟨.sl 75,1,[.nils],(.sl (.pr .s .s)),24⟩),
 (75,⟨.st [(9,0),(9,1)],2,[.v .s (show Bs from []),.v .s (show Bs from [])],(.pr .s .s),32⟩),
 (77,⟨.st [(9,0),(9,1),(4,2),(3,3)],4,[.v .s (show Bs from []),.v .s (show Bs from []),.v .b (show Bool from false),.v (.i .i64) (show Int from 0)],(.pr .s (.pr .s (.pr .b (.i .i64)))),48⟩),
 (106,⟨.ifc,1,[.v .er (show Bool from false)],.er,16⟩),
 (122,⟨.map 9 77,1,[.nilm],(.mp .s (.pr .s (.pr .s (.pr .b (.i .i64))))),8⟩),
 (123,⟨.map 9 133,1,[.nilm],(.mp .s (.pr (.pr (.sl .s) (.pr (.sl .s) (.sl .s))) (.i .i64))),8⟩),
 (124,⟨.map 9 49,1,[.nilm],(.mp .s (.pr .s (.sl .s))),8⟩),
 (125,⟨.map 9 51,1,[.nilm],(.mp .s (.pr .s (.pr .s (.pr (.sl .s) (.pr (.sl .s) (.pr .b (.pr .b (.pr .b .b)))))))),8⟩),
 (126,⟨.map 75 157,1,[.nilm],(.mp (.pr .s .s) .un),8⟩),
 (128,⟨.st [(122,0),(123,1),(124,2),(125,3),(126,4)],5,[.nilm,.nilm,.nilm,.nilm,.nilm],(.pr (.mp .s (.pr .s (.pr .s (.pr .b (.i .i64))))) (.pr (.mp .s (.pr (.pr (.sl .s) (.pr (.sl .s) (.sl .s))) (.i .i64))) (.pr (.mp .s (.pr .s (.sl .s))) (.pr (.mp .s (.pr .s (.pr .s (.pr (.sl .s) (.pr (.sl .s) (.pr .b (.pr .b (.pr .b .b)))))))) (.mp (.pr .s .s) .un))))),40⟩),
 (131,⟨.ar 3 22,3,[.nils,.nils,.nils],(.pr (.sl .s) (.pr (.sl .s) (.sl .s))),72⟩),
 (133,⟨.st [(131,0),(3,3)],4,[.nils,.nils,.nils,.v (.i .i64) (show Int from 0)],(.pr (.pr (.sl .s) (.pr (.sl .s) (.sl .s))) (.i .i64)),80⟩),
 (157,⟨.st [],0,[],.un,0⟩),
 (160,⟨.map 9 157,1,[.nilm],(.mp .s .un),8⟩),
 (183,⟨.st [(22,0),(4,1)],2,[.nils,.v .b (show Bool from false)],(.pr (.sl .s) .b),32⟩),
 (187,⟨.st [(3,0),(25,1)],2,[.v (.i .i64) (show Int from 0),.nilf],.un,16⟩),
 (188,⟨.ar 3 187,6,[.v (.i .i64) (show Int from 0),.nilf,.v (.i .i64) (show Int from 0),.nilf,.v (.i .i64) (show Int from 0),.nilf],.un,48⟩),
 (197,⟨.sl 22,1,[.nils],(.sl (.sl .s)),24⟩),
 (201,⟨.int .u64,1,[.v (.i .u64) (show UInt64 from 0)],(.i .u64),8⟩),
 (237,⟨.map 9 22,1,[.nilm],(.mp .s (.sl .s)),8⟩)]
theorem τ_okWkF:TEok Tryz.prog τWkF:=yvR (by kernel_rfl) (by kernel_rfl)
theorem ydG:Tryz.prog.follows .mixedOrders=true:=by kernel_rfl
theorem zbC {G : List (Nat × Obj)} {o : Ops} [zrE G] [zoV G o] {Γ : CT} {η : HT} {f : FuncId} {fn : Func} {c : SC} (hΓ : ∀ B, GB G B -> CTok Tryz.prog Γ B) (hf : Tryz.prog.funcs[f]? = some fn) (i : (fn.name == "runtime.NumGoroutine") = false := by kernel_rfl) (j : fn.body.isNone = false := by kernel_rfl) (l : Nat.ble c.I.sl.length fn.ntmps = true := by kernel_rfl) (r : Nat.beq fn.results.toList.length c.nr = true := by kernel_rfl) (e : fnS τWkF Γ η fn c.I c.outs = c.p := by kernel_rfl) : SCok Tryz.prog G f c := witO (G := G) (o := o) <| xeL ydG τ_okWkF hΓ hf (isFn hf i j) l r e
theorem zhS {G : List (Nat × Obj)} {o : Ops} [zrE G] [zoV G o] {Γ : CT} {η : HT} {f : FuncId} {fn : Func} {c : PC} (hΓ : ∀ B, GB G B -> CTok Tryz.prog Γ B) (hf : Tryz.prog.funcs[f]? = some fn) (i : (fn.name == "runtime.NumGoroutine") = false := by kernel_rfl) (j : fn.body.isNone = false := by kernel_rfl) (l : Nat.ble c.ash.length fn.ntmps = true := by kernel_rfl) (r : c.cl = false := by kernel_rfl) (e : fnP τWkF Γ η fn c.ash c.rts = c.p := by kernel_rfl) : PCok Tryz.prog G f c := witO (G := G) (o := o) <| xgV ydG τ_okWkF hΓ hf (isFn hf i j) l r e
abbrev ycN:Type:=(List Bs)×Bool
abbrev zdT:Type:=Bs×List Bs
abbrev qcV:Type:=List zdT
abbrev ycR:Ty:=.pr .s (.sl .s)
abbrev zwZ:Type:=Bs×Bs×Bool×Int
abbrev ykH:Ty:=.pr .s (.pr .s (.pr .b (.i .i64)))
abbrev zaI:Type:=Bs×zdT
abbrev qbW:Type:=List zaI
abbrev zaJ:Type:=Bs×zwZ
abbrev qbZ:Type:=List zaJ
abbrev zzO:Type:=((List Bs)×(List Bs)×List Bs)×Int
abbrev yvS:Ty:=.pr (.pr (.sl .s) (.pr (.sl .s) (.sl .s))) (.i .i64)
abbrev zaH:Type:=Bs×zzO
abbrev qbY:Type:=List zaH
abbrev yhW:Type:=Bs×(List Bs)×(List Bs)×(List Bs)×Int
abbrev yvF:Ty:=.pr .s (.pr (.sl .s) (.pr (.sl .s) (.pr (.sl .s) (.i .i64))))
abbrev zuI:Type:=Bs×Bs×(List Bs)×(List Bs)×Bool×Bool×Bool×Bool
abbrev ycA:Ty:=.pr .s (.pr .s (.pr (.sl .s) (.pr (.sl .s) (.pr .b (.pr .b (.pr .b .b))))))
abbrev zaK:Type:=Bs×zuI
abbrev qbV:Type:=List zaK
abbrev zbA:Type:=(List (Bs×zwZ))×(List (Bs×zzO))×(List (Bs×zdT))×(List (Bs×zuI))×List ((Bs×Bs)×Unit)
abbrev zaV:OSh:=.blk 128 [(.mpr 1),(.mpr 2),(.mpr 3),(.mpr 4),(.mpr 5)]
abbrev zkG:OSh:=.blk 128 [(.mpr 2),(.mpr 3),(.mpr 4),(.mpr 5),(.mpr 6)]
abbrev zwT:OSh:=.blk 133 [(.h (.sl .s)),(.h (.sl .s)),(.h (.sl .s)),hI]
abbrev yvA:OSh:=.blk 133 [.nils,.nils,.nils,hI]
abbrev yaD:OSh:=.blk 183 [(.h (.sl .s)),hB]
abbrev zyB:OSh:=.blk 34 [(.ptr 0 0)]
abbrev ztW:OSh:=.blk 34 [(.ptr 1 0)]
abbrev yfQ:OSh:=.blk 160 [(.mpr 1)]
abbrev ykT:OSh:=.blk 237 [(.mpr 1)]
abbrev xoA:OSh:=.blk 237 [(.mpr 7)]
abbrev xaH:OSh:=.mp false .s ykH
abbrev ybD:OSh:=.mp false .s yvS
abbrev xbV:OSh:=.mp false .s ycR
abbrev xiT:OSh:=.blk 31 [(.own 1)]
abbrev ywC:OSh:=.blk 31 [(.own 2)]
abbrev yrI:OSh:=.blk 31 [(.own 8)]
abbrev yiW:OSh:=.blk 31 [(.own 7)]
abbrev zaE:OSh:=.mp true .s ykH
abbrev zaF:OSh:=.mp true .s yvS
abbrev zaD:OSh:=.mp true .s ycR
abbrev zaC:OSh:=.mp true .s ycA
abbrev zmM:OSh:=.mp true .s .un
section
variable {tabs:List (Nat×Obj)}[zrE tabs]{o:Ops}[zoV tabs o]
def ziY(_o:Ops):Option (zbA):=
 some (([]:qbZ),([]:qbY),([]:qbW),([]:qbV),([]:List ((Bs×Bs)×Unit)))
def zrN(o:Ops):SC:=⟨⟨[],[]⟩,1,[(none,⟨[(0,(.ptr 0 0))],[zaV,zaE,zaF,zaD,zaC,qaV]⟩)],fun _=>ziY o⟩
theorem zvL:SCok Tryz.prog tabs 30 (zrN o):=zbC (o:=o) (η:=[]) (Γ:=⟨[],[],false,[]⟩) (ctok trivial trivial) Tryz.func30
def zkZ(o:Ops)(v0:Bs)(v1:Int)(v2:Bs):Option (Bool):=
 bif(v0 != ([]:Bs))then(bif decide ((v0.length:Int)<=v1)then((o.trim v0 v2).bind fun v3=>some (v3==([]:Bs)))else(some false))else(some false)
def zyL(o:Ops):PC:=⟨[hS,hI,hS],[.b],fun x=>zkZ o x.1 x.2.1 x.2.2,false⟩
theorem ydD:PCok Tryz.prog tabs 63 (zyL o):=zhS (o:=o) (η:=[]) (Γ:=⟨[(164,(ylV o))],[],false,[]⟩) (ctok ⟨(zoV.trim (G:=tabs)),trivial⟩ trivial) Tryz.func63
def zaO(o:Ops)(v0:Bs):Option (Bool):=
 (zkZ o v0 (24:Int) ([97,98,99,100,101,102,103,104,105,106,107,108,109,110,111,112,113,114,115,116,117,118,119,120,121,122,48,49,50,51,52,53,54,55,56,57,46,95,45]:Bs)).bind fun v1=>some v1
def zbE(o:Ops):PC:=⟨[hS],[.b],fun x=>zaO o x,false⟩
theorem zbK:PCok Tryz.prog tabs 13 (zbE o):=zhS (o:=o) (η:=[]) (Γ:=⟨[(63,(zyL o))],[],false,[]⟩) (ctok ⟨ydD,trivial⟩ trivial) Tryz.func13
def zjI(_o:Ops)(v0:Int):Option (Bool):=
 bif decide (v0<33)then(some true)else(some (decide (v0>126)))
def zwL(o:Ops):PC:=⟨[(.h (.i .i32))],[.b],fun x=>zjI o x,false⟩
theorem yeB:PCok Tryz.prog tabs 66 (zwL o):=zhS (o:=o) (η:=[]) (Γ:=⟨[],[],false,[]⟩) (ctok trivial trivial) Tryz.func66
def zgL(o:Ops)(v1:Bool)(v2:Bs)(v3:Int):Option ((Bs×Int)⊕(Int⊕Unit)):=
 bif decide (v3.toNat<v2.length)then((zjI o (nxR v2 v3.toNat)).bind fun v4=>bif(v4==v1)then some (.inr (.inl (v3.toNat:Int)))else some (.inl (v2,(nxP v2 v3.toNat:Int))))else some (.inr (.inr ()))
def zhG(o:Ops)(v0:Bs)(v1:Bool):Option (Int):=
 (iter (fun x=>zgL o v1 x.1 x.2) (v0,(0:Int))).bind fun v5=>match v5 with
 |.inl v6=>some v6
 |.inr _v7=>some (-1:Int)
def zrA(o:Ops):SC:=⟨⟨[(0,hS),(1,(.fn 66 [] [])),(2,hB)],[]⟩,1,[(none,⟨[(0,hI)],[]⟩)],fun x=>zhG o x.1 x.2⟩
theorem zzL:SCok Tryz.prog tabs 240 (zrA o):=zbC (o:=o) (η:=[(200002,.loop [] ⟨[(1,(.fn 66 [] [])),(10,(.ptr 0 0))],[.is]⟩ [2] [(some 1000000,⟨[(6,hI)],[]⟩),(some 0,⟨[],[]⟩)])]) (Γ:=⟨[(66,(zwL o))],[],false,[]⟩) (ctok ⟨yeB,trivial⟩ trivial) Tryz.func240
def zhN(o:Ops)(v0:Bs):Option (Int):=
 (zhG o v0 true).bind fun v1=>some v1
def zqZ(o:Ops):SC:=⟨⟨[(0,hS),(1,(.fn 66 [] []))],[]⟩,1,[(none,⟨[(0,hI)],[]⟩)],fun x=>zhN o x⟩
theorem zzJ:SCok Tryz.prog tabs 166 (zqZ o):=zbC (o:=o) (η:=[]) (Γ:=⟨[],[(240,(zrA o))],false,[]⟩) (ctok trivial ⟨zzL,trivial⟩) Tryz.func166
def zdH(o:Ops)(v0:Bs):Option (Bool):=
 (zhN o v0).bind fun v1=>some (decide (v1≥0))
def zmX(o:Ops):SC:=⟨⟨[(0,hS),(1,(.fn 66 [] []))],[]⟩,1,[(none,⟨[(0,hB)],[]⟩)],fun x=>zdH o x⟩
theorem zvQ:SCok Tryz.prog tabs 65 (zmX o):=zbC (o:=o) (η:=[]) (Γ:=⟨[],[(166,(zqZ o))],false,[]⟩) (ctok trivial ⟨zzJ,trivial⟩) Tryz.func65
def zcV(o:Ops)(v0:Bs):Option (Bool):=
 bif(v0 != ([]:Bs))then(bif decide ((v0.length:Int)<=128)then((zdH o v0).bind fun v1=>some (!v1))else(some false))else(some false)
def zkL(o:Ops):PC:=⟨[hS],[.b],fun x=>zcV o x,false⟩
theorem zpF:PCok Tryz.prog tabs 15 (zkL o):=zhS (o:=o) (η:=[]) (Γ:=⟨[],[(65,(zmX o))],false,[]⟩) (ctok trivial ⟨zvQ,trivial⟩) Tryz.func15
def zlK(o:Ops)(v0:Bs)(v1:Bs)(v2:qbZ)(v3:qbY)(v4:qbW)(v5:qbV)(v6:List ((Bs×Bs)×Unit)):Option ((Int×zbA)⊕zbA):=
 (zaO o v0).bind fun v7=>bif(!v7)then some (.inl ((120:Int),v2,v3,v4,v5,v6))else((zcV o v1).bind fun v8=>bif(!v8)then some (.inl ((120:Int),v2,v3,v4,v5,v6))else some (.inr (v2,v3,v4,v5,v6)))
def zcD(o:Ops)(v0:Bs)(v1:Bs)(v2:qbZ)(v3:qbY)(v4:qbW)(v5:qbV)(v6:List ((Bs×Bs)×Unit)):Option ((Int×zbA)):=
 (zlK o v0 v1 v2 v3 v4 v5 v6).bind fun v9=>match v9 with
 |.inl v10=>some v10
 |.inr v11=>(let _v12:zwZ:=zfA keqS v11.1 v0 (([]:Bs),([]:Bs),false,(0:Int))
 bif mhas keqS v11.1 v0 then some ((121:Int),v11)else(bif decide ((v11.1.length:Int)≥64)then some ((124:Int),v11)else(let v13:qbZ:=mset keqS kltS v11.1 v0 (v0,v1,true,(1:Int))
 some ((0:Int),v13,v11.2))))
def zgZ(o:Ops):SC:=⟨⟨[(0,(.ptr 0 0)),(1,hS),(2,hS)],[zaV,zaE,zaF,zaD,zaC,qaV]⟩,1,[(none,⟨[(0,hI)],[zaV,xaH,zaF,zaD,zaC,qaV]⟩)],fun x=>zcD o x.1 x.2.1 x.2.2.1 x.2.2.2.1 x.2.2.2.2.1 x.2.2.2.2.2.1 x.2.2.2.2.2.2⟩
theorem zlU:SCok Tryz.prog tabs 71 (zgZ o):=zbC (o:=o) (η:=[(2000003,.join [] [1,2] [(some 1000000,⟨[(6,hI)],[zaV,zaE,zaF,zaD,zaC,qaV]⟩),(none,⟨[(0,(.ptr 0 0))],[zaV,zaE,zaF,zaD,zaC,qaV]⟩)])]) (Γ:=⟨[(13,(zbE o)),(15,(zkL o))],[],false,[]⟩) (ctok ⟨zbK,⟨zpF,trivial⟩⟩ trivial) Tryz.func71
def zbY(o:Ops)(v0:Bs)(v1:qbZ)(v2:qbY)(v3:qbW)(v4:qbV)(v5:List ((Bs×Bs)×Unit)):Option ((Int×zbA)):=
 (zaO o v0).bind fun v6=>bif(!v6)then some ((120:Int),v1,v2,v3,v4,v5)else(let _v7:zzO:=zfA keqS v2 v0 ((([]:List Bs),([]:List Bs),([]:List Bs)),(0:Int))
 bif mhas keqS v2 v0 then some ((121:Int),v1,v2,v3,v4,v5)else(bif decide ((v2.length:Int)≥32)then some ((124:Int),v1,v2,v3,v4,v5)else(let v8:qbY:=mset keqS kltS v2 v0 ((([]:List Bs),([]:List Bs),([]:List Bs)),(1:Int))
 some ((0:Int),v1,v8,v3,v4,v5))))
def zgF(o:Ops):SC:=⟨⟨[(0,(.ptr 0 0)),(1,hS)],[zaV,zaE,zaF,zaD,zaC,qaV]⟩,1,[(none,⟨[(0,hI)],[zaV,zaE,ybD,zaD,zaC,qaV]⟩)],fun x=>zbY o x.1 x.2.1 x.2.2.1 x.2.2.2.1 x.2.2.2.2.1 x.2.2.2.2.2⟩
theorem zkR:SCok Tryz.prog tabs 72 (zgF o):=zbC (o:=o) (η:=[]) (Γ:=⟨[(13,(zbE o))],[],false,[]⟩) (ctok ⟨zbK,trivial⟩ trivial) Tryz.func72
def zaM(_o:Ops)(v0:qbZ)(v1:qbY)(v2:qbW)(v3:qbV)(v4:List ((Bs×Bs)×Unit)):Option (zbA):=
 some (v0,v1,v2,v3,v4)
def zbL(o:Ops):SC:=⟨⟨[(0,(.ptr 0 0))],[zaV,zaE,zaF,zaD,zaC,qaV]⟩,1,[(none,⟨[(0,(.ag [(.kn .i64 0),(.fn 244 [] [(.ptr 6 0)]),(.kn .i64 1),(.fn 245 [] [(.ptr 6 0)]),(.kn .i64 2),(.fn 246 [] [(.ptr 6 0)])]))],[zaV,zaE,zaF,zaD,zaC,qaV,zyB]⟩)],fun x=>zaM o x.1 x.2.1 x.2.2.1 x.2.2.2.1 x.2.2.2.2⟩
theorem zbW:SCok Tryz.prog tabs 173 (zbL o):=zbC (o:=o) (η:=[]) (Γ:=⟨[],[],false,[]⟩) (ctok trivial trivial) Tryz.func173
def zcS(_o:Ops)(v0:Bs)(v1:qbZ)(v2:qbY)(v3:qbW)(v4:qbV)(v5:List ((Bs×Bs)×Unit)):Option ((Bool×zbA)):=
 let _v6:zzO:=zfA keqS v2 v0 ((([]:List Bs),([]:List Bs),([]:List Bs)),(0:Int))
 some (mhas keqS v2 v0,v1,v2,v3,v4,v5)
def zgU(o:Ops):SC:=⟨⟨[(0,hS),(1,(.ptr 0 0))],[ztW,zkG,zaE,zaF,zaD,zaC,qaV]⟩,1,[(none,⟨[(0,hB)],[ztW,zkG,zaE,zaF,zaD,zaC,qaV]⟩)],fun x=>zcS o x.1 x.2.1 x.2.2.1 x.2.2.2.1 x.2.2.2.2.1 x.2.2.2.2.2⟩
theorem zlO:SCok Tryz.prog tabs 245 (zgU o):=zbC (o:=o) (η:=[]) (Γ:=⟨[],[],false,[]⟩) (ctok trivial trivial) Tryz.func245
def zpV(o:Ops)(v0:Bs)(v1:Bs)(v2:qbZ)(v3:qbY)(v4:qbW)(v5:qbV)(v6:List ((Bs×Bs)×Unit)):Option ((Int×qbZ×qbY×qbW×qbV×(List ((Bs×Bs)×Unit))×Int)⊕(qbZ×qbY×qbW×qbV×(List ((Bs×Bs)×Unit))×Int)):=
 (zaO o v0).bind fun v7=>bif(!v7)then some (.inl ((120:Int),v2,v3,v4,v5,v6,(0:Int)))else((zaO o v1).bind fun v8=>bif(!v8)then some (.inl ((120:Int),v2,v3,v4,v5,v6,(0:Int)))else some (.inr (v2,v3,v4,v5,v6,(0:Int))))
def zeH(o:Ops)(v0:Bs)(v1:Bs)(v2:qbZ)(v3:qbY)(v4:qbW)(v5:qbV)(v6:List ((Bs×Bs)×Unit)):Option ((zzO×Int×zbA)):=
 (zpV o v0 v1 v2 v3 v4 v5 v6).bind fun v9=>match v9 with
 |.inl v10=>some (((([]:List Bs),([]:List Bs),([]:List Bs)),v10.2.2.2.2.2.2),v10.1,v10.2.1,v10.2.2.1,v10.2.2.2.1,v10.2.2.2.2.1,v10.2.2.2.2.2.1)
 |.inr v11=>(let v12:zzO:=zfA keqS v11.2.1 v0 ((([]:List Bs),([]:List Bs),([]:List Bs)),(0:Int))
 bif(!(mhas keqS v11.2.1 v0))then some (((([]:List Bs),([]:List Bs),([]:List Bs)),(0:Int)),(122:Int),v11.1,v11.2.1,v11.2.2.1,v11.2.2.2.1,v11.2.2.2.2.1)else((zcS o v1 v11.1 v11.2.1 v11.2.2.1 v11.2.2.2.1 v11.2.2.2.2.1).bind fun v13=>bif(!v13.1)then some (((([]:List Bs),([]:List Bs),([]:List Bs)),(0:Int)),(122:Int),v13.2)else some (v12,(0:Int),v13.2)))
def ziQ(o:Ops):SC:=⟨⟨[(0,(.ptr 0 0)),(1,hS),(2,(.ag [(.kn .i64 1),(.fn 245 [] [(.ptr 1 0)])])),(3,hS)],[zkG,zyB,zaE,zaF,zaD,zaC,qaV]⟩,2,[(none,⟨[(0,(.h yvS)),(1,hI)],[zkG,zyB,zaE,zaF,zaD,zaC,qaV]⟩)],fun x=>zeH o x.1 x.2.1 x.2.2.1 x.2.2.2.1 x.2.2.2.2.1 x.2.2.2.2.2.1 x.2.2.2.2.2.2⟩
theorem zpQ:SCok Tryz.prog tabs 199 (ziQ o):=zbC (o:=o) (η:=[(2000003,.join [] [1,3] [(some 1000000,⟨[(8,(.ptr 7 0)),(9,hI)],[zkG,zyB,zaE,zaF,zaD,zaC,qaV,yvA]⟩),(none,⟨[(0,(.ptr 0 0)),(6,(.ptr 7 0)),(8,(.ptr 8 0))],[zkG,zyB,zaE,zaF,zaD,zaC,qaV,.blk 187 [(.kn .i64 1),(.fn 245 [] [(.ptr 1 0)])],yvA]⟩)])]) (Γ:=⟨[(13,(zbE o))],[(245,(zgU o))],false,[]⟩) (ctok ⟨zbK,trivial⟩ ⟨zlO,trivial⟩) Tryz.func199
def zvT(_o:Ops)(v0:Bs):Option (Bool):=
 some (v0 != v0)
def ydF(o:Ops):PC:=⟨[hS],[.b],fun x=>zvT o x,false⟩
theorem ynO:PCok Tryz.prog tabs 307 (ydF o):=zhS (o:=o) (η:=[]) (Γ:=⟨[],[],false,[]⟩) (ctok trivial trivial) Tryz.func307
def zyZ(o:Ops)(v0:Bs)(v1:Bs):Option (Bool):=
 (zvT o v0).bind fun v2=>bif v2 then((zvT o v1).bind fun v3=>bif(!v3)then(some true)else(some (Op.bytesLess v0 v1)))else(some (Op.bytesLess v0 v1))
def ygI(o:Ops):PC:=⟨[hS,hS],[.b],fun x=>zyZ o x.1 x.2,false⟩
theorem yqK:PCok Tryz.prog tabs 268 (ygI o):=zhS (o:=o) (η:=[]) (Γ:=⟨[(307,(ydF o))],[],false,[]⟩) (ctok ⟨ynO,trivial⟩ trivial) Tryz.func268
def zpE(_o:Ops)(v0:Bs):Option (Bool):=
 some (v0 != v0)
def zxK(o:Ops):PC:=⟨[hS],[.b],fun x=>zpE o x,false⟩
theorem yhA:PCok Tryz.prog tabs 278 (zxK o):=zhS (o:=o) (η:=[]) (Γ:=⟨[],[],false,[]⟩) (ctok trivial trivial) Tryz.func278
def zfC(o:Ops)(v0:List Bs)(v1:Bs)(v2:Int)(v3:Int):Option ((Int×Int)⊕Int):=
 bif decide (v2<v3)then((chk (decide ((0:Int)<=((1:UInt64).toNat:Int)))).bind fun _=>let v4:UInt64:=i64 (shrI .u64 ((i64 (w64 (v2+v3))).toNat:Int) ((1:UInt64).toNat:Int))
 (idx v0 (w64 (v4.toNat:Int))).bind fun v5=>(zyZ o v5 v1).bind fun v6=>bif v6 then some (.inl (w64 ((w64 (v4.toNat:Int))+1),v3))else some (.inl (v2,w64 (v4.toNat:Int))))else some (.inr v2)
def zdX(o:Ops)(v0:List Bs)(v1:Bs):Option (Int×Bool):=
 (iter (fun x=>zfC o v0 v1 x.1 x.2) ((0:Int),(v0.length:Int))).bind fun v7=>bif decide (v7<(v0.length:Int))then((idx v0 v7).bind fun v8=>bif(v8==v1)then(some (v7,true))else((idx v0 v7).bind fun v9=>(zpE o v9).bind fun v10=>bif v10 then((zpE o v1).bind fun v11=>some (v7,v11))else(some (v7,false))))else(some (v7,false))
def ziF(o:Ops):PC:=⟨[(.h (.sl .s)),hS],[(.i .i64),.b],fun x=>zdX o x.1 x.2,false⟩
theorem znZ:PCok Tryz.prog tabs 213 (ziF o):=zhS (o:=o) (η:=[(200003,.loop [] ⟨[(7,hI),(8,hI)],[]⟩ [0,1,4,5,6] [(some 0,⟨[(7,hI)],[]⟩)])]) (Γ:=⟨[(268,(ygI o)),(278,(zxK o))],[],false,[]⟩) (ctok ⟨yqK,⟨yhA,trivial⟩⟩ trivial) Tryz.func213
def zaY(o:Ops)(v0:List Bs)(v1:Bs):Option (Bool):=
 (zdX o v0 v1).bind fun v2=>some v2.2
def zcY(o:Ops):PC:=⟨[(.h (.sl .s)),hS],[.b],fun x=>zaY o x.1 x.2,false⟩
theorem zdP:PCok Tryz.prog tabs 131 (zcY o):=zhS (o:=o) (η:=[]) (Γ:=⟨[(213,(ziF o))],[],false,[]⟩) (ctok ⟨znZ,trivial⟩ trivial) Tryz.func131
def zeD(_o:Ops)(v17:zzO)(v18:Int)(v19:qbZ)(v20:qbY)(v21:qbW)(v22:qbV)(v23:List ((Bs×Bs)×Unit))(v24:List (Bs×Unit))(v25:List Bs):Option ((Int×qbZ×qbY×qbW×qbV×(List ((Bs×Bs)×Unit))×(List (Bs×Unit))×List Bs)⊕((qbZ×qbY×qbW×qbV×(List ((Bs×Bs)×Unit))×(List (Bs×Unit))×List Bs))):=
 bif decide (v18<(v17.1.2.1.length:Int))then((idx v17.1.2.1 v18).bind fun v26=>let _v27:Unit:=zfA keqS v24 v26 ()
 bif(!(mhas keqS v24 v26))then(let v28:List (Bs×Unit):=mset keqS kltS v24 v26 ()
 (app v25 ([v26]:List Bs)).bind fun v29=>some (.inl (w64 (v18+1),v19,v20,v21,v22,v23,v28,v29)))else some (.inl (w64 (v18+1),v19,v20,v21,v22,v23,v24,v25)))else some (.inr (v19,v20,v21,v22,v23,v24,v25))
def zeL(o:Ops)(v1:Bs)(v8:qbZ)(v9:qbY)(v10:qbW)(v11:qbV)(v12:List ((Bs×Bs)×Unit))(v13:List (Bs×Unit))(v14:List Bs):Option ((qbZ×qbY×qbW×qbV×(List ((Bs×Bs)×Unit))×(List (Bs×Unit))×List Bs)⊕((Bool×zbA)⊕zbA)):=
 bif decide ((v14.length:Int)>0)then((chk (decide ((0:Int)<=0)&&decide ((0:Int)<(v14.length:Int)))).bind fun _=>(idx v14 (0:Int)).bind fun v15=>bif(v15==v1)then some (.inr (.inl (true,v8,v9,v10,v11,v12)))else((chk (decide ((0:Int)<=0)&&decide ((0:Int)<(v14.length:Int)))).bind fun _=>(idx v14 (0:Int)).bind fun v16=>let v17:zzO:=zfA keqS v9 v16 ((([]:List Bs),([]:List Bs),([]:List Bs)),(0:Int))
 (iter (fun x=>zeD o v17 x.1 x.2.1 x.2.2.1 x.2.2.2.1 x.2.2.2.2.1 x.2.2.2.2.2.1 x.2.2.2.2.2.2.1 x.2.2.2.2.2.2.2) ((0:Int),v8,v9,v10,v11,v12,v13,v14)).bind fun v30=>(subL v30.2.2.2.2.2.2 (1:Int)).bind fun v31=>some (.inl (v30.1,v30.2.1,v30.2.2.1,v30.2.2.2.1,v30.2.2.2.2.1,v30.2.2.2.2.2.1,v31))))else some (.inr (.inr (v8,v9,v10,v11,v12)))
def zfN(o:Ops)(v0:Bs)(v1:Bs)(v2:qbZ)(v3:qbY)(v4:qbW)(v5:qbV)(v6:List ((Bs×Bs)×Unit)):Option ((Bool×zbA)):=
 let v7:List (Bs×Unit):=mset keqS kltS ([]:List (Bs×Unit)) v0 ()
 (iter (fun x=>zeL o v1 x.1 x.2.1 x.2.2.1 x.2.2.2.1 x.2.2.2.2.1 x.2.2.2.2.2.1 x.2.2.2.2.2.2) (v2,v3,v4,v5,v6,v7,([v0]:List Bs))).bind fun v32=>match v32 with
 |.inl v33=>some v33
 |.inr v34=>some (false,v34)
def zmZ(o:Ops):SC:=⟨⟨[(0,(.ptr 0 0)),(1,hS),(2,hS)],[zaV,zaE,zaF,zaD,zaC,qaV]⟩,1,[(none,⟨[(0,hB)],[zaV,zaE,zaF,zaD,zaC,qaV]⟩)],fun x=>zfN o x.1 x.2.1 x.2.2.1 x.2.2.2.1 x.2.2.2.2.1 x.2.2.2.2.2.1 x.2.2.2.2.2.2⟩
theorem zwA:SCok Tryz.prog tabs 200 (zmZ o):=zbC (o:=o) (η:=[(200008,.loop [] ⟨[(0,(.ptr 0 0)),(7,(.mpr 6)),(8,(.own 7)),(40,hI)],[zaV,zaE,zaF,zaD,zaC,qaV,zmM,.qu .s 9]⟩ [2,38,39] [(some 2,⟨[(0,(.ptr 0 0)),(7,(.mpr 6)),(8,(.own 7))],[zaV,zaE,zaF,zaD,zaC,qaV,zmM,.qu .s 9]⟩)]),
 (200003,.loop [.qu 8] ⟨[(0,(.ptr 0 0)),(7,(.mpr 6)),(8,(.own 7))],[zaV,zaE,zaF,zaD,zaC,qaV,zmM,.qu .s 9]⟩ [2] [(some 1000000,⟨[(6,hB)],[zaV,zaE,zaF,zaD,zaC,qaV]⟩),(some 0,⟨[],[zaV,zaE,zaF,zaD,zaC,qaV]⟩)]),
 (4000007,.sch [(.pu,0,[]),(.pu,1,[]),(.pu,2,[]),(.pu,3,[]),(.pu,4,[]),(.pu,5,[]),(.pu,6,[]),(.pu,7,[]),(.pu,8,[]),(.pu,9,[]),(.pu,10,[]),(.pu,11,[])])]) (Γ:=⟨[],[],false,[]⟩) (ctok trivial trivial) Tryz.func200
def zvZ:SC:=⟨⟨[(0,(.h (.sl .s)))],[]⟩,1,[(none,⟨[(0,(.own 0))],[.osl .s 9]⟩)],fun xs=>app [] xs⟩
theorem zzF:SCok Tryz.prog tabs 198 zvZ:=wit (G:=tabs)<|xfM ydG τ_okWkF Tryz.func198 (isFn Tryz.func198) rfl (by kernel_rfl) (by kernel_rfl) (by kernel_rfl) (fun _=>by kernel_rfl)
def yoP:SC:=⟨⟨[(0,(.own 0)),(1,hI),(2,(.own 1))],[.osl .s 9,.osl .s 9]⟩,1,[(none,⟨[(0,(.own 2))],[.dead,.dead,.osl .s 9]⟩)],xhY⟩
theorem xdA:SCok Tryz.prog tabs 261 yoP:=wit (G:=tabs)<|insK
def zeP(o:Ops)(v0:List Bs)(v1:Bs):Option (List Bs):=
 (zdX o v0 v1).bind fun v2=>(app ([]:List Bs) v0).bind fun v3=>((fun i xs vs=>xhY (i,xs,vs)) v2.1 v3 ([v1]:List Bs)).bind fun v4=>some v4
def zpG(o:Ops):PC:=⟨[(.h (.sl .s)),hS],[(.sl .s)],fun x=>zeP o x.1 x.2,false⟩
theorem ztL:PCok Tryz.prog tabs 201 (zpG o):=zhS (o:=o) (η:=[]) (Γ:=⟨[(213,(ziF o))],[(198,zvZ),(261,yoP)],false,[]⟩) (ctok ⟨znZ,trivial⟩ ⟨zzF,⟨xdA,trivial⟩⟩) Tryz.func201
def zqG(o:Ops)(v0:Bs)(v1:Bs)(v2:qbZ)(v3:qbY)(v4:qbW)(v5:qbV)(v6:List ((Bs×Bs)×Unit)):Option ((Int×qbZ×qbY×qbW×qbV×(List ((Bs×Bs)×Unit))×(List Bs)×(List Bs)×(List Bs)×Int)):=
 (zaM o v2 v3 v4 v5 v6).bind fun v7=>(zeH o v0 v1 v7.1 v7.2.1 v7.2.2.1 v7.2.2.2.1 v7.2.2.2.2).bind fun v8=>some (v8.2.1,v8.2.2.1,v8.2.2.2.1,v8.2.2.2.2.1,v8.2.2.2.2.2.1,v8.2.2.2.2.2.2,v8.1.1.1,v8.1.1.2.1,v8.1.1.2.2,v8.1.2)
def zpP(o:Ops)(v1:Bs)(v9:Int×qbZ×qbY×qbW×qbV×(List ((Bs×Bs)×Unit))×(List Bs)×(List Bs)×(List Bs)×Int):Option ((Bool×qbZ×qbY×qbW×qbV×(List ((Bs×Bs)×Unit))×(List Bs)×(List Bs)×(List Bs)×Int)):=
 (zaY o v9.2.2.2.2.2.2.2.1 v1).bind fun v10=>some (v10,v9.2)
def zpZ(o:Ops)(v0:Bs)(v1:Bs)(v9:Int×qbZ×qbY×qbW×qbV×(List ((Bs×Bs)×Unit))×(List Bs)×(List Bs)×(List Bs)×Int):Option ((Int×zbA)⊕(qbZ×qbY×qbW×qbV×(List ((Bs×Bs)×Unit))×(List Bs)×(List Bs)×(List Bs)×Int)):=
 bif(v9.1 != 0)then some (.inl (v9.1,v9.2.1,v9.2.2.1,v9.2.2.2.1,v9.2.2.2.2.1,v9.2.2.2.2.2.1))else((zpP o v1 v9).bind fun v11=>bif v11.1 then some (.inl ((121:Int),v11.2.1,v11.2.2.1,v11.2.2.2.1,v11.2.2.2.2.1,v11.2.2.2.2.2.1))else((zfN o v1 v0 v11.2.1 v11.2.2.1 v11.2.2.2.1 v11.2.2.2.2.1 v11.2.2.2.2.2.1).bind fun v12=>bif v12.1 then some (.inl ((123:Int),v12.2))else some (.inr (v12.2.1,v12.2.2.1,v12.2.2.2.1,v12.2.2.2.2.1,v12.2.2.2.2.2,v11.2.2.2.2.2.2))))
def zpH(o:Ops)(v1:Bs)(v15:qbZ×qbY×qbW×qbV×(List ((Bs×Bs)×Unit))×(List Bs)×(List Bs)×(List Bs)×Int):Option ((qbZ×qbY×qbW×qbV×(List ((Bs×Bs)×Unit))×(List Bs)×(List Bs)×(List Bs)×Int)):=
 (zeP o v15.2.2.2.2.2.2.1 v1).bind fun v16=>some (v15.1,v15.2.1,v15.2.2.1,v15.2.2.2.1,v15.2.2.2.2.1,v15.2.2.2.2.2.1,v16,v15.2.2.2.2.2.2.2)
def zgN(o:Ops)(v0:Bs)(v1:Bs)(v2:qbZ)(v3:qbY)(v4:qbW)(v5:qbV)(v6:List ((Bs×Bs)×Unit)):Option ((Int×zbA)):=
 (zqG o v0 v1 v2 v3 v4 v5 v6).bind fun v9=>(zpZ o v0 v1 v9).bind fun v13=>match v13 with
 |.inl v14=>some v14
 |.inr v15=>((zpH o v1 v15).bind fun v17=>let v18:qbY:=mset keqS kltS v17.2.1 v0 ((v17.2.2.2.2.2.1,v17.2.2.2.2.2.2.1,v17.2.2.2.2.2.2.2.1),w64 (v17.2.2.2.2.2.2.2.2+1))
 some ((0:Int),v17.1,v18,v17.2.2.1,v17.2.2.2.1,v17.2.2.2.2.1))
def zpS(o:Ops):SC:=⟨⟨[(0,(.ptr 0 0)),(1,hS),(2,(.kn .i64 1)),(3,hS)],[zaV,zaE,zaF,zaD,zaC,qaV]⟩,1,[(none,⟨[(0,hI)],[zaV,zaE,ybD,zaD,zaC,qaV]⟩)],fun x=>zgN o x.1 x.2.1 x.2.2.1 x.2.2.2.1 x.2.2.2.2.1 x.2.2.2.2.2.1 x.2.2.2.2.2.2⟩
theorem zxO:SCok Tryz.prog tabs 101 (zpS o):=zbC (o:=o) (η:=[(2100000,.join [] [1,2,3] [(none,⟨[(0,(.ptr 0 0)),(9,(.ptr 6 0)),(10,hI)],[zaV,zaE,zaF,zaD,zaC,qaV,zwT]⟩)]),
 (2300005,.join [] [1,2,3] [(none,⟨[(0,(.ptr 0 0)),(9,(.ptr 6 0)),(26,hB)],[zaV,zaE,zaF,zaD,zaC,qaV,zwT]⟩)]),
 (2000008,.join [] [1,2,3] [(some 1000000,⟨[(8,hI)],[zaV,zaE,zaF,zaD,zaC,qaV]⟩),(none,⟨[(0,(.ptr 0 0)),(9,(.ptr 6 0))],[zaV,zaE,zaF,zaD,zaC,qaV,zwT]⟩)]),
 (2000009,.join [] [1] [(none,⟨[(0,(.ptr 0 0)),(9,(.ptr 6 0))],[zaV,zaE,zaF,zaD,zaC,qaV,zwT]⟩)]),
 (4000010,.sch [(.pu,0,[]),(.pu,1,[]),(.pu,2,[]),(.pu,3,[]),(.pu,4,[]),(.pu,5,[]),(.mn,6,[0,1,2,3,4,5,6])])]) (Γ:=⟨[(131,(zcY o)),(201,(zpG o))],[(173,(zbL o)),(199,(ziQ o)),(200,(zmZ o))],false,[]⟩) (ctok ⟨zdP,⟨ztL,trivial⟩⟩ ⟨zbW,⟨zpQ,⟨zwA,trivial⟩⟩⟩) Tryz.func101
def zbN(o:Ops)(v0:Bs)(v1:Bs)(v2:qbZ)(v3:qbY)(v4:qbW)(v5:qbV)(v6:List ((Bs×Bs)×Unit)):Option ((Int×zbA)):=
 (zgN o v0 v1 v2 v3 v4 v5 v6).bind fun v7=>some v7
def zgB(o:Ops):SC:=⟨⟨[(0,(.ptr 0 0)),(1,hS),(2,hS)],[zaV,zaE,zaF,zaD,zaC,qaV]⟩,1,[(none,⟨[(0,hI)],[zaV,zaE,ybD,zaD,zaC,qaV]⟩)],fun x=>zbN o x.1 x.2.1 x.2.2.1 x.2.2.2.1 x.2.2.2.2.1 x.2.2.2.2.2.1 x.2.2.2.2.2.2⟩
theorem zjM:SCok Tryz.prog tabs 33 (zgB o):=zbC (o:=o) (η:=[]) (Γ:=⟨[],[(101,(zpS o))],false,[]⟩) (ctok trivial ⟨zxO,trivial⟩) Tryz.func33
def zcU(_o:Ops)(v0:Bs)(v1:qbZ)(v2:qbY)(v3:qbW)(v4:qbV)(v5:List ((Bs×Bs)×Unit)):Option ((Bool×zbA)):=
 let _v6:zwZ:=zfA keqS v1 v0 (([]:Bs),([]:Bs),false,(0:Int))
 some (mhas keqS v1 v0,v1,v2,v3,v4,v5)
def zgT(o:Ops):SC:=⟨⟨[(0,hS),(1,(.ptr 0 0))],[ztW,zkG,zaE,zaF,zaD,zaC,qaV]⟩,1,[(none,⟨[(0,hB)],[ztW,zkG,zaE,zaF,zaD,zaC,qaV]⟩)],fun x=>zcU o x.1 x.2.1 x.2.2.1 x.2.2.2.1 x.2.2.2.2.1 x.2.2.2.2.2⟩
theorem zlX:SCok Tryz.prog tabs 244 (zgT o):=zbC (o:=o) (η:=[]) (Γ:=⟨[],[],false,[]⟩) (ctok trivial trivial) Tryz.func244
def znW(o:Ops)(v0:Bs)(v1:Bs)(v2:qbZ)(v3:qbY)(v4:qbW)(v5:qbV)(v6:List ((Bs×Bs)×Unit)):Option ((Int×qbZ×qbY×qbW×qbV×(List ((Bs×Bs)×Unit))×Int)⊕(qbZ×qbY×qbW×qbV×(List ((Bs×Bs)×Unit))×Int)):=
 (zaO o v0).bind fun v7=>bif(!v7)then some (.inl ((120:Int),v2,v3,v4,v5,v6,(0:Int)))else((zaO o v1).bind fun v8=>bif(!v8)then some (.inl ((120:Int),v2,v3,v4,v5,v6,(0:Int)))else some (.inr (v2,v3,v4,v5,v6,(0:Int))))
def zdY(o:Ops)(v0:Bs)(v1:Bs)(v2:qbZ)(v3:qbY)(v4:qbW)(v5:qbV)(v6:List ((Bs×Bs)×Unit)):Option ((zzO×Int×zbA)):=
 (znW o v0 v1 v2 v3 v4 v5 v6).bind fun v9=>match v9 with
 |.inl v10=>some (((([]:List Bs),([]:List Bs),([]:List Bs)),v10.2.2.2.2.2.2),v10.1,v10.2.1,v10.2.2.1,v10.2.2.2.1,v10.2.2.2.2.1,v10.2.2.2.2.2.1)
 |.inr v11=>(let v12:zzO:=zfA keqS v11.2.1 v0 ((([]:List Bs),([]:List Bs),([]:List Bs)),(0:Int))
 bif(!(mhas keqS v11.2.1 v0))then some (((([]:List Bs),([]:List Bs),([]:List Bs)),(0:Int)),(122:Int),v11.1,v11.2.1,v11.2.2.1,v11.2.2.2.1,v11.2.2.2.2.1)else((zcU o v1 v11.1 v11.2.1 v11.2.2.1 v11.2.2.2.1 v11.2.2.2.2.1).bind fun v13=>bif(!v13.1)then some (((([]:List Bs),([]:List Bs),([]:List Bs)),(0:Int)),(122:Int),v13.2)else some (v12,(0:Int),v13.2)))
def ziH(o:Ops):SC:=⟨⟨[(0,(.ptr 0 0)),(1,hS),(2,(.ag [(.kn .i64 0),(.fn 244 [] [(.ptr 1 0)])])),(3,hS)],[zkG,zyB,zaE,zaF,zaD,zaC,qaV]⟩,2,[(none,⟨[(0,(.h yvS)),(1,hI)],[zkG,zyB,zaE,zaF,zaD,zaC,qaV]⟩)],fun x=>zdY o x.1 x.2.1 x.2.2.1 x.2.2.2.1 x.2.2.2.2.1 x.2.2.2.2.2.1 x.2.2.2.2.2.2⟩
theorem zoB:SCok Tryz.prog tabs 199 (ziH o):=zbC (o:=o) (η:=[(2000003,.join [] [1,3] [(some 1000000,⟨[(8,(.ptr 7 0)),(9,hI)],[zkG,zyB,zaE,zaF,zaD,zaC,qaV,yvA]⟩),(none,⟨[(0,(.ptr 0 0)),(6,(.ptr 7 0)),(8,(.ptr 8 0))],[zkG,zyB,zaE,zaF,zaD,zaC,qaV,.blk 187 [(.kn .i64 0),(.fn 244 [] [(.ptr 1 0)])],yvA]⟩)])]) (Γ:=⟨[(13,(zbE o))],[(244,(zgT o))],false,[]⟩) (ctok ⟨zbK,trivial⟩ ⟨zlX,trivial⟩) Tryz.func199
def zoL(o:Ops)(v0:Bs)(v1:Bs)(v2:qbZ)(v3:qbY)(v4:qbW)(v5:qbV)(v6:List ((Bs×Bs)×Unit)):Option ((Int×qbZ×qbY×qbW×qbV×(List ((Bs×Bs)×Unit))×(List Bs)×(List Bs)×(List Bs)×Int)):=
 (zaM o v2 v3 v4 v5 v6).bind fun v7=>(zdY o v0 v1 v7.1 v7.2.1 v7.2.2.1 v7.2.2.2.1 v7.2.2.2.2).bind fun v8=>some (v8.2.1,v8.2.2.1,v8.2.2.2.1,v8.2.2.2.2.1,v8.2.2.2.2.2.1,v8.2.2.2.2.2.2,v8.1.1.1,v8.1.1.2.1,v8.1.1.2.2,v8.1.2)
def zoD(o:Ops)(v1:Bs)(v9:Int×qbZ×qbY×qbW×qbV×(List ((Bs×Bs)×Unit))×(List Bs)×(List Bs)×(List Bs)×Int):Option ((Bool×qbZ×qbY×qbW×qbV×(List ((Bs×Bs)×Unit))×(List Bs)×(List Bs)×(List Bs)×Int)):=
 (zaY o v9.2.2.2.2.2.2.1 v1).bind fun v10=>some (v10,v9.2)
def zoO(o:Ops)(v1:Bs)(v9:Int×qbZ×qbY×qbW×qbV×(List ((Bs×Bs)×Unit))×(List Bs)×(List Bs)×(List Bs)×Int):Option ((Int×zbA)⊕(qbZ×qbY×qbW×qbV×(List ((Bs×Bs)×Unit))×(List Bs)×(List Bs)×(List Bs)×Int)):=
 bif(v9.1 != 0)then some (.inl (v9.1,v9.2.1,v9.2.2.1,v9.2.2.2.1,v9.2.2.2.2.1,v9.2.2.2.2.2.1))else((zoD o v1 v9).bind fun v11=>bif v11.1 then some (.inl ((121:Int),v11.2.1,v11.2.2.1,v11.2.2.2.1,v11.2.2.2.2.1,v11.2.2.2.2.2.1))else some (.inr v11.2))
def znU(o:Ops)(v1:Bs)(v14:qbZ×qbY×qbW×qbV×(List ((Bs×Bs)×Unit))×(List Bs)×(List Bs)×(List Bs)×Int):Option ((qbZ×qbY×qbW×qbV×(List ((Bs×Bs)×Unit))×(List Bs)×(List Bs)×(List Bs)×Int)):=
 (zeP o v14.2.2.2.2.2.1 v1).bind fun v15=>some (v14.1,v14.2.1,v14.2.2.1,v14.2.2.2.1,v14.2.2.2.2.1,v15,v14.2.2.2.2.2.2)
def zfV(o:Ops)(v0:Bs)(v1:Bs)(v2:qbZ)(v3:qbY)(v4:qbW)(v5:qbV)(v6:List ((Bs×Bs)×Unit)):Option ((Int×zbA)):=
 (zoL o v0 v1 v2 v3 v4 v5 v6).bind fun v9=>(zoO o v1 v9).bind fun v12=>match v12 with
 |.inl v13=>some v13
 |.inr v14=>((znU o v1 v14).bind fun v16=>let v17:qbY:=mset keqS kltS v16.2.1 v0 ((v16.2.2.2.2.2.1,v16.2.2.2.2.2.2.1,v16.2.2.2.2.2.2.2.1),w64 (v16.2.2.2.2.2.2.2.2+1))
 some ((0:Int),v16.1,v17,v16.2.2.1,v16.2.2.2.1,v16.2.2.2.2.1))
def zoK(o:Ops):SC:=⟨⟨[(0,(.ptr 0 0)),(1,hS),(2,(.kn .i64 0)),(3,hS)],[zaV,zaE,zaF,zaD,zaC,qaV]⟩,1,[(none,⟨[(0,hI)],[zaV,zaE,ybD,zaD,zaC,qaV]⟩)],fun x=>zfV o x.1 x.2.1 x.2.2.1 x.2.2.2.1 x.2.2.2.2.1 x.2.2.2.2.2.1 x.2.2.2.2.2.2⟩
theorem zxG:SCok Tryz.prog tabs 101 (zoK o):=zbC (o:=o) (η:=[(2100000,.join [] [1,2,3] [(none,⟨[(0,(.ptr 0 0)),(9,(.ptr 6 0)),(10,hI)],[zaV,zaE,zaF,zaD,zaC,qaV,zwT]⟩)]),
 (2300005,.join [] [1,2,3] [(none,⟨[(0,(.ptr 0 0)),(9,(.ptr 6 0)),(26,hB)],[zaV,zaE,zaF,zaD,zaC,qaV,zwT]⟩)]),
 (2000008,.join [] [1,2,3] [(some 1000000,⟨[(8,hI)],[zaV,zaE,zaF,zaD,zaC,qaV]⟩),(none,⟨[(0,(.ptr 0 0)),(9,(.ptr 6 0))],[zaV,zaE,zaF,zaD,zaC,qaV,zwT]⟩)]),
 (2000009,.join [] [1] [(none,⟨[(0,(.ptr 0 0)),(9,(.ptr 6 0))],[zaV,zaE,zaF,zaD,zaC,qaV,zwT]⟩)]),
 (4000010,.sch [(.pu,0,[]),(.pu,1,[]),(.pu,2,[]),(.pu,3,[]),(.pu,4,[]),(.pu,5,[]),(.mn,6,[0,1,2,3,4,5,6])])]) (Γ:=⟨[(131,(zcY o)),(201,(zpG o))],[(173,(zbL o)),(199,(ziH o))],false,[]⟩) (ctok ⟨zdP,⟨ztL,trivial⟩⟩ ⟨zbW,⟨zoB,trivial⟩⟩) Tryz.func101
def zgQ(o:Ops)(v0:Bs)(v1:Bs)(v2:qbZ)(v3:qbY)(v4:qbW)(v5:qbV)(v6:List ((Bs×Bs)×Unit)):Option ((Int×zbA)):=
 (zfV o v0 v1 v2 v3 v4 v5 v6).bind fun v7=>some v7
def zjF(o:Ops):SC:=⟨⟨[(0,(.ptr 0 0)),(1,hS),(2,hS)],[zaV,zaE,zaF,zaD,zaC,qaV]⟩,1,[(none,⟨[(0,hI)],[zaV,zaE,ybD,zaD,zaC,qaV]⟩)],fun x=>zgQ o x.1 x.2.1 x.2.2.1 x.2.2.2.1 x.2.2.2.2.1 x.2.2.2.2.2.1 x.2.2.2.2.2.2⟩
theorem zpJ:SCok Tryz.prog tabs 73 (zjF o):=zbC (o:=o) (η:=[]) (Γ:=⟨[],[(101,(zoK o))],false,[]⟩) (ctok trivial ⟨zxG,trivial⟩) Tryz.func73
def zgK(o:Ops)(v0:Bs):Option (Bool):=
 (zkZ o v0 (32:Int) ([97,98,99,100,101,102,103,104,105,106,107,108,109,110,111,112,113,114,115,116,117,118,119,120,121,122,48,49,50,51,52,53,54,55,56,57,46,95,45,58]:Bs)).bind fun v1=>some v1
def zyA(o:Ops):PC:=⟨[hS],[.b],fun x=>zgK o x,false⟩
theorem ygE:PCok Tryz.prog tabs 17 (zyA o):=zhS (o:=o) (η:=[]) (Γ:=⟨[(63,(zyL o))],[],false,[]⟩) (ctok ⟨ydD,trivial⟩ trivial) Tryz.func17
def zsD(o:Ops)(v0:List Bs)(v2:Int):Option (Int⊕(Bool⊕Unit)):=
 bif decide (v2<(v0.length:Int))then((idx v0 v2).bind fun v3=>(zgK o v3).bind fun v4=>bif(!v4)then some (.inr (.inl false))else(bif decide (v2>0)then((idx v0 (w64 (v2-1))).bind fun v5=>bif(Op.bytesLess v3 v5||v3==v5)then some (.inr (.inl false))else some (.inl (w64 (v2+1))))else some (.inl (w64 (v2+1)))))else some (.inr (.inr ()))
def zkN(o:Ops)(v0:List Bs)(v1:Int):Option (Bool):=
 (iter (zsD o v0) (0:Int)).bind fun v6=>match v6 with
 |.inl v7=>some v7
 |.inr _v8=>some (decide ((v0.length:Int)<=v1))
def zsI(o:Ops):SC:=⟨⟨[(0,(.h (.sl .s))),(1,hI),(2,(.fn 17 [] []))],[]⟩,1,[(none,⟨[(0,hB)],[]⟩)],fun x=>zkN o x.1 x.2⟩
theorem zxW:SCok Tryz.prog tabs 174 (zsI o):=zbC (o:=o) (η:=[(200002,.loop [] ⟨[(2,(.fn 17 [] [])),(11,hI)],[]⟩ [0,1,9,10] [(some 1000000,⟨[(6,hB)],[]⟩),(some 0,⟨[],[]⟩)])]) (Γ:=⟨[(17,(zyA o))],[],false,[]⟩) (ctok ⟨ygE,trivial⟩ trivial) Tryz.func174
def zmO(o:Ops)(v0:zdT):Option (Bool):=
 (zaO o v0.1).bind fun v1=>bif v1 then((zkN o v0.2 (16:Int)).bind fun v2=>some v2)else(some false)
def ztF(o:Ops):PC:=⟨[(.h ycR)],[.b],fun x=>zmO o x,false⟩
theorem zzP:PCok Tryz.prog tabs 104 (ztF o):=zhS (o:=o) (η:=[]) (Γ:=⟨[(13,(zbE o))],[(174,(zsI o))],false,[]⟩) (ctok ⟨zbK,trivial⟩ ⟨zxW,trivial⟩) Tryz.func104
def yaH:PC:=⟨[.h (.sl .s)],[(.sl .s)],fun xs=>some xs,true⟩
theorem ycW:PCok Tryz.prog tabs 61 yaH:=wit (G:=tabs)<|ypX ydG τ_okWkF Tryz.func61 (isFn Tryz.func61) rfl (by kernel_rfl) (fun _=>by kernel_rfl)
def zfB(_o:Ops)(v0:zdT):Option zdT:=
 (app ([]:List Bs) v0.2).bind fun v1=>some (v0.1,v1)
def zkF(o:Ops):PC:=⟨[(.h ycR)],[ycR],fun x=>zfB o x,false⟩
theorem zqW:PCok Tryz.prog tabs 105 (zkF o):=zhS (o:=o) (η:=[]) (Γ:=⟨[(61,yaH)],[(198,zvZ)],false,[]⟩) (ctok ⟨ycW,trivial⟩ ⟨zzF,trivial⟩) Tryz.func105
def zlS(_o:Ops)(v0:zdT)(v1:qbZ)(v2:qbY)(v3:qbW)(v4:qbV)(v5:List ((Bs×Bs)×Unit)):Option ((Int×zbA)⊕(qbZ×qbY×qbW×qbV×(List ((Bs×Bs)×Unit))×zdT)):=
 let _v7:zdT:=zfA keqS v3 v0.1 (([]:Bs),([]:List Bs))
 bif(!(mhas keqS v3 v0.1))then(bif decide ((v3.length:Int)≥32)then some (.inl ((124:Int),v1,v2,v3,v4,v5))else some (.inr (v1,v2,v3,v4,v5,v0)))else some (.inr (v1,v2,v3,v4,v5,v0))
def zcT(o:Ops)(v0:zdT)(v1:qbZ)(v2:qbY)(v3:qbW)(v4:qbV)(v5:List ((Bs×Bs)×Unit)):Option ((Int×zbA)):=
 (zmO o v0).bind fun v6=>bif(!v6)then some ((120:Int),v1,v2,v3,v4,v5)else((zlS o v0 v1 v2 v3 v4 v5).bind fun v8=>match v8 with
 |.inl v9=>some v9
 |.inr v10=>((zfB o v10.2.2.2.2.2).bind fun v11=>let v12:qbW:=mset keqS kltS v10.2.2.1 v10.2.2.2.2.2.1 v11
 some ((0:Int),v10.1,v10.2.1,v12,v10.2.2.2.1,v10.2.2.2.2.1)))
def zgV(o:Ops):SC:=⟨⟨[(0,(.ptr 0 0)),(1,(.h ycR))],[zaV,zaE,zaF,zaD,zaC,qaV]⟩,1,[(none,⟨[(0,hI)],[zaV,zaE,zaF,xbV,zaC,qaV]⟩)],fun x=>zcT o x.1 x.2.1 x.2.2.1 x.2.2.2.1 x.2.2.2.2.1 x.2.2.2.2.2⟩
theorem zmC:SCok Tryz.prog tabs 36 (zgV o):=zbC (o:=o) (η:=[(2000006,.join [] [] [(some 1000000,⟨[(4,hI)],[zaV,zaE,zaF,zaD,zaC,qaV]⟩),(none,⟨[(0,(.ptr 0 0)),(3,(.ptr 6 0))],[zaV,zaE,zaF,zaD,zaC,qaV,.blk 49 [hS,(.h (.sl .s))]]⟩)]),
 (4000003,.sch [(.pu,0,[]),(.pu,1,[]),(.pu,2,[]),(.pu,3,[]),(.pu,4,[]),(.pu,5,[]),(.pu,6,[]),(.pu,7,[]),(.pu,8,[]),(.pu,9,[7]),(.mn,10,[]),(.mn,11,[7]),(.pu,12,[])]),
 (4000006,.sch [(.pu,0,[]),(.pu,1,[]),(.pu,2,[]),(.pu,3,[]),(.pu,4,[]),(.pu,5,[]),(.pu,6,[]),(.mn,7,[]),(.mn,8,[0,1,2,3,4,5,6])])]) (Γ:=⟨[(104,(ztF o)),(105,(zkF o))],[],false,[]⟩) (ctok ⟨zzP,⟨zqW,trivial⟩⟩ trivial) Tryz.func36
def zcR(_o:Ops)(v0:Bs)(v1:qbZ)(v2:qbY)(v3:qbW)(v4:qbV)(v5:List ((Bs×Bs)×Unit)):Option ((Bool×zbA)):=
 let _v6:zdT:=zfA keqS v3 v0 (([]:Bs),([]:List Bs))
 some (mhas keqS v3 v0,v1,v2,v3,v4,v5)
def zgS(o:Ops):SC:=⟨⟨[(0,hS),(1,(.ptr 0 0))],[ztW,zkG,zaE,zaF,zaD,zaC,qaV]⟩,1,[(none,⟨[(0,hB)],[ztW,zkG,zaE,zaF,zaD,zaC,qaV]⟩)],fun x=>zcR o x.1 x.2.1 x.2.2.1 x.2.2.2.1 x.2.2.2.2.1 x.2.2.2.2.2⟩
theorem zlV:SCok Tryz.prog tabs 246 (zgS o):=zbC (o:=o) (η:=[]) (Γ:=⟨[],[],false,[]⟩) (ctok trivial trivial) Tryz.func246
def znT(o:Ops)(v0:Bs)(v1:Bs)(v2:qbZ)(v3:qbY)(v4:qbW)(v5:qbV)(v6:List ((Bs×Bs)×Unit)):Option ((Int×qbZ×qbY×qbW×qbV×(List ((Bs×Bs)×Unit))×Int)⊕(qbZ×qbY×qbW×qbV×(List ((Bs×Bs)×Unit))×Int)):=
 (zaO o v0).bind fun v7=>bif(!v7)then some (.inl ((120:Int),v2,v3,v4,v5,v6,(0:Int)))else((zaO o v1).bind fun v8=>bif(!v8)then some (.inl ((120:Int),v2,v3,v4,v5,v6,(0:Int)))else some (.inr (v2,v3,v4,v5,v6,(0:Int))))
def zdZ(o:Ops)(v0:Bs)(v1:Bs)(v2:qbZ)(v3:qbY)(v4:qbW)(v5:qbV)(v6:List ((Bs×Bs)×Unit)):Option ((zzO×Int×zbA)):=
 (znT o v0 v1 v2 v3 v4 v5 v6).bind fun v9=>match v9 with
 |.inl v10=>some (((([]:List Bs),([]:List Bs),([]:List Bs)),v10.2.2.2.2.2.2),v10.1,v10.2.1,v10.2.2.1,v10.2.2.2.1,v10.2.2.2.2.1,v10.2.2.2.2.2.1)
 |.inr v11=>(let v12:zzO:=zfA keqS v11.2.1 v0 ((([]:List Bs),([]:List Bs),([]:List Bs)),(0:Int))
 bif(!(mhas keqS v11.2.1 v0))then some (((([]:List Bs),([]:List Bs),([]:List Bs)),(0:Int)),(122:Int),v11.1,v11.2.1,v11.2.2.1,v11.2.2.2.1,v11.2.2.2.2.1)else((zcR o v1 v11.1 v11.2.1 v11.2.2.1 v11.2.2.2.1 v11.2.2.2.2.1).bind fun v13=>bif(!v13.1)then some (((([]:List Bs),([]:List Bs),([]:List Bs)),(0:Int)),(122:Int),v13.2)else some (v12,(0:Int),v13.2)))
def ziG(o:Ops):SC:=⟨⟨[(0,(.ptr 0 0)),(1,hS),(2,(.ag [(.kn .i64 2),(.fn 246 [] [(.ptr 1 0)])])),(3,hS)],[zkG,zyB,zaE,zaF,zaD,zaC,qaV]⟩,2,[(none,⟨[(0,(.h yvS)),(1,hI)],[zkG,zyB,zaE,zaF,zaD,zaC,qaV]⟩)],fun x=>zdZ o x.1 x.2.1 x.2.2.1 x.2.2.2.1 x.2.2.2.2.1 x.2.2.2.2.2.1 x.2.2.2.2.2.2⟩
theorem zoM:SCok Tryz.prog tabs 199 (ziG o):=zbC (o:=o) (η:=[(2000003,.join [] [1,3] [(some 1000000,⟨[(8,(.ptr 7 0)),(9,hI)],[zkG,zyB,zaE,zaF,zaD,zaC,qaV,yvA]⟩),(none,⟨[(0,(.ptr 0 0)),(6,(.ptr 7 0)),(8,(.ptr 8 0))],[zkG,zyB,zaE,zaF,zaD,zaC,qaV,.blk 187 [(.kn .i64 2),(.fn 246 [] [(.ptr 1 0)])],yvA]⟩)])]) (Γ:=⟨[(13,(zbE o))],[(246,(zgS o))],false,[]⟩) (ctok ⟨zbK,trivial⟩ ⟨zlV,trivial⟩) Tryz.func199
def zoI(o:Ops)(v0:Bs)(v1:Bs)(v2:qbZ)(v3:qbY)(v4:qbW)(v5:qbV)(v6:List ((Bs×Bs)×Unit)):Option ((Int×qbZ×qbY×qbW×qbV×(List ((Bs×Bs)×Unit))×(List Bs)×(List Bs)×(List Bs)×Int)):=
 (zaM o v2 v3 v4 v5 v6).bind fun v7=>(zdZ o v0 v1 v7.1 v7.2.1 v7.2.2.1 v7.2.2.2.1 v7.2.2.2.2).bind fun v8=>some (v8.2.1,v8.2.2.1,v8.2.2.2.1,v8.2.2.2.2.1,v8.2.2.2.2.2.1,v8.2.2.2.2.2.2,v8.1.1.1,v8.1.1.2.1,v8.1.1.2.2,v8.1.2)
def znQ(o:Ops)(v1:Bs)(v9:Int×qbZ×qbY×qbW×qbV×(List ((Bs×Bs)×Unit))×(List Bs)×(List Bs)×(List Bs)×Int):Option ((Bool×qbZ×qbY×qbW×qbV×(List ((Bs×Bs)×Unit))×(List Bs)×(List Bs)×(List Bs)×Int)):=
 (zaY o v9.2.2.2.2.2.2.2.2.1 v1).bind fun v10=>some (v10,v9.2)
def zoA(o:Ops)(v1:Bs)(v9:Int×qbZ×qbY×qbW×qbV×(List ((Bs×Bs)×Unit))×(List Bs)×(List Bs)×(List Bs)×Int):Option ((Int×zbA)⊕(qbZ×qbY×qbW×qbV×(List ((Bs×Bs)×Unit))×(List Bs)×(List Bs)×(List Bs)×Int)):=
 bif(v9.1 != 0)then some (.inl (v9.1,v9.2.1,v9.2.2.1,v9.2.2.2.1,v9.2.2.2.2.1,v9.2.2.2.2.2.1))else((znQ o v1 v9).bind fun v11=>bif v11.1 then some (.inl ((121:Int),v11.2.1,v11.2.2.1,v11.2.2.2.1,v11.2.2.2.2.1,v11.2.2.2.2.2.1))else some (.inr v11.2))
def zoQ(o:Ops)(v1:Bs)(v14:qbZ×qbY×qbW×qbV×(List ((Bs×Bs)×Unit))×(List Bs)×(List Bs)×(List Bs)×Int):Option ((qbZ×qbY×qbW×qbV×(List ((Bs×Bs)×Unit))×(List Bs)×(List Bs)×(List Bs)×Int)):=
 (zeP o v14.2.2.2.2.2.2.2.1 v1).bind fun v15=>some (v14.1,v14.2.1,v14.2.2.1,v14.2.2.2.1,v14.2.2.2.2.1,v14.2.2.2.2.2.1,v14.2.2.2.2.2.2.1,v15,v14.2.2.2.2.2.2.2.2)
def zfU(o:Ops)(v0:Bs)(v1:Bs)(v2:qbZ)(v3:qbY)(v4:qbW)(v5:qbV)(v6:List ((Bs×Bs)×Unit)):Option ((Int×zbA)):=
 (zoI o v0 v1 v2 v3 v4 v5 v6).bind fun v9=>(zoA o v1 v9).bind fun v12=>match v12 with
 |.inl v13=>some v13
 |.inr v14=>((zoQ o v1 v14).bind fun v16=>let v17:qbY:=mset keqS kltS v16.2.1 v0 ((v16.2.2.2.2.2.1,v16.2.2.2.2.2.2.1,v16.2.2.2.2.2.2.2.1),w64 (v16.2.2.2.2.2.2.2.2+1))
 some ((0:Int),v16.1,v17,v16.2.2.1,v16.2.2.2.1,v16.2.2.2.2.1))
def zoG(o:Ops):SC:=⟨⟨[(0,(.ptr 0 0)),(1,hS),(2,(.kn .i64 2)),(3,hS)],[zaV,zaE,zaF,zaD,zaC,qaV]⟩,1,[(none,⟨[(0,hI)],[zaV,zaE,ybD,zaD,zaC,qaV]⟩)],fun x=>zfU o x.1 x.2.1 x.2.2.1 x.2.2.2.1 x.2.2.2.2.1 x.2.2.2.2.2.1 x.2.2.2.2.2.2⟩
theorem zxH:SCok Tryz.prog tabs 101 (zoG o):=zbC (o:=o) (η:=[(2100000,.join [] [1,2,3] [(none,⟨[(0,(.ptr 0 0)),(9,(.ptr 6 0)),(10,hI)],[zaV,zaE,zaF,zaD,zaC,qaV,zwT]⟩)]),
 (2300005,.join [] [1,2,3] [(none,⟨[(0,(.ptr 0 0)),(9,(.ptr 6 0)),(26,hB)],[zaV,zaE,zaF,zaD,zaC,qaV,zwT]⟩)]),
 (2000008,.join [] [1,2,3] [(some 1000000,⟨[(8,hI)],[zaV,zaE,zaF,zaD,zaC,qaV]⟩),(none,⟨[(0,(.ptr 0 0)),(9,(.ptr 6 0))],[zaV,zaE,zaF,zaD,zaC,qaV,zwT]⟩)]),
 (2000009,.join [] [1] [(none,⟨[(0,(.ptr 0 0)),(9,(.ptr 6 0))],[zaV,zaE,zaF,zaD,zaC,qaV,zwT]⟩)]),
 (4000010,.sch [(.pu,0,[]),(.pu,1,[]),(.pu,2,[]),(.pu,3,[]),(.pu,4,[]),(.pu,5,[]),(.mn,6,[0,1,2,3,4,5,6])])]) (Γ:=⟨[(131,(zcY o)),(201,(zpG o))],[(173,(zbL o)),(199,(ziG o))],false,[]⟩) (ctok ⟨zdP,⟨ztL,trivial⟩⟩ ⟨zbW,⟨zoM,trivial⟩⟩) Tryz.func101
def zgO(o:Ops)(v0:Bs)(v1:Bs)(v2:qbZ)(v3:qbY)(v4:qbW)(v5:qbV)(v6:List ((Bs×Bs)×Unit)):Option ((Int×zbA)):=
 (zfU o v0 v1 v2 v3 v4 v5 v6).bind fun v7=>some v7
def ziT(o:Ops):SC:=⟨⟨[(0,(.ptr 0 0)),(1,hS),(2,hS)],[zaV,zaE,zaF,zaD,zaC,qaV]⟩,1,[(none,⟨[(0,hI)],[zaV,zaE,ybD,zaD,zaC,qaV]⟩)],fun x=>zgO o x.1 x.2.1 x.2.2.1 x.2.2.2.1 x.2.2.2.2.1 x.2.2.2.2.2.1 x.2.2.2.2.2.2⟩
theorem zpX:SCok Tryz.prog tabs 74 (ziT o):=zbC (o:=o) (η:=[]) (Γ:=⟨[],[(101,(zoG o))],false,[]⟩) (ctok trivial ⟨zxH,trivial⟩) Tryz.func74
def zbG(o:Ops)(v0:Bs):Option (Bool):=
 bif decide ((v0.length:Int)>2)then((subH v0 (2:Int)).bind fun v1=>bif(v1==([117,58]:Bs))then((subL v0 (2:Int)).bind fun v2=>(zaO o v2).bind fun v3=>some v3)else((subH v0 (2:Int)).bind fun v4=>bif(v4==([99,58]:Bs))then((subL v0 (2:Int)).bind fun v5=>(zaO o v5).bind fun v6=>some v6)else(some false)))else(some false)
def zhO(o:Ops):PC:=⟨[hS],[.b],fun x=>zbG o x,false⟩
theorem zkW:PCok Tryz.prog tabs 19 (zhO o):=zhS (o:=o) (η:=[]) (Γ:=⟨[(13,(zbE o))],[],false,[]⟩) (ctok ⟨zbK,trivial⟩ trivial) Tryz.func19
def zbP(_o:Ops)(v0:Bs)(v1:qbZ)(v2:qbY)(v3:qbW)(v4:qbV)(v5:List ((Bs×Bs)×Unit)):Option ((Bool×zbA)):=
 (idx v0 (0:Int)).bind fun v6=>bif((v6.toNat:Int)==((99:UInt8).toNat:Int))then((subL v0 (2:Int)).bind fun v7=>let _v8:zuI:=zfA keqS v4 v7 (([]:Bs),([]:Bs),([]:List Bs),([]:List Bs),false,false,false,false)
 some (mhas keqS v4 v7,v1,v2,v3,v4,v5))else((subL v0 (2:Int)).bind fun v9=>let _v10:zwZ:=zfA keqS v1 v9 (([]:Bs),([]:Bs),false,(0:Int))
 some (mhas keqS v1 v9,v1,v2,v3,v4,v5))
def zfD(o:Ops):SC:=⟨⟨[(0,(.ptr 0 0)),(1,hS)],[zaV,zaE,zaF,zaD,zaC,qaV]⟩,1,[(none,⟨[(0,hB)],[zaV,zaE,zaF,zaD,zaC,qaV]⟩)],fun x=>zbP o x.1 x.2.1 x.2.2.1 x.2.2.2.1 x.2.2.2.2.1 x.2.2.2.2.2⟩
theorem ziB:SCok Tryz.prog tabs 128 (zfD o):=zbC (o:=o) (η:=[(4000002,.sch [(.pu,0,[]),(.pu,1,[]),(.pu,2,[]),(.pu,3,[]),(.pu,4,[]),(.pu,5,[]),(.pu,6,[]),(.pu,7,[]),(.pu,8,[]),(.pu,9,[6]),(.mn,10,[]),(.mn,11,[6]),(.pu,12,[])]),
 (4000004,.sch [(.pu,0,[]),(.pu,1,[]),(.pu,2,[]),(.pu,3,[]),(.pu,4,[]),(.pu,5,[]),(.pu,6,[]),(.pu,7,[]),(.pu,8,[]),(.pu,9,[6]),(.mn,10,[]),(.mn,11,[6]),(.pu,12,[])])]) (Γ:=⟨[],[],false,[]⟩) (ctok trivial trivial) Tryz.func128
def zoR(o:Ops)(v0:Bs)(v1:qbZ)(v2:qbY)(v3:qbW)(v4:qbV)(v5:List ((Bs×Bs)×Unit)):Option ((Bool×zbA)):=
 (zbG o v0).bind fun v6=>bif(!v6)then some (false,v1,v2,v3,v4,v5)else((idx v0 (0:Int)).bind fun v7=>bif((v7.toNat:Int)==((99:UInt8).toNat:Int))then((zbP o v0 v1 v2 v3 v4 v5).bind fun v8=>some v8)else((subL v0 (2:Int)).bind fun v9=>let v10:zwZ:=zfA keqS v1 v9 (([]:Bs),([]:Bs),false,(0:Int))
 some (v10.2.2.1,v1,v2,v3,v4,v5)))
def zmG(o:Ops):SC:=⟨⟨[(0,(.ptr 0 0)),(1,hS)],[zaV,zaE,zaF,zaD,zaC,qaV]⟩,1,[(none,⟨[(0,hB)],[zaV,zaE,zaF,zaD,zaC,qaV]⟩)],fun x=>zoR o x.1 x.2.1 x.2.2.1 x.2.2.2.1 x.2.2.2.2.1 x.2.2.2.2.2⟩
theorem zvM:SCok Tryz.prog tabs 49 (zmG o):=zbC (o:=o) (η:=[(4000005,.sch [(.pu,0,[]),(.pu,1,[]),(.pu,2,[]),(.pu,3,[]),(.pu,4,[]),(.pu,5,[]),(.pu,6,[]),(.pu,7,[]),(.pu,8,[])])]) (Γ:=⟨[(19,(zhO o))],[(128,(zfD o))],false,[]⟩) (ctok ⟨zkW,trivial⟩ ⟨ziB,trivial⟩) Tryz.func49
def zrB(_o:Ops)(v0:Bs)(v1:List (Bs×Unit)):Option ((Bool×List (Bs×Unit))):=
 let _v2:Unit:=zfA keqS v1 v0 ()
 some (mhas keqS v1 v0,v1)
def zpW(o:Ops):SC:=⟨⟨[(0,hS),(1,(.ptr 0 0))],[yfQ,zmM]⟩,1,[(none,⟨[(0,hB)],[yfQ,zmM]⟩)],fun x=>zrB o x.1 x.2⟩
theorem zxS:SCok Tryz.prog tabs 130 (zpW o):=zbC (o:=o) (η:=[]) (Γ:=⟨[],[],false,[]⟩) (ctok trivial trivial) Tryz.func130
def zzY(o:Ops)(v0:List Bs)(v2:Int)(v3:List (Bs×Unit)):Option ((Int×List (Bs×Unit))⊕((Int×List (Bs×Unit))⊕(List (Bs×Unit)))):=
 bif decide (v2<(v0.length:Int))then((idx v0 v2).bind fun v4=>(zrB o v4 v3).bind fun v5=>bif v5.1 then some (.inr (.inl (v2,v5.2)))else some (.inl (w64 (v2+1),v5.2)))else some (.inr (.inr v3))
def ztB(o:Ops)(v0:List Bs)(v1:List (Bs×Unit)):Option ((Int×List (Bs×Unit))):=
 (iter (fun x=>zzY o v0 x.1 x.2) ((0:Int),v1)).bind fun v6=>match v6 with
 |.inl v7=>some v7
 |.inr v8=>some ((-1:Int),v8)
def zsB(o:Ops):SC:=⟨⟨[(0,(.h (.sl .s))),(1,(.fn 130 [] [(.ptr 0 0)]))],[yfQ,zmM]⟩,1,[(none,⟨[(0,hI)],[yfQ,zmM]⟩)],fun x=>ztB o x.1 x.2⟩
theorem yaL:SCok Tryz.prog tabs 212 (zsB o):=zbC (o:=o) (η:=[(200002,.loop [] ⟨[(1,(.fn 130 [] [(.ptr 0 0)])),(8,hI)],[yfQ,zmM]⟩ [0,7] [(some 1000000,⟨[(4,hI)],[yfQ,zmM]⟩),(some 0,⟨[],[yfQ,zmM]⟩)])]) (Γ:=⟨[],[(130,(zpW o))],false,[]⟩) (ctok trivial ⟨zxS,trivial⟩) Tryz.func212
def zpK(o:Ops)(v0:List Bs)(v1:List (Bs×Unit)):Option ((Bool×List (Bs×Unit))):=
 (ztB o v0 v1).bind fun v2=>some (decide (v2.1≥0),v2.2)
def zoE(o:Ops):SC:=⟨⟨[(0,(.h (.sl .s))),(1,(.fn 130 [] [(.ptr 0 0)]))],[yfQ,zmM]⟩,1,[(none,⟨[(0,hB)],[yfQ,zmM]⟩)],fun x=>zpK o x.1 x.2⟩
theorem zwW:SCok Tryz.prog tabs 129 (zoE o):=zbC (o:=o) (η:=[]) (Γ:=⟨[],[(212,(zsB o))],false,[]⟩) (ctok trivial ⟨yaL,trivial⟩) Tryz.func129
def yhQ(_o:Ops)(v0:List (Bs×Unit)):Option ((List (Bs×Unit))):=
 some v0
def ydE(o:Ops):SC:=⟨⟨[(0,(.mpr 0))],[zmM]⟩,1,[(none,⟨[(0,(.fn 215 [] [(.ptr 1 0)]))],[zmM,.blk 160 [(.mpr 0)]]⟩)],fun x=>yhQ o x⟩
theorem ymW:SCok Tryz.prog tabs 133 (ydE o):=zbC (o:=o) (η:=[]) (Γ:=⟨[],[],false,[]⟩) (ctok trivial trivial) Tryz.func133
def ymK:SC:=⟨⟨[(0,(.fn 215 [] [(.ptr 0 0)]))],[yfQ,zmM]⟩,1,[(none,⟨[(0,(.h (.sl .s)))],[yfQ,zmM]⟩)],fun es=>zoT es⟩
theorem ywT:SCok Tryz.prog tabs 132 ymK:=wit (G:=tabs)<|zyH (kT:=9) (isFn Tryz.func132) (by kernel_rfl) YtopanhneegpgcaaGreatDoor.sorted215K
noncomputable def yaR(_o:Ops)(v6:Bool)(v7:qbZ)(v8:qbY)(v9:qbW)(v10:qbV)(v11:List ((Bs×Bs)×Unit))(v12:List (Bs×Unit)):Option (((Bool×qbZ×qbY×qbW×qbV×(List ((Bs×Bs)×Unit))×List (Bs×Unit))⊕(Bool×qbZ×qbY×qbW×qbV×(List ((Bs×Bs)×Unit))×(List Bs)×List (Bs×Unit)))⊕((qbZ×qbY×qbW×qbV×(List ((Bs×Bs)×Unit))×List (Bs×Unit)))):=
 bif v6 then some (.inl (.inr (false,v7,v8,v9,v10,v11,List.map Prod.fst v8,v12)))else some (.inr (v7,v8,v9,v10,v11,v12))
noncomputable def zzV(o:Ops)(v0:Bs)(v13:Bool)(v14:qbZ)(v15:qbY)(v16:qbW)(v17:qbV)(v18:List ((Bs×Bs)×Unit))(v19:List Bs)(v20:List (Bs×Unit)):List (Option (((Bool×qbZ×qbY×qbW×qbV×(List ((Bs×Bs)×Unit))×List (Bs×Unit))⊕(Bool×qbZ×qbY×qbW×qbV×(List ((Bs×Bs)×Unit))×(List Bs)×List (Bs×Unit)))⊕((qbZ×qbY×qbW×qbV×(List ((Bs×Bs)×Unit))×List (Bs×Unit))))):=
 rngL (rngC keqS v15 v19) (some (.inl (.inl (v13,v14,v15,v16,v17,v18,v20)))) fun v21=>(mget keqS v15 v21.1).bind fun v22=>let _v23:Unit:=zfA keqS v20 v21.1 ()
 bif mhas keqS v20 v21.1 then some (.inl (.inr (v13,v14,v15,v16,v17,v18,rngD keqS v19 v21.1,v20)))else((zpK o v22.1.2.1 v20).bind fun v24=>bif v24.1 then(let v25:List (Bs×Unit):=mset keqS kltS v24.2 v21.1 ()
 some (.inl (.inr (true,v14,v15,v16,v17,v18,rngD keqS v19 v21.1,v25))))else((zaY o v22.1.1 v0).bind fun v26=>bif v26 then(let v27:List (Bs×Unit):=mset keqS kltS v24.2 v21.1 ()
 some (.inl (.inr (true,v14,v15,v16,v17,v18,rngD keqS v19 v21.1,v27))))else some (.inl (.inr (v13,v14,v15,v16,v17,v18,rngD keqS v19 v21.1,v24.2)))))
noncomputable def yaE(o:Ops)(v0:Bs):(Bool×qbZ×qbY×qbW×qbV×(List ((Bs×Bs)×Unit))×List (Bs×Unit))⊕(Bool×qbZ×qbY×qbW×qbV×(List ((Bs×Bs)×Unit))×(List Bs)×List (Bs×Unit))->List (Option (((Bool×qbZ×qbY×qbW×qbV×(List ((Bs×Bs)×Unit))×List (Bs×Unit))⊕(Bool×qbZ×qbY×qbW×qbV×(List ((Bs×Bs)×Unit))×(List Bs)×List (Bs×Unit)))⊕((qbZ×qbY×qbW×qbV×(List ((Bs×Bs)×Unit))×List (Bs×Unit)))))
 |.inl x=>[yaR o x.1 x.2.1 x.2.2.1 x.2.2.2.1 x.2.2.2.2.1 x.2.2.2.2.2.1 x.2.2.2.2.2.2]
 |.inr x=>zzV o v0 x.1 x.2.1 x.2.2.1 x.2.2.2.1 x.2.2.2.2.1 x.2.2.2.2.2.1 x.2.2.2.2.2.2.1 x.2.2.2.2.2.2.2
noncomputable def zeE(o:Ops)(v0:Bs)(v1:qbZ)(v2:qbY)(v3:qbW)(v4:qbV)(v5:List ((Bs×Bs)×Unit)):Option (((List Bs)×zbA)):=
 (rngA (yaE o v0) (Sum.inl (true,v1,v2,v3,v4,v5,([]:List (Bs×Unit))))).bind fun v28=>(yhQ o v28.2.2.2.2.2).bind fun v29=>(zoT v29).bind fun v30=>some (v30.1,v28.1,v28.2.1,v28.2.2.1,v28.2.2.2.1,v28.2.2.2.2.1)
noncomputable def zlB(o:Ops):SC:=⟨⟨[(0,(.ptr 0 0)),(1,hS)],[zaV,zaE,zaF,zaD,zaC,qaV]⟩,1,[(none,⟨[(0,(.hc .s))],[zaV,zaE,zaF,zaD,zaC,qaV]⟩)],fun x=>zeE o x.1 x.2.1 x.2.2.1 x.2.2.2.1 x.2.2.2.2.1 x.2.2.2.2.2⟩
theorem zsG:SCok Tryz.prog tabs 50 (zlB o):=witO (G:=tabs) (o:=o)<|xqF (H:=⟨[false,false,true,false],[],⟨[(0,(.ptr 0 0)),(5,(.ptr 6 0)),(6,hB)],[zaV,zaE,zaF,zaD,zaC,qaV,.blk 160 [(.mpr 7)],zmM]⟩,[1,4],[(some 0,⟨[(5,(.ptr 6 0))],[zaV,zaE,zaF,zaD,zaC,qaV,.blk 160 [(.mpr 7)],zmM]⟩)],[false,false,false],⟨[(0,(.ptr 0 0)),(5,(.ptr 6 0)),(6,hB),(18,(.ptr 7 0))],[zaV,zaE,zaF,zaD,zaC,qaV,.blk 160 [(.mpr 8)],.it 2 true .s,zmM]⟩,[1,4]⟩) (η:=[]) (Γ:=⟨[(131,(zcY o)),(61,yaH)],[(129,(zoE o)),(133,(ydE o)),(132,ymK)],false,[]⟩) ydG τ_okWkF (ctok ⟨zdP,⟨ycW,trivial⟩⟩ ⟨zwW,⟨ymW,⟨ywT,trivial⟩⟩⟩) Tryz.func50 (isFn Tryz.func50) (by kernel_rfl) (by kernel_rfl) (by kernel_rfl)
def xdK:SC:=⟨⟨[(0,(.own 0))],[.osl .s 9]⟩,0,[(none,⟨[],[.osl .s 9]⟩)],xaD⟩
theorem xpB:SCok Tryz.prog tabs 102 xdK:=wit (G:=tabs)<|xtV
def yjF:SC:=⟨⟨[(0,(.own 0))],[.osl .s 9]⟩,1,[(none,⟨[(0,(.h (.sl .s)))],[.dead]⟩)],yhF⟩
theorem yuV:SCok Tryz.prog tabs 103 yjF:=wit (G:=tabs)<|xgL
noncomputable def zwC(_o:Ops)(v15:zzO)(v16:Int)(v17:qbZ)(v18:qbY)(v19:qbW)(v20:qbV)(v21:List ((Bs×Bs)×Unit))(v22:List Bs):Option ((Int×qbZ×qbY×qbW×qbV×(List ((Bs×Bs)×Unit))×List Bs)⊕((qbZ×qbY×qbW×qbV×(List ((Bs×Bs)×Unit))×List Bs))):=
 bif decide (v16<(v15.1.2.2.length:Int))then((idx v15.1.2.2 v16).bind fun v23=>let v24:zdT:=zfA keqS v19 v23 (([]:Bs),([]:List Bs))
 (app v22 v24.2).bind fun v25=>some (.inl (w64 (v16+1),v17,v18,v19,v20,v21,v25)))else some (.inr (v17,v18,v19,v20,v21,v22))
noncomputable def zxB(o:Ops)(v6:((List Bs)×zbA))(v7:Int)(v8:qbZ)(v9:qbY)(v10:qbW)(v11:qbV)(v12:List ((Bs×Bs)×Unit))(v13:List Bs):Option ((Int×qbZ×qbY×qbW×qbV×(List ((Bs×Bs)×Unit))×List Bs)⊕((qbZ×qbY×qbW×qbV×(List ((Bs×Bs)×Unit))×List Bs))):=
 bif decide (v7<(v6.1.length:Int))then((idx v6.1 v7).bind fun v14=>let v15:zzO:=zfA keqS v9 v14 ((([]:List Bs),([]:List Bs),([]:List Bs)),(0:Int))
 (iter (fun x=>zwC o v15 x.1 x.2.1 x.2.2.1 x.2.2.2.1 x.2.2.2.2.1 x.2.2.2.2.2.1 x.2.2.2.2.2.2) ((0:Int),v8,v9,v10,v11,v12,v13)).bind fun v26=>some (.inl (w64 (v7+1),v26)))else some (.inr (v8,v9,v10,v11,v12,v13))
noncomputable def zdV(o:Ops)(v0:Bs)(v1:qbZ)(v2:qbY)(v3:qbW)(v4:qbV)(v5:List ((Bs×Bs)×Unit)):Option (((List Bs)×zbA)):=
 (zeE o v0 v1 v2 v3 v4 v5).bind fun v6=>(iter (fun x=>zxB o v6 x.1 x.2.1 x.2.2.1 x.2.2.2.1 x.2.2.2.2.1 x.2.2.2.2.2.1 x.2.2.2.2.2.2) ((0:Int),v6.2.1,v6.2.2.1,v6.2.2.2.1,v6.2.2.2.2.1,v6.2.2.2.2.2,([]:List Bs))).bind fun v27=>(xaD v27.2.2.2.2.2).bind fun v28=>(yhF v28).bind fun v29=>some (v29,v27.1,v27.2.1,v27.2.2.1,v27.2.2.2.1,v27.2.2.2.2.1)
noncomputable def zoN(o:Ops):SC:=⟨⟨[(0,(.ptr 0 0)),(1,hS)],[zaV,zaE,zaF,zaD,zaC,qaV]⟩,1,[(none,⟨[(0,(.hc .s))],[zaV,zaE,zaF,zaD,zaC,qaV]⟩)],fun x=>zdV o x.1 x.2.1 x.2.2.1 x.2.2.2.1 x.2.2.2.2.1 x.2.2.2.2.2⟩
theorem zxF:SCok Tryz.prog tabs 34 (zoN o):=zbC (o:=o) (η:=[(200006,.loop [] ⟨[(0,(.ptr 0 0)),(5,(.own 6)),(27,hI)],[zaV,zaE,zaF,zaD,zaC,qaV,.osl .s 9]⟩ [4,12,13,14,25,26] [(some 2,⟨[(0,(.ptr 0 0)),(5,(.own 6))],[zaV,zaE,zaF,zaD,zaC,qaV,.osl .s 9]⟩)]),
 (200003,.loop [.sl 5 .s 9] ⟨[(0,(.ptr 0 0)),(5,(.own 6)),(14,hI)],[zaV,zaE,zaF,zaD,zaC,qaV,.osl .s 9]⟩ [4,12,13] [(some 0,⟨[(5,(.own 6))],[zaV,zaE,zaF,zaD,zaC,qaV,.osl .s 9]⟩)])]) (Γ:=⟨[(61,yaH)],[(50,(zlB o)),(102,xdK),(103,yjF)],false,[]⟩) (ctok ⟨ycW,trivial⟩ ⟨zsG,⟨xpB,⟨yuV,trivial⟩⟩⟩) Tryz.func34
def zyJ(_o:Ops)(v0:qbV):Option (qbV):=
 some v0
def ybO(o:Ops):SC:=⟨⟨[(0,(.mpr 0))],[zaC]⟩,1,[(none,⟨[(0,(.fn 271 [] [(.ptr 1 0)]))],[zaC,.blk 125 [(.mpr 0)]]⟩)],fun x=>zyJ o x⟩
theorem ylB:SCok Tryz.prog tabs 203 (ybO o):=zbC (o:=o) (η:=[]) (Γ:=⟨[],[],false,[]⟩) (ctok trivial trivial) Tryz.func203
def yiY:SC:=⟨⟨[(0,(.fn 271 [] [(.ptr 0 0)]))],[.blk 125 [(.mpr 1)],zaC]⟩,1,[(none,⟨[(0,(.h (.sl .s)))],[.blk 125 [(.mpr 1)],zaC]⟩)],fun es=>zoT es⟩
theorem yuK:SCok Tryz.prog tabs 132 yiY:=wit (G:=tabs)<|zyH (kT:=9) (isFn Tryz.func132) (by kernel_rfl) YtopanhneegpgcaaGreatDoor.sorted271K
def ziS(_o:Ops)(v0:zuI):Option zuI:=
 (app ([]:List Bs) v0.2.2.1).bind fun v1=>(app ([]:List Bs) v0.2.2.2.1).bind fun v2=>some (v0.1,v0.2.1,v1,v2,v0.2.2.2.2)
def zqN(o:Ops):PC:=⟨[(.h ycA)],[ycA],fun x=>ziS o x,false⟩
theorem zwJ:PCok Tryz.prog tabs 107 (zqN o):=zhS (o:=o) (η:=[(4000001,.sch [(.pu,0,[]),(.pu,1,[]),(.pu,4,[3]),(.pu,5,[3]),(.mn,2,[]),(.mn,3,[3]),(.pu,8,[5]),(.mn,6,[]),(.mn,7,[5]),(.mn,9,[0]),(.pu,10,[]),(.mn,11,[0])])]) (Γ:=⟨[(61,yaH)],[(198,zvZ)],false,[]⟩) (ctok ⟨ycW,trivial⟩ ⟨zzF,trivial⟩) Tryz.func107
def zgH(o:Ops)(_v0:Bs)(v1:zuI):Option zuI:=
 (ziS o v1).bind fun v2=>some v2
def zjW(o:Ops):PC:=⟨[hS,(.h ycA)],[ycA],fun x=>zgH o x.1 x.2,false⟩
theorem zsS:PCok Tryz.prog tabs 109 (zjW o):=zhS (o:=o) (η:=[]) (Γ:=⟨[(107,(zqN o))],[],false,[]⟩) (ctok ⟨zwJ,trivial⟩ trivial) Tryz.func109
def zqU(o:Ops)(v3:((List Bs)×qbV))(v4:Int)(v5:qbV)(v6:List zuI):Option ((Int×qbV×List zuI)⊕((qbV×List zuI))):=
 bif decide (v4<(v3.1.length:Int))then((idx v3.1 v4).bind fun v7=>let v8:zuI:=zfA keqS v5 v7 (([]:Bs),([]:Bs),([]:List Bs),([]:List Bs),false,false,false,false)
 (zgH o v7 v8).bind fun v9=>(app v6 ([v9]:List zuI)).bind fun v10=>some (.inl (w64 (v4+1),v5,v10)))else some (.inr (v5,v6))
def zsK(o:Ops)(v0:qbV):Option ((qbV×List zuI)):=
 (chk (decide ((0:Int)<=(v0.length:Int))&&decide ((v0.length:Int)<=(LIM:Int)))).bind fun _=>(mkL (0:Int) (([]:Bs),([]:Bs),([]:List Bs),([]:List Bs),false,false,false,false)).bind fun v1=>(zyJ o v0).bind fun v2=>(zoT v2).bind fun v3=>(iter (fun x=>zqU o v3 x.1 x.2.1 x.2.2) ((0:Int),v3.2,v1)).bind fun v11=>some v11
def zwM(o:Ops):SC:=⟨⟨[(0,(.mpr 0)),(1,(.fn 109 [] []))],[zaC]⟩,1,[(none,⟨[(0,(.own 1))],[zaC,.osl ycA 51]⟩)],fun x=>zsK o x⟩
theorem ydS:SCok Tryz.prog tabs 108 (zwM o):=zbC (o:=o) (η:=[(200003,.loop [] ⟨[(0,(.mpr 0)),(1,(.fn 109 [] [])),(5,(.own 1)),(15,hI)],[zaC,.osl ycA 51]⟩ [4,13,14] [(some 0,⟨[(5,(.own 1))],[zaC,.osl ycA 51]⟩)])]) (Γ:=⟨[(109,(zjW o))],[(203,(ybO o)),(132,yiY)],false,[]⟩) (ctok ⟨zsS,trivial⟩ ⟨ylB,⟨yuK,trivial⟩⟩) Tryz.func108
def zeO(o:Ops)(v0:qbZ)(v1:qbY)(v2:qbW)(v3:qbV)(v4:List ((Bs×Bs)×Unit)):Option ((qbZ×qbY×qbW×qbV×(List ((Bs×Bs)×Unit))×List zuI)):=
 (zsK o v3).bind fun v5=>some (v0,v1,v2,v5.1,v4,v5.2)
def zlI(o:Ops):SC:=⟨⟨[(0,(.ptr 0 0))],[zaV,zaE,zaF,zaD,zaC,qaV]⟩,1,[(none,⟨[(0,(.own 6))],[zaV,zaE,zaF,zaD,zaC,qaV,.osl ycA 51]⟩)],fun x=>zeO o x.1 x.2.1 x.2.2.1 x.2.2.2.1 x.2.2.2.2⟩
theorem zuV:SCok Tryz.prog tabs 38 (zlI o):=zbC (o:=o) (η:=[]) (Γ:=⟨[],[(108,(zwM o))],false,[]⟩) (ctok trivial ⟨ydS,trivial⟩) Tryz.func38
def zgJ(_o:Ops)(v0:Bool):Option Bs:=
 bif v0 then(some ([49]:Bs))else(some ([48]:Bs))
def zxP(o:Ops):PC:=⟨[hB],[.s],fun x=>zgJ o x,false⟩
theorem yhO:PCok Tryz.prog tabs 86 (zxP o):=zhS (o:=o) (η:=[]) (Γ:=⟨[],[],false,[]⟩) (ctok trivial trivial) Tryz.func86
def zcW(o:Ops)(v0:List Bs):Option (List Bs):=
 (o.itoa (v0.length:Int)).bind fun v1=>(app ([v1]:List Bs) v0).bind fun v2=>some v2
def zwH(o:Ops):PC:=⟨[(.h (.sl .s))],[(.sl .s)],fun x=>zcW o x,false⟩
theorem ydP:PCok Tryz.prog tabs 87 (zwH o):=zhS (o:=o) (η:=[]) (Γ:=⟨[(68,(yqO o))],[],false,[]⟩) (ctok ⟨(zoV.itoa (G:=tabs)),trivial⟩ trivial) Tryz.func87
def yzC:SC:=⟨⟨[(0,.nils),(1,hI)],[]⟩,1,[(none,⟨[(0,(.own 0))],[.osl .s 9]⟩)],fun n=>yqF .s n⟩
theorem xlM:SCok Tryz.prog tabs 187 yzC:=wit (G:=tabs)<|xiC (isFn Tryz.func187) xuG
def zhU(_o:Ops)(v0:List (List Bs))(v1:Int)(v2:Int):Option ((Int×Int)⊕Int):=
 bif decide (v2<(v0.length:Int))then((idx v0 v2).bind fun v3=>bif decide ((w64 (v1+(v3.length:Int)))<0)then none else some (.inl (w64 (v1+(v3.length:Int)),w64 (v2+1))))else some (.inr v1)
def zhT(_o:Ops)(v0:List (List Bs))(v6:Int)(v7:List Bs):Option ((Int×List Bs)⊕List Bs):=
 bif decide (v6<(v0.length:Int))then((idx v0 v6).bind fun v8=>(app v7 v8).bind fun v9=>some (.inl (w64 (v6+1),v9)))else some (.inr v7)
def zjA(o:Ops)(v0:List (List Bs)):Option (List Bs):=
 (iter (fun x=>zhU o v0 x.1 x.2) ((0:Int),(0:Int))).bind fun v4=>(yqF .s v4).bind fun v5=>(iter (fun x=>zhT o v0 x.1 x.2) ((0:Int),v5)).bind fun v10=>some v10
def zwE(o:Ops):PC:=⟨[(.h (.sl (.sl .s)))],[(.sl .s)],fun x=>zjA o x,false⟩
theorem ydT:PCok Tryz.prog tabs 85 (zwE o):=zhS (o:=o) (η:=[(200003,.loop [] ⟨[(3,hI),(11,hI)],[]⟩ [0,2,9,10] [(some 0,⟨[(3,hI)],[]⟩)]),
 (200011,.loop [] ⟨[(6,(.own 0)),(27,hI)],[.osl .s 9]⟩ [2,25,26] [(some 2,⟨[(6,(.own 0))],[.osl .s 9]⟩)])]) (Γ:=⟨[],[(187,yzC)],false,[]⟩) (ctok trivial ⟨xlM,trivial⟩) Tryz.func85
def zcC(o:Ops)(v0:Bs)(v1:List Bs)(v2:List (Bs×Bs)):Option ((List (Bs×Bs))):=
 (o.form v1).bind fun v3=>(app v2 ([(v0,v3)]:List (Bs×Bs))).bind fun v4=>some v4
def zlG(o:Ops):SC:=⟨⟨[(0,hS),(1,(.h (.sl .s))),(2,(.ptr 0 0))],[xiT,.osl (.pr .s .s) 33]⟩,0,[(none,⟨[],[ywC,.dead,.osl (.pr .s .s) 33]⟩)],fun x=>zcC o x.1 x.2.1 x.2.2⟩
theorem zuN:SCok Tryz.prog tabs 84 (zlG o):=zbC (o:=o) (η:=[(4000000,.sch [(.pu,0,[]),(.pu,1,[]),(.pu,2,[]),(.mn,3,[]),(.pu,4,[]),(.mn,5,[]),(.mn,6,[1]),(.mn,7,[0])])]) (Γ:=⟨[(22,(ygQ o))],[],false,[]⟩) (ctok ⟨(zoV.form (G:=tabs)),trivial⟩ trivial) Tryz.func84
def zxY(_o:Ops)(v0:qbY):Option (qbY):=
 some v0
def yaW(o:Ops):SC:=⟨⟨[(0,(.mpr 0))],[zaF]⟩,1,[(none,⟨[(0,(.fn 260 [] [(.ptr 1 0)]))],[zaF,.blk 123 [(.mpr 0)]]⟩)],fun x=>zxY o x⟩
theorem ylP:SCok Tryz.prog tabs 196 (yaW o):=zbC (o:=o) (η:=[]) (Γ:=⟨[],[],false,[]⟩) (ctok trivial trivial) Tryz.func196
def yjK:SC:=⟨⟨[(0,(.fn 260 [] [(.ptr 0 0)]))],[.blk 123 [(.mpr 1)],zaF]⟩,1,[(none,⟨[(0,(.h (.sl .s)))],[.blk 123 [(.mpr 1)],zaF]⟩)],fun es=>zoT es⟩
theorem yuU:SCok Tryz.prog tabs 132 yjK:=wit (G:=tabs)<|zyH (kT:=9) (isFn Tryz.func132) (by kernel_rfl) YtopanhneegpgcaaGreatDoor.sorted260K
def zhA(_o:Ops)(v0:List Bs):Option (List Bs):=
 (app ([]:List Bs) v0).bind fun v1=>some v1
def zwP(o:Ops):SC:=⟨⟨[(0,(.h (.sl .s)))],[]⟩,1,[(none,⟨[(0,(.hc .s))],[]⟩)],fun x=>zhA o x⟩
theorem yeG:SCok Tryz.prog tabs 197 (zwP o):=zbC (o:=o) (η:=[]) (Γ:=⟨[(61,yaH)],[(198,zvZ)],false,[]⟩) (ctok ⟨ycW,trivial⟩ ⟨zzF,trivial⟩) Tryz.func197
def zvD(o:Ops)(v0:Bs)(v1:zzO):Option yhW:=
 (zhA o v1.1.1).bind fun v2=>(zhA o v1.1.2.1).bind fun v3=>(zhA o v1.1.2.2).bind fun v4=>some (v0,v2,v3,v4,v1.2)
def zzT(o:Ops):PC:=⟨[hS,(.h yvS)],[yvF],fun x=>zvD o x.1 x.2,false⟩
theorem yiC:PCok Tryz.prog tabs 100 (zzT o):=zhS (o:=o) (η:=[(4000002,.sch [(.pu,0,[]),(.pu,1,[]),(.pu,2,[]),(.pu,3,[]),(.pu,4,[]),(.pu,6,[]),(.pu,7,[]),(.pu,8,[]),(.pu,9,[]),(.pu,11,[]),(.pu,12,[]),(.pu,13,[]),(.pu,14,[]),(.pu,16,[]),(.pu,17,[]),(.mn,5,[]),(.mn,10,[]),(.mn,15,[]),(.pu,18,[]),(.mn,19,[1])])]) (Γ:=⟨[],[(197,(zwP o))],false,[]⟩) (ctok trivial ⟨yeG,trivial⟩) Tryz.func100
def zpB(o:Ops)(v3:((List Bs)×qbY))(v4:Int)(v5:qbY)(v6:List yhW):Option ((Int×qbY×List yhW)⊕((qbY×List yhW))):=
 bif decide (v4<(v3.1.length:Int))then((idx v3.1 v4).bind fun v7=>let v8:zzO:=zfA keqS v5 v7 ((([]:List Bs),([]:List Bs),([]:List Bs)),(0:Int))
 (zvD o v7 v8).bind fun v9=>(app v6 ([v9]:List yhW)).bind fun v10=>some (.inl (w64 (v4+1),v5,v10)))else some (.inr (v5,v6))
def zqV(o:Ops)(v0:qbY):Option ((qbY×List yhW)):=
 (chk (decide ((0:Int)<=(v0.length:Int))&&decide ((v0.length:Int)<=(LIM:Int)))).bind fun _=>(mkL (0:Int) (([]:Bs),([]:List Bs),([]:List Bs),([]:List Bs),(0:Int))).bind fun v1=>(zxY o v0).bind fun v2=>(zoT v2).bind fun v3=>(iter (fun x=>zpB o v3 x.1 x.2.1 x.2.2) ((0:Int),v3.2,v1)).bind fun v11=>some v11
def zuS(o:Ops):SC:=⟨⟨[(0,(.mpr 0)),(1,(.fn 100 [] []))],[zaF]⟩,1,[(none,⟨[(0,(.own 1))],[zaF,.osl yvF 57]⟩)],fun x=>zqV o x⟩
theorem ycZ:SCok Tryz.prog tabs 99 (zuS o):=zbC (o:=o) (η:=[(200003,.loop [] ⟨[(0,(.mpr 0)),(1,(.fn 100 [] [])),(5,(.own 1)),(15,hI)],[zaF,.osl yvF 57]⟩ [4,13,14] [(some 0,⟨[(5,(.own 1))],[zaF,.osl yvF 57]⟩)])]) (Γ:=⟨[(100,(zzT o))],[(196,(yaW o)),(132,yjK)],false,[]⟩) (ctok ⟨yiC,trivial⟩ ⟨ylP,⟨yuU,trivial⟩⟩) Tryz.func99
def zdI(o:Ops)(v0:qbZ)(v1:qbY)(v2:qbW)(v3:qbV)(v4:List ((Bs×Bs)×Unit)):Option ((qbZ×qbY×qbW×qbV×(List ((Bs×Bs)×Unit))×List yhW)):=
 (zqV o v1).bind fun v5=>some (v0,v5.1,v2,v3,v4,v5.2)
def zhM(o:Ops):SC:=⟨⟨[(0,(.ptr 0 0))],[zaV,zaE,zaF,zaD,zaC,qaV]⟩,1,[(none,⟨[(0,(.own 6))],[zaV,zaE,zaF,zaD,zaC,qaV,.osl yvF 57]⟩)],fun x=>zdI o x.1 x.2.1 x.2.2.1 x.2.2.2.1 x.2.2.2.2⟩
theorem zmP:SCok Tryz.prog tabs 32 (zhM o):=zbC (o:=o) (η:=[]) (Γ:=⟨[],[(99,(zuS o))],false,[]⟩) (ctok trivial ⟨ycZ,trivial⟩) Tryz.func32
def zyF(_o:Ops)(v0:List ((Bs×Bs)×Unit)):Option ((List ((Bs×Bs)×Unit))):=
 some v0
def ybZ(o:Ops):SC:=⟨⟨[(0,(.mpr 0))],[qaV]⟩,1,[(none,⟨[(0,(.fn 211 [] [(.ptr 1 0)]))],[qaV,.blk 126 [(.mpr 0)]]⟩)],fun x=>zyF o x⟩
theorem ykX:SCok Tryz.prog tabs 125 (ybZ o):=zbC (o:=o) (η:=[]) (Γ:=⟨[],[],false,[]⟩) (ctok trivial trivial) Tryz.func125
def yjB:SC:=⟨⟨[(0,(.fn 211 [] [(.ptr 0 0)])),(1,(.fn 126 [] []))],[.blk 126 [(.mpr 1)],qaV]⟩,1,[(none,⟨[(0,(.h (.sl (.pr .s .s))))],[.blk 126 [(.mpr 1)],qaV]⟩)],fun(es:List ((Bs×Bs)×Unit))=>ybJ es⟩
theorem yuP:SCok Tryz.prog tabs 124 yjB:=wit (G:=tabs)<|yrD
def ysB:PC:=⟨[.h (.sl (.pr .s .s))],[(.sl (.pr .s .s))],fun xs=>some xs,true⟩
theorem xgK:PCok Tryz.prog tabs 127 ysB:=wit (G:=tabs)<|ypX ydG τ_okWkF Tryz.func127 (isFn Tryz.func127) rfl (by kernel_rfl) (fun _=>by kernel_rfl)
def zgP(o:Ops)(v0:qbZ)(v1:qbY)(v2:qbW)(v3:qbV)(v4:List ((Bs×Bs)×Unit)):Option (((List (Bs×Bs))×zbA)):=
 (zyF o v4).bind fun v5=>(ybJ v5).bind fun v6=>some (v6.1,v0,v1,v2,v3,v6.2)
def zpL(o:Ops):SC:=⟨⟨[(0,(.ptr 0 0))],[zaV,zaE,zaF,zaD,zaC,qaV]⟩,1,[(none,⟨[(0,(.hc (.pr .s .s)))],[zaV,zaE,zaF,zaD,zaC,qaV]⟩)],fun x=>zgP o x.1 x.2.1 x.2.2.1 x.2.2.2.1 x.2.2.2.2⟩
theorem zxZ:SCok Tryz.prog tabs 45 (zpL o):=zbC (o:=o) (η:=[]) (Γ:=⟨[(127,ysB)],[(125,(ybZ o)),(124,yjB)],false,[]⟩) (ctok ⟨xgK,trivial⟩ ⟨ykX,⟨yuP,trivial⟩⟩) Tryz.func45
def zhJ(o:Ops)(v0:Bs)(v1:List (Bs×Bs)):Option ((List (Bs×Bs))):=
 (o.form ([]:List Bs)).bind fun v2=>(app v1 ([(v0,v2)]:List (Bs×Bs))).bind fun v3=>some v3
def zlW(o:Ops):SC:=⟨⟨[(0,hS),(1,.nils),(2,(.ptr 0 0))],[xiT,.osl (.pr .s .s) 33]⟩,0,[(none,⟨[],[ywC,.dead,.osl (.pr .s .s) 33]⟩)],fun x=>zhJ o x.1 x.2⟩
theorem zuE:SCok Tryz.prog tabs 84 (zlW o):=zbC (o:=o) (η:=[(4000000,.sch [(.pu,0,[]),(.pu,1,[]),(.pu,2,[]),(.mn,3,[]),(.pu,4,[]),(.mn,5,[]),(.mn,6,[1]),(.mn,7,[0])])]) (Γ:=⟨[(22,(ygQ o))],[],false,[]⟩) (ctok ⟨(zoV.form (G:=tabs)),trivial⟩ trivial) Tryz.func84
def zyC(_o:Ops)(v0:qbW):Option (qbW):=
 some v0
def ybS(o:Ops):SC:=⟨⟨[(0,(.mpr 0))],[zaD]⟩,1,[(none,⟨[(0,(.fn 273 [] [(.ptr 1 0)]))],[zaD,.blk 124 [(.mpr 0)]]⟩)],fun x=>zyC o x⟩
theorem ylN:SCok Tryz.prog tabs 205 (ybS o):=zbC (o:=o) (η:=[]) (Γ:=⟨[],[],false,[]⟩) (ctok trivial trivial) Tryz.func205
def yiI:SC:=⟨⟨[(0,(.fn 273 [] [(.ptr 0 0)]))],[.blk 124 [(.mpr 1)],zaD]⟩,1,[(none,⟨[(0,(.h (.sl .s)))],[.blk 124 [(.mpr 1)],zaD]⟩)],fun es=>zoT es⟩
theorem yvZ:SCok Tryz.prog tabs 132 yiI:=wit (G:=tabs)<|zyH (kT:=9) (isFn Tryz.func132) (by kernel_rfl) YtopanhneegpgcaaGreatDoor.sorted273K
def zhH(o:Ops)(_v0:Bs)(v1:zdT):Option zdT:=
 (zfB o v1).bind fun v2=>some v2
def zlQ(o:Ops):PC:=⟨[hS,(.h ycR)],[ycR],fun x=>zhH o x.1 x.2,false⟩
theorem ztZ:PCok Tryz.prog tabs 113 (zlQ o):=zhS (o:=o) (η:=[]) (Γ:=⟨[(105,(zkF o))],[],false,[]⟩) (ctok ⟨zqW,trivial⟩ trivial) Tryz.func113
def zoX(o:Ops)(v3:((List Bs)×qbW))(v4:Int)(v5:qbW)(v6:qcV):Option ((Int×qbW×qcV)⊕((qbW×qcV))):=
 bif decide (v4<(v3.1.length:Int))then((idx v3.1 v4).bind fun v7=>let v8:zdT:=zfA keqS v5 v7 (([]:Bs),([]:List Bs))
 (zhH o v7 v8).bind fun v9=>(app v6 ([v9]:qcV)).bind fun v10=>some (.inl (w64 (v4+1),v5,v10)))else some (.inr (v5,v6))
def zqI(o:Ops)(v0:qbW):Option ((qbW×qcV)):=
 (chk (decide ((0:Int)<=(v0.length:Int))&&decide ((v0.length:Int)<=(LIM:Int)))).bind fun _=>(mkL (0:Int) (([]:Bs),([]:List Bs))).bind fun v1=>(zyC o v0).bind fun v2=>(zoT v2).bind fun v3=>(iter (fun x=>zoX o v3 x.1 x.2.1 x.2.2) ((0:Int),v3.2,v1)).bind fun v11=>some v11
def zuZ(o:Ops):SC:=⟨⟨[(0,(.mpr 0)),(1,(.fn 113 [] []))],[zaD]⟩,1,[(none,⟨[(0,(.own 1))],[zaD,.osl ycR 49]⟩)],fun x=>zqI o x⟩
theorem ycU:SCok Tryz.prog tabs 112 (zuZ o):=zbC (o:=o) (η:=[(200003,.loop [] ⟨[(0,(.mpr 0)),(1,(.fn 113 [] [])),(5,(.own 1)),(15,hI)],[zaD,.osl ycR 49]⟩ [4,13,14] [(some 0,⟨[(5,(.own 1))],[zaD,.osl ycR 49]⟩)])]) (Γ:=⟨[(113,(zlQ o))],[(205,(ybS o)),(132,yiI)],false,[]⟩) (ctok ⟨ztZ,trivial⟩ ⟨ylN,⟨yvZ,trivial⟩⟩) Tryz.func112
def zfX(o:Ops)(v0:qbZ)(v1:qbY)(v2:qbW)(v3:qbV)(v4:List ((Bs×Bs)×Unit)):Option ((qbZ×qbY×qbW×qbV×(List ((Bs×Bs)×Unit))×qcV)):=
 (zqI o v2).bind fun v5=>some (v0,v1,v5.1,v3,v4,v5.2)
def znS(o:Ops):SC:=⟨⟨[(0,(.ptr 0 0))],[zaV,zaE,zaF,zaD,zaC,qaV]⟩,1,[(none,⟨[(0,(.own 6))],[zaV,zaE,zaF,zaD,zaC,qaV,.osl ycR 49]⟩)],fun x=>zfX o x.1 x.2.1 x.2.2.1 x.2.2.2.1 x.2.2.2.2⟩
theorem zwX:SCok Tryz.prog tabs 40 (znS o):=zbC (o:=o) (η:=[]) (Γ:=⟨[],[(112,(zuZ o))],false,[]⟩) (ctok trivial ⟨ycU,trivial⟩) Tryz.func40
def zxL(_o:Ops)(v0:qbZ):Option (qbZ):=
 some v0
def yaU(o:Ops):SC:=⟨⟨[(0,(.mpr 0))],[zaE]⟩,1,[(none,⟨[(0,(.fn 272 [] [(.ptr 1 0)]))],[zaE,.blk 122 [(.mpr 0)]]⟩)],fun x=>zxL o x⟩
theorem yjN:SCok Tryz.prog tabs 204 (yaU o):=zbC (o:=o) (η:=[]) (Γ:=⟨[],[],false,[]⟩) (ctok trivial trivial) Tryz.func204
def yjJ:SC:=⟨⟨[(0,(.fn 272 [] [(.ptr 0 0)]))],[.blk 122 [(.mpr 1)],zaE]⟩,1,[(none,⟨[(0,(.h (.sl .s)))],[.blk 122 [(.mpr 1)],zaE]⟩)],fun es=>zoT es⟩
theorem yuZ:SCok Tryz.prog tabs 132 yjJ:=wit (G:=tabs)<|zyH (kT:=9) (isFn Tryz.func132) (by kernel_rfl) YtopanhneegpgcaaGreatDoor.sorted272K
def zhD(_o:Ops)(_v0:Bs)(v1:zwZ):Option zwZ:=
 some v1
def zlT(o:Ops):PC:=⟨[hS,(.h ykH)],[ykH],fun x=>zhD o x.1 x.2,false⟩
theorem zuW:PCok Tryz.prog tabs 111 (zlT o):=zhS (o:=o) (η:=[]) (Γ:=⟨[],[],false,[]⟩) (ctok trivial trivial) Tryz.func111
def zpC(o:Ops)(v3:((List Bs)×qbZ))(v4:Int)(v5:qbZ)(v6:List zwZ):Option ((Int×qbZ×List zwZ)⊕((qbZ×List zwZ))):=
 bif decide (v4<(v3.1.length:Int))then((idx v3.1 v4).bind fun v7=>let v8:zwZ:=zfA keqS v5 v7 (([]:Bs),([]:Bs),false,(0:Int))
 (zhD o v7 v8).bind fun v9=>(app v6 ([v9]:List zwZ)).bind fun v10=>some (.inl (w64 (v4+1),v5,v10)))else some (.inr (v5,v6))
def zqP(o:Ops)(v0:qbZ):Option ((qbZ×List zwZ)):=
 (chk (decide ((0:Int)<=(v0.length:Int))&&decide ((v0.length:Int)<=(LIM:Int)))).bind fun _=>(mkL (0:Int) (([]:Bs),([]:Bs),false,(0:Int))).bind fun v1=>(zxL o v0).bind fun v2=>(zoT v2).bind fun v3=>(iter (fun x=>zpC o v3 x.1 x.2.1 x.2.2) ((0:Int),v3.2,v1)).bind fun v11=>some v11
def zuC(o:Ops):SC:=⟨⟨[(0,(.mpr 0)),(1,(.fn 111 [] []))],[zaE]⟩,1,[(none,⟨[(0,(.own 1))],[zaE,.osl ykH 77]⟩)],fun x=>zqP o x⟩
theorem ycD:SCok Tryz.prog tabs 110 (zuC o):=zbC (o:=o) (η:=[(200003,.loop [] ⟨[(0,(.mpr 0)),(1,(.fn 111 [] [])),(5,(.own 1)),(15,hI)],[zaE,.osl ykH 77]⟩ [4,13,14] [(some 0,⟨[(5,(.own 1))],[zaE,.osl ykH 77]⟩)])]) (Γ:=⟨[(111,(zlT o))],[(204,(yaU o)),(132,yjJ)],false,[]⟩) (ctok ⟨zuW,trivial⟩ ⟨yjN,⟨yuZ,trivial⟩⟩) Tryz.func110
def zfZ(o:Ops)(v0:qbZ)(v1:qbY)(v2:qbW)(v3:qbV)(v4:List ((Bs×Bs)×Unit)):Option ((qbZ×qbY×qbW×qbV×(List ((Bs×Bs)×Unit))×List zwZ)):=
 (zqP o v0).bind fun v5=>some (v5.1,v1,v2,v3,v4,v5.2)
def znY(o:Ops):SC:=⟨⟨[(0,(.ptr 0 0))],[zaV,zaE,zaF,zaD,zaC,qaV]⟩,1,[(none,⟨[(0,(.own 6))],[zaV,zaE,zaF,zaD,zaC,qaV,.osl ykH 77]⟩)],fun x=>zfZ o x.1 x.2.1 x.2.2.1 x.2.2.2.1 x.2.2.2.2⟩
theorem zwU:SCok Tryz.prog tabs 39 (znY o):=zbC (o:=o) (η:=[]) (Γ:=⟨[],[(110,(zuC o))],false,[]⟩) (ctok trivial ⟨ycD,trivial⟩) Tryz.func39
def zhK(o:Ops)(v0:Bs)(v1:List Bs)(v2:List (Bs×Bs)):Option (((List Bs)×List (Bs×Bs))):=
 (o.form v1).bind fun v3=>(app v2 ([(v0,v3)]:List (Bs×Bs))).bind fun v4=>some (v1,v4)
def zmD(o:Ops):SC:=⟨⟨[(0,hS),(1,(.own 0)),(2,(.ptr 1 0))],[.osl .s 9,ywC,.osl (.pr .s .s) 33]⟩,0,[(none,⟨[],[.osl .s 9,.blk 31 [(.own 3)],.dead,.osl (.pr .s .s) 33]⟩)],fun x=>zhK o x.1 x.2.1 x.2.2⟩
theorem zuL:SCok Tryz.prog tabs 84 (zmD o):=zbC (o:=o) (η:=[(4000000,.sch [(.pu,0,[]),(.pu,1,[]),(.pu,2,[]),(.mn,3,[]),(.pu,4,[]),(.mn,5,[]),(.mn,6,[2]),(.mn,7,[1])])]) (Γ:=⟨[(22,(ygQ o))],[],false,[]⟩) (ctok ⟨(zoV.form (G:=tabs)),trivial⟩ trivial) Tryz.func84
def ysV:SC:=⟨⟨[(0,(.own 0)),(1,(.fn 89 [] []))],[.osl (.pr .s .s) 33]⟩,0,[(none,⟨[],[.osl (.pr .s .s) 33]⟩)],fun(xs:List (Bs×Bs))=>ydI xs⟩
theorem xgQ:SCok Tryz.prog tabs 88 ysV:=wit (G:=tabs)<|xiE
def ytU:PC:=⟨[.h (.sl (.pr .s .s))],[(.sl (.pr .s .s))],fun xs=>some xs,true⟩
theorem xeY:PCok Tryz.prog tabs 91 ytU:=wit (G:=tabs)<|ypX ydG τ_okWkF Tryz.func91 (isFn Tryz.func91) rfl (by kernel_rfl) (fun _=>by kernel_rfl)
def zjO(o:Ops)(v5:(qbZ×qbY×qbW×qbV×(List ((Bs×Bs)×Unit))×List zuI))(v6:Int)(v7:qbZ)(v8:qbY)(v9:qbW)(v10:qbV)(v11:List ((Bs×Bs)×Unit))(v12:List zuI)(v13:List (Bs×Bs)):Option ((Int×qbZ×qbY×qbW×qbV×(List ((Bs×Bs)×Unit))×(List zuI)×List (Bs×Bs))⊕((qbZ×qbY×qbW×qbV×(List ((Bs×Bs)×Unit))×List (Bs×Bs)))):=
 bif decide (v6<(v5.2.2.2.2.2.length:Int))then((chk (decide ((0:Int)<=v6)&&decide (v6<(v12.length:Int)))).bind fun _=>(idx v12 v6).bind fun v14=>(app ([99,108,105,101,110,116,47]:Bs) v14.1).bind fun v15=>(zgJ o v14.2.2.2.2.1).bind fun v16=>(zgJ o v14.2.2.2.2.2.1).bind fun v17=>(app v16 v17).bind fun v18=>(zgJ o v14.2.2.2.2.2.2.1).bind fun v19=>(app v18 v19).bind fun v20=>(zgJ o v14.2.2.2.2.2.2.2).bind fun v21=>(app v20 v21).bind fun v22=>(zcW o v14.2.2.1).bind fun v23=>(zcW o v14.2.2.2.1).bind fun v24=>(zjA o ([([v14.2.1,v22]:List Bs),v23,v24]:List (List Bs))).bind fun v25=>(zcC o v15 v25 v13).bind fun v26=>some (.inl (w64 (v6+1),v7,v8,v9,v10,v11,v12,v26)))else some (.inr (v7,v8,v9,v10,v11,v13))
def zjL(o:Ops)(v28:(qbZ×qbY×qbW×qbV×(List ((Bs×Bs)×Unit))×List yhW))(v29:Int)(v30:qbZ)(v31:qbY)(v32:qbW)(v33:qbV)(v34:List ((Bs×Bs)×Unit))(v35:List yhW)(v36:List (Bs×Bs)):Option ((Int×qbZ×qbY×qbW×qbV×(List ((Bs×Bs)×Unit))×(List yhW)×List (Bs×Bs))⊕((qbZ×qbY×qbW×qbV×(List ((Bs×Bs)×Unit))×List (Bs×Bs)))):=
 bif decide (v29<(v28.2.2.2.2.2.length:Int))then((chk (decide ((0:Int)<=v29)&&decide (v29<(v35.length:Int)))).bind fun _=>(idx v35 v29).bind fun v37=>(app ([103,114,111,117,112,47]:Bs) v37.1).bind fun v38=>(o.itoa v37.2.2.2.2).bind fun v39=>(zcW o v37.2.1).bind fun v40=>(zcW o v37.2.2.1).bind fun v41=>(zcW o v37.2.2.2.1).bind fun v42=>(zjA o ([([v39]:List Bs),v40,v41,v42]:List (List Bs))).bind fun v43=>(zcC o v38 v43 v36).bind fun v44=>some (.inl (w64 (v29+1),v30,v31,v32,v33,v34,v35,v44)))else some (.inr (v30,v31,v32,v33,v34,v36))
def zgC(o:Ops)(v46:((List (Bs×Bs))×zbA))(v47:Int)(v48:qbZ)(v49:qbY)(v50:qbW)(v51:qbV)(v52:List ((Bs×Bs)×Unit))(v53:List (Bs×Bs)):Option ((Int×qbZ×qbY×qbW×qbV×(List ((Bs×Bs)×Unit))×List (Bs×Bs))⊕((qbZ×qbY×qbW×qbV×(List ((Bs×Bs)×Unit))×List (Bs×Bs)))):=
 bif decide (v47<(v46.1.length:Int))then((idx v46.1 v47).bind fun v54=>(app ([109,97,121,47]:Bs) v54.1).bind fun v55=>(app v55 ([124]:Bs)).bind fun v56=>(app v56 v54.2).bind fun v57=>(zhJ o v57 v53).bind fun v58=>some (.inl (w64 (v47+1),v48,v49,v50,v51,v52,v58)))else some (.inr (v48,v49,v50,v51,v52,v53))
def ziZ(o:Ops)(v60:(qbZ×qbY×qbW×qbV×(List ((Bs×Bs)×Unit))×qcV))(v61:Int)(v62:qbZ)(v63:qbY)(v64:qbW)(v65:qbV)(v66:List ((Bs×Bs)×Unit))(v67:qcV)(v68:List (Bs×Bs)):Option ((Int×qbZ×qbY×qbW×qbV×(List ((Bs×Bs)×Unit))×qcV×List (Bs×Bs))⊕((qbZ×qbY×qbW×qbV×(List ((Bs×Bs)×Unit))×List (Bs×Bs)))):=
 bif decide (v61<(v60.2.2.2.2.2.length:Int))then((chk (decide ((0:Int)<=v61)&&decide (v61<(v67.length:Int)))).bind fun _=>(idx v67 v61).bind fun v69=>(app ([114,111,108,101,47]:Bs) v69.1).bind fun v70=>(zcW o v69.2).bind fun v71=>(zcC o v70 v71 v68).bind fun v72=>some (.inl (w64 (v61+1),v62,v63,v64,v65,v66,v67,v72)))else some (.inr (v62,v63,v64,v65,v66,v68))
def ziX(o:Ops)(v74:(qbZ×qbY×qbW×qbV×(List ((Bs×Bs)×Unit))×List zwZ))(v75:Int)(v76:qbZ)(v77:qbY)(v78:qbW)(v79:qbV)(v80:List ((Bs×Bs)×Unit))(v81:List zwZ)(v82:List (Bs×Bs)):Option ((Int×qbZ×qbY×qbW×qbV×(List ((Bs×Bs)×Unit))×(List zwZ)×List (Bs×Bs))⊕((qbZ×qbY×qbW×qbV×(List ((Bs×Bs)×Unit))×List (Bs×Bs)))):=
 bif decide (v75<(v74.2.2.2.2.2.length:Int))then((chk (decide ((0:Int)<=v75)&&decide (v75<(v81.length:Int)))).bind fun _=>(idx v81 v75).bind fun v83=>(app ([117,115,101,114,47]:Bs) v83.1).bind fun v84=>(zgJ o v83.2.2.1).bind fun v85=>(o.itoa v83.2.2.2).bind fun v86=>(zhK o v84 ([v83.2.1,v85,v86]:List Bs) v82).bind fun v87=>some (.inl (w64 (v75+1),v76,v77,v78,v79,v80,v81,v87.2)))else some (.inr (v76,v77,v78,v79,v80,v82))
def zbD(o:Ops)(v0:qbZ)(v1:qbY)(v2:qbW)(v3:qbV)(v4:List ((Bs×Bs)×Unit)):Option (((List (Bs×Bs))×zbA)):=
 (zeO o v0 v1 v2 v3 v4).bind fun v5=>(iter (fun x=>zjO o v5 x.1 x.2.1 x.2.2.1 x.2.2.2.1 x.2.2.2.2.1 x.2.2.2.2.2.1 x.2.2.2.2.2.2.1 x.2.2.2.2.2.2.2) ((0:Int),v5.1,v5.2.1,v5.2.2.1,v5.2.2.2.1,v5.2.2.2.2.1,v5.2.2.2.2.2,([]:List (Bs×Bs)))).bind fun v27=>(zdI o v27.1 v27.2.1 v27.2.2.1 v27.2.2.2.1 v27.2.2.2.2.1).bind fun v28=>(iter (fun x=>zjL o v28 x.1 x.2.1 x.2.2.1 x.2.2.2.1 x.2.2.2.2.1 x.2.2.2.2.2.1 x.2.2.2.2.2.2.1 x.2.2.2.2.2.2.2) ((0:Int),v28.1,v28.2.1,v28.2.2.1,v28.2.2.2.1,v28.2.2.2.2.1,v28.2.2.2.2.2,v27.2.2.2.2.2)).bind fun v45=>(zgP o v45.1 v45.2.1 v45.2.2.1 v45.2.2.2.1 v45.2.2.2.2.1).bind fun v46=>(iter (fun x=>zgC o v46 x.1 x.2.1 x.2.2.1 x.2.2.2.1 x.2.2.2.2.1 x.2.2.2.2.2.1 x.2.2.2.2.2.2) ((0:Int),v46.2.1,v46.2.2.1,v46.2.2.2.1,v46.2.2.2.2.1,v46.2.2.2.2.2,v45.2.2.2.2.2)).bind fun v59=>(zfX o v59.1 v59.2.1 v59.2.2.1 v59.2.2.2.1 v59.2.2.2.2.1).bind fun v60=>(iter (fun x=>ziZ o v60 x.1 x.2.1 x.2.2.1 x.2.2.2.1 x.2.2.2.2.1 x.2.2.2.2.2.1 x.2.2.2.2.2.2.1 x.2.2.2.2.2.2.2) ((0:Int),v60.1,v60.2.1,v60.2.2.1,v60.2.2.2.1,v60.2.2.2.2.1,v60.2.2.2.2.2,v59.2.2.2.2.2)).bind fun v73=>(zfZ o v73.1 v73.2.1 v73.2.2.1 v73.2.2.2.1 v73.2.2.2.2.1).bind fun v74=>(iter (fun x=>ziX o v74 x.1 x.2.1 x.2.2.1 x.2.2.2.1 x.2.2.2.2.1 x.2.2.2.2.2.1 x.2.2.2.2.2.2.1 x.2.2.2.2.2.2.2) ((0:Int),v74.1,v74.2.1,v74.2.2.1,v74.2.2.2.1,v74.2.2.2.2.1,v74.2.2.2.2.2,v73.2.2.2.2.2)).bind fun v88=>(ydI v88.2.2.2.2.2).bind fun v89=>some (v89,v88.1,v88.2.1,v88.2.2.1,v88.2.2.2.1,v88.2.2.2.2.1)
def ziR(o:Ops):SC:=⟨⟨[(0,(.ptr 0 0))],[zaV,zaE,zaF,zaD,zaC,qaV]⟩,1,[(none,⟨[(0,(.hc (.pr .s .s)))],[zaV,zaE,zaF,zaD,zaC,qaV]⟩)],fun x=>zbD o x.1 x.2.1 x.2.2.1 x.2.2.2.1 x.2.2.2.2⟩
theorem zpT:SCok Tryz.prog tabs 29 (ziR o):=zbC (o:=o) (η:=[(200004,.loop [.cell 3 0 (.pr .s .s) 33] ⟨[(0,(.ptr 0 0)),(3,(.ptr 6 0)),(4,(.fn 84 [] [(.ptr 6 0)])),(17,(.own 7)),(19,hI)],[zaV,zaE,zaF,zaD,zaC,qaV,yrI,.osl ycA 51,.osl (.pr .s .s) 33]⟩ [2,18] [(some 0,⟨[(0,(.ptr 0 0)),(3,(.ptr 6 0)),(4,(.fn 84 [] [(.ptr 6 0)]))],[zaV,zaE,zaF,zaD,zaC,qaV,yiW,.osl (.pr .s .s) 33]⟩)]),
 (200009,.loop [] ⟨[(0,(.ptr 0 0)),(3,(.ptr 6 0)),(4,(.fn 84 [] [(.ptr 6 0)])),(56,(.own 7)),(58,hI)],[zaV,zaE,zaF,zaD,zaC,qaV,yrI,.osl yvF 57,.osl (.pr .s .s) 33]⟩ [2,57] [(some 2,⟨[(0,(.ptr 0 0)),(3,(.ptr 6 0)),(4,(.fn 84 [] [(.ptr 6 0)]))],[zaV,zaE,zaF,zaD,zaC,qaV,yiW,.osl (.pr .s .s) 33]⟩)]),
 (200014,.loop [] ⟨[(0,(.ptr 0 0)),(3,(.ptr 6 0)),(4,(.fn 84 [] [(.ptr 6 0)])),(86,hI)],[zaV,zaE,zaF,zaD,zaC,qaV,yiW,.osl (.pr .s .s) 33]⟩ [2,84,85] [(some 4,⟨[(0,(.ptr 0 0)),(3,(.ptr 6 0)),(4,(.fn 84 [] [(.ptr 6 0)]))],[zaV,zaE,zaF,zaD,zaC,qaV,yiW,.osl (.pr .s .s) 33]⟩)]),
 (200019,.loop [] ⟨[(0,(.ptr 0 0)),(3,(.ptr 6 0)),(4,(.fn 84 [] [(.ptr 6 0)])),(101,(.own 7)),(103,hI)],[zaV,zaE,zaF,zaD,zaC,qaV,yrI,.osl ycR 49,.osl (.pr .s .s) 33]⟩ [2,102] [(some 6,⟨[(0,(.ptr 0 0)),(3,(.ptr 6 0)),(4,(.fn 84 [] [(.ptr 6 0)]))],[zaV,zaE,zaF,zaD,zaC,qaV,yiW,.osl (.pr .s .s) 33]⟩)]),
 (200024,.loop [] ⟨[(3,(.ptr 6 0)),(4,(.fn 84 [] [(.ptr 6 0)])),(117,(.own 7)),(119,hI)],[zaV,zaE,zaF,zaD,zaC,qaV,yrI,.osl ykH 77,.osl (.pr .s .s) 33]⟩ [2,118] [(some 8,⟨[(3,(.ptr 6 0))],[zaV,zaE,zaF,zaD,zaC,qaV,yiW,.osl (.pr .s .s) 33]⟩)]),
 (4000006,.sch [(.pu,0,[10,11]),(.pu,1,[10,11]),(.pu,2,[10,11]),(.pu,3,[10,11]),(.pu,4,[]),(.pu,5,[]),(.pu,6,[]),(.pu,7,[]),(.pu,9,[]),(.pu,10,[]),(.pu,13,[]),(.pu,14,[]),(.pu,17,[]),(.pu,18,[]),(.pu,22,[]),(.pu,23,[]),(.pu,25,[]),(.pu,26,[]),(.mn,8,[]),(.mn,11,[]),(.pu,12,[]),(.mn,15,[]),(.pu,16,[]),(.mn,19,[]),(.pu,20,[]),(.la,21,[]),(.mn,24,[]),(.mn,27,[]),(.rv,21,[]),(.mn,28,[10]),(.mn,29,[11]),(.mn,30,[6,8])]),
 (4000011,.sch [(.pu,0,[10,11]),(.pu,1,[10,11]),(.pu,2,[10,11]),(.pu,3,[10,11]),(.pu,4,[]),(.pu,5,[]),(.pu,8,[]),(.pu,9,[]),(.pu,11,[]),(.pu,12,[]),(.pu,14,[]),(.pu,15,[]),(.mn,6,[]),(.la,7,[]),(.mn,10,[]),(.mn,13,[]),(.mn,16,[]),(.rv,7,[]),(.mn,17,[10]),(.mn,18,[11]),(.mn,19,[6,8])]),
 (4000021,.sch [(.pu,0,[]),(.pu,1,[]),(.pu,2,[]),(.pu,3,[]),(.pu,4,[]),(.pu,5,[]),(.mn,6,[]),(.mn,7,[6,8])]),
 (4000026,.sch [(.pu,0,[]),(.pu,1,[]),(.pu,2,[]),(.pu,3,[]),(.pu,4,[]),(.pu,5,[]),(.pu,6,[]),(.pu,7,[]),(.pu,9,[]),(.pu,10,[]),(.mn,8,[]),(.mn,11,[]),(.mn,12,[]),(.mn,13,[6,8,10])])]) (Γ:=⟨[(86,(zxP o)),(87,(zwH o)),(85,(zwE o)),(68,(yqO o)),(91,ytU)],[(84,(zlW o)),(38,(zlI o)),(84,(zlG o)),(32,(zhM o)),(45,(zpL o)),(40,(znS o)),(39,(znY o)),(84,(zmD o)),(88,ysV)],false,[]⟩) (ctok ⟨yhO,⟨ydP,⟨ydT,⟨(zoV.itoa (G:=tabs)),⟨xeY,trivial⟩⟩⟩⟩⟩ ⟨zuE,⟨zuV,⟨zuN,⟨zmP,⟨zxZ,⟨zwX,⟨zwU,⟨zuL,⟨xgQ,trivial⟩⟩⟩⟩⟩⟩⟩⟩⟩) Tryz.func29
def zqS(o:Ops)(v0:Bs):Option ((Int×Bool)⊕Unit):=
 bif(v0==([]:Bs))then some (.inl ((0:Int),false))else(bif decide ((v0.length:Int)>15)then some (.inl ((0:Int),false))else((idx v0 (0:Int)).bind fun v1=>bif((v1.toNat:Int)==((48:UInt8).toNat:Int))then(bif(v0 != ([48]:Bs))then some (.inl ((0:Int),false))else((o.trim v0 ([48,49,50,51,52,53,54,55,56,57]:Bs)).bind fun v2=>bif(v2 != ([]:Bs))then some (.inl ((0:Int),false))else some (.inr ())))else((o.trim v0 ([48,49,50,51,52,53,54,55,56,57]:Bs)).bind fun v3=>bif(v3 != ([]:Bs))then some (.inl ((0:Int),false))else some (.inr ()))))
def zhB(o:Ops)(v0:Bs):Option (Int×Bool):=
 (zqS o v0).bind fun v4=>match v4 with
 |.inl v5=>(some v5)
 |.inr _v6=>((o.atoi v0).bind fun v7=>some (v7.1,(!v7.2)))
def zqK(o:Ops):PC:=⟨[hS],[(.i .i64),.b],fun x=>zhB o x,false⟩
theorem zwO:PCok Tryz.prog tabs 60 (zqK o):=zhS (o:=o) (η:=[(2000003,.join [] [0] [(some 1000000,⟨[(2,hI),(3,hB)],[]⟩),(none,⟨[],[]⟩)]),
 (4000004,.sch [(.pu,0,[]),(.pu,1,[]),(.pu,2,[]),(.pu,3,[]),(.pu,4,[])])]) (Γ:=⟨[(164,(ylV o)),(165,(yzS o))],[],false,[]⟩) (ctok ⟨(zoV.trim (G:=tabs)),⟨(zoV.atoi (G:=tabs)),trivial⟩⟩ trivial) Tryz.func60
def zqM(_o:Ops)(v2:List Bs)(v3:Bs×Bs×Bool)(v4:Int×Bool):Option (Bool⊕List Bs):=
 bif(!v3.2.2)then some (.inl false)else(bif(!v4.2)then some (.inl false)else(bif decide (v4.1>(v3.2.1.length:Int))then some (.inl false)else some (.inr v2)))
def zsA(o:Ops)(v1:Bs)(v2:List Bs):Option (zdT⊕(Bool⊕List Bs)):=
 bif(v1 != ([]:Bs))then((o.cut v1 ([58]:Bs)).bind fun v3=>(zhB o v3.1).bind fun v4=>(zqM o v2 v3 v4).bind fun v5=>match v5 with
 |.inl v6=>some (.inr (.inl v6))
 |.inr v7=>((subH v3.2.1 v4.1).bind fun v8=>(app v7 ([v8]:List Bs)).bind fun v9=>(subL v3.2.1 v4.1).bind fun v10=>some (.inl (v10,v9))))else some (.inr (.inr v2))
def ztT(o:Ops)(v0:Bs):Option ycN:=
 (iter (fun x=>zsA o x.1 x.2) (v0,([]:List Bs))).bind fun v11=>match v11 with
 |.inl v12=>(some (([]:List Bs),v12))
 |.inr v13=>(some (v13,true))
def ydR(_o:Ops)(v2:List Bs)(v3:Bs×Bs×Bool)(v4:Int×Bool):Option (Bool⊕List Bs):=
 bif(!v3.2.2)then some (.inl false)else(bif(!v4.2)then some (.inl false)else(bif decide (v4.1>(v3.2.1.length:Int))then some (.inl false)else some (.inr v2)))
def ydV(o:Ops)(v1:Bs)(v2:List Bs):Option (zdT⊕(Bool⊕List Bs)):=
 bif(v1 != ([]:Bs))then((o.cut v1 ([58]:Bs)).bind fun v3=>(zhB o v3.1).bind fun v4=>(ydR o v2 v3 v4).bind fun v5=>match v5 with
 |.inl v6=>some (.inr (.inl v6))
 |.inr v7=>((subH v3.2.1 v4.1).bind fun v8=>(app v7 ([v8]:List Bs)).bind fun v9=>(subL v3.2.1 v4.1).bind fun v10=>some (.inl (v10,v9))))else some (.inr (.inr v2))
def ztM(o:Ops)(v0:Bs):Option (ycN):=
 (iter (fun x=>ydV o x.1 x.2) (v0,([]:List Bs))).bind fun v11=>match v11 with
 |.inl v12=>some (([]:List Bs),v12)
 |.inr v13=>some (v13,true)
def zyM(o:Ops):SC:=⟨⟨[(0,hS)],[]⟩,2,[(none,⟨[(0,(.h (.sl .s))),(1,hB)],[]⟩)],fun x=>ztM o x⟩
theorem yhP:SCok Tryz.prog tabs 11 (zyM o):=zbC (o:=o) (η:=[(2000007,.join [] [6,8] [(some 1000000,⟨[(2,.nils),(3,hB)],[]⟩),(none,⟨[(4,(.own 0))],[.osl .s 9]⟩)]),
 (200002,.loop [.sl 4 .s 9] ⟨[(0,hS),(4,(.own 0))],[.osl .s 9]⟩ [] [(some 1000000,⟨[(2,.nils),(3,hB)],[]⟩),(some 0,⟨[(4,(.own 0))],[.osl .s 9]⟩)])]) (Γ:=⟨[(59,(xaC o)),(60,(zqK o)),(61,yaH)],[],false,[]⟩) (ctok ⟨(zoV.cut (G:=tabs)),⟨zwO,⟨ycW,trivial⟩⟩⟩ trivial) Tryz.func11
def zbU(_o:Ops)(v0:List Bs)(v1:Bool):Option ((Bs×ycN)):=
 bif((v0.length:Int)==0)then some (([]:Bs),v0,true)else((idx v0 (0:Int)).bind fun v2=>(subL v0 (1:Int)).bind fun v3=>some (v2,v3,v1))
def zjE(o:Ops):SC:=⟨⟨[(0,(.ptr 0 0))],[yaD]⟩,1,[(none,⟨[(0,hS)],[yaD]⟩)],fun x=>zbU o x.1 x.2⟩
theorem zpM:SCok Tryz.prog tabs 169 (zjE o):=zbC (o:=o) (η:=[]) (Γ:=⟨[],[],false,[]⟩) (ctok trivial trivial) Tryz.func169
def zcG(_o:Ops)(v0:Bs)(v1:List Bs)(v2:Bool):Option ((Bool×ycN)):=
 bif v2 then some ((v0==([49]:Bs)),v1,true)else(bif(v0 != ([48]:Bs))then some ((v0==([49]:Bs)),v1,(v0 != ([49]:Bs)))else some ((v0==([49]:Bs)),v1,false))
def zqF(o:Ops):SC:=⟨⟨[(0,(.ptr 0 0)),(1,hS)],[yaD]⟩,1,[(none,⟨[(0,hB)],[yaD]⟩)],fun x=>zcG o x.1 x.2.1 x.2.2⟩
theorem zxV:SCok Tryz.prog tabs 170 (zqF o):=zbC (o:=o) (η:=[]) (Γ:=⟨[],[],false,[]⟩) (ctok trivial trivial) Tryz.func170
def zdL(o:Ops)(v0:List Bs)(v1:Bool):Option ((Int×ycN)):=
 (zbU o v0 v1).bind fun v2=>(zhB o v2.1).bind fun v3=>bif v2.2.2 then some (v3.1,v2.2.1,true)else some (v3.1,v2.2.1,(!v3.2))
def zhF(o:Ops):SC:=⟨⟨[(0,(.ptr 0 0))],[yaD]⟩,1,[(none,⟨[(0,hI)],[yaD]⟩)],fun x=>zdL o x.1 x.2⟩
theorem znC:SCok Tryz.prog tabs 243 (zhF o):=zbC (o:=o) (η:=[]) (Γ:=⟨[(60,(zqK o))],[(169,(zjE o))],false,[]⟩) (ctok ⟨zwO,trivial⟩ ⟨zpM,trivial⟩) Tryz.func243
def zqC(_o:Ops)(v2:(Int×ycN)):Option (ycN⊕ycN):=
 bif v2.2.2 then some (.inl (v2.2.1,true))else(bif decide (v2.1>(v2.2.1.length:Int))then some (.inl (v2.2.1,true))else some (.inr v2.2))
def zbV(o:Ops)(v0:List Bs)(v1:Bool):Option (((List Bs)×ycN)):=
 (zdL o v0 v1).bind fun v2=>(zqC o v2).bind fun v3=>match v3 with
 |.inl v4=>some (([]:List Bs),v4)
 |.inr v5=>((subH v5.1 v2.1).bind fun v6=>(app ([]:List Bs) v6).bind fun v7=>(subL v5.1 v2.1).bind fun v8=>some (v7,v8,v5.2))
def zqA(o:Ops):SC:=⟨⟨[(0,(.ptr 0 0))],[yaD]⟩,1,[(none,⟨[(0,(.h (.sl .s)))],[yaD]⟩)],fun x=>zbV o x.1 x.2⟩
theorem zyD:SCok Tryz.prog tabs 171 (zqA o):=zbC (o:=o) (η:=[(2000005,.join [] [3] [(some 1000000,⟨[(2,.nils)],[yaD]⟩),(none,⟨[(0,(.ptr 0 0))],[yaD]⟩)])]) (Γ:=⟨[],[(243,(zhF o)),(198,zvZ)],false,[]⟩) (ctok trivial ⟨znC,⟨zzF,trivial⟩⟩) Tryz.func171
def zqJ(o:Ops)(v0:List Bs)(v2:Int):Option (Int⊕(Bool⊕Unit)):=
 bif decide (v2<(v0.length:Int))then((idx v0 v2).bind fun v3=>(zcV o v3).bind fun v4=>bif(!v4)then some (.inr (.inl false))else(bif decide (v2>0)then((idx v0 (w64 (v2-1))).bind fun v5=>bif(Op.bytesLess v3 v5||v3==v5)then some (.inr (.inl false))else some (.inl (w64 (v2+1))))else some (.inl (w64 (v2+1)))))else some (.inr (.inr ()))
def zmQ(o:Ops)(v0:List Bs)(v1:Int):Option (Bool):=
 (iter (zqJ o v0) (0:Int)).bind fun v6=>match v6 with
 |.inl v7=>some v7
 |.inr _v8=>some (decide ((v0.length:Int)<=v1))
def zwG(o:Ops):SC:=⟨⟨[(0,(.h (.sl .s))),(1,hI),(2,(.fn 15 [] []))],[]⟩,1,[(none,⟨[(0,hB)],[]⟩)],fun x=>zmQ o x.1 x.2⟩
theorem yeH:SCok Tryz.prog tabs 174 (zwG o):=zbC (o:=o) (η:=[(200002,.loop [] ⟨[(2,(.fn 15 [] [])),(11,hI)],[]⟩ [0,1,9,10] [(some 1000000,⟨[(6,hB)],[]⟩),(some 0,⟨[],[]⟩)])]) (Γ:=⟨[(15,(zkL o))],[],false,[]⟩) (ctok ⟨zpF,trivial⟩ trivial) Tryz.func174
def zqO(o:Ops)(v0:zuI):Option ((Bool×zuI)):=
 bif(v0.2.1==([]:Bs))then some (true,v0)else(bif((v0.2.1.length:Int)==64)then((o.trim v0.2.1 ([48,49,50,51,52,53,54,55,56,57,97,98,99,100,101,102]:Bs)).bind fun v1=>some ((v1==([]:Bs)),v0))else some (false,v0))
def zjC(o:Ops)(v0:zuI):Option (Bool):=
 (zqO o v0).bind fun v2=>(zaO o v2.2.1).bind fun v3=>bif v3 then(bif v2.1 then((zmQ o v2.2.2.2.1 (16:Int)).bind fun v4=>bif v4 then((zkN o v2.2.2.2.2.1 (16:Int)).bind fun v5=>some v5)else(some false))else(some false))else(some false)
def zqR(o:Ops):PC:=⟨[(.h ycA)],[.b],fun x=>zjC o x,false⟩
theorem zwN:PCok Tryz.prog tabs 106 (zqR o):=zhS (o:=o) (η:=[(2000002,.join [] [] [(none,⟨[(1,(.ptr 0 0)),(3,hB)],[.blk 51 [hS,hS,(.h (.sl .s)),(.h (.sl .s)),hB,hB,hB,hB]]⟩)])]) (Γ:=⟨[(164,(ylV o)),(13,(zbE o))],[(174,(zwG o)),(174,(zsI o))],false,[]⟩) (ctok ⟨(zoV.trim (G:=tabs)),⟨zbK,trivial⟩⟩ ⟨yeH,⟨zxW,trivial⟩⟩) Tryz.func106
def zcX(o:Ops)(v0:List Bs)(v1:Bool):Option ((Int×ycN)):=
 (zdL o v0 v1).bind fun v2=>bif v2.2.2 then some (v2.1,v2.2.1,true)else(bif decide (v2.1<1)then some (v2.1,v2.2.1,true)else some (v2.1,v2.2.1,decide (v2.1>1099511627776)))
def zlZ(o:Ops):SC:=⟨⟨[(0,(.ptr 0 0))],[yaD]⟩,1,[(none,⟨[(0,hI)],[yaD]⟩)],fun x=>zcX o x.1 x.2⟩
theorem zuQ:SCok Tryz.prog tabs 172 (zlZ o):=zbC (o:=o) (η:=[]) (Γ:=⟨[],[(243,(zhF o))],false,[]⟩) (ctok trivial ⟨znC,trivial⟩) Tryz.func172
def zkP(_o:Ops)(v1:qbZ)(v2:qbY)(v3:qbW)(v4:qbV)(v5:List ((Bs×Bs)×Unit))(v6:ycN)(v7:Bs×Bs×Bool):Option ((Bool×zbA)⊕zbA):=
 bif(!v6.2)then some (.inl (false,v1,v2,v3,v4,v5))else(bif(!v7.2.2)then some (.inl (false,v1,v2,v3,v4,v5))else some (.inr (v1,v2,v3,v4,v5)))
def zbI(o:Ops)(v26:Int)(v27:qbZ)(v28:qbY)(v29:qbW)(v30:qbV)(v31:List ((Bs×Bs)×Unit))(v32:List Bs)(v33:Bool)(v34:List Bs)(v35:List Bs)(v36:List Bs)(v37:Int):Option ((Int×qbZ×qbY×qbW×qbV×(List ((Bs×Bs)×Unit))×(List Bs)×Bool×(List Bs)×(List Bs)×(List Bs)×Int)⊕((qbZ×qbY×qbW×qbV×(List ((Bs×Bs)×Unit))×(List Bs)×Bool×(List Bs)×(List Bs)×(List Bs)×Int))):=
 bif decide (v26<3)then((zbV o v32 v33).bind fun v38=>bif decide (v26=(0:Int))then some (.inl (w64 (v26+1),v27,v28,v29,v30,v31,v38.2.1,v38.2.2,v38.1,v35,v36,v37))else(bif decide (v26=(1:Int))then some (.inl (w64 (v26+1),v27,v28,v29,v30,v31,v38.2.1,v38.2.2,v34,v38.1,v36,v37))else(bif decide (v26=(2:Int))then some (.inl (w64 (v26+1),v27,v28,v29,v30,v31,v38.2.1,v38.2.2,v34,v35,v38.1,v37))else none)))else some (.inr (v27,v28,v29,v30,v31,v32,v33,v34,v35,v36,v37))
def zbJ(o:Ops)(v6:ycN)(v7:Bs×Bs×Bool)(v10:zbA):Option ((Bool×zbA)⊕(Bool×qbZ×qbY×qbW×qbV×(List ((Bs×Bs)×Unit))×ycN)):=
 bif(v7.1==([99,108,105,101,110,116]:Bs))then((zbU o v6.1 false).bind fun v11=>(zbU o v11.2.1 v11.2.2).bind fun v12=>bif((v12.1.length:Int) != 4)then some (.inl (false,v10))else((subH v12.1 (1:Int)).bind fun v13=>(sub3 v12.1 (1:Int) (2:Int)).bind fun v14=>(sub3 v12.1 (2:Int) (3:Int)).bind fun v15=>(subL v12.1 (3:Int)).bind fun v16=>(zcG o v13 v12.2.1 v12.2.2).bind fun v17=>(zcG o v14 v17.2.1 v17.2.2).bind fun v18=>(zcG o v15 v18.2.1 v18.2.2).bind fun v19=>(zcG o v16 v19.2.1 v19.2.2).bind fun v20=>(zbV o v20.2.1 v20.2.2).bind fun v21=>(zbV o v21.2.1 v21.2.2).bind fun v22=>let v23:qbV:=mset keqS kltS v10.2.2.2.1 v7.2.1 (v7.2.1,v11.1,v21.1,v22.1,v17.1,v18.1,v19.1,v20.1)
 (zjC o (v7.2.1,v11.1,v21.1,v22.1,v17.1,v18.1,v19.1,v20.1)).bind fun v24=>some (.inr (v24,v10.1,v10.2.1,v10.2.2.1,v23,v10.2.2.2.2,v22.2))))else(bif(v7.1==([103,114,111,117,112]:Bs))then((zcX o v6.1 false).bind fun v25=>(iter (fun x=>zbI o x.1 x.2.1 x.2.2.1 x.2.2.2.1 x.2.2.2.2.1 x.2.2.2.2.2.1 x.2.2.2.2.2.2.1 x.2.2.2.2.2.2.2.1 x.2.2.2.2.2.2.2.2.1 x.2.2.2.2.2.2.2.2.2.1 x.2.2.2.2.2.2.2.2.2.2.1 x.2.2.2.2.2.2.2.2.2.2.2) ((0:Int),v10.1,v10.2.1,v10.2.2.1,v10.2.2.2.1,v10.2.2.2.2,v25.2.1,v25.2.2,([]:List Bs),([]:List Bs),([]:List Bs),v25.1)).bind fun v39=>let v40:qbY:=mset keqS kltS v39.2.1 v7.2.1 ((v39.2.2.2.2.2.2.2.1,v39.2.2.2.2.2.2.2.2.1,v39.2.2.2.2.2.2.2.2.2.1),v39.2.2.2.2.2.2.2.2.2.2)
 (zaO o v7.2.1).bind fun v41=>some (.inr (v41,v39.1,v40,v39.2.2.1,v39.2.2.2.1,v39.2.2.2.2.1,v39.2.2.2.2.2.1,v39.2.2.2.2.2.2.1)))else(bif(v7.1==([109,97,121]:Bs))then((o.cut v7.2.1 ([124]:Bs)).bind fun v42=>let v43:List ((Bs×Bs)×Unit):=mset (keq (.pr .s .s)) (klt (.pr .s .s)) v10.2.2.2.2 (v42.1,v42.2.1) ()
 bif v42.2.2 then((zbG o v42.1).bind fun v44=>bif v44 then((zbG o v42.2.1).bind fun v45=>some (.inr (v45,v10.1,v10.2.1,v10.2.2.1,v10.2.2.2.1,v43,v6.1,false)))else some (.inr (false,v10.1,v10.2.1,v10.2.2.1,v10.2.2.2.1,v43,v6.1,false)))else some (.inr (false,v10.1,v10.2.1,v10.2.2.1,v10.2.2.2.1,v43,v6.1,false)))else(bif(v7.1==([114,111,108,101]:Bs))then((zbV o v6.1 false).bind fun v46=>let v47:qbW:=mset keqS kltS v10.2.2.1 v7.2.1 (v7.2.1,v46.1)
 (zmO o (v7.2.1,v46.1)).bind fun v48=>some (.inr (v48,v10.1,v10.2.1,v47,v10.2.2.2.1,v10.2.2.2.2,v46.2)))else(bif(v7.1==([117,115,101,114]:Bs))then((zbU o v6.1 false).bind fun v49=>(zbU o v49.2.1 v49.2.2).bind fun v50=>(zcG o v50.1 v50.2.1 v50.2.2).bind fun v51=>(zcX o v51.2.1 v51.2.2).bind fun v52=>let v53:qbZ:=mset keqS kltS v10.1 v7.2.1 (v7.2.1,v49.1,v51.1,v52.1)
 (zaO o v7.2.1).bind fun v54=>bif v54 then((zcV o v49.1).bind fun v55=>some (.inr (v55,v53,v10.2.1,v10.2.2.1,v10.2.2.2.1,v10.2.2.2.2,v52.2)))else some (.inr (false,v53,v10.2.1,v10.2.2.1,v10.2.2.2.1,v10.2.2.2.2,v52.2)))else some (.inr (false,v10.1,v10.2.1,v10.2.2.1,v10.2.2.2.1,v10.2.2.2.2,v6.1,false))))))
def zaU(o:Ops)(v0:Bs×Bs)(v1:qbZ)(v2:qbY)(v3:qbW)(v4:qbV)(v5:List ((Bs×Bs)×Unit)):Option ((Bool×zbA)):=
 (ztM o v0.2).bind fun v6=>(o.cut v0.1 ([47]:Bs)).bind fun v7=>(zkP o v1 v2 v3 v4 v5 v6 v7).bind fun v8=>match v8 with
 |.inl v9=>some v9
 |.inr v10=>((zbJ o v6 v7 v10).bind fun v56=>match v56 with
 |.inl v57=>some v57
 |.inr v58=>(bif v58.1 then(bif(!v58.2.2.2.2.2.2.2)then some (((v58.2.2.2.2.2.2.1.length:Int)==0),v58.2.1,v58.2.2.1,v58.2.2.2.1,v58.2.2.2.2.1,v58.2.2.2.2.2.1)else some (false,v58.2.1,v58.2.2.1,v58.2.2.2.1,v58.2.2.2.2.1,v58.2.2.2.2.2.1))else some (false,v58.2.1,v58.2.2.1,v58.2.2.2.1,v58.2.2.2.2.1,v58.2.2.2.2.2.1)))
def zkQ(o:Ops):SC:=⟨⟨[(0,(.ptr 0 0)),(1,(.h (.pr .s .s)))],[zaV,zaE,zaF,zaD,zaC,qaV]⟩,1,[(none,⟨[(0,hB)],[zaV,xaH,ybD,xbV,.mp false .s ycA,.mp false (.pr .s .s) .un]⟩)],fun x=>zaU o x.1 x.2.1 x.2.2.1 x.2.2.2.1 x.2.2.2.2.1 x.2.2.2.2.2⟩
theorem ztN:SCok Tryz.prog tabs 75 (zkQ o):=zbC (o:=o) (η:=[(2000005,.join [] [5,7,8] [(some 1000000,⟨[(4,hB)],[zaV,zaE,zaF,zaD,zaC,qaV]⟩),(none,⟨[(0,(.ptr 0 0))],[zaV,zaE,zaF,zaD,zaC,qaV]⟩)]),
 (200020,.loop [] ⟨[(0,(.ptr 0 0)),(10,(.ptr 6 0)),(13,(.ptr 7 0)),(93,hI)],[zaV,zaE,zaF,zaD,zaC,qaV,yaD,zwT]⟩ [8] [(some 1,⟨[(0,(.ptr 0 0)),(10,(.ptr 6 0)),(13,(.ptr 7 0))],[zaV,zaE,zaF,zaD,zaC,qaV,yaD,zwT]⟩)]),
 (2000038,.join [] [] [(some 1000000,⟨[(4,hB)],[zaV,zaE,zaF,zaD,zaC,qaV]⟩),(none,⟨[(6,hB),(10,(.ptr 6 0))],[zaV,xaH,ybD,xbV,.mp false .s ycA,.mp false (.pr .s .s) .un,yaD]⟩)]),
 (4000013,.sch [(.pu,0,[]),(.pu,1,[]),(.pu,2,[]),(.pu,4,[6]),(.pu,5,[6]),(.pu,6,[6]),(.pu,8,[6]),(.pu,9,[6]),(.pu,10,[6]),(.pu,12,[6]),(.pu,13,[6]),(.pu,14,[6]),(.mn,3,[6]),(.pu,16,[6]),(.mn,7,[6]),(.mn,11,[6]),(.mn,15,[6]),(.mn,17,[8]),(.pu,18,[]),(.mn,19,[8]),(.pu,20,[]),(.mn,21,[8]),(.pu,22,[]),(.mn,23,[8])]),
 (4000015,.sch [(.pu,0,[]),(.pu,1,[]),(.pu,2,[]),(.pu,3,[]),(.pu,4,[]),(.pu,5,[]),(.mn,6,[0,1,2,3,4,5,6,7,8,9,10,11,12,13,14,15])]),
 (4000024,.sch [(.pu,0,[]),(.pu,1,[]),(.pu,2,[]),(.pu,3,[]),(.pu,4,[]),(.pu,5,[]),(.mn,6,[0,1,2,3,4,5,6,7])]),
 (4000032,.sch [(.pu,0,[]),(.pu,1,[]),(.pu,2,[]),(.pu,3,[]),(.pu,4,[]),(.pu,5,[]),(.mn,6,[0,1,2,3,4,5,6,7,8])]),
 (4000036,.sch [(.pu,0,[]),(.pu,1,[]),(.pu,2,[]),(.pu,3,[]),(.pu,4,[]),(.pu,5,[]),(.mn,6,[0,1,2,3,4,5,6,7,8,9,10,11])])]) (Γ:=⟨[(59,(xaC o)),(106,(zqR o)),(13,(zbE o)),(19,(zhO o)),(104,(ztF o)),(15,(zkL o))],[(11,(zyM o)),(169,(zjE o)),(170,(zqF o)),(171,(zqA o)),(172,(zlZ o))],false,[]⟩) (ctok ⟨(zoV.cut (G:=tabs)),⟨zwN,⟨zbK,⟨zkW,⟨zzP,⟨zpF,trivial⟩⟩⟩⟩⟩⟩ ⟨yhP,⟨zpM,⟨zxV,⟨zyD,⟨zuQ,trivial⟩⟩⟩⟩⟩) Tryz.func75
def zkU(o:Ops)(v0:List Bs)(v7:Int)(v8:qbZ)(v9:qbY)(v10:qbW)(v11:qbV)(v12:List ((Bs×Bs)×Unit)):Option ((Int×zbA)⊕((Bool×zbA)⊕zbA)):=
 bif decide (v7<(v0.length:Int))then((idx v0 v7).bind fun v13=>(zcU o v13 v8 v9 v10 v11 v12).bind fun v14=>bif(!v14.1)then some (.inr (.inl (false,v14.2)))else(bif decide (v7>0)then((idx v0 (w64 (v7-1))).bind fun v15=>bif(Op.bytesLess v13 v15||v13==v15)then some (.inr (.inl (false,v14.2)))else some (.inl (w64 (v7+1),v14.2)))else some (.inl (w64 (v7+1),v14.2))))else some (.inr (.inr (v8,v9,v10,v11,v12)))
def ziP(o:Ops)(v0:List Bs)(v1:Int)(v2:qbZ)(v3:qbY)(v4:qbW)(v5:qbV)(v6:List ((Bs×Bs)×Unit)):Option ((Bool×zbA)):=
 (iter (fun x=>zkU o v0 x.1 x.2.1 x.2.2.1 x.2.2.2.1 x.2.2.2.2.1 x.2.2.2.2.2) ((0:Int),v2,v3,v4,v5,v6)).bind fun v16=>match v16 with
 |.inl v17=>some v17
 |.inr v18=>some (decide ((v0.length:Int)<=v1),v18)
def zwK(o:Ops):SC:=⟨⟨[(0,(.h (.sl .s))),(1,hI),(2,(.fn 244 [] [(.ptr 0 0)]))],[ztW,zkG,zaE,zaF,zaD,zaC,qaV]⟩,1,[(none,⟨[(0,hB)],[ztW,zkG,zaE,zaF,zaD,zaC,qaV]⟩)],fun x=>ziP o x.1 x.2.1 x.2.2.1 x.2.2.2.1 x.2.2.2.2.1 x.2.2.2.2.2.1 x.2.2.2.2.2.2⟩
theorem ydU:SCok Tryz.prog tabs 174 (zwK o):=zbC (o:=o) (η:=[(200002,.loop [] ⟨[(2,(.fn 244 [] [(.ptr 0 0)])),(11,hI)],[ztW,zkG,zaE,zaF,zaD,zaC,qaV]⟩ [0,1,9,10] [(some 1000000,⟨[(6,hB)],[ztW,zkG,zaE,zaF,zaD,zaC,qaV]⟩),(some 0,⟨[],[ztW,zkG,zaE,zaF,zaD,zaC,qaV]⟩)])]) (Γ:=⟨[],[(244,(zgT o))],false,[]⟩) (ctok trivial ⟨zlX,trivial⟩) Tryz.func174
def zkT(o:Ops)(v0:List Bs)(v7:Int)(v8:qbZ)(v9:qbY)(v10:qbW)(v11:qbV)(v12:List ((Bs×Bs)×Unit)):Option ((Int×zbA)⊕((Bool×zbA)⊕zbA)):=
 bif decide (v7<(v0.length:Int))then((idx v0 v7).bind fun v13=>(zcS o v13 v8 v9 v10 v11 v12).bind fun v14=>bif(!v14.1)then some (.inr (.inl (false,v14.2)))else(bif decide (v7>0)then((idx v0 (w64 (v7-1))).bind fun v15=>bif(Op.bytesLess v13 v15||v13==v15)then some (.inr (.inl (false,v14.2)))else some (.inl (w64 (v7+1),v14.2)))else some (.inl (w64 (v7+1),v14.2))))else some (.inr (.inr (v8,v9,v10,v11,v12)))
def ziU(o:Ops)(v0:List Bs)(v1:Int)(v2:qbZ)(v3:qbY)(v4:qbW)(v5:qbV)(v6:List ((Bs×Bs)×Unit)):Option ((Bool×zbA)):=
 (iter (fun x=>zkT o v0 x.1 x.2.1 x.2.2.1 x.2.2.2.1 x.2.2.2.2.1 x.2.2.2.2.2) ((0:Int),v2,v3,v4,v5,v6)).bind fun v16=>match v16 with
 |.inl v17=>some v17
 |.inr v18=>some (decide ((v0.length:Int)<=v1),v18)
def zwF(o:Ops):SC:=⟨⟨[(0,(.h (.sl .s))),(1,hI),(2,(.fn 245 [] [(.ptr 0 0)]))],[ztW,zkG,zaE,zaF,zaD,zaC,qaV]⟩,1,[(none,⟨[(0,hB)],[ztW,zkG,zaE,zaF,zaD,zaC,qaV]⟩)],fun x=>ziU o x.1 x.2.1 x.2.2.1 x.2.2.2.1 x.2.2.2.2.1 x.2.2.2.2.2.1 x.2.2.2.2.2.2⟩
theorem yeD:SCok Tryz.prog tabs 174 (zwF o):=zbC (o:=o) (η:=[(200002,.loop [] ⟨[(2,(.fn 245 [] [(.ptr 0 0)])),(11,hI)],[ztW,zkG,zaE,zaF,zaD,zaC,qaV]⟩ [0,1,9,10] [(some 1000000,⟨[(6,hB)],[ztW,zkG,zaE,zaF,zaD,zaC,qaV]⟩),(some 0,⟨[],[ztW,zkG,zaE,zaF,zaD,zaC,qaV]⟩)])]) (Γ:=⟨[],[(245,(zgU o))],false,[]⟩) (ctok trivial ⟨zlO,trivial⟩) Tryz.func174
def zkV(o:Ops)(v0:List Bs)(v7:Int)(v8:qbZ)(v9:qbY)(v10:qbW)(v11:qbV)(v12:List ((Bs×Bs)×Unit)):Option ((Int×zbA)⊕((Bool×zbA)⊕zbA)):=
 bif decide (v7<(v0.length:Int))then((idx v0 v7).bind fun v13=>(zcR o v13 v8 v9 v10 v11 v12).bind fun v14=>bif(!v14.1)then some (.inr (.inl (false,v14.2)))else(bif decide (v7>0)then((idx v0 (w64 (v7-1))).bind fun v15=>bif(Op.bytesLess v13 v15||v13==v15)then some (.inr (.inl (false,v14.2)))else some (.inl (w64 (v7+1),v14.2)))else some (.inl (w64 (v7+1),v14.2))))else some (.inr (.inr (v8,v9,v10,v11,v12)))
def zjP(o:Ops)(v0:List Bs)(v1:Int)(v2:qbZ)(v3:qbY)(v4:qbW)(v5:qbV)(v6:List ((Bs×Bs)×Unit)):Option ((Bool×zbA)):=
 (iter (fun x=>zkV o v0 x.1 x.2.1 x.2.2.1 x.2.2.2.1 x.2.2.2.2.1 x.2.2.2.2.2) ((0:Int),v2,v3,v4,v5,v6)).bind fun v16=>match v16 with
 |.inl v17=>some v17
 |.inr v18=>some (decide ((v0.length:Int)<=v1),v18)
def zwI(o:Ops):SC:=⟨⟨[(0,(.h (.sl .s))),(1,hI),(2,(.fn 246 [] [(.ptr 0 0)]))],[ztW,zkG,zaE,zaF,zaD,zaC,qaV]⟩,1,[(none,⟨[(0,hB)],[ztW,zkG,zaE,zaF,zaD,zaC,qaV]⟩)],fun x=>zjP o x.1 x.2.1 x.2.2.1 x.2.2.2.1 x.2.2.2.2.1 x.2.2.2.2.2.1 x.2.2.2.2.2.2⟩
theorem ydY:SCok Tryz.prog tabs 174 (zwI o):=zbC (o:=o) (η:=[(200002,.loop [] ⟨[(2,(.fn 246 [] [(.ptr 0 0)])),(11,hI)],[ztW,zkG,zaE,zaF,zaD,zaC,qaV]⟩ [0,1,9,10] [(some 1000000,⟨[(6,hB)],[ztW,zkG,zaE,zaF,zaD,zaC,qaV]⟩),(some 0,⟨[],[ztW,zkG,zaE,zaF,zaD,zaC,qaV]⟩)])]) (Γ:=⟨[],[(246,(zgS o))],false,[]⟩) (ctok trivial ⟨zlV,trivial⟩) Tryz.func174
def zgW(_o:Ops)(v0:Bs)(v1:qcV):Option ((Bool×qcV)):=
 let _v2:List Bs:=zfA keqS v1 v0 ([]:List Bs)
 some (mhas keqS v1 v0,v1)
abbrev qbX:OSh:=.mp true .s (.sl .s)
def zkM(o:Ops):SC:=⟨⟨[(0,hS),(1,(.ptr 0 0))],[ykT,qbX]⟩,1,[(none,⟨[(0,hB)],[ykT,qbX]⟩)],fun x=>zgW o x.1 x.2⟩
theorem ztP:SCok Tryz.prog tabs 247 (zkM o):=zbC (o:=o) (η:=[]) (Γ:=⟨[],[],false,[]⟩) (ctok trivial trivial) Tryz.func247
def zdB(o:Ops)(v0:List Bs)(v2:Int)(v3:qcV):Option ((Int×qcV)⊕((Int×qcV)⊕qcV)):=
 bif decide (v2<(v0.length:Int))then((idx v0 v2).bind fun v4=>(zgW o v4 v3).bind fun v5=>bif v5.1 then some (.inr (.inl (v2,v5.2)))else some (.inl (w64 (v2+1),v5.2)))else some (.inr (.inr v3))
def zlA(o:Ops)(v0:List Bs)(v1:qcV):Option ((Int×qcV)):=
 (iter (fun x=>zdB o v0 x.1 x.2) ((0:Int),v1)).bind fun v6=>match v6 with
 |.inl v7=>some v7
 |.inr v8=>some ((-1:Int),v8)
def zqX(o:Ops):SC:=⟨⟨[(0,(.h (.sl .s))),(1,(.fn 247 [] [(.ptr 0 0)]))],[ykT,qbX]⟩,1,[(none,⟨[(0,hI)],[ykT,qbX]⟩)],fun x=>zlA o x.1 x.2⟩
theorem zzN:SCok Tryz.prog tabs 212 (zqX o):=zbC (o:=o) (η:=[(200002,.loop [] ⟨[(1,(.fn 247 [] [(.ptr 0 0)])),(8,hI)],[ykT,qbX]⟩ [0,7] [(some 1000000,⟨[(4,hI)],[ykT,qbX]⟩),(some 0,⟨[],[ykT,qbX]⟩)])]) (Γ:=⟨[],[(247,(zkM o))],false,[]⟩) (ctok trivial ⟨ztP,trivial⟩) Tryz.func212
def zfJ(o:Ops)(v0:List Bs)(v1:qcV):Option ((Bool×qcV)):=
 (zlA o v0 v1).bind fun v2=>some (decide (v2.1≥0),v2.2)
def znK(o:Ops):SC:=⟨⟨[(0,(.h (.sl .s))),(1,(.fn 247 [] [(.ptr 0 0)]))],[ykT,qbX]⟩,1,[(none,⟨[(0,hB)],[ykT,qbX]⟩)],fun x=>zfJ o x.1 x.2⟩
theorem zvK:SCok Tryz.prog tabs 129 (znK o):=zbC (o:=o) (η:=[]) (Γ:=⟨[],[(212,(zqX o))],false,[]⟩) (ctok trivial ⟨zzN,trivial⟩) Tryz.func129
noncomputable def zeR(_o:Ops)(v5:qbZ)(v6:qbY)(v7:qbW)(v8:qbV)(v9:List ((Bs×Bs)×Unit))(v10:List Bs)(v11:qcV):List (Option ((qbZ×qbY×qbW×qbV×(List ((Bs×Bs)×Unit))×(List Bs)×qcV)⊕((qbZ×qbY×qbW×qbV×(List ((Bs×Bs)×Unit))×qcV)))):=
 rngL (rngC keqS v6 v10) (some (.inr (v5,v6,v7,v8,v9,v11))) fun v12=>(mget keqS v6 v12.1).bind fun v13=>let v14:qcV:=mset keqS kltS v11 v12.1 v13.1.2.1
 some (.inl (v5,v6,v7,v8,v9,rngD keqS v10 v12.1,v14))
noncomputable def zhP(_o:Ops)(v16:Bool)(v17:qbZ)(v18:qbY)(v19:qbW)(v20:qbV)(v21:List ((Bs×Bs)×Unit))(v22:qcV):Option (((Bool×qbZ×qbY×qbW×qbV×(List ((Bs×Bs)×Unit))×qcV)⊕(Bool×qbZ×qbY×qbW×qbV×(List ((Bs×Bs)×Unit))×(List Bs)×qcV))⊕((qbZ×qbY×qbW×qbV×(List ((Bs×Bs)×Unit))×qcV))):=
 bif v16 then some (.inl (.inr (false,v17,v18,v19,v20,v21,List.map Prod.fst v22,v22)))else some (.inr (v17,v18,v19,v20,v21,v22))
noncomputable def zhI(o:Ops)(v23:Bool)(v24:qbZ)(v25:qbY)(v26:qbW)(v27:qbV)(v28:List ((Bs×Bs)×Unit))(v29:List Bs)(v30:qcV):List (Option (((Bool×qbZ×qbY×qbW×qbV×(List ((Bs×Bs)×Unit))×qcV)⊕(Bool×qbZ×qbY×qbW×qbV×(List ((Bs×Bs)×Unit))×(List Bs)×qcV))⊕((qbZ×qbY×qbW×qbV×(List ((Bs×Bs)×Unit))×qcV)))):=
 rngL (rngC keqS v30 v29) (some (.inl (.inl (v23,v24,v25,v26,v27,v28,v30)))) fun v31=>(mget keqS v30 v31.1).bind fun v32=>(zfJ o v32 v30).bind fun v33=>bif(!v33.1)then some (.inl (.inr (true,v24,v25,v26,v27,v28,rngD keqS v29 v31.1,mdel keqS v33.2 v31.1)))else some (.inl (.inr (v23,v24,v25,v26,v27,v28,rngD keqS v29 v31.1,v33.2)))
noncomputable def zmR(o:Ops):(Bool×qbZ×qbY×qbW×qbV×(List ((Bs×Bs)×Unit))×qcV)⊕(Bool×qbZ×qbY×qbW×qbV×(List ((Bs×Bs)×Unit))×(List Bs)×qcV)->List (Option (((Bool×qbZ×qbY×qbW×qbV×(List ((Bs×Bs)×Unit))×qcV)⊕(Bool×qbZ×qbY×qbW×qbV×(List ((Bs×Bs)×Unit))×(List Bs)×qcV))⊕((qbZ×qbY×qbW×qbV×(List ((Bs×Bs)×Unit))×qcV))))
 |.inl x=>[zhP o x.1 x.2.1 x.2.2.1 x.2.2.2.1 x.2.2.2.2.1 x.2.2.2.2.2.1 x.2.2.2.2.2.2]
 |.inr x=>zhI o x.1 x.2.1 x.2.2.1 x.2.2.2.1 x.2.2.2.2.1 x.2.2.2.2.2.1 x.2.2.2.2.2.2.1 x.2.2.2.2.2.2.2
noncomputable def zbX(o:Ops)(v0:qbZ)(v1:qbY)(v2:qbW)(v3:qbV)(v4:List ((Bs×Bs)×Unit)):Option ((Bool×zbA)):=
 (rngA (fun x=>zeR o x.1 x.2.1 x.2.2.1 x.2.2.2.1 x.2.2.2.2.1 x.2.2.2.2.2.1 x.2.2.2.2.2.2) (v0,v1,v2,v3,v4,List.map Prod.fst v1,([]:qcV))).bind fun v15=>(rngA (zmR o) (Sum.inl (true,v15))).bind fun v34=>some (((v34.2.2.2.2.2.length:Int)==0),v34.1,v34.2.1,v34.2.2.1,v34.2.2.2.1,v34.2.2.2.2.1)
noncomputable def zmY(o:Ops):SC:=⟨⟨[(0,(.ptr 0 0))],[zaV,zaE,zaF,zaD,zaC,qaV]⟩,1,[(none,⟨[(0,hB)],[zaV,zaE,zaF,zaD,zaC,qaV]⟩)],fun x=>zbX o x.1 x.2.1 x.2.2.1 x.2.2.2.1 x.2.2.2.2⟩
theorem zwB:SCok Tryz.prog tabs 175 (zmY o):=witO (G:=tabs) (o:=o)<|xqF (H:=⟨[false,false,false,true,false],[],⟨[(3,(.ptr 6 0)),(6,hB)],[zaV,zaE,zaF,zaD,zaC,qaV,xoA,qbX]⟩,[2],[(some 2,⟨[(3,(.ptr 6 0))],[zaV,zaE,zaF,zaD,zaC,qaV,xoA,qbX]⟩)],[false,false,false],⟨[(3,(.ptr 6 0)),(6,hB),(27,(.ptr 7 0))],[zaV,zaE,zaF,zaD,zaC,qaV,.blk 237 [(.mpr 8)],.it 8 true .s,qbX]⟩,[2]⟩) (η:=[(200003,.rng [] ⟨[(3,(.ptr 6 0)),(14,(.ptr 7 0))],[zaV,zaE,zaF,zaD,zaC,qaV,.blk 237 [(.mpr 8)],.it 2 true .s,qbX]⟩ [2] [(some 0,⟨[(3,(.ptr 6 0))],[zaV,zaE,zaF,zaD,zaC,qaV,xoA,qbX]⟩)])]) (Γ:=⟨[],[(129,(znK o))],false,[]⟩) ydG τ_okWkF (ctok trivial ⟨zvK,trivial⟩) Tryz.func175 (isFn Tryz.func175) (by kernel_rfl) (by kernel_rfl) (by kernel_rfl)
noncomputable def ziC(_o:Ops)(v0:qbZ)(v1:qbY)(v2:qbW)(v3:qbV)(v4:List ((Bs×Bs)×Unit)):Option ((Bool×zbA)⊕zbA):=
 bif decide ((v0.length:Int)>64)then some (.inl (false,v0,v1,v2,v3,v4))else(bif decide ((v1.length:Int)>32)then some (.inl (false,v0,v1,v2,v3,v4))else(bif decide ((v2.length:Int)>32)then some (.inl (false,v0,v1,v2,v3,v4))else(bif decide ((v3.length:Int)>32)then some (.inl (false,v0,v1,v2,v3,v4))else(bif decide ((v4.length:Int)>64)then some (.inl (false,v0,v1,v2,v3,v4))else some (.inr (v0,v1,v2,v3,v4))))))
noncomputable def zfL(_o:Ops)(v17:Int)(v18:qbZ)(v19:qbY)(v20:qbW)(v21:qbV)(v22:List ((Bs×Bs)×Unit))(v23:List Bs)(v24:List Bs)(v25:List Bs)(v26:Int)(v27:List Bs):Option ((qbZ×qbY×qbW×qbV×(List ((Bs×Bs)×Unit))×(List Bs)×(List Bs)×(List Bs)×Int×List Bs)⊕(qbZ×qbY×qbW×qbV×(List ((Bs×Bs)×Unit))×(List Bs)×(List Bs)×(List Bs)×Int×List Bs)⊕(qbZ×qbY×qbW×qbV×(List ((Bs×Bs)×Unit))×(List Bs)×(List Bs)×(List Bs)×Int×List Bs)):=
 bif decide (v17=(0:Int))then some (.inl (v18,v19,v20,v21,v22,v23,v24,v25,v26,v27))else(bif decide (v17=(1:Int))then some (.inr (.inl (v18,v19,v20,v21,v22,v23,v24,v25,v26,v27)))else(bif decide (v17=(2:Int))then some (.inr (.inr (v18,v19,v20,v21,v22,v23,v24,v25,v26,v27)))else none))
noncomputable def zcJ(o:Ops)(v17:Int)(v18:qbZ)(v19:qbY)(v20:qbW)(v21:qbV)(v22:List ((Bs×Bs)×Unit))(v23:List Bs)(v24:List Bs)(v25:List Bs)(v26:Int)(v27:List Bs):Option ((Int×qbZ×qbY×qbW×qbV×(List ((Bs×Bs)×Unit))×(List Bs)×(List Bs)×(List Bs)×Int×List Bs)⊕((Bool×zbA)⊕(qbZ×qbY×qbW×qbV×(List ((Bs×Bs)×Unit))×List Bs))):=
 bif decide (v17<3)then((zfL o v17 v18 v19 v20 v21 v22 v23 v24 v25 v26 v27).bind fun v28=>match v28 with
 |.inl v29=>((ziP o v29.2.2.2.2.2.1 (v29.2.2.2.2.2.1.length:Int) v29.1 v29.2.1 v29.2.2.1 v29.2.2.2.1 v29.2.2.2.2.1).bind fun v31=>bif(!v31.1)then some (.inr (.inl (false,v31.2)))else some (.inl (w64 (v17+1),v31.2.1,v31.2.2.1,v31.2.2.2.1,v31.2.2.2.2.1,v31.2.2.2.2.2,v29.2.2.2.2.2)))
 |.inr v30=>(match v30 with
 |.inl v32=>((ziU o v32.2.2.2.2.2.2.1 (v32.2.2.2.2.2.2.1.length:Int) v32.1 v32.2.1 v32.2.2.1 v32.2.2.2.1 v32.2.2.2.2.1).bind fun v34=>bif(!v34.1)then some (.inr (.inl (false,v34.2)))else some (.inl (w64 (v17+1),v34.2.1,v34.2.2.1,v34.2.2.2.1,v34.2.2.2.2.1,v34.2.2.2.2.2,v32.2.2.2.2.2)))
 |.inr v33=>((zjP o v33.2.2.2.2.2.2.2.1 (v33.2.2.2.2.2.2.2.1.length:Int) v33.1 v33.2.1 v33.2.2.1 v33.2.2.2.1 v33.2.2.2.2.1).bind fun v35=>bif(!v35.1)then some (.inr (.inl (false,v35.2)))else some (.inl (w64 (v17+1),v35.2.1,v35.2.2.1,v35.2.2.2.1,v35.2.2.2.2.1,v35.2.2.2.2.2,v33.2.2.2.2.2)))))else some (.inr (.inr (v18,v19,v20,v21,v22,v27)))
noncomputable def zfH(o:Ops)(v8:qbZ)(v9:qbY)(v10:qbW)(v11:qbV)(v12:List ((Bs×Bs)×Unit))(v13:List Bs):List (Option ((qbZ×qbY×qbW×qbV×(List ((Bs×Bs)×Unit))×List Bs)⊕(zbA⊕(Bool×zbA)))):=
 rngL (rngC keqS v9 v13) (some (.inr (.inl (v8,v9,v10,v11,v12)))) fun v14=>(mget keqS v9 v14.1).bind fun v15=>(zaM o v8 v9 v10 v11 v12).bind fun v16=>(iter (fun x=>zcJ o x.1 x.2.1 x.2.2.1 x.2.2.2.1 x.2.2.2.2.1 x.2.2.2.2.2.1 x.2.2.2.2.2.2.1 x.2.2.2.2.2.2.2.1 x.2.2.2.2.2.2.2.2.1 x.2.2.2.2.2.2.2.2.2.1 x.2.2.2.2.2.2.2.2.2.2) ((0:Int),v16.1,v16.2.1,v16.2.2.1,v16.2.2.2.1,v16.2.2.2.2,v15.1.1,v15.1.2.1,v15.1.2.2,v15.2,rngD keqS v13 v14.1)).bind fun v36=>match v36 with
 |.inl v37=>some (.inr (.inr v37))
 |.inr v38=>some (.inl v38)
noncomputable def zfI(o:Ops)(v42:qbZ)(v43:qbY)(v44:qbW)(v45:qbV)(v46:List ((Bs×Bs)×Unit))(v47:List (Bs×Bs)):List (Option ((qbZ×qbY×qbW×qbV×(List ((Bs×Bs)×Unit))×List (Bs×Bs))⊕(zbA⊕(Bool×zbA)))):=
 rngL (rngC (keq (.pr .s .s)) v46 v47) (some (.inr (.inl (v42,v43,v44,v45,v46)))) fun v48=>(mget (keq (.pr .s .s)) v46 v48.1).bind fun _v49=>(zbP o v48.1.1 v42 v43 v44 v45 v46).bind fun v50=>bif(!v50.1)then some (.inr (.inr (false,v50.2)))else((zbP o v48.1.2 v50.2.1 v50.2.2.1 v50.2.2.2.1 v50.2.2.2.2.1 v50.2.2.2.2.2).bind fun v51=>bif(!v51.1)then some (.inr (.inr (false,v51.2)))else some (.inl (v51.2.1,v51.2.2.1,v51.2.2.2.1,v51.2.2.2.2.1,v51.2.2.2.2.2,rngD (keq (.pr .s .s)) v47 v48.1)))
noncomputable def zcB(o:Ops)(v0:qbZ)(v1:qbY)(v2:qbW)(v3:qbV)(v4:List ((Bs×Bs)×Unit)):Option ((Bool×zbA)):=
 (ziC o v0 v1 v2 v3 v4).bind fun v5=>match v5 with
 |.inl v6=>some v6
 |.inr v7=>((rngA (fun x=>zfH o x.1 x.2.1 x.2.2.1 x.2.2.2.1 x.2.2.2.2.1 x.2.2.2.2.2) (v7.1,v7.2.1,v7.2.2.1,v7.2.2.2.1,v7.2.2.2.2,List.map Prod.fst v7.2.1)).bind fun v39=>match v39 with
 |.inl v40=>((rngA (fun x=>zfI o x.1 x.2.1 x.2.2.1 x.2.2.2.1 x.2.2.2.2.1 x.2.2.2.2.2) (v40.1,v40.2.1,v40.2.2.1,v40.2.2.2.1,v40.2.2.2.2,List.map Prod.fst v40.2.2.2.2)).bind fun v52=>match v52 with
 |.inl v53=>((zbX o v53.1 v53.2.1 v53.2.2.1 v53.2.2.2.1 v53.2.2.2.2).bind fun v55=>some v55)
 |.inr v54=>some v54)
 |.inr v41=>some v41)
noncomputable def znR(o:Ops):SC:=⟨⟨[(0,(.ptr 0 0))],[zaV,zaE,zaF,zaD,zaC,qaV]⟩,1,[(none,⟨[(0,hB)],[zaV,zaE,zaF,zaD,zaC,qaV]⟩)],fun x=>zcB o x.1 x.2.1 x.2.2.1 x.2.2.2.1 x.2.2.2.2⟩
theorem zwY:SCok Tryz.prog tabs 76 (znR o):=zbC (o:=o) (η:=[(2000003,.join [] [] [(some 1000000,⟨[(2,hB)],[zaV,zaE,zaF,zaD,zaC,qaV]⟩),(none,⟨[(0,(.ptr 0 0))],[zaV,zaE,zaF,zaD,zaC,qaV]⟩)]),
 (2000009,.join [] [57] [(none,⟨[(0,(.ptr 0 0)),(4,(.ptr 6 0)),(6,(.ptr 7 0)),(50,(.ptr 8 0)),(56,(.ag [(.kn .i64 0),(.fn 244 [] [(.ptr 9 0)]),(.kn .i64 1),(.fn 245 [] [(.ptr 9 0)]),(.kn .i64 2),(.fn 246 [] [(.ptr 9 0)])]))],[zaV,zaE,zaF,zaD,zaC,qaV,zwT,.blk 187 [(.kn .i64 0),(.fn 244 [] [(.ptr 9 0)])],.it 2 true .s,zyB]⟩),(none,⟨[(0,(.ptr 0 0)),(4,(.ptr 6 0)),(6,(.ptr 7 0)),(50,(.ptr 8 0)),(56,(.ag [(.kn .i64 0),(.fn 244 [] [(.ptr 9 0)]),(.kn .i64 1),(.fn 245 [] [(.ptr 9 0)]),(.kn .i64 2),(.fn 246 [] [(.ptr 9 0)])]))],[zaV,zaE,zaF,zaD,zaC,qaV,zwT,.blk 187 [(.kn .i64 1),(.fn 245 [] [(.ptr 9 0)])],.it 2 true .s,zyB]⟩),(none,⟨[(0,(.ptr 0 0)),(4,(.ptr 6 0)),(6,(.ptr 7 0)),(50,(.ptr 8 0)),(56,(.ag [(.kn .i64 0),(.fn 244 [] [(.ptr 9 0)]),(.kn .i64 1),(.fn 245 [] [(.ptr 9 0)]),(.kn .i64 2),(.fn 246 [] [(.ptr 9 0)])]))],[zaV,zaE,zaF,zaD,zaC,qaV,zwT,.blk 187 [(.kn .i64 2),(.fn 246 [] [(.ptr 9 0)])],.it 2 true .s,zyB]⟩)]),
 (200007,.loop [] ⟨[(0,(.ptr 0 0)),(4,(.ptr 6 0)),(50,(.ptr 7 0)),(56,(.ag [(.kn .i64 0),(.fn 244 [] [(.ptr 8 0)]),(.kn .i64 1),(.fn 245 [] [(.ptr 8 0)]),(.kn .i64 2),(.fn 246 [] [(.ptr 8 0)])])),(57,hI)],[zaV,zaE,zaF,zaD,zaC,qaV,zwT,.it 2 true .s,zyB]⟩ [] [(some 1000000,⟨[(2,hB)],[zaV,zaE,zaF,zaD,zaC,qaV]⟩),(some 2,⟨[(0,(.ptr 0 0)),(50,(.ptr 6 0))],[zaV,zaE,zaF,zaD,zaC,qaV,.it 2 true .s]⟩)]),
 (200004,.rng [] ⟨[(0,(.ptr 0 0)),(50,(.ptr 6 0))],[zaV,zaE,zaF,zaD,zaC,qaV,.it 2 true .s]⟩ [] [(some 0,⟨[(0,(.ptr 0 0))],[zaV,zaE,zaF,zaD,zaC,qaV]⟩),(some 1000000,⟨[(2,hB)],[zaV,zaE,zaF,zaD,zaC,qaV]⟩)]),
 (200013,.rng [] ⟨[(0,(.ptr 0 0)),(80,(.ptr 6 0))],[zaV,zaE,zaF,zaD,zaC,qaV,.it 5 true (.pr .s .s)]⟩ [] [(some 4,⟨[(0,(.ptr 0 0))],[zaV,zaE,zaF,zaD,zaC,qaV]⟩),(some 1000000,⟨[(2,hB)],[zaV,zaE,zaF,zaD,zaC,qaV]⟩)]),
 (4000009,.sch [(.pu,0,[]),(.pu,1,[]),(.pu,2,[]),(.pu,3,[]),(.pu,4,[]),(.pu,5,[]),(.pu,6,[]),(.pu,7,[]),(.pu,8,[]),(.pu,9,[]),(.pu,10,[]),(.pu,11,[]),(.pu,12,[]),(.mn,13,[0,1,2,3,4,5,9]),(.pu,14,[])])]) (Γ:=⟨[],[(173,(zbL o)),(174,(zwK o)),(174,(zwF o)),(174,(zwI o)),(128,(zfD o)),(175,(zmY o))],false,[]⟩) (ctok trivial ⟨zbW,⟨ydU,⟨yeD,⟨ydY,⟨ziB,⟨zwB,trivial⟩⟩⟩⟩⟩⟩) Tryz.func76
noncomputable def zhW(o:Ops)(v0:List (Bs×Bs))(v2:Int)(v3:qbZ)(v4:qbY)(v5:qbW)(v6:qbV)(v7:List ((Bs×Bs)×Unit)):Option ((Int×zbA)⊕(Int⊕zbA)):=
 bif decide (v2<(v0.length:Int))then((idx v0 v2).bind fun v8=>bif decide (v2>0)then((idx v0 (w64 (v2-1))).bind fun v9=>bif(Op.bytesLess v8.1 v9.1||v8.1==v9.1)then some (.inr (.inl (125:Int)))else((zaU o v8 v3 v4 v5 v6 v7).bind fun v10=>bif(!v10.1)then some (.inr (.inl (125:Int)))else some (.inl (w64 (v2+1),v10.2))))else((zaU o v8 v3 v4 v5 v6 v7).bind fun v11=>bif(!v11.1)then some (.inr (.inl (125:Int)))else some (.inl (w64 (v2+1),v11.2))))else some (.inr (.inr (v3,v4,v5,v6,v7)))
noncomputable def zgE(o:Ops)(v0:List (Bs×Bs)):Option (Int⊕(Int×zbA)):=
 (ziY o).bind fun v1=>(iter (fun x=>zhW o v0 x.1 x.2.1 x.2.2.1 x.2.2.2.1 x.2.2.2.2.1 x.2.2.2.2.2) ((0:Int),v1)).bind fun v12=>match v12 with
 |.inl v13=>some (.inl v13)
 |.inr v14=>((zcB o v14.1 v14.2.1 v14.2.2.1 v14.2.2.2.1 v14.2.2.2.2).bind fun v15=>bif(!v15.1)then some (.inl (125:Int))else some (.inr ((0:Int),v15.2)))
noncomputable def ztX(o:Ops):SC:=⟨⟨[(0,(.h (.sl (.pr .s .s))))],[]⟩,2,[(none,⟨[(0,.nilp),(1,hI)],[]⟩),(none,⟨[(0,(.ptr 0 0)),(1,hI)],[zaV,zaE,zaF,zaD,zaC,qaV]⟩)],fun x=>zgE o x⟩
theorem zzS:SCok Tryz.prog tabs 25 (ztX o):=zbC (o:=o) (η:=[(200003,.loop [] ⟨[(4,(.ptr 0 0)),(10,hI)],[zaV,zaE,zaF,zaD,zaC,qaV]⟩ [0,8,9] [(some 1000000,⟨[(2,.nilp),(3,hI)],[]⟩),(some 0,⟨[(4,(.ptr 0 0))],[zaV,zaE,zaF,zaD,zaC,qaV]⟩)]),
 (4000005,.sch [(.pu,0,[]),(.pu,1,[]),(.pu,2,[]),(.pu,3,[]),(.pu,4,[]),(.pu,5,[]),(.pu,6,[]),(.pu,7,[]),(.pu,8,[]),(.pu,9,[]),(.pu,10,[]),(.pu,11,[]),(.pu,12,[]),(.pu,13,[]),(.pu,14,[]),(.pu,15,[]),(.mn,16,[0,1,2,3,4,5]),(.pu,17,[]),(.pu,18,[])])]) (Γ:=⟨[],[(30,(zrN o)),(75,(zkQ o)),(76,(znR o))],false,[]⟩) (ctok trivial ⟨zvL,⟨ztN,⟨zwY,trivial⟩⟩⟩) Tryz.func25
noncomputable def znB(o:Ops)(v0:zbA):Option (Bool⊕zbA):=
 (zcD o ([97,110,110]:Bs) ([97,64,120]:Bs) v0.1 v0.2.1 v0.2.2.1 v0.2.2.2.1 v0.2.2.2.2).bind fun v1=>bif(v1.1 != 0)then some (.inl false)else((zcD o ([97,110,110]:Bs) ([97,64,120]:Bs) v1.2.1 v1.2.2.1 v1.2.2.2.1 v1.2.2.2.2.1 v1.2.2.2.2.2).bind fun v2=>bif(v2.1 != 121)then some (.inl false)else((zbY o ([103]:Bs) v2.2.1 v2.2.2.1 v2.2.2.2.1 v2.2.2.2.2.1 v2.2.2.2.2.2).bind fun v3=>bif(v3.1 != 0)then some (.inl false)else((zbY o ([104]:Bs) v3.2.1 v3.2.2.1 v3.2.2.2.1 v3.2.2.2.2.1 v3.2.2.2.2.2).bind fun v4=>bif(v4.1 != 0)then some (.inl false)else((zbN o ([103]:Bs) ([104]:Bs) v4.2.1 v4.2.2.1 v4.2.2.2.1 v4.2.2.2.2.1 v4.2.2.2.2.2).bind fun v5=>bif(v5.1 != 0)then some (.inl false)else((zbN o ([104]:Bs) ([103]:Bs) v5.2.1 v5.2.2.1 v5.2.2.2.1 v5.2.2.2.2.1 v5.2.2.2.2.2).bind fun v6=>bif(v6.1 != 123)then some (.inl false)else((zgQ o ([104]:Bs) ([97,110,110]:Bs) v6.2.1 v6.2.2.1 v6.2.2.2.1 v6.2.2.2.2.1 v6.2.2.2.2.2).bind fun v7=>bif(v7.1 != 0)then some (.inl false)else some (.inr v7.2)))))))
noncomputable def zhL(o:Ops)(v10:zbA):Option (Bool⊕zbA):=
 (zcT o (([114]:Bs),([([114,101,97,100]:Bs)]:List Bs)) v10.1 v10.2.1 v10.2.2.1 v10.2.2.2.1 v10.2.2.2.2).bind fun v11=>bif(v11.1 != 0)then some (.inl false)else((zgO o ([103]:Bs) ([114]:Bs) v11.2.1 v11.2.2.1 v11.2.2.2.1 v11.2.2.2.2.1 v11.2.2.2.2.2).bind fun v12=>bif(v12.1 != 0)then some (.inl false)else((zoR o ([117,58,97,110,110]:Bs) v12.2.1 v12.2.2.1 v12.2.2.2.1 v12.2.2.2.2.1 v12.2.2.2.2.2).bind fun v13=>bif(!v13.1)then some (.inl false)else some (.inr v13.2)))
noncomputable def ziD(o:Ops):Option (Bool):=
 (ziY o).bind fun v0=>(znB o v0).bind fun v8=>match v8 with
 |.inl v9=>(some v9)
 |.inr v10=>((zhL o v10).bind fun v14=>match v14 with
 |.inl v15=>(some v15)
 |.inr v16=>((zeE o ([97,110,110]:Bs) v16.1 v16.2.1 v16.2.2.1 v16.2.2.2.1 v16.2.2.2.2).bind fun v17=>(zdV o ([97,110,110]:Bs) v17.2.1 v17.2.2.1 v17.2.2.2.1 v17.2.2.2.2.1 v17.2.2.2.2.2).bind fun v18=>(zbD o v18.2.1 v18.2.2.1 v18.2.2.2.1 v18.2.2.2.2.1 v18.2.2.2.2.2).bind fun v19=>(zgE o v19.1).bind fun v20=>match v20 with
 |.inl _v21=>(bif((v17.1.length:Int)==2)then((idx v17.1 (0:Int)).bind fun v23=>bif(v23==([103]:Bs))then(bif((v18.1.length:Int)==1)then((idx v18.1 (0:Int)).bind fun v24=>bif(v24==([114,101,97,100]:Bs))then(bif((v19.1.length:Int)==4)then((idx v19.1 (1:Int)).bind fun v25=>let v26:Bool:=((v25.1==([103,114,111,117,112,47,104]:Bs))&&(v25.2==([49,58,50,49,58,49,51,58,97,110,110,49,58,48,49,58,48]:Bs)))
 bif v26 then(some false)else(some false))else(some false))else(some false))else(some false))else(some false))else(some false))
 |.inr v22=>(bif((v17.1.length:Int)==2)then((idx v17.1 (0:Int)).bind fun v27=>bif(v27==([103]:Bs))then(bif((v18.1.length:Int)==1)then((idx v18.1 (0:Int)).bind fun v28=>bif(v28==([114,101,97,100]:Bs))then(bif((v19.1.length:Int)==4)then((idx v19.1 (1:Int)).bind fun v29=>let v30:Bool:=((v29.1==([103,114,111,117,112,47,104]:Bs))&&(v29.2==([49,58,50,49,58,49,51,58,97,110,110,49,58,48,49,58,48]:Bs)))
 bif v30 then(bif(v22.1==0)then((o.form ([([97,98]:Bs),([]:Bs)]:List Bs)).bind fun v31=>some (v31==([50,58,97,98,48,58]:Bs)))else(some false))else(some false))else(some false))else(some false))else(some false))else(some false))else(some false))))
noncomputable def zmN(o:Ops):PC:=⟨[],[.b],fun _=>ziD o,false⟩
theorem zvJ:PCok Tryz.prog tabs 24 (zmN o):=zhS (o:=o) (η:=[(2000004,.join [] [] [(some 1000000,⟨[(0,hB)],[]⟩),(none,⟨[(1,(.ptr 0 0))],[zaV,zaE,zaF,zaD,zaC,qaV]⟩)]),
 (2000006,.join [] [] [(some 1000000,⟨[(0,hB)],[]⟩),(none,⟨[(1,(.ptr 0 0))],[zaV,zaE,zaF,zaD,zaC,qaV]⟩)])]) (Γ:=⟨[(22,(ygQ o))],[(30,(zrN o)),(71,(zgZ o)),(72,(zgF o)),(33,(zgB o)),(73,(zjF o)),(36,(zgV o)),(74,(ziT o)),(49,(zmG o)),(50,(zlB o)),(34,(zoN o)),(29,(ziR o)),(25,(ztX o))],false,[]⟩) (ctok ⟨(zoV.form (G:=tabs)),trivial⟩ ⟨zvL,⟨zlU,⟨zkR,⟨zjM,⟨zpJ,⟨zmC,⟨zpX,⟨zvM,⟨zsG,⟨zxF,⟨zpT,⟨zzS,trivial⟩⟩⟩⟩⟩⟩⟩⟩⟩⟩⟩⟩) Tryz.func24
end
end Go.Proofs.YtopanhneegpgcaaGreatDoor.Am
