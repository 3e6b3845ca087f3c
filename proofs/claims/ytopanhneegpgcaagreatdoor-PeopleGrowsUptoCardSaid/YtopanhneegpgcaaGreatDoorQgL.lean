/- Parts of one proof. Conditions: as each theorem says. -/
import Derived.KernelRfl
import Derived.Test.YtopanhneegpgcaaGreatDoorQgK
namespace Go.Proofs.YtopanhneegpgcaaGreatDoor.Am
open Go Go.RowKit
def τWkF:TE:=[(3,⟨.int .i64,1,[.v (.i .i64) (show Int from 0)],(.i .i64),8⟩),
 (4,⟨.b,1,[.v .b (show Bool from false)],.b,1⟩),
 (9,⟨.s,1,[.v .s (show Bs from [])],.s,16⟩),
 (22,⟨.sl 9,1,[.nils],(.sl .s),24⟩),
 (25,⟨.fn,1,[.nilf],.un,8⟩),
 (31,⟨.sl 33,1,[.nils],(.sl (.pr .s .s)),24⟩),
 (33,⟨.st [(9,0),(9,1)],2,[.v .s (show Bs from []),.v .s (show Bs from [])],(.pr .s .s),32⟩),
 (34,⟨.pt 128,1,[.nilp],.un,8⟩),
 (49,⟨.st [(9,0),(22,1)],2,[.v .s (show Bs from []),.nils],(.pr .s (.sl .s)),40⟩),
 (51,⟨.st [(9,0),(9,1),(22,2),(22,3),(4,4),(4,5),(4,6),(4,7)],8,[.v .s (show Bs from []),.v .s (show Bs from []),.nils,.nils,.v .b (show Bool from false),.v .b (show Bool from false),.v .b (show Bool from false),.v .b (show Bool from false)],(.pr .s (.pr .s (.pr (.sl .s) (.pr (.sl .s) (.pr .b (.pr .b (.pr .b .b))))))),88⟩),
 (54,⟨.sl 57,1,[.nils],(.sl (.pr .s (.pr (.sl .s) (.pr (.sl .s) (.pr (.sl .s) (.i .i64)))))),24⟩),
 (57,⟨.st [(9,0),(22,1),(22,2),(22,3),(3,4)],5,[.v .s (show Bs from []),.nils,.nils,.nils,.v (.i .i64) (show Int from 0)],(.pr .s (.pr (.sl .s) (.pr (.sl .s) (.pr (.sl .s) (.i .i64))))),96⟩),
 (64,⟨.sl 51,1,[.nils],(.sl (.pr .s (.pr .s (.pr (.sl .s) (.pr (.sl .s) (.pr .b (.pr .b (.pr .b .b)))))))),24⟩),
 (67,⟨.sl 77,1,[.nils],(.sl (.pr .s (.pr .s (.pr .b (.i .i64))))),24⟩),
 (69,⟨.sl 49,1,[.nils],(.sl (.pr .s (.sl .s))),24⟩),
 (72,⟨.sl 75,1,[.nils],(.sl (.pr .s .s)),24⟩),
 (75,⟨.st [(9,0),(9,1)],2,[.v .s (show Bs from []),.v .s (show Bs from [])],(.pr .s .s),32⟩),
 (77,⟨.st [(9,0),(9,1),(4,2),(3,3)],4,[.v .s (show Bs from []),.v .s (show Bs from []),.v .b (show Bool from false),.v (.i .i64) (show Int from 0)],(.pr .s (.pr .s (.pr .b (.i .i64)))),48⟩),
 (106,⟨.ifc,1,[.v .er (show Bool from false)],.er,16⟩),
 (122,⟨.map 9 77,1,[.nilm],(.mp .s (.pr .s (.pr .s (.pr .b (.i .i64))))),8⟩),
 (123,⟨.map 9 133,1,[.nilm],(.mp .s (.pr (.pr (.sl .s) (.pr (.sl .s) (.sl .s))) (.i .i64))),8⟩),
 (124,⟨.map 9 49,1,[.nilm],(.mp .s (.pr .s (.sl .s))),8⟩),
 (125,⟨.map 9 51,1,[.nilm],(.mp .s (.pr .s (.pr .s (.pr (.sl .s) (.pr (.sl .s) (.pr .b (.pr .b (.pr .b .b)))))))),8⟩),
 (126,⟨.map 75 157,1,[.nilm],(.mp (.pr .s .s) .un),8⟩),
 (128,⟨.st [(122,0),(123,1),(124,2),(125,3),(126,4)],5,[.nilm,.nilm,.nilm,.nilm,.nilm],(.pr (.mp .s (.pr .s (.pr .s (.pr .b (.i .i64))))) (.pr (.mp .s (.pr (.pr (.sl .s) (.pr (.sl .s) (.sl .s))) (.i .i64))) (.pr (.mp .s (.pr .s (.sl .s))) (.pr (.mp .s (.pr .s (.pr .s (.pr (.sl .s) (.pr (.sl .s) (.pr .b (.pr .b (.pr .b .b)))))))) (.mp (.pr .s .s) .un))))),40⟩),
 (131,⟨.ar 3 22,3,[.nils,.nils,.nils],(.pr (.sl .s) (.pr (.sl .s) (.sl .s))),72⟩),
 (133,⟨.st [(131,0),(3,3)],4,[.nils,.nils,.nils,.v (.i .i64) (show Int from 0)],(.pr (.pr (.sl .s) (.pr (.sl .s) (.sl .s))) (.i .i64)),80⟩),
 (157,⟨.st [],0,[],.un,0⟩),
 (160,⟨.map 9 157,1,[.nilm],(.mp .s .un),8⟩),
 (183,⟨.st [(22,0),(4,1)],2,[.nils,.v .b (show Bool from false)],(.pr (.sl .s) .b),32⟩),
 (187,⟨.st [(3,0),(25,1)],2,[.v (.i .i64) (show Int from 0),.nilf],.un,16⟩),
 (188,⟨.ar 3 187,6,[.v (.i .i64) (show Int from 0),.nilf,.v (.i .i64) (show Int from 0),.nilf,.v (.i .i64) (show Int from 0),.nilf],.un,48⟩),
 (197,⟨.sl 22,1,[.nils],(.sl (.sl .s)),24⟩),
 (201,⟨.int .u64,1,[.v (.i .u64) (show UInt64 from 0)],(.i .u64),8⟩),
 (237,⟨.map 9 22,1,[.nilm],(.mp .s (.sl .s)),8⟩)]
theorem τ_okWkF:TEok Tryz.prog τWkF:=xaJ (by kernel_rfl) (by kernel_rfl)
theorem ydR:Tryz.prog.follows .mixedOrders=true:=by kernel_rfl
theorem zbC {G : List (Nat × Obj)} {o : Ops} [ztF G] [zqV G o] {Γ : CT} {η : HT} {f : FuncId} {fn : Func} {c : SC} (hΓ : ∀ B, GB G B -> CTok Tryz.prog Γ B) (hf : Tryz.prog.funcs[f]? = some fn) (i : (fn.name == "runtime.NumGoroutine") = false := by kernel_rfl) (j : fn.body.isNone = false := by kernel_rfl) (l : Nat.ble c.I.sl.length fn.ntmps = true := by kernel_rfl) (r : Nat.beq fn.results.toList.length c.nr = true := by kernel_rfl) (e : fnS τWkF Γ η fn c.I c.outs = c.p := by kernel_rfl) : SCok Tryz.prog G f c := witO (G := G) (o := o) <| fn_sc ydR τ_okWkF hΓ hf (isFn hf i j) l r e
theorem zhE {G : List (Nat × Obj)} {o : Ops} [ztF G] [zqV G o] {Γ : CT} {η : HT} {f : FuncId} {fn : Func} {c : PC} (hΓ : ∀ B, GB G B -> CTok Tryz.prog Γ B) (hf : Tryz.prog.funcs[f]? = some fn) (i : (fn.name == "runtime.NumGoroutine") = false := by kernel_rfl) (j : fn.body.isNone = false := by kernel_rfl) (l : Nat.ble c.ash.length fn.ntmps = true := by kernel_rfl) (r : c.cl = false := by kernel_rfl) (e : fnP τWkF Γ η fn c.ash c.rts = c.p := by kernel_rfl) : PCok Tryz.prog G f c := witO (G := G) (o := o) <| fn_pc ydR τ_okWkF hΓ hf (isFn hf i j) l r e
abbrev yeL:Type:=(List Bs)×Bool
abbrev zdN:Type:=Bs×List Bs
abbrev qcW:Type:=List zdN
abbrev ycS:Ty:=.pr .s (.sl .s)
abbrev zwX:Type:=Bs×Bs×Bool×Int
abbrev ylE:Ty:=.pr .s (.pr .s (.pr .b (.i .i64)))
abbrev zaJ:Type:=Bs×zdN
abbrev qbZ:Type:=List zaJ
abbrev zaI:Type:=Bs×zwX
abbrev qbY:Type:=List zaI
abbrev zzL:Type:=((List Bs)×(List Bs)×List Bs)×Int
abbrev yuM:Ty:=.pr (.pr (.sl .s) (.pr (.sl .s) (.sl .s))) (.i .i64)
abbrev zaH:Type:=Bs×zzL
abbrev qbX:Type:=List zaH
abbrev yhU:Type:=Bs×(List Bs)×(List Bs)×(List Bs)×Int
abbrev yvW:Ty:=.pr .s (.pr (.sl .s) (.pr (.sl .s) (.pr (.sl .s) (.i .i64))))
abbrev zuL:Type:=Bs×Bs×(List Bs)×(List Bs)×Bool×Bool×Bool×Bool
abbrev ycI:Ty:=.pr .s (.pr .s (.pr (.sl .s) (.pr (.sl .s) (.pr .b (.pr .b (.pr .b .b))))))
abbrev zaK:Type:=Bs×zuL
abbrev qbW:Type:=List zaK
abbrev zbA:Type:=(List (Bs×zwX))×(List (Bs×zzL))×(List (Bs×zdN))×(List (Bs×zuL))×List ((Bs×Bs)×Unit)
abbrev zaU:OSh:=.blk 128 [(.mpr 1),(.mpr 2),(.mpr 3),(.mpr 4),(.mpr 5)]
abbrev zjS:OSh:=.blk 128 [(.mpr 2),(.mpr 3),(.mpr 4),(.mpr 5),(.mpr 6)]
abbrev zwP:OSh:=.blk 133 [(.h (.sl .s)),(.h (.sl .s)),(.h (.sl .s)),hI]
abbrev yvP:OSh:=.blk 133 [.nils,.nils,.nils,hI]
abbrev yaP:OSh:=.blk 183 [(.h (.sl .s)),hB]
abbrev zyP:OSh:=.blk 34 [(.ptr 0 0)]
abbrev ztK:OSh:=.blk 34 [(.ptr 1 0)]
abbrev ygQ:OSh:=.blk 160 [(.mpr 1)]
abbrev ykT:OSh:=.blk 237 [(.mpr 1)]
abbrev QWkF9:OSh:=.blk 237 [(.mpr 7)]
abbrev ywU:OSh:=.mp false .s ylE
abbrev ybB:OSh:=.mp false .s yuM
abbrev xbN:OSh:=.mp false .s ycS
abbrev QWkF13:OSh:=.blk 31 [(.own 1)]
abbrev yxN:OSh:=.blk 31 [(.own 2)]
abbrev yqZ:OSh:=.blk 31 [(.own 8)]
abbrev yiF:OSh:=.blk 31 [(.own 7)]
abbrev zaE:OSh:=.mp true .s ylE
abbrev zaF:OSh:=.mp true .s yuM
abbrev zaD:OSh:=.mp true .s ycS
abbrev zaC:OSh:=.mp true .s ycI
abbrev zmN:OSh:=.mp true .s .un
section
variable {tabs:List (Nat×Obj)}[ztF tabs]{o:Ops}[zqV tabs o]
def ziR(_o:Ops):Option (zbA):=
 some (([]:qbY),([]:qbX),([]:qbZ),([]:qbW),([]:List ((Bs×Bs)×Unit)))
def zqX(o:Ops):SC:=⟨⟨[],[]⟩,1,[(none,⟨[(0,(.ptr 0 0))],[zaU,zaE,zaF,zaD,zaC,qaW]⟩)],fun _=>ziR o⟩
theorem zvO:SCok Tryz.prog tabs 30 (zqX o):=zbC (o:=o) (η:=[]) (Γ:=⟨[],[],false,[]⟩) (ctok trivial trivial) Tryz.func30
def zkQ(o:Ops)(v0:Bs)(v1:Int)(v2:Bs):Option (Bool):=
 bif(v0 != ([]:Bs))then(bif decide ((v0.length:Int)<=v1)then((o.trim v0 v2).bind fun v3=>some (v3==([]:Bs)))else(some false))else(some false)
def zyT(o:Ops):PC:=⟨[hS,hI,hS],[.b],fun x=>zkQ o x.1 x.2.1 x.2.2,false⟩
theorem ydI:PCok Tryz.prog tabs 63 (zyT o):=zhE (o:=o) (η:=[]) (Γ:=⟨[(164,(yjZ o))],[],false,[]⟩) (ctok ⟨(zqV.trim (G:=tabs)),trivial⟩ trivial) Tryz.func63
def zaN(o:Ops)(v0:Bs):Option (Bool):=
 (zkQ o v0 (24:Int) ([97,98,99,100,101,102,103,104,105,106,107,108,109,110,111,112,113,114,115,116,117,118,119,120,121,122,48,49,50,51,52,53,54,55,56,57,46,95,45]:Bs)).bind fun v1=>some v1
def zbD(o:Ops):PC:=⟨[hS],[.b],fun x=>zaN o x,false⟩
theorem zbI:PCok Tryz.prog tabs 13 (zbD o):=zhE (o:=o) (η:=[]) (Γ:=⟨[(63,(zyT o))],[],false,[]⟩) (ctok ⟨ydI,trivial⟩ trivial) Tryz.func13
def ziJ(_o:Ops)(v0:Int):Option (Bool):=
 bif decide (v0<33)then(some true)else(some (decide (v0>126)))
def zwE(o:Ops):PC:=⟨[(.h (.i .i32))],[.b],fun x=>ziJ o x,false⟩
theorem yeM:PCok Tryz.prog tabs 66 (zwE o):=zhE (o:=o) (η:=[]) (Γ:=⟨[],[],false,[]⟩) (ctok trivial trivial) Tryz.func66
def zgG(o:Ops)(v1:Bool)(v2:Bs)(v3:Int):Option ((Bs×Int)⊕(Int⊕Unit)):=
 bif decide (v3.toNat<v2.length)then((ziJ o (nxR v2 v3.toNat)).bind fun v4=>bif(v4==v1)then some (.inr (.inl (v3.toNat:Int)))else some (.inl (v2,(nxP v2 v3.toNat:Int))))else some (.inr (.inr ()))
def zgS(o:Ops)(v0:Bs)(v1:Bool):Option (Int):=
 (iter (fun x=>zgG o v1 x.1 x.2) (v0,(0:Int))).bind fun v5=>match v5 with
 |.inl v6=>some v6
 |.inr _v7=>some (-1:Int)
def zqN(o:Ops):SC:=⟨⟨[(0,hS),(1,(.fn 66 [] [])),(2,hB)],[]⟩,1,[(none,⟨[(0,hI)],[]⟩)],fun x=>zgS o x.1 x.2⟩
theorem zzI:SCok Tryz.prog tabs 240 (zqN o):=zbC (o:=o) (η:=[(200002,.loop [] ⟨[(1,(.fn 66 [] [])),(10,(.ptr 0 0))],[.is]⟩ [2] [(some 1000000,⟨[(6,hI)],[]⟩),(some 0,⟨[],[]⟩)])]) (Γ:=⟨[(66,(zwE o))],[],false,[]⟩) (ctok ⟨yeM,trivial⟩ trivial) Tryz.func240
def zgV(o:Ops)(v0:Bs):Option (Int):=
 (zgS o v0 true).bind fun v1=>some v1
def zqP(o:Ops):SC:=⟨⟨[(0,hS),(1,(.fn 66 [] []))],[]⟩,1,[(none,⟨[(0,hI)],[]⟩)],fun x=>zgV o x⟩
theorem zzN:SCok Tryz.prog tabs 166 (zqP o):=zbC (o:=o) (η:=[]) (Γ:=⟨[],[(240,(zqN o))],false,[]⟩) (ctok trivial ⟨zzI,trivial⟩) Tryz.func166
def zcW(o:Ops)(v0:Bs):Option (Bool):=
 (zgV o v0).bind fun v1=>some (decide (v1≥0))
def zlV(o:Ops):SC:=⟨⟨[(0,hS),(1,(.fn 66 [] []))],[]⟩,1,[(none,⟨[(0,hB)],[]⟩)],fun x=>zcW o x⟩
theorem zvR:SCok Tryz.prog tabs 65 (zlV o):=zbC (o:=o) (η:=[]) (Γ:=⟨[],[(166,(zqP o))],false,[]⟩) (ctok trivial ⟨zzN,trivial⟩) Tryz.func65
def zcM(o:Ops)(v0:Bs):Option (Bool):=
 bif(v0 != ([]:Bs))then(bif decide ((v0.length:Int)<=128)then((zcW o v0).bind fun v1=>some (!v1))else(some false))else(some false)
def zkD(o:Ops):PC:=⟨[hS],[.b],fun x=>zcM o x,false⟩
theorem zoW:PCok Tryz.prog tabs 15 (zkD o):=zhE (o:=o) (η:=[]) (Γ:=⟨[],[(65,(zlV o))],false,[]⟩) (ctok trivial ⟨zvR,trivial⟩) Tryz.func15
def zkZ(o:Ops)(v0:Bs)(v1:Bs)(v2:qbY)(v3:qbX)(v4:qbZ)(v5:qbW)(v6:List ((Bs×Bs)×Unit)):Option ((Int×zbA)⊕zbA):=
 (zaN o v0).bind fun v7=>bif(!v7)then some (.inl ((120:Int),v2,v3,v4,v5,v6))else((zcM o v1).bind fun v8=>bif(!v8)then some (.inl ((120:Int),v2,v3,v4,v5,v6))else some (.inr (v2,v3,v4,v5,v6)))
def zbW(o:Ops)(v0:Bs)(v1:Bs)(v2:qbY)(v3:qbX)(v4:qbZ)(v5:qbW)(v6:List ((Bs×Bs)×Unit)):Option ((Int×zbA)):=
 (zkZ o v0 v1 v2 v3 v4 v5 v6).bind fun v9=>match v9 with
 |.inl v10=>some v10
 |.inr v11=>(let _v12:zwX:=zcD keqS v11.1 v0 (([]:Bs),([]:Bs),false,(0:Int))
 bif mhas keqS v11.1 v0 then some ((121:Int),v11)else(bif decide ((v11.1.length:Int)≥64)then some ((124:Int),v11)else(let v13:qbY:=mset keqS kltS v11.1 v0 (v0,v1,true,(1:Int))
 some ((0:Int),v13,v11.2))))
def zgM(o:Ops):SC:=⟨⟨[(0,(.ptr 0 0)),(1,hS),(2,hS)],[zaU,zaE,zaF,zaD,zaC,qaW]⟩,1,[(none,⟨[(0,hI)],[zaU,ywU,zaF,zaD,zaC,qaW]⟩)],fun x=>zbW o x.1 x.2.1 x.2.2.1 x.2.2.2.1 x.2.2.2.2.1 x.2.2.2.2.2.1 x.2.2.2.2.2.2⟩
theorem zlI:SCok Tryz.prog tabs 71 (zgM o):=zbC (o:=o) (η:=[(2000003,.join [] [1,2] [(some 1000000,⟨[(6,hI)],[zaU,zaE,zaF,zaD,zaC,qaW]⟩),(none,⟨[(0,(.ptr 0 0))],[zaU,zaE,zaF,zaD,zaC,qaW]⟩)])]) (Γ:=⟨[(13,(zbD o)),(15,(zkD o))],[],false,[]⟩) (ctok ⟨zbI,⟨zoW,trivial⟩⟩ trivial) Tryz.func71
def zbU(o:Ops)(v0:Bs)(v1:qbY)(v2:qbX)(v3:qbZ)(v4:qbW)(v5:List ((Bs×Bs)×Unit)):Option ((Int×zbA)):=
 (zaN o v0).bind fun v6=>bif(!v6)then some ((120:Int),v1,v2,v3,v4,v5)else(let _v7:zzL:=zcD keqS v2 v0 ((([]:List Bs),([]:List Bs),([]:List Bs)),(0:Int))
 bif mhas keqS v2 v0 then some ((121:Int),v1,v2,v3,v4,v5)else(bif decide ((v2.length:Int)≥32)then some ((124:Int),v1,v2,v3,v4,v5)else(let v8:qbX:=mset keqS kltS v2 v0 ((([]:List Bs),([]:List Bs),([]:List Bs)),(1:Int))
 some ((0:Int),v1,v8,v3,v4,v5))))
def zfU(o:Ops):SC:=⟨⟨[(0,(.ptr 0 0)),(1,hS)],[zaU,zaE,zaF,zaD,zaC,qaW]⟩,1,[(none,⟨[(0,hI)],[zaU,zaE,ybB,zaD,zaC,qaW]⟩)],fun x=>zbU o x.1 x.2.1 x.2.2.1 x.2.2.2.1 x.2.2.2.2.1 x.2.2.2.2.2⟩
theorem zjY:SCok Tryz.prog tabs 72 (zfU o):=zbC (o:=o) (η:=[]) (Γ:=⟨[(13,(zbD o))],[],false,[]⟩) (ctok ⟨zbI,trivial⟩ trivial) Tryz.func72
def zaP(_o:Ops)(v0:qbY)(v1:qbX)(v2:qbZ)(v3:qbW)(v4:List ((Bs×Bs)×Unit)):Option (zbA):=
 some (v0,v1,v2,v3,v4)
def zbJ(o:Ops):SC:=⟨⟨[(0,(.ptr 0 0))],[zaU,zaE,zaF,zaD,zaC,qaW]⟩,1,[(none,⟨[(0,(.ag [(.kn .i64 0),(.fn 244 [] [(.ptr 6 0)]),(.kn .i64 1),(.fn 245 [] [(.ptr 6 0)]),(.kn .i64 2),(.fn 246 [] [(.ptr 6 0)])]))],[zaU,zaE,zaF,zaD,zaC,qaW,zyP]⟩)],fun x=>zaP o x.1 x.2.1 x.2.2.1 x.2.2.2.1 x.2.2.2.2⟩
theorem zbT:SCok Tryz.prog tabs 173 (zbJ o):=zbC (o:=o) (η:=[]) (Γ:=⟨[],[],false,[]⟩) (ctok trivial trivial) Tryz.func173
def zeK(_o:Ops)(v0:Bs)(v1:qbY)(v2:qbX)(v3:qbZ)(v4:qbW)(v5:List ((Bs×Bs)×Unit)):Option ((Bool×zbA)):=
 let _v6:zzL:=zcD keqS v2 v0 ((([]:List Bs),([]:List Bs),([]:List Bs)),(0:Int))
 some (mhas keqS v2 v0,v1,v2,v3,v4,v5)
def zgN(o:Ops):SC:=⟨⟨[(0,hS),(1,(.ptr 0 0))],[ztK,zjS,zaE,zaF,zaD,zaC,qaW]⟩,1,[(none,⟨[(0,hB)],[ztK,zjS,zaE,zaF,zaD,zaC,qaW]⟩)],fun x=>zeK o x.1 x.2.1 x.2.2.1 x.2.2.2.1 x.2.2.2.2.1 x.2.2.2.2.2⟩
theorem zkT:SCok Tryz.prog tabs 245 (zgN o):=zbC (o:=o) (η:=[]) (Γ:=⟨[],[],false,[]⟩) (ctok trivial trivial) Tryz.func245
def zpU(o:Ops)(v0:Bs)(v1:Bs)(v2:qbY)(v3:qbX)(v4:qbZ)(v5:qbW)(v6:List ((Bs×Bs)×Unit)):Option ((Int×qbY×qbX×qbZ×qbW×(List ((Bs×Bs)×Unit))×Int)⊕(qbY×qbX×qbZ×qbW×(List ((Bs×Bs)×Unit))×Int)):=
 (zaN o v0).bind fun v7=>bif(!v7)then some (.inl ((120:Int),v2,v3,v4,v5,v6,(0:Int)))else((zaN o v1).bind fun v8=>bif(!v8)then some (.inl ((120:Int),v2,v3,v4,v5,v6,(0:Int)))else some (.inr (v2,v3,v4,v5,v6,(0:Int))))
def zdY(o:Ops)(v0:Bs)(v1:Bs)(v2:qbY)(v3:qbX)(v4:qbZ)(v5:qbW)(v6:List ((Bs×Bs)×Unit)):Option ((zzL×Int×zbA)):=
 (zpU o v0 v1 v2 v3 v4 v5 v6).bind fun v9=>match v9 with
 |.inl v10=>some (((([]:List Bs),([]:List Bs),([]:List Bs)),v10.2.2.2.2.2.2),v10.1,v10.2.1,v10.2.2.1,v10.2.2.2.1,v10.2.2.2.2.1,v10.2.2.2.2.2.1)
 |.inr v11=>(let v12:zzL:=zcD keqS v11.2.1 v0 ((([]:List Bs),([]:List Bs),([]:List Bs)),(0:Int))
 bif(!(mhas keqS v11.2.1 v0))then some (((([]:List Bs),([]:List Bs),([]:List Bs)),(0:Int)),(122:Int),v11.1,v11.2.1,v11.2.2.1,v11.2.2.2.1,v11.2.2.2.2.1)else((zeK o v1 v11.1 v11.2.1 v11.2.2.1 v11.2.2.2.1 v11.2.2.2.2.1).bind fun v13=>bif(!v13.1)then some (((([]:List Bs),([]:List Bs),([]:List Bs)),(0:Int)),(122:Int),v13.2)else some (v12,(0:Int),v13.2)))
def ziX(o:Ops):SC:=⟨⟨[(0,(.ptr 0 0)),(1,hS),(2,(.ag [(.kn .i64 1),(.fn 245 [] [(.ptr 1 0)])])),(3,hS)],[zjS,zyP,zaE,zaF,zaD,zaC,qaW]⟩,2,[(none,⟨[(0,(.h yuM)),(1,hI)],[zjS,zyP,zaE,zaF,zaD,zaC,qaW]⟩)],fun x=>zdY o x.1 x.2.1 x.2.2.1 x.2.2.2.1 x.2.2.2.2.1 x.2.2.2.2.2.1 x.2.2.2.2.2.2⟩
theorem zpJ:SCok Tryz.prog tabs 199 (ziX o):=zbC (o:=o) (η:=[(2000003,.join [] [1,3] [(some 1000000,⟨[(8,(.ptr 7 0)),(9,hI)],[zjS,zyP,zaE,zaF,zaD,zaC,qaW,yvP]⟩),(none,⟨[(0,(.ptr 0 0)),(6,(.ptr 7 0)),(8,(.ptr 8 0))],[zjS,zyP,zaE,zaF,zaD,zaC,qaW,.blk 187 [(.kn .i64 1),(.fn 245 [] [(.ptr 1 0)])],yvP]⟩)])]) (Γ:=⟨[(13,(zbD o))],[(245,(zgN o))],false,[]⟩) (ctok ⟨zbI,trivial⟩ ⟨zkT,trivial⟩) Tryz.func199
def zvQ(_o:Ops)(v0:Bs):Option (Bool):=
 some (v0 != v0)
def ydG(o:Ops):PC:=⟨[hS],[.b],fun x=>zvQ o x,false⟩
theorem ylX:PCok Tryz.prog tabs 307 (ydG o):=zhE (o:=o) (η:=[]) (Γ:=⟨[],[],false,[]⟩) (ctok trivial trivial) Tryz.func307
def zzF(o:Ops)(v0:Bs)(v1:Bs):Option (Bool):=
 (zvQ o v0).bind fun v2=>bif v2 then((zvQ o v1).bind fun v3=>bif(!v3)then(some true)else(some (Op.bytesLess v0 v1)))else(some (Op.bytesLess v0 v1))
def yfW(o:Ops):PC:=⟨[hS,hS],[.b],fun x=>zzF o x.1 x.2,false⟩
theorem ypA:PCok Tryz.prog tabs 268 (yfW o):=zhE (o:=o) (η:=[]) (Γ:=⟨[(307,(ydG o))],[],false,[]⟩) (ctok ⟨ylX,trivial⟩ trivial) Tryz.func268
def zoU(_o:Ops)(v0:Bs):Option (Bool):=
 some (v0 != v0)
def zxL(o:Ops):PC:=⟨[hS],[.b],fun x=>zoU o x,false⟩
theorem yfY:PCok Tryz.prog tabs 278 (zxL o):=zhE (o:=o) (η:=[]) (Γ:=⟨[],[],false,[]⟩) (ctok trivial trivial) Tryz.func278
def zeX(o:Ops)(v0:List Bs)(v1:Bs)(v2:Int)(v3:Int):Option ((Int×Int)⊕Int):=
 bif decide (v2<v3)then((chk (decide ((0:Int)<=((1:UInt64).toNat:Int)))).bind fun _=>let v4:UInt64:=i64 (shrI .u64 ((i64 (w64 (v2+v3))).toNat:Int) ((1:UInt64).toNat:Int))
 (idx v0 (w64 (v4.toNat:Int))).bind fun v5=>(zzF o v5 v1).bind fun v6=>bif v6 then some (.inl (w64 ((w64 (v4.toNat:Int))+1),v3))else some (.inl (v2,w64 (v4.toNat:Int))))else some (.inr v2)
def zdL(o:Ops)(v0:List Bs)(v1:Bs):Option (Int×Bool):=
 (iter (fun x=>zeX o v0 v1 x.1 x.2) ((0:Int),(v0.length:Int))).bind fun v7=>bif decide (v7<(v0.length:Int))then((idx v0 v7).bind fun v8=>bif(v8==v1)then(some (v7,true))else((idx v0 v7).bind fun v9=>(zoU o v9).bind fun v10=>bif v10 then((zoU o v1).bind fun v11=>some (v7,v11))else(some (v7,false))))else(some (v7,false))
def zhM(o:Ops):PC:=⟨[(.h (.sl .s)),hS],[(.i .i64),.b],fun x=>zdL o x.1 x.2,false⟩
theorem znL:PCok Tryz.prog tabs 213 (zhM o):=zhE (o:=o) (η:=[(200003,.loop [] ⟨[(7,hI),(8,hI)],[]⟩ [0,1,4,5,6] [(some 0,⟨[(7,hI)],[]⟩)])]) (Γ:=⟨[(268,(yfW o)),(278,(zxL o))],[],false,[]⟩) (ctok ⟨ypA,⟨yfY,trivial⟩⟩ trivial) Tryz.func213
def zaW(o:Ops)(v0:List Bs)(v1:Bs):Option (Bool):=
 (zdL o v0 v1).bind fun v2=>some v2.2
def zcJ(o:Ops):PC:=⟨[(.h (.sl .s)),hS],[.b],fun x=>zaW o x.1 x.2,false⟩
theorem zdG:PCok Tryz.prog tabs 131 (zcJ o):=zhE (o:=o) (η:=[]) (Γ:=⟨[(213,(zhM o))],[],false,[]⟩) (ctok ⟨znL,trivial⟩ trivial) Tryz.func131
def zdT(_o:Ops)(v17:zzL)(v18:Int)(v19:qbY)(v20:qbX)(v21:qbZ)(v22:qbW)(v23:List ((Bs×Bs)×Unit))(v24:List (Bs×Unit))(v25:List Bs):Option ((Int×qbY×qbX×qbZ×qbW×(List ((Bs×Bs)×Unit))×(List (Bs×Unit))×List Bs)⊕((qbY×qbX×qbZ×qbW×(List ((Bs×Bs)×Unit))×(List (Bs×Unit))×List Bs))):=
 bif decide (v18<(v17.1.2.1.length:Int))then((idx v17.1.2.1 v18).bind fun v26=>let _v27:Unit:=zcD keqS v24 v26 ()
 bif(!(mhas keqS v24 v26))then(let v28:List (Bs×Unit):=mset keqS kltS v24 v26 ()
 (app v25 ([v26]:List Bs)).bind fun v29=>some (.inl (w64 (v18+1),v19,v20,v21,v22,v23,v28,v29)))else some (.inl (w64 (v18+1),v19,v20,v21,v22,v23,v24,v25)))else some (.inr (v19,v20,v21,v22,v23,v24,v25))
def zeC(o:Ops)(v1:Bs)(v8:qbY)(v9:qbX)(v10:qbZ)(v11:qbW)(v12:List ((Bs×Bs)×Unit))(v13:List (Bs×Unit))(v14:List Bs):Option ((qbY×qbX×qbZ×qbW×(List ((Bs×Bs)×Unit))×(List (Bs×Unit))×List Bs)⊕((Bool×zbA)⊕zbA)):=
 bif decide ((v14.length:Int)>0)then((chk (decide ((0:Int)<=0)&&decide ((0:Int)<(v14.length:Int)))).bind fun _=>(idx v14 (0:Int)).bind fun v15=>bif(v15==v1)then some (.inr (.inl (true,v8,v9,v10,v11,v12)))else((chk (decide ((0:Int)<=0)&&decide ((0:Int)<(v14.length:Int)))).bind fun _=>(idx v14 (0:Int)).bind fun v16=>let v17:zzL:=zcD keqS v9 v16 ((([]:List Bs),([]:List Bs),([]:List Bs)),(0:Int))
 (iter (fun x=>zdT o v17 x.1 x.2.1 x.2.2.1 x.2.2.2.1 x.2.2.2.2.1 x.2.2.2.2.2.1 x.2.2.2.2.2.2.1 x.2.2.2.2.2.2.2) ((0:Int),v8,v9,v10,v11,v12,v13,v14)).bind fun v30=>(subL v30.2.2.2.2.2.2 (1:Int)).bind fun v31=>some (.inl (v30.1,v30.2.1,v30.2.2.1,v30.2.2.2.1,v30.2.2.2.2.1,v30.2.2.2.2.2.1,v31))))else some (.inr (.inr (v8,v9,v10,v11,v12)))
def zfB(o:Ops)(v0:Bs)(v1:Bs)(v2:qbY)(v3:qbX)(v4:qbZ)(v5:qbW)(v6:List ((Bs×Bs)×Unit)):Option ((Bool×zbA)):=
 let v7:List (Bs×Unit):=mset keqS kltS ([]:List (Bs×Unit)) v0 ()
 (iter (fun x=>zeC o v1 x.1 x.2.1 x.2.2.1 x.2.2.2.1 x.2.2.2.2.1 x.2.2.2.2.2.1 x.2.2.2.2.2.2) (v2,v3,v4,v5,v6,v7,([v0]:List Bs))).bind fun v32=>match v32 with
 |.inl v33=>some v33
 |.inr v34=>some (false,v34)
def zmB(o:Ops):SC:=⟨⟨[(0,(.ptr 0 0)),(1,hS),(2,hS)],[zaU,zaE,zaF,zaD,zaC,qaW]⟩,1,[(none,⟨[(0,hB)],[zaU,zaE,zaF,zaD,zaC,qaW]⟩)],fun x=>zfB o x.1 x.2.1 x.2.2.1 x.2.2.2.1 x.2.2.2.2.1 x.2.2.2.2.2.1 x.2.2.2.2.2.2⟩
theorem zuQ:SCok Tryz.prog tabs 200 (zmB o):=zbC (o:=o) (η:=[(200008,.loop [] ⟨[(0,(.ptr 0 0)),(7,(.mpr 6)),(8,(.own 7)),(40,hI)],[zaU,zaE,zaF,zaD,zaC,qaW,zmN,.qu .s 9]⟩ [2,38,39] [(some 2,⟨[(0,(.ptr 0 0)),(7,(.mpr 6)),(8,(.own 7))],[zaU,zaE,zaF,zaD,zaC,qaW,zmN,.qu .s 9]⟩)]),
 (200003,.loop [.qu 8] ⟨[(0,(.ptr 0 0)),(7,(.mpr 6)),(8,(.own 7))],[zaU,zaE,zaF,zaD,zaC,qaW,zmN,.qu .s 9]⟩ [2] [(some 1000000,⟨[(6,hB)],[zaU,zaE,zaF,zaD,zaC,qaW]⟩),(some 0,⟨[],[zaU,zaE,zaF,zaD,zaC,qaW]⟩)]),
 (4000007,.sch [(.pu,0,[]),(.pu,1,[]),(.pu,2,[]),(.pu,3,[]),(.pu,4,[]),(.pu,5,[]),(.pu,6,[]),(.pu,7,[]),(.pu,8,[]),(.pu,9,[]),(.pu,10,[]),(.pu,11,[])])]) (Γ:=⟨[],[],false,[]⟩) (ctok trivial trivial) Tryz.func200
def zvM:SC:=⟨⟨[(0,(.h (.sl .s)))],[]⟩,1,[(none,⟨[(0,(.own 0))],[.osl .s 9]⟩)],fun xs=>app [] xs⟩
theorem zyY:SCok Tryz.prog tabs 198 zvM:=wit (G:=tabs)<|xcT ydR τ_okWkF Tryz.func198 (isFn Tryz.func198) rfl (by kernel_rfl) (by kernel_rfl) (by kernel_rfl) (fun _=>by kernel_rfl)
def yoM:SC:=⟨⟨[(0,(.own 0)),(1,hI),(2,(.own 1))],[.osl .s 9,.osl .s 9]⟩,1,[(none,⟨[(0,(.own 2))],[.dead,.dead,.osl .s 9]⟩)],xfB⟩
theorem xcD:SCok Tryz.prog tabs 261 yoM:=wit (G:=tabs)<|insK
def zeL(o:Ops)(v0:List Bs)(v1:Bs):Option (List Bs):=
 (zdL o v0 v1).bind fun v2=>(app ([]:List Bs) v0).bind fun v3=>((fun i xs vs=>xfB (i,xs,vs)) v2.1 v3 ([v1]:List Bs)).bind fun v4=>some v4
def zoV(o:Ops):PC:=⟨[(.h (.sl .s)),hS],[(.sl .s)],fun x=>zeL o x.1 x.2,false⟩
theorem ztH:PCok Tryz.prog tabs 201 (zoV o):=zhE (o:=o) (η:=[]) (Γ:=⟨[(213,(zhM o))],[(198,zvM),(261,yoM)],false,[]⟩) (ctok ⟨znL,trivial⟩ ⟨zyY,⟨xcD,trivial⟩⟩) Tryz.func201
def zpR(o:Ops)(v0:Bs)(v1:Bs)(v2:qbY)(v3:qbX)(v4:qbZ)(v5:qbW)(v6:List ((Bs×Bs)×Unit)):Option ((Int×qbY×qbX×qbZ×qbW×(List ((Bs×Bs)×Unit))×(List Bs)×(List Bs)×(List Bs)×Int)):=
 (zaP o v2 v3 v4 v5 v6).bind fun v7=>(zdY o v0 v1 v7.1 v7.2.1 v7.2.2.1 v7.2.2.2.1 v7.2.2.2.2).bind fun v8=>some (v8.2.1,v8.2.2.1,v8.2.2.2.1,v8.2.2.2.2.1,v8.2.2.2.2.2.1,v8.2.2.2.2.2.2,v8.1.1.1,v8.1.1.2.1,v8.1.1.2.2,v8.1.2)
def zpT(o:Ops)(v1:Bs)(v9:Int×qbY×qbX×qbZ×qbW×(List ((Bs×Bs)×Unit))×(List Bs)×(List Bs)×(List Bs)×Int):Option ((Bool×qbY×qbX×qbZ×qbW×(List ((Bs×Bs)×Unit))×(List Bs)×(List Bs)×(List Bs)×Int)):=
 (zaW o v9.2.2.2.2.2.2.2.1 v1).bind fun v10=>some (v10,v9.2)
def zpI(o:Ops)(v0:Bs)(v1:Bs)(v9:Int×qbY×qbX×qbZ×qbW×(List ((Bs×Bs)×Unit))×(List Bs)×(List Bs)×(List Bs)×Int):Option ((Int×zbA)⊕(qbY×qbX×qbZ×qbW×(List ((Bs×Bs)×Unit))×(List Bs)×(List Bs)×(List Bs)×Int)):=
 bif(v9.1 != 0)then some (.inl (v9.1,v9.2.1,v9.2.2.1,v9.2.2.2.1,v9.2.2.2.2.1,v9.2.2.2.2.2.1))else((zpT o v1 v9).bind fun v11=>bif v11.1 then some (.inl ((121:Int),v11.2.1,v11.2.2.1,v11.2.2.2.1,v11.2.2.2.2.1,v11.2.2.2.2.2.1))else((zfB o v1 v0 v11.2.1 v11.2.2.1 v11.2.2.2.1 v11.2.2.2.2.1 v11.2.2.2.2.2.1).bind fun v12=>bif v12.1 then some (.inl ((123:Int),v12.2))else some (.inr (v12.2.1,v12.2.2.1,v12.2.2.2.1,v12.2.2.2.2.1,v12.2.2.2.2.2,v11.2.2.2.2.2.2))))
def zpA(o:Ops)(v1:Bs)(v15:qbY×qbX×qbZ×qbW×(List ((Bs×Bs)×Unit))×(List Bs)×(List Bs)×(List Bs)×Int):Option ((qbY×qbX×qbZ×qbW×(List ((Bs×Bs)×Unit))×(List Bs)×(List Bs)×(List Bs)×Int)):=
 (zeL o v15.2.2.2.2.2.2.1 v1).bind fun v16=>some (v15.1,v15.2.1,v15.2.2.1,v15.2.2.2.1,v15.2.2.2.2.1,v15.2.2.2.2.2.1,v16,v15.2.2.2.2.2.2.2)
def zgE(o:Ops)(v0:Bs)(v1:Bs)(v2:qbY)(v3:qbX)(v4:qbZ)(v5:qbW)(v6:List ((Bs×Bs)×Unit)):Option ((Int×zbA)):=
 (zpR o v0 v1 v2 v3 v4 v5 v6).bind fun v9=>(zpI o v0 v1 v9).bind fun v13=>match v13 with
 |.inl v14=>some v14
 |.inr v15=>((zpA o v1 v15).bind fun v17=>let v18:qbX:=mset keqS kltS v17.2.1 v0 ((v17.2.2.2.2.2.1,v17.2.2.2.2.2.2.1,v17.2.2.2.2.2.2.2.1),w64 (v17.2.2.2.2.2.2.2.2+1))
 some ((0:Int),v17.1,v18,v17.2.2.1,v17.2.2.2.1,v17.2.2.2.2.1))
def zpK(o:Ops):SC:=⟨⟨[(0,(.ptr 0 0)),(1,hS),(2,(.kn .i64 1)),(3,hS)],[zaU,zaE,zaF,zaD,zaC,qaW]⟩,1,[(none,⟨[(0,hI)],[zaU,zaE,ybB,zaD,zaC,qaW]⟩)],fun x=>zgE o x.1 x.2.1 x.2.2.1 x.2.2.2.1 x.2.2.2.2.1 x.2.2.2.2.2.1 x.2.2.2.2.2.2⟩
theorem zyN:SCok Tryz.prog tabs 101 (zpK o):=zbC (o:=o) (η:=[(2100000,.join [] [1,2,3] [(none,⟨[(0,(.ptr 0 0)),(9,(.ptr 6 0)),(10,hI)],[zaU,zaE,zaF,zaD,zaC,qaW,zwP]⟩)]),
 (2300005,.join [] [1,2,3] [(none,⟨[(0,(.ptr 0 0)),(9,(.ptr 6 0)),(26,hB)],[zaU,zaE,zaF,zaD,zaC,qaW,zwP]⟩)]),
 (2000008,.join [] [1,2,3] [(some 1000000,⟨[(8,hI)],[zaU,zaE,zaF,zaD,zaC,qaW]⟩),(none,⟨[(0,(.ptr 0 0)),(9,(.ptr 6 0))],[zaU,zaE,zaF,zaD,zaC,qaW,zwP]⟩)]),
 (2000009,.join [] [1] [(none,⟨[(0,(.ptr 0 0)),(9,(.ptr 6 0))],[zaU,zaE,zaF,zaD,zaC,qaW,zwP]⟩)]),
 (4000010,.sch [(.pu,0,[]),(.pu,1,[]),(.pu,2,[]),(.pu,3,[]),(.pu,4,[]),(.pu,5,[]),(.mn,6,[0,1,2,3,4,5,6])])]) (Γ:=⟨[(131,(zcJ o)),(201,(zoV o))],[(173,(zbJ o)),(199,(ziX o)),(200,(zmB o))],false,[]⟩) (ctok ⟨zdG,⟨ztH,trivial⟩⟩ ⟨zbT,⟨zpJ,⟨zuQ,trivial⟩⟩⟩) Tryz.func101
def zdX(o:Ops)(v0:Bs)(v1:Bs)(v2:qbY)(v3:qbX)(v4:qbZ)(v5:qbW)(v6:List ((Bs×Bs)×Unit)):Option ((Int×zbA)):=
 (zgE o v0 v1 v2 v3 v4 v5 v6).bind fun v7=>some v7
def ziL(o:Ops):SC:=⟨⟨[(0,(.ptr 0 0)),(1,hS),(2,hS)],[zaU,zaE,zaF,zaD,zaC,qaW]⟩,1,[(none,⟨[(0,hI)],[zaU,zaE,ybB,zaD,zaC,qaW]⟩)],fun x=>zdX o x.1 x.2.1 x.2.2.1 x.2.2.2.1 x.2.2.2.2.1 x.2.2.2.2.2.1 x.2.2.2.2.2.2⟩
theorem zpF:SCok Tryz.prog tabs 33 (ziL o):=zbC (o:=o) (η:=[]) (Γ:=⟨[],[(101,(zpK o))],false,[]⟩) (ctok trivial ⟨zyN,trivial⟩) Tryz.func33
def zeE(_o:Ops)(v0:Bs)(v1:qbY)(v2:qbX)(v3:qbZ)(v4:qbW)(v5:List ((Bs×Bs)×Unit)):Option ((Bool×zbA)):=
 let _v6:zwX:=zcD keqS v1 v0 (([]:Bs),([]:Bs),false,(0:Int))
 some (mhas keqS v1 v0,v1,v2,v3,v4,v5)
def zgI(o:Ops):SC:=⟨⟨[(0,hS),(1,(.ptr 0 0))],[ztK,zjS,zaE,zaF,zaD,zaC,qaW]⟩,1,[(none,⟨[(0,hB)],[ztK,zjS,zaE,zaF,zaD,zaC,qaW]⟩)],fun x=>zeE o x.1 x.2.1 x.2.2.1 x.2.2.2.1 x.2.2.2.2.1 x.2.2.2.2.2⟩
theorem zlO:SCok Tryz.prog tabs 244 (zgI o):=zbC (o:=o) (η:=[]) (Γ:=⟨[],[],false,[]⟩) (ctok trivial trivial) Tryz.func244
def znV(o:Ops)(v0:Bs)(v1:Bs)(v2:qbY)(v3:qbX)(v4:qbZ)(v5:qbW)(v6:List ((Bs×Bs)×Unit)):Option ((Int×qbY×qbX×qbZ×qbW×(List ((Bs×Bs)×Unit))×Int)⊕(qbY×qbX×qbZ×qbW×(List ((Bs×Bs)×Unit))×Int)):=
 (zaN o v0).bind fun v7=>bif(!v7)then some (.inl ((120:Int),v2,v3,v4,v5,v6,(0:Int)))else((zaN o v1).bind fun v8=>bif(!v8)then some (.inl ((120:Int),v2,v3,v4,v5,v6,(0:Int)))else some (.inr (v2,v3,v4,v5,v6,(0:Int))))
def zdH(o:Ops)(v0:Bs)(v1:Bs)(v2:qbY)(v3:qbX)(v4:qbZ)(v5:qbW)(v6:List ((Bs×Bs)×Unit)):Option ((zzL×Int×zbA)):=
 (znV o v0 v1 v2 v3 v4 v5 v6).bind fun v9=>match v9 with
 |.inl v10=>some (((([]:List Bs),([]:List Bs),([]:List Bs)),v10.2.2.2.2.2.2),v10.1,v10.2.1,v10.2.2.1,v10.2.2.2.1,v10.2.2.2.2.1,v10.2.2.2.2.2.1)
 |.inr v11=>(let v12:zzL:=zcD keqS v11.2.1 v0 ((([]:List Bs),([]:List Bs),([]:List Bs)),(0:Int))
 bif(!(mhas keqS v11.2.1 v0))then some (((([]:List Bs),([]:List Bs),([]:List Bs)),(0:Int)),(122:Int),v11.1,v11.2.1,v11.2.2.1,v11.2.2.2.1,v11.2.2.2.2.1)else((zeE o v1 v11.1 v11.2.1 v11.2.2.1 v11.2.2.2.1 v11.2.2.2.2.1).bind fun v13=>bif(!v13.1)then some (((([]:List Bs),([]:List Bs),([]:List Bs)),(0:Int)),(122:Int),v13.2)else some (v12,(0:Int),v13.2)))
def zhR(o:Ops):SC:=⟨⟨[(0,(.ptr 0 0)),(1,hS),(2,(.ag [(.kn .i64 0),(.fn 244 [] [(.ptr 1 0)])])),(3,hS)],[zjS,zyP,zaE,zaF,zaD,zaC,qaW]⟩,2,[(none,⟨[(0,(.h yuM)),(1,hI)],[zjS,zyP,zaE,zaF,zaD,zaC,qaW]⟩)],fun x=>zdH o x.1 x.2.1 x.2.2.1 x.2.2.2.1 x.2.2.2.2.1 x.2.2.2.2.2.1 x.2.2.2.2.2.2⟩
theorem znG:SCok Tryz.prog tabs 199 (zhR o):=zbC (o:=o) (η:=[(2000003,.join [] [1,3] [(some 1000000,⟨[(8,(.ptr 7 0)),(9,hI)],[zjS,zyP,zaE,zaF,zaD,zaC,qaW,yvP]⟩),(none,⟨[(0,(.ptr 0 0)),(6,(.ptr 7 0)),(8,(.ptr 8 0))],[zjS,zyP,zaE,zaF,zaD,zaC,qaW,.blk 187 [(.kn .i64 0),(.fn 244 [] [(.ptr 1 0)])],yvP]⟩)])]) (Γ:=⟨[(13,(zbD o))],[(244,(zgI o))],false,[]⟩) (ctok ⟨zbI,trivial⟩ ⟨zlO,trivial⟩) Tryz.func199
def znN(o:Ops)(v0:Bs)(v1:Bs)(v2:qbY)(v3:qbX)(v4:qbZ)(v5:qbW)(v6:List ((Bs×Bs)×Unit)):Option ((Int×qbY×qbX×qbZ×qbW×(List ((Bs×Bs)×Unit))×(List Bs)×(List Bs)×(List Bs)×Int)):=
 (zaP o v2 v3 v4 v5 v6).bind fun v7=>(zdH o v0 v1 v7.1 v7.2.1 v7.2.2.1 v7.2.2.2.1 v7.2.2.2.2).bind fun v8=>some (v8.2.1,v8.2.2.1,v8.2.2.2.1,v8.2.2.2.2.1,v8.2.2.2.2.2.1,v8.2.2.2.2.2.2,v8.1.1.1,v8.1.1.2.1,v8.1.1.2.2,v8.1.2)
def znD(o:Ops)(v1:Bs)(v9:Int×qbY×qbX×qbZ×qbW×(List ((Bs×Bs)×Unit))×(List Bs)×(List Bs)×(List Bs)×Int):Option ((Bool×qbY×qbX×qbZ×qbW×(List ((Bs×Bs)×Unit))×(List Bs)×(List Bs)×(List Bs)×Int)):=
 (zaW o v9.2.2.2.2.2.2.1 v1).bind fun v10=>some (v10,v9.2)
def znR(o:Ops)(v1:Bs)(v9:Int×qbY×qbX×qbZ×qbW×(List ((Bs×Bs)×Unit))×(List Bs)×(List Bs)×(List Bs)×Int):Option ((Int×zbA)⊕(qbY×qbX×qbZ×qbW×(List ((Bs×Bs)×Unit))×(List Bs)×(List Bs)×(List Bs)×Int)):=
 bif(v9.1 != 0)then some (.inl (v9.1,v9.2.1,v9.2.2.1,v9.2.2.2.1,v9.2.2.2.2.1,v9.2.2.2.2.2.1))else((znD o v1 v9).bind fun v11=>bif v11.1 then some (.inl ((121:Int),v11.2.1,v11.2.2.1,v11.2.2.2.1,v11.2.2.2.2.1,v11.2.2.2.2.2.1))else some (.inr v11.2))
def zoB(o:Ops)(v1:Bs)(v14:qbY×qbX×qbZ×qbW×(List ((Bs×Bs)×Unit))×(List Bs)×(List Bs)×(List Bs)×Int):Option ((qbY×qbX×qbZ×qbW×(List ((Bs×Bs)×Unit))×(List Bs)×(List Bs)×(List Bs)×Int)):=
 (zeL o v14.2.2.2.2.2.1 v1).bind fun v15=>some (v14.1,v14.2.1,v14.2.2.1,v14.2.2.2.1,v14.2.2.2.2.1,v15,v14.2.2.2.2.2.2)
def zfL(o:Ops)(v0:Bs)(v1:Bs)(v2:qbY)(v3:qbX)(v4:qbZ)(v5:qbW)(v6:List ((Bs×Bs)×Unit)):Option ((Int×zbA)):=
 (znN o v0 v1 v2 v3 v4 v5 v6).bind fun v9=>(znR o v1 v9).bind fun v12=>match v12 with
 |.inl v13=>some v13
 |.inr v14=>((zoB o v1 v14).bind fun v16=>let v17:qbX:=mset keqS kltS v16.2.1 v0 ((v16.2.2.2.2.2.1,v16.2.2.2.2.2.2.1,v16.2.2.2.2.2.2.2.1),w64 (v16.2.2.2.2.2.2.2.2+1))
 some ((0:Int),v16.1,v17,v16.2.2.1,v16.2.2.2.1,v16.2.2.2.2.1))
def znJ(o:Ops):SC:=⟨⟨[(0,(.ptr 0 0)),(1,hS),(2,(.kn .i64 0)),(3,hS)],[zaU,zaE,zaF,zaD,zaC,qaW]⟩,1,[(none,⟨[(0,hI)],[zaU,zaE,ybB,zaD,zaC,qaW]⟩)],fun x=>zfL o x.1 x.2.1 x.2.2.1 x.2.2.2.1 x.2.2.2.2.1 x.2.2.2.2.2.1 x.2.2.2.2.2.2⟩
theorem zxC:SCok Tryz.prog tabs 101 (znJ o):=zbC (o:=o) (η:=[(2100000,.join [] [1,2,3] [(none,⟨[(0,(.ptr 0 0)),(9,(.ptr 6 0)),(10,hI)],[zaU,zaE,zaF,zaD,zaC,qaW,zwP]⟩)]),
 (2300005,.join [] [1,2,3] [(none,⟨[(0,(.ptr 0 0)),(9,(.ptr 6 0)),(26,hB)],[zaU,zaE,zaF,zaD,zaC,qaW,zwP]⟩)]),
 (2000008,.join [] [1,2,3] [(some 1000000,⟨[(8,hI)],[zaU,zaE,zaF,zaD,zaC,qaW]⟩),(none,⟨[(0,(.ptr 0 0)),(9,(.ptr 6 0))],[zaU,zaE,zaF,zaD,zaC,qaW,zwP]⟩)]),
 (2000009,.join [] [1] [(none,⟨[(0,(.ptr 0 0)),(9,(.ptr 6 0))],[zaU,zaE,zaF,zaD,zaC,qaW,zwP]⟩)]),
 (4000010,.sch [(.pu,0,[]),(.pu,1,[]),(.pu,2,[]),(.pu,3,[]),(.pu,4,[]),(.pu,5,[]),(.mn,6,[0,1,2,3,4,5,6])])]) (Γ:=⟨[(131,(zcJ o)),(201,(zoV o))],[(173,(zbJ o)),(199,(zhR o))],false,[]⟩) (ctok ⟨zdG,⟨ztH,trivial⟩⟩ ⟨zbT,⟨znG,trivial⟩⟩) Tryz.func101
def zgD(o:Ops)(v0:Bs)(v1:Bs)(v2:qbY)(v3:qbX)(v4:qbZ)(v5:qbW)(v6:List ((Bs×Bs)×Unit)):Option ((Int×zbA)):=
 (zfL o v0 v1 v2 v3 v4 v5 v6).bind fun v7=>some v7
def ziZ(o:Ops):SC:=⟨⟨[(0,(.ptr 0 0)),(1,hS),(2,hS)],[zaU,zaE,zaF,zaD,zaC,qaW]⟩,1,[(none,⟨[(0,hI)],[zaU,zaE,ybB,zaD,zaC,qaW]⟩)],fun x=>zgD o x.1 x.2.1 x.2.2.1 x.2.2.2.1 x.2.2.2.2.1 x.2.2.2.2.2.1 x.2.2.2.2.2.2⟩
theorem zpQ:SCok Tryz.prog tabs 73 (ziZ o):=zbC (o:=o) (η:=[]) (Γ:=⟨[],[(101,(znJ o))],false,[]⟩) (ctok trivial ⟨zxC,trivial⟩) Tryz.func73
def zfV(o:Ops)(v0:Bs):Option (Bool):=
 (zkQ o v0 (32:Int) ([97,98,99,100,101,102,103,104,105,106,107,108,109,110,111,112,113,114,115,116,117,118,119,120,121,122,48,49,50,51,52,53,54,55,56,57,46,95,45,58]:Bs)).bind fun v1=>some v1
def zyF(o:Ops):PC:=⟨[hS],[.b],fun x=>zfV o x,false⟩
theorem ygS:PCok Tryz.prog tabs 17 (zyF o):=zhE (o:=o) (η:=[]) (Γ:=⟨[(63,(zyT o))],[],false,[]⟩) (ctok ⟨ydI,trivial⟩ trivial) Tryz.func17
def zrJ(o:Ops)(v0:List Bs)(v2:Int):Option (Int⊕(Bool⊕Unit)):=
 bif decide (v2<(v0.length:Int))then((idx v0 v2).bind fun v3=>(zfV o v3).bind fun v4=>bif(!v4)then some (.inr (.inl false))else(bif decide (v2>0)then((idx v0 (w64 (v2-1))).bind fun v5=>bif(Op.bytesLess v3 v5||v3==v5)then some (.inr (.inl false))else some (.inl (w64 (v2+1))))else some (.inl (w64 (v2+1)))))else some (.inr (.inr ()))
def zkE(o:Ops)(v0:List Bs)(v1:Int):Option (Bool):=
 (iter (zrJ o v0) (0:Int)).bind fun v6=>match v6 with
 |.inl v7=>some v7
 |.inr _v8=>some (decide ((v0.length:Int)<=v1))
def zrR(o:Ops):SC:=⟨⟨[(0,(.h (.sl .s))),(1,hI),(2,(.fn 17 [] []))],[]⟩,1,[(none,⟨[(0,hB)],[]⟩)],fun x=>zkE o x.1 x.2⟩
theorem zxV:SCok Tryz.prog tabs 174 (zrR o):=zbC (o:=o) (η:=[(200002,.loop [] ⟨[(2,(.fn 17 [] [])),(11,hI)],[]⟩ [0,1,9,10] [(some 1000000,⟨[(6,hB)],[]⟩),(some 0,⟨[],[]⟩)])]) (Γ:=⟨[(17,(zyF o))],[],false,[]⟩) (ctok ⟨ygS,trivial⟩ trivial) Tryz.func174
def zmY(o:Ops)(v0:zdN):Option (Bool):=
 (zaN o v0.1).bind fun v1=>bif v1 then((zkE o v0.2 (16:Int)).bind fun v2=>some v2)else(some false)
def ztC(o:Ops):PC:=⟨[(.h ycS)],[.b],fun x=>zmY o x,false⟩
theorem zzP:PCok Tryz.prog tabs 104 (ztC o):=zhE (o:=o) (η:=[]) (Γ:=⟨[(13,(zbD o))],[(174,(zrR o))],false,[]⟩) (ctok ⟨zbI,trivial⟩ ⟨zxV,trivial⟩) Tryz.func104
def yaM:PC:=⟨[.h (.sl .s)],[(.sl .s)],fun xs=>some xs,true⟩
theorem ycH:PCok Tryz.prog tabs 61 yaM:=wit (G:=tabs)<|yqC ydR τ_okWkF Tryz.func61 (isFn Tryz.func61) rfl (by kernel_rfl) (fun _=>by kernel_rfl)
def zeR(_o:Ops)(v0:zdN):Option zdN:=
 (app ([]:List Bs) v0.2).bind fun v1=>some (v0.1,v1)
def zjV(o:Ops):PC:=⟨[(.h ycS)],[ycS],fun x=>zeR o x,false⟩
theorem zqO:PCok Tryz.prog tabs 105 (zjV o):=zhE (o:=o) (η:=[]) (Γ:=⟨[(61,yaM)],[(198,zvM)],false,[]⟩) (ctok ⟨ycH,trivial⟩ ⟨zyY,trivial⟩) Tryz.func105
def zkX(_o:Ops)(v0:zdN)(v1:qbY)(v2:qbX)(v3:qbZ)(v4:qbW)(v5:List ((Bs×Bs)×Unit)):Option ((Int×zbA)⊕(qbY×qbX×qbZ×qbW×(List ((Bs×Bs)×Unit))×zdN)):=
 let _v7:zdN:=zcD keqS v3 v0.1 (([]:Bs),([]:List Bs))
 bif(!(mhas keqS v3 v0.1))then(bif decide ((v3.length:Int)≥32)then some (.inl ((124:Int),v1,v2,v3,v4,v5))else some (.inr (v1,v2,v3,v4,v5,v0)))else some (.inr (v1,v2,v3,v4,v5,v0))
def zcI(o:Ops)(v0:zdN)(v1:qbY)(v2:qbX)(v3:qbZ)(v4:qbW)(v5:List ((Bs×Bs)×Unit)):Option ((Int×zbA)):=
 (zmY o v0).bind fun v6=>bif(!v6)then some ((120:Int),v1,v2,v3,v4,v5)else((zkX o v0 v1 v2 v3 v4 v5).bind fun v8=>match v8 with
 |.inl v9=>some v9
 |.inr v10=>((zeR o v10.2.2.2.2.2).bind fun v11=>let v12:qbZ:=mset keqS kltS v10.2.2.1 v10.2.2.2.2.2.1 v11
 some ((0:Int),v10.1,v10.2.1,v12,v10.2.2.2.1,v10.2.2.2.2.1)))
def zgJ(o:Ops):SC:=⟨⟨[(0,(.ptr 0 0)),(1,(.h ycS))],[zaU,zaE,zaF,zaD,zaC,qaW]⟩,1,[(none,⟨[(0,hI)],[zaU,zaE,zaF,xbN,zaC,qaW]⟩)],fun x=>zcI o x.1 x.2.1 x.2.2.1 x.2.2.2.1 x.2.2.2.2.1 x.2.2.2.2.2⟩
theorem zkY:SCok Tryz.prog tabs 36 (zgJ o):=zbC (o:=o) (η:=[(2000006,.join [] [] [(some 1000000,⟨[(4,hI)],[zaU,zaE,zaF,zaD,zaC,qaW]⟩),(none,⟨[(0,(.ptr 0 0)),(3,(.ptr 6 0))],[zaU,zaE,zaF,zaD,zaC,qaW,.blk 49 [hS,(.h (.sl .s))]]⟩)]),
 (4000003,.sch [(.pu,0,[]),(.pu,1,[]),(.pu,2,[]),(.pu,3,[]),(.pu,4,[]),(.pu,5,[]),(.pu,6,[]),(.pu,7,[]),(.pu,8,[]),(.pu,9,[7]),(.mn,10,[]),(.mn,11,[7]),(.pu,12,[])]),
 (4000006,.sch [(.pu,0,[]),(.pu,1,[]),(.pu,2,[]),(.pu,3,[]),(.pu,4,[]),(.pu,5,[]),(.pu,6,[]),(.mn,7,[]),(.mn,8,[0,1,2,3,4,5,6])])]) (Γ:=⟨[(104,(ztC o)),(105,(zjV o))],[],false,[]⟩) (ctok ⟨zzP,⟨zqO,trivial⟩⟩ trivial) Tryz.func36
def zeF(_o:Ops)(v0:Bs)(v1:qbY)(v2:qbX)(v3:qbZ)(v4:qbW)(v5:List ((Bs×Bs)×Unit)):Option ((Bool×zbA)):=
 let _v6:zdN:=zcD keqS v3 v0 (([]:Bs),([]:List Bs))
 some (mhas keqS v3 v0,v1,v2,v3,v4,v5)
def zgQ(o:Ops):SC:=⟨⟨[(0,hS),(1,(.ptr 0 0))],[ztK,zjS,zaE,zaF,zaD,zaC,qaW]⟩,1,[(none,⟨[(0,hB)],[ztK,zjS,zaE,zaF,zaD,zaC,qaW]⟩)],fun x=>zeF o x.1 x.2.1 x.2.2.1 x.2.2.2.1 x.2.2.2.2.1 x.2.2.2.2.2⟩
theorem zkS:SCok Tryz.prog tabs 246 (zgQ o):=zbC (o:=o) (η:=[]) (Γ:=⟨[],[],false,[]⟩) (ctok trivial trivial) Tryz.func246
def znW(o:Ops)(v0:Bs)(v1:Bs)(v2:qbY)(v3:qbX)(v4:qbZ)(v5:qbW)(v6:List ((Bs×Bs)×Unit)):Option ((Int×qbY×qbX×qbZ×qbW×(List ((Bs×Bs)×Unit))×Int)⊕(qbY×qbX×qbZ×qbW×(List ((Bs×Bs)×Unit))×Int)):=
 (zaN o v0).bind fun v7=>bif(!v7)then some (.inl ((120:Int),v2,v3,v4,v5,v6,(0:Int)))else((zaN o v1).bind fun v8=>bif(!v8)then some (.inl ((120:Int),v2,v3,v4,v5,v6,(0:Int)))else some (.inr (v2,v3,v4,v5,v6,(0:Int))))
def zdJ(o:Ops)(v0:Bs)(v1:Bs)(v2:qbY)(v3:qbX)(v4:qbZ)(v5:qbW)(v6:List ((Bs×Bs)×Unit)):Option ((zzL×Int×zbA)):=
 (znW o v0 v1 v2 v3 v4 v5 v6).bind fun v9=>match v9 with
 |.inl v10=>some (((([]:List Bs),([]:List Bs),([]:List Bs)),v10.2.2.2.2.2.2),v10.1,v10.2.1,v10.2.2.1,v10.2.2.2.1,v10.2.2.2.2.1,v10.2.2.2.2.2.1)
 |.inr v11=>(let v12:zzL:=zcD keqS v11.2.1 v0 ((([]:List Bs),([]:List Bs),([]:List Bs)),(0:Int))
 bif(!(mhas keqS v11.2.1 v0))then some (((([]:List Bs),([]:List Bs),([]:List Bs)),(0:Int)),(122:Int),v11.1,v11.2.1,v11.2.2.1,v11.2.2.2.1,v11.2.2.2.2.1)else((zeF o v1 v11.1 v11.2.1 v11.2.2.1 v11.2.2.2.1 v11.2.2.2.2.1).bind fun v13=>bif(!v13.1)then some (((([]:List Bs),([]:List Bs),([]:List Bs)),(0:Int)),(122:Int),v13.2)else some (v12,(0:Int),v13.2)))
def zhN(o:Ops):SC:=⟨⟨[(0,(.ptr 0 0)),(1,hS),(2,(.ag [(.kn .i64 2),(.fn 246 [] [(.ptr 1 0)])])),(3,hS)],[zjS,zyP,zaE,zaF,zaD,zaC,qaW]⟩,2,[(none,⟨[(0,(.h yuM)),(1,hI)],[zjS,zyP,zaE,zaF,zaD,zaC,qaW]⟩)],fun x=>zdJ o x.1 x.2.1 x.2.2.1 x.2.2.2.1 x.2.2.2.2.1 x.2.2.2.2.2.1 x.2.2.2.2.2.2⟩
theorem znX:SCok Tryz.prog tabs 199 (zhN o):=zbC (o:=o) (η:=[(2000003,.join [] [1,3] [(some 1000000,⟨[(8,(.ptr 7 0)),(9,hI)],[zjS,zyP,zaE,zaF,zaD,zaC,qaW,yvP]⟩),(none,⟨[(0,(.ptr 0 0)),(6,(.ptr 7 0)),(8,(.ptr 8 0))],[zjS,zyP,zaE,zaF,zaD,zaC,qaW,.blk 187 [(.kn .i64 2),(.fn 246 [] [(.ptr 1 0)])],yvP]⟩)])]) (Γ:=⟨[(13,(zbD o))],[(246,(zgQ o))],false,[]⟩) (ctok ⟨zbI,trivial⟩ ⟨zkS,trivial⟩) Tryz.func199
def zoF(o:Ops)(v0:Bs)(v1:Bs)(v2:qbY)(v3:qbX)(v4:qbZ)(v5:qbW)(v6:List ((Bs×Bs)×Unit)):Option ((Int×qbY×qbX×qbZ×qbW×(List ((Bs×Bs)×Unit))×(List Bs)×(List Bs)×(List Bs)×Int)):=
 (zaP o v2 v3 v4 v5 v6).bind fun v7=>(zdJ o v0 v1 v7.1 v7.2.1 v7.2.2.1 v7.2.2.2.1 v7.2.2.2.2).bind fun v8=>some (v8.2.1,v8.2.2.1,v8.2.2.2.1,v8.2.2.2.2.1,v8.2.2.2.2.2.1,v8.2.2.2.2.2.2,v8.1.1.1,v8.1.1.2.1,v8.1.1.2.2,v8.1.2)
def znH(o:Ops)(v1:Bs)(v9:Int×qbY×qbX×qbZ×qbW×(List ((Bs×Bs)×Unit))×(List Bs)×(List Bs)×(List Bs)×Int):Option ((Bool×qbY×qbX×qbZ×qbW×(List ((Bs×Bs)×Unit))×(List Bs)×(List Bs)×(List Bs)×Int)):=
 (zaW o v9.2.2.2.2.2.2.2.2.1 v1).bind fun v10=>some (v10,v9.2)
def zoG(o:Ops)(v1:Bs)(v9:Int×qbY×qbX×qbZ×qbW×(List ((Bs×Bs)×Unit))×(List Bs)×(List Bs)×(List Bs)×Int):Option ((Int×zbA)⊕(qbY×qbX×qbZ×qbW×(List ((Bs×Bs)×Unit))×(List Bs)×(List Bs)×(List Bs)×Int)):=
 bif(v9.1 != 0)then some (.inl (v9.1,v9.2.1,v9.2.2.1,v9.2.2.2.1,v9.2.2.2.2.1,v9.2.2.2.2.2.1))else((znH o v1 v9).bind fun v11=>bif v11.1 then some (.inl ((121:Int),v11.2.1,v11.2.2.1,v11.2.2.2.1,v11.2.2.2.2.1,v11.2.2.2.2.2.1))else some (.inr v11.2))
def znQ(o:Ops)(v1:Bs)(v14:qbY×qbX×qbZ×qbW×(List ((Bs×Bs)×Unit))×(List Bs)×(List Bs)×(List Bs)×Int):Option ((qbY×qbX×qbZ×qbW×(List ((Bs×Bs)×Unit))×(List Bs)×(List Bs)×(List Bs)×Int)):=
 (zeL o v14.2.2.2.2.2.2.2.1 v1).bind fun v15=>some (v14.1,v14.2.1,v14.2.2.1,v14.2.2.2.1,v14.2.2.2.2.1,v14.2.2.2.2.2.1,v14.2.2.2.2.2.2.1,v15,v14.2.2.2.2.2.2.2.2)
def zfS(o:Ops)(v0:Bs)(v1:Bs)(v2:qbY)(v3:qbX)(v4:qbZ)(v5:qbW)(v6:List ((Bs×Bs)×Unit)):Option ((Int×zbA)):=
 (zoF o v0 v1 v2 v3 v4 v5 v6).bind fun v9=>(zoG o v1 v9).bind fun v12=>match v12 with
 |.inl v13=>some v13
 |.inr v14=>((znQ o v1 v14).bind fun v16=>let v17:qbX:=mset keqS kltS v16.2.1 v0 ((v16.2.2.2.2.2.1,v16.2.2.2.2.2.2.1,v16.2.2.2.2.2.2.2.1),w64 (v16.2.2.2.2.2.2.2.2+1))
 some ((0:Int),v16.1,v17,v16.2.2.1,v16.2.2.2.1,v16.2.2.2.2.1))
def zoC(o:Ops):SC:=⟨⟨[(0,(.ptr 0 0)),(1,hS),(2,(.kn .i64 2)),(3,hS)],[zaU,zaE,zaF,zaD,zaC,qaW]⟩,1,[(none,⟨[(0,hI)],[zaU,zaE,ybB,zaD,zaC,qaW]⟩)],fun x=>zfS o x.1 x.2.1 x.2.2.1 x.2.2.2.1 x.2.2.2.2.1 x.2.2.2.2.2.1 x.2.2.2.2.2.2⟩
theorem zwS:SCok Tryz.prog tabs 101 (zoC o):=zbC (o:=o) (η:=[(2100000,.join [] [1,2,3] [(none,⟨[(0,(.ptr 0 0)),(9,(.ptr 6 0)),(10,hI)],[zaU,zaE,zaF,zaD,zaC,qaW,zwP]⟩)]),
 (2300005,.join [] [1,2,3] [(none,⟨[(0,(.ptr 0 0)),(9,(.ptr 6 0)),(26,hB)],[zaU,zaE,zaF,zaD,zaC,qaW,zwP]⟩)]),
 (2000008,.join [] [1,2,3] [(some 1000000,⟨[(8,hI)],[zaU,zaE,zaF,zaD,zaC,qaW]⟩),(none,⟨[(0,(.ptr 0 0)),(9,(.ptr 6 0))],[zaU,zaE,zaF,zaD,zaC,qaW,zwP]⟩)]),
 (2000009,.join [] [1] [(none,⟨[(0,(.ptr 0 0)),(9,(.ptr 6 0))],[zaU,zaE,zaF,zaD,zaC,qaW,zwP]⟩)]),
 (4000010,.sch [(.pu,0,[]),(.pu,1,[]),(.pu,2,[]),(.pu,3,[]),(.pu,4,[]),(.pu,5,[]),(.mn,6,[0,1,2,3,4,5,6])])]) (Γ:=⟨[(131,(zcJ o)),(201,(zoV o))],[(173,(zbJ o)),(199,(zhN o))],false,[]⟩) (ctok ⟨zdG,⟨ztH,trivial⟩⟩ ⟨zbT,⟨znX,trivial⟩⟩) Tryz.func101
def zgB(o:Ops)(v0:Bs)(v1:Bs)(v2:qbY)(v3:qbX)(v4:qbZ)(v5:qbW)(v6:List ((Bs×Bs)×Unit)):Option ((Int×zbA)):=
 (zfS o v0 v1 v2 v3 v4 v5 v6).bind fun v7=>some v7
def ziD(o:Ops):SC:=⟨⟨[(0,(.ptr 0 0)),(1,hS),(2,hS)],[zaU,zaE,zaF,zaD,zaC,qaW]⟩,1,[(none,⟨[(0,hI)],[zaU,zaE,ybB,zaD,zaC,qaW]⟩)],fun x=>zgB o x.1 x.2.1 x.2.2.1 x.2.2.2.1 x.2.2.2.2.1 x.2.2.2.2.2.1 x.2.2.2.2.2.2⟩
theorem zpN:SCok Tryz.prog tabs 74 (ziD o):=zbC (o:=o) (η:=[]) (Γ:=⟨[],[(101,(zoC o))],false,[]⟩) (ctok trivial ⟨zwS,trivial⟩) Tryz.func74
def zbG(o:Ops)(v0:Bs):Option (Bool):=
 bif decide ((v0.length:Int)>2)then((subH v0 (2:Int)).bind fun v1=>bif(v1==([117,58]:Bs))then((subL v0 (2:Int)).bind fun v2=>(zaN o v2).bind fun v3=>some v3)else((subH v0 (2:Int)).bind fun v4=>bif(v4==([99,58]:Bs))then((subL v0 (2:Int)).bind fun v5=>(zaN o v5).bind fun v6=>some v6)else(some false)))else(some false)
def zgT(o:Ops):PC:=⟨[hS],[.b],fun x=>zbG o x,false⟩
theorem zkJ:PCok Tryz.prog tabs 19 (zgT o):=zhE (o:=o) (η:=[]) (Γ:=⟨[(13,(zbD o))],[],false,[]⟩) (ctok ⟨zbI,trivial⟩ trivial) Tryz.func19
def zbM(_o:Ops)(v0:Bs)(v1:qbY)(v2:qbX)(v3:qbZ)(v4:qbW)(v5:List ((Bs×Bs)×Unit)):Option ((Bool×zbA)):=
 (idx v0 (0:Int)).bind fun v6=>bif((v6.toNat:Int)==((99:UInt8).toNat:Int))then((subL v0 (2:Int)).bind fun v7=>let _v8:zuL:=zcD keqS v4 v7 (([]:Bs),([]:Bs),([]:List Bs),([]:List Bs),false,false,false,false)
 some (mhas keqS v4 v7,v1,v2,v3,v4,v5))else((subL v0 (2:Int)).bind fun v9=>let _v10:zwX:=zcD keqS v1 v9 (([]:Bs),([]:Bs),false,(0:Int))
 some (mhas keqS v1 v9,v1,v2,v3,v4,v5))
def zfD(o:Ops):SC:=⟨⟨[(0,(.ptr 0 0)),(1,hS)],[zaU,zaE,zaF,zaD,zaC,qaW]⟩,1,[(none,⟨[(0,hB)],[zaU,zaE,zaF,zaD,zaC,qaW]⟩)],fun x=>zbM o x.1 x.2.1 x.2.2.1 x.2.2.2.1 x.2.2.2.2.1 x.2.2.2.2.2⟩
theorem zhK:SCok Tryz.prog tabs 128 (zfD o):=zbC (o:=o) (η:=[(4000002,.sch [(.pu,0,[]),(.pu,1,[]),(.pu,2,[]),(.pu,3,[]),(.pu,4,[]),(.pu,5,[]),(.pu,6,[]),(.pu,7,[]),(.pu,8,[]),(.pu,9,[6]),(.mn,10,[]),(.mn,11,[6]),(.pu,12,[])]),
 (4000004,.sch [(.pu,0,[]),(.pu,1,[]),(.pu,2,[]),(.pu,3,[]),(.pu,4,[]),(.pu,5,[]),(.pu,6,[]),(.pu,7,[]),(.pu,8,[]),(.pu,9,[6]),(.mn,10,[]),(.mn,11,[6]),(.pu,12,[])])]) (Γ:=⟨[],[],false,[]⟩) (ctok trivial trivial) Tryz.func128
def znZ(o:Ops)(v0:Bs)(v1:qbY)(v2:qbX)(v3:qbZ)(v4:qbW)(v5:List ((Bs×Bs)×Unit)):Option ((Bool×zbA)):=
 (zbG o v0).bind fun v6=>bif(!v6)then some (false,v1,v2,v3,v4,v5)else((idx v0 (0:Int)).bind fun v7=>bif((v7.toNat:Int)==((99:UInt8).toNat:Int))then((zbM o v0 v1 v2 v3 v4 v5).bind fun v8=>some v8)else((subL v0 (2:Int)).bind fun v9=>let v10:zwX:=zcD keqS v1 v9 (([]:Bs),([]:Bs),false,(0:Int))
 some (v10.2.2.1,v1,v2,v3,v4,v5)))
def zmA(o:Ops):SC:=⟨⟨[(0,(.ptr 0 0)),(1,hS)],[zaU,zaE,zaF,zaD,zaC,qaW]⟩,1,[(none,⟨[(0,hB)],[zaU,zaE,zaF,zaD,zaC,qaW]⟩)],fun x=>znZ o x.1 x.2.1 x.2.2.1 x.2.2.2.1 x.2.2.2.2.1 x.2.2.2.2.2⟩
theorem zuS:SCok Tryz.prog tabs 49 (zmA o):=zbC (o:=o) (η:=[(4000005,.sch [(.pu,0,[]),(.pu,1,[]),(.pu,2,[]),(.pu,3,[]),(.pu,4,[]),(.pu,5,[]),(.pu,6,[]),(.pu,7,[]),(.pu,8,[])])]) (Γ:=⟨[(19,(zgT o))],[(128,(zfD o))],false,[]⟩) (ctok ⟨zkJ,trivial⟩ ⟨zhK,trivial⟩) Tryz.func49
def zjU(_o:Ops)(v0:Bs)(v1:List (Bs×Unit)):Option ((Bool×List (Bs×Unit))):=
 let _v2:Unit:=zcD keqS v1 v0 ()
 some (mhas keqS v1 v0,v1)
def zpC(o:Ops):SC:=⟨⟨[(0,hS),(1,(.ptr 0 0))],[ygQ,zmN]⟩,1,[(none,⟨[(0,hB)],[ygQ,zmN]⟩)],fun x=>zjU o x.1 x.2⟩
theorem zyV:SCok Tryz.prog tabs 130 (zpC o):=zbC (o:=o) (η:=[]) (Γ:=⟨[],[],false,[]⟩) (ctok trivial trivial) Tryz.func130
def zcZ(o:Ops)(v0:List Bs)(v2:Int)(v3:List (Bs×Unit)):Option ((Int×List (Bs×Unit))⊕((Int×List (Bs×Unit))⊕(List (Bs×Unit)))):=
 bif decide (v2<(v0.length:Int))then((idx v0 v2).bind fun v4=>(zjU o v4 v3).bind fun v5=>bif v5.1 then some (.inr (.inl (v2,v5.2)))else some (.inl (w64 (v2+1),v5.2)))else some (.inr (.inr v3))
def zmZ(o:Ops)(v0:List Bs)(v1:List (Bs×Unit)):Option ((Int×List (Bs×Unit))):=
 (iter (fun x=>zcZ o v0 x.1 x.2) ((0:Int),v1)).bind fun v6=>match v6 with
 |.inl v7=>some v7
 |.inr v8=>some ((-1:Int),v8)
def zrU(o:Ops):SC:=⟨⟨[(0,(.h (.sl .s))),(1,(.fn 130 [] [(.ptr 0 0)]))],[ygQ,zmN]⟩,1,[(none,⟨[(0,hI)],[ygQ,zmN]⟩)],fun x=>zmZ o x.1 x.2⟩
theorem yaF:SCok Tryz.prog tabs 212 (zrU o):=zbC (o:=o) (η:=[(200002,.loop [] ⟨[(1,(.fn 130 [] [(.ptr 0 0)])),(8,hI)],[ygQ,zmN]⟩ [0,7] [(some 1000000,⟨[(4,hI)],[ygQ,zmN]⟩),(some 0,⟨[],[ygQ,zmN]⟩)])]) (Γ:=⟨[],[(130,(zpC o))],false,[]⟩) (ctok trivial ⟨zyV,trivial⟩) Tryz.func212
def zdK(o:Ops)(v0:List Bs)(v1:List (Bs×Unit)):Option ((Bool×List (Bs×Unit))):=
 (zmZ o v0 v1).bind fun v2=>some (decide (v2.1≥0),v2.2)
def zoE(o:Ops):SC:=⟨⟨[(0,(.h (.sl .s))),(1,(.fn 130 [] [(.ptr 0 0)]))],[ygQ,zmN]⟩,1,[(none,⟨[(0,hB)],[ygQ,zmN]⟩)],fun x=>zdK o x.1 x.2⟩
theorem zwQ:SCok Tryz.prog tabs 129 (zoE o):=zbC (o:=o) (η:=[]) (Γ:=⟨[],[(212,(zrU o))],false,[]⟩) (ctok trivial ⟨yaF,trivial⟩) Tryz.func129
def yaI(_o:Ops)(v0:List (Bs×Unit)):Option ((List (Bs×Unit))):=
 some v0
def ydE(o:Ops):SC:=⟨⟨[(0,(.mpr 0))],[zmN]⟩,1,[(none,⟨[(0,(.fn 215 [] [(.ptr 1 0)]))],[zmN,.blk 160 [(.mpr 0)]]⟩)],fun x=>yaI o x⟩
theorem ymS:SCok Tryz.prog tabs 133 (ydE o):=zbC (o:=o) (η:=[]) (Γ:=⟨[],[],false,[]⟩) (ctok trivial trivial) Tryz.func133
def ynN:SC:=⟨⟨[(0,(.fn 215 [] [(.ptr 0 0)]))],[ygQ,zmN]⟩,1,[(none,⟨[(0,(.h (.sl .s)))],[ygQ,zmN]⟩)],fun es=>zoN es⟩
theorem yxX:SCok Tryz.prog tabs 132 ynN:=wit (G:=tabs)<|zxN (kT:=9) (isFn Tryz.func132) (by kernel_rfl) YtopanhneegpgcaaGreatDoor.sorted215K
noncomputable def zkN(_o:Ops)(v6:Bool)(v7:qbY)(v8:qbX)(v9:qbZ)(v10:qbW)(v11:List ((Bs×Bs)×Unit))(v12:List (Bs×Unit)):Option (((Bool×qbY×qbX×qbZ×qbW×(List ((Bs×Bs)×Unit))×List (Bs×Unit))⊕(Bool×qbY×qbX×qbZ×qbW×(List ((Bs×Bs)×Unit))×(List Bs)×List (Bs×Unit)))⊕((qbY×qbX×qbZ×qbW×(List ((Bs×Bs)×Unit))×List (Bs×Unit)))):=
 bif v6 then some (.inl (.inr (false,v7,v8,v9,v10,v11,List.map Prod.fst v8,v12)))else some (.inr (v7,v8,v9,v10,v11,v12))
noncomputable def zkO(o:Ops)(v0:Bs)(v13:Bool)(v14:qbY)(v15:qbX)(v16:qbZ)(v17:qbW)(v18:List ((Bs×Bs)×Unit))(v19:List Bs)(v20:List (Bs×Unit)):List (Option (((Bool×qbY×qbX×qbZ×qbW×(List ((Bs×Bs)×Unit))×List (Bs×Unit))⊕(Bool×qbY×qbX×qbZ×qbW×(List ((Bs×Bs)×Unit))×(List Bs)×List (Bs×Unit)))⊕((qbY×qbX×qbZ×qbW×(List ((Bs×Bs)×Unit))×List (Bs×Unit))))):=
 rngL (rngC keqS v15 v19) (some (.inl (.inl (v13,v14,v15,v16,v17,v18,v20)))) fun v21=>(mget keqS v15 v21.1).bind fun v22=>let _v23:Unit:=zcD keqS v20 v21.1 ()
 bif mhas keqS v20 v21.1 then some (.inl (.inr (v13,v14,v15,v16,v17,v18,rngD keqS v19 v21.1,v20)))else((zdK o v22.1.2.1 v20).bind fun v24=>bif v24.1 then(let v25:List (Bs×Unit):=mset keqS kltS v24.2 v21.1 ()
 some (.inl (.inr (true,v14,v15,v16,v17,v18,rngD keqS v19 v21.1,v25))))else((zaW o v22.1.1 v0).bind fun v26=>bif v26 then(let v27:List (Bs×Unit):=mset keqS kltS v24.2 v21.1 ()
 some (.inl (.inr (true,v14,v15,v16,v17,v18,rngD keqS v19 v21.1,v27))))else some (.inl (.inr (v13,v14,v15,v16,v17,v18,rngD keqS v19 v21.1,v24.2)))))
noncomputable def zrS(o:Ops)(v0:Bs):(Bool×qbY×qbX×qbZ×qbW×(List ((Bs×Bs)×Unit))×List (Bs×Unit))⊕(Bool×qbY×qbX×qbZ×qbW×(List ((Bs×Bs)×Unit))×(List Bs)×List (Bs×Unit))->List (Option (((Bool×qbY×qbX×qbZ×qbW×(List ((Bs×Bs)×Unit))×List (Bs×Unit))⊕(Bool×qbY×qbX×qbZ×qbW×(List ((Bs×Bs)×Unit))×(List Bs)×List (Bs×Unit)))⊕((qbY×qbX×qbZ×qbW×(List ((Bs×Bs)×Unit))×List (Bs×Unit)))))
 |.inl x=>[zkN o x.1 x.2.1 x.2.2.1 x.2.2.2.1 x.2.2.2.2.1 x.2.2.2.2.2.1 x.2.2.2.2.2.2]
 |.inr x=>zkO o v0 x.1 x.2.1 x.2.2.1 x.2.2.2.1 x.2.2.2.2.1 x.2.2.2.2.2.1 x.2.2.2.2.2.2.1 x.2.2.2.2.2.2.2
noncomputable def zcB(o:Ops)(v0:Bs)(v1:qbY)(v2:qbX)(v3:qbZ)(v4:qbW)(v5:List ((Bs×Bs)×Unit)):Option (((List Bs)×zbA)):=
 (rngA (zrS o v0) (Sum.inl (true,v1,v2,v3,v4,v5,([]:List (Bs×Unit))))).bind fun v28=>(yaI o v28.2.2.2.2.2).bind fun v29=>(zoN v29).bind fun v30=>some (v30.1,v28.1,v28.2.1,v28.2.2.1,v28.2.2.2.1,v28.2.2.2.2.1)
noncomputable def zkP(o:Ops):SC:=⟨⟨[(0,(.ptr 0 0)),(1,hS)],[zaU,zaE,zaF,zaD,zaC,qaW]⟩,1,[(none,⟨[(0,(.hc .s))],[zaU,zaE,zaF,zaD,zaC,qaW]⟩)],fun x=>zcB o x.1 x.2.1 x.2.2.1 x.2.2.2.1 x.2.2.2.2.1 x.2.2.2.2.2⟩
theorem zrK:SCok Tryz.prog tabs 50 (zkP o):=witO (G:=tabs) (o:=o)<|fn_nc (H:=⟨[false,false,true,false],[],⟨[(0,(.ptr 0 0)),(5,(.ptr 6 0)),(6,hB)],[zaU,zaE,zaF,zaD,zaC,qaW,.blk 160 [(.mpr 7)],zmN]⟩,[1,4],[(some 0,⟨[(5,(.ptr 6 0))],[zaU,zaE,zaF,zaD,zaC,qaW,.blk 160 [(.mpr 7)],zmN]⟩)],[false,false,false],⟨[(0,(.ptr 0 0)),(5,(.ptr 6 0)),(6,hB),(18,(.ptr 7 0))],[zaU,zaE,zaF,zaD,zaC,qaW,.blk 160 [(.mpr 8)],.it 2 true .s,zmN]⟩,[1,4]⟩) (η:=[]) (Γ:=⟨[(131,(zcJ o)),(61,yaM)],[(129,(zoE o)),(133,(ydE o)),(132,ynN)],false,[]⟩) ydR τ_okWkF (ctok ⟨zdG,⟨ycH,trivial⟩⟩ ⟨zwQ,⟨ymS,⟨yxX,trivial⟩⟩⟩) Tryz.func50 (isFn Tryz.func50) (by kernel_rfl) (by kernel_rfl) (by kernel_rfl)
def yzT:SC:=⟨⟨[(0,(.own 0))],[.osl .s 9]⟩,0,[(none,⟨[],[.osl .s 9]⟩)],ynF⟩
theorem Sort_sk:SCok Tryz.prog tabs 102 yzT:=wit (G:=tabs)<|sortK
def yiD:SC:=⟨⟨[(0,(.own 0))],[.osl .s 9]⟩,1,[(none,⟨[(0,(.h (.sl .s)))],[.dead]⟩)],zyU⟩
theorem yuX:SCok Tryz.prog tabs 103 yiD:=wit (G:=tabs)<|xcW
noncomputable def zeD(_o:Ops)(v15:zzL)(v16:Int)(v17:qbY)(v18:qbX)(v19:qbZ)(v20:qbW)(v21:List ((Bs×Bs)×Unit))(v22:List Bs):Option ((Int×qbY×qbX×qbZ×qbW×(List ((Bs×Bs)×Unit))×List Bs)⊕((qbY×qbX×qbZ×qbW×(List ((Bs×Bs)×Unit))×List Bs))):=
 bif decide (v16<(v15.1.2.2.length:Int))then((idx v15.1.2.2 v16).bind fun v23=>let v24:zdN:=zcD keqS v19 v23 (([]:Bs),([]:List Bs))
 (app v22 v24.2).bind fun v25=>some (.inl (w64 (v16+1),v17,v18,v19,v20,v21,v25)))else some (.inr (v17,v18,v19,v20,v21,v22))
noncomputable def zeW(o:Ops)(v6:((List Bs)×zbA))(v7:Int)(v8:qbY)(v9:qbX)(v10:qbZ)(v11:qbW)(v12:List ((Bs×Bs)×Unit))(v13:List Bs):Option ((Int×qbY×qbX×qbZ×qbW×(List ((Bs×Bs)×Unit))×List Bs)⊕((qbY×qbX×qbZ×qbW×(List ((Bs×Bs)×Unit))×List Bs))):=
 bif decide (v7<(v6.1.length:Int))then((idx v6.1 v7).bind fun v14=>let v15:zzL:=zcD keqS v9 v14 ((([]:List Bs),([]:List Bs),([]:List Bs)),(0:Int))
 (iter (fun x=>zeD o v15 x.1 x.2.1 x.2.2.1 x.2.2.2.1 x.2.2.2.2.1 x.2.2.2.2.2.1 x.2.2.2.2.2.2) ((0:Int),v8,v9,v10,v11,v12,v13)).bind fun v26=>some (.inl (w64 (v7+1),v26)))else some (.inr (v8,v9,v10,v11,v12,v13))
noncomputable def zbF(o:Ops)(v0:Bs)(v1:qbY)(v2:qbX)(v3:qbZ)(v4:qbW)(v5:List ((Bs×Bs)×Unit)):Option (((List Bs)×zbA)):=
 (zcB o v0 v1 v2 v3 v4 v5).bind fun v6=>(iter (fun x=>zeW o v6 x.1 x.2.1 x.2.2.1 x.2.2.2.1 x.2.2.2.2.1 x.2.2.2.2.2.1 x.2.2.2.2.2.2) ((0:Int),v6.2.1,v6.2.2.1,v6.2.2.2.1,v6.2.2.2.2.1,v6.2.2.2.2.2,([]:List Bs))).bind fun v27=>(ynF v27.2.2.2.2.2).bind fun v28=>(zyU v28).bind fun v29=>some (v29,v27.1,v27.2.1,v27.2.2.1,v27.2.2.2.1,v27.2.2.2.2.1)
noncomputable def zhL(o:Ops):SC:=⟨⟨[(0,(.ptr 0 0)),(1,hS)],[zaU,zaE,zaF,zaD,zaC,qaW]⟩,1,[(none,⟨[(0,(.hc .s))],[zaU,zaE,zaF,zaD,zaC,qaW]⟩)],fun x=>zbF o x.1 x.2.1 x.2.2.1 x.2.2.2.1 x.2.2.2.2.1 x.2.2.2.2.2⟩
theorem znE:SCok Tryz.prog tabs 34 (zhL o):=zbC (o:=o) (η:=[(200006,.loop [] ⟨[(0,(.ptr 0 0)),(5,(.own 6)),(27,hI)],[zaU,zaE,zaF,zaD,zaC,qaW,.osl .s 9]⟩ [4,12,13,14,25,26] [(some 2,⟨[(0,(.ptr 0 0)),(5,(.own 6))],[zaU,zaE,zaF,zaD,zaC,qaW,.osl .s 9]⟩)]),
 (200003,.loop [.sl 5 .s 9] ⟨[(0,(.ptr 0 0)),(5,(.own 6)),(14,hI)],[zaU,zaE,zaF,zaD,zaC,qaW,.osl .s 9]⟩ [4,12,13] [(some 0,⟨[(5,(.own 6))],[zaU,zaE,zaF,zaD,zaC,qaW,.osl .s 9]⟩)])]) (Γ:=⟨[(61,yaM)],[(50,(zkP o)),(102,yzT),(103,yiD)],false,[]⟩) (ctok ⟨ycH,trivial⟩ ⟨zrK,⟨Sort_sk,⟨yuX,trivial⟩⟩⟩) Tryz.func34
def zxY(_o:Ops)(v0:qbW):Option (qbW):=
 some v0
def ybU(o:Ops):SC:=⟨⟨[(0,(.mpr 0))],[zaC]⟩,1,[(none,⟨[(0,(.fn 271 [] [(.ptr 1 0)]))],[zaC,.blk 125 [(.mpr 0)]]⟩)],fun x=>zxY o x⟩
theorem ylK:SCok Tryz.prog tabs 203 (ybU o):=zbC (o:=o) (η:=[]) (Γ:=⟨[],[],false,[]⟩) (ctok trivial trivial) Tryz.func203
def yjA:SC:=⟨⟨[(0,(.fn 271 [] [(.ptr 0 0)]))],[.blk 125 [(.mpr 1)],zaC]⟩,1,[(none,⟨[(0,(.h (.sl .s)))],[.blk 125 [(.mpr 1)],zaC]⟩)],fun es=>zoN es⟩
theorem yvK:SCok Tryz.prog tabs 132 yjA:=wit (G:=tabs)<|zxN (kT:=9) (isFn Tryz.func132) (by kernel_rfl) YtopanhneegpgcaaGreatDoor.sorted271K
def ziH(_o:Ops)(v0:zuL):Option zuL:=
 (app ([]:List Bs) v0.2.2.1).bind fun v1=>(app ([]:List Bs) v0.2.2.2.1).bind fun v2=>some (v0.1,v0.2.1,v1,v2,v0.2.2.2.2)
def zqI(o:Ops):PC:=⟨[(.h ycI)],[ycI],fun x=>ziH o x,false⟩
theorem zwK:PCok Tryz.prog tabs 107 (zqI o):=zhE (o:=o) (η:=[(4000001,.sch [(.pu,0,[]),(.pu,1,[]),(.pu,4,[3]),(.pu,5,[3]),(.mn,2,[]),(.mn,3,[3]),(.pu,8,[5]),(.mn,6,[]),(.mn,7,[5]),(.mn,9,[0]),(.pu,10,[]),(.mn,11,[0])])]) (Γ:=⟨[(61,yaM)],[(198,zvM)],false,[]⟩) (ctok ⟨ycH,trivial⟩ ⟨zyY,trivial⟩) Tryz.func107
def zfX(o:Ops)(_v0:Bs)(v1:zuL):Option zuL:=
 (ziH o v1).bind fun v2=>some v2
def zjP(o:Ops):PC:=⟨[hS,(.h ycI)],[ycI],fun x=>zfX o x.1 x.2,false⟩
theorem zsF:PCok Tryz.prog tabs 109 (zjP o):=zhE (o:=o) (η:=[]) (Γ:=⟨[(107,(zqI o))],[],false,[]⟩) (ctok ⟨zwK,trivial⟩ trivial) Tryz.func109
def zqF(o:Ops)(v3:((List Bs)×qbW))(v4:Int)(v5:qbW)(v6:List zuL):Option ((Int×qbW×List zuL)⊕((qbW×List zuL))):=
 bif decide (v4<(v3.1.length:Int))then((idx v3.1 v4).bind fun v7=>let v8:zuL:=zcD keqS v5 v7 (([]:Bs),([]:Bs),([]:List Bs),([]:List Bs),false,false,false,false)
 (zfX o v7 v8).bind fun v9=>(app v6 ([v9]:List zuL)).bind fun v10=>some (.inl (w64 (v4+1),v5,v10)))else some (.inr (v5,v6))
def zrH(o:Ops)(v0:qbW):Option ((qbW×List zuL)):=
 (chk (decide ((0:Int)<=(v0.length:Int))&&decide ((v0.length:Int)<=(LIM:Int)))).bind fun _=>(mkL (0:Int) (([]:Bs),([]:Bs),([]:List Bs),([]:List Bs),false,false,false,false)).bind fun v1=>(zxY o v0).bind fun v2=>(zoN v2).bind fun v3=>(iter (fun x=>zqF o v3 x.1 x.2.1 x.2.2) ((0:Int),v3.2,v1)).bind fun v11=>some v11
def zwH(o:Ops):SC:=⟨⟨[(0,(.mpr 0)),(1,(.fn 109 [] []))],[zaC]⟩,1,[(none,⟨[(0,(.own 1))],[zaC,.osl ycI 51]⟩)],fun x=>zrH o x⟩
theorem ydY:SCok Tryz.prog tabs 108 (zwH o):=zbC (o:=o) (η:=[(200003,.loop [] ⟨[(0,(.mpr 0)),(1,(.fn 109 [] [])),(5,(.own 1)),(15,hI)],[zaC,.osl ycI 51]⟩ [4,13,14] [(some 0,⟨[(5,(.own 1))],[zaC,.osl ycI 51]⟩)])]) (Γ:=⟨[(109,(zjP o))],[(203,(ybU o)),(132,yjA)],false,[]⟩) (ctok ⟨zsF,trivial⟩ ⟨ylK,⟨yvK,trivial⟩⟩) Tryz.func108
def zeN(o:Ops)(v0:qbY)(v1:qbX)(v2:qbZ)(v3:qbW)(v4:List ((Bs×Bs)×Unit)):Option ((qbY×qbX×qbZ×qbW×(List ((Bs×Bs)×Unit))×List zuL)):=
 (zrH o v3).bind fun v5=>some (v0,v1,v2,v5.1,v4,v5.2)
def zlD(o:Ops):SC:=⟨⟨[(0,(.ptr 0 0))],[zaU,zaE,zaF,zaD,zaC,qaW]⟩,1,[(none,⟨[(0,(.own 6))],[zaU,zaE,zaF,zaD,zaC,qaW,.osl ycI 51]⟩)],fun x=>zeN o x.1 x.2.1 x.2.2.1 x.2.2.2.1 x.2.2.2.2⟩
theorem zuH:SCok Tryz.prog tabs 38 (zlD o):=zbC (o:=o) (η:=[]) (Γ:=⟨[],[(108,(zwH o))],false,[]⟩) (ctok trivial ⟨ydY,trivial⟩) Tryz.func38
def zfZ(_o:Ops)(v0:Bool):Option Bs:=
 bif v0 then(some ([49]:Bs))else(some ([48]:Bs))
def zyR(o:Ops):PC:=⟨[hB],[.s],fun x=>zfZ o x,false⟩
theorem yhB:PCok Tryz.prog tabs 86 (zyR o):=zhE (o:=o) (η:=[]) (Γ:=⟨[],[],false,[]⟩) (ctok trivial trivial) Tryz.func86
def zcN(o:Ops)(v0:List Bs):Option (List Bs):=
 (o.itoa (v0.length:Int)).bind fun v1=>(app ([v1]:List Bs) v0).bind fun v2=>some v2
def zvZ(o:Ops):PC:=⟨[(.h (.sl .s))],[(.sl .s)],fun x=>zcN o x,false⟩
theorem yeB:PCok Tryz.prog tabs 87 (zvZ o):=zhE (o:=o) (η:=[]) (Γ:=⟨[(68,(ypG o))],[],false,[]⟩) (ctok ⟨(zqV.itoa (G:=tabs)),trivial⟩ trivial) Tryz.func87
def xcH:SC:=⟨⟨[(0,.nils),(1,hI)],[]⟩,1,[(none,⟨[(0,(.own 0))],[.osl .s 9]⟩)],fun n=>yqG .s n⟩
theorem Grow_sk:SCok Tryz.prog tabs 187 xcH:=wit (G:=tabs)<|xeI (isFn Tryz.func187) growK
def zhI(_o:Ops)(v0:List (List Bs))(v1:Int)(v2:Int):Option ((Int×Int)⊕Int):=
 bif decide (v2<(v0.length:Int))then((idx v0 v2).bind fun v3=>bif decide ((w64 (v1+(v3.length:Int)))<0)then none else some (.inl (w64 (v1+(v3.length:Int)),w64 (v2+1))))else some (.inr v1)
def zhH(_o:Ops)(v0:List (List Bs))(v6:Int)(v7:List Bs):Option ((Int×List Bs)⊕List Bs):=
 bif decide (v6<(v0.length:Int))then((idx v0 v6).bind fun v8=>(app v7 v8).bind fun v9=>some (.inl (w64 (v6+1),v9)))else some (.inr v7)
def ziP(o:Ops)(v0:List (List Bs)):Option (List Bs):=
 (iter (fun x=>zhI o v0 x.1 x.2) ((0:Int),(0:Int))).bind fun v4=>(yqG .s v4).bind fun v5=>(iter (fun x=>zhH o v0 x.1 x.2) ((0:Int),v5)).bind fun v10=>some v10
def zwB(o:Ops):PC:=⟨[(.h (.sl (.sl .s)))],[(.sl .s)],fun x=>ziP o x,false⟩
theorem ydV:PCok Tryz.prog tabs 85 (zwB o):=zhE (o:=o) (η:=[(200003,.loop [] ⟨[(3,hI),(11,hI)],[]⟩ [0,2,9,10] [(some 0,⟨[(3,hI)],[]⟩)]),
 (200011,.loop [] ⟨[(6,(.own 0)),(27,hI)],[.osl .s 9]⟩ [2,25,26] [(some 2,⟨[(6,(.own 0))],[.osl .s 9]⟩)])]) (Γ:=⟨[],[(187,xcH)],false,[]⟩) (ctok trivial ⟨Grow_sk,trivial⟩) Tryz.func85
def zbX(o:Ops)(v0:Bs)(v1:List Bs)(v2:List (Bs×Bs)):Option ((List (Bs×Bs))):=
 (o.form v1).bind fun v3=>(app v2 ([(v0,v3)]:List (Bs×Bs))).bind fun v4=>some v4
def zkU(o:Ops):SC:=⟨⟨[(0,hS),(1,(.h (.sl .s))),(2,(.ptr 0 0))],[QWkF13,.osl (.pr .s .s) 33]⟩,0,[(none,⟨[],[yxN,.dead,.osl (.pr .s .s) 33]⟩)],fun x=>zbX o x.1 x.2.1 x.2.2⟩
theorem ztM:SCok Tryz.prog tabs 84 (zkU o):=zbC (o:=o) (η:=[(4000000,.sch [(.pu,0,[]),(.pu,1,[]),(.pu,2,[]),(.mn,3,[]),(.pu,4,[]),(.mn,5,[]),(.mn,6,[1]),(.mn,7,[0])])]) (Γ:=⟨[(22,(ygY o))],[],false,[]⟩) (ctok ⟨(zqV.form (G:=tabs)),trivial⟩ trivial) Tryz.func84
def zxU(_o:Ops)(v0:qbX):Option (qbX):=
 some v0
def ybP(o:Ops):SC:=⟨⟨[(0,(.mpr 0))],[zaF]⟩,1,[(none,⟨[(0,(.fn 260 [] [(.ptr 1 0)]))],[zaF,.blk 123 [(.mpr 0)]]⟩)],fun x=>zxU o x⟩
theorem ylL:SCok Tryz.prog tabs 196 (ybP o):=zbC (o:=o) (η:=[]) (Γ:=⟨[],[],false,[]⟩) (ctok trivial trivial) Tryz.func196
def yiW:SC:=⟨⟨[(0,(.fn 260 [] [(.ptr 0 0)]))],[.blk 123 [(.mpr 1)],zaF]⟩,1,[(none,⟨[(0,(.h (.sl .s)))],[.blk 123 [(.mpr 1)],zaF]⟩)],fun es=>zoN es⟩
theorem yuB:SCok Tryz.prog tabs 132 yiW:=wit (G:=tabs)<|zxN (kT:=9) (isFn Tryz.func132) (by kernel_rfl) YtopanhneegpgcaaGreatDoor.sorted260K
def zgL(_o:Ops)(v0:List Bs):Option (List Bs):=
 (app ([]:List Bs) v0).bind fun v1=>some v1
def zwA(o:Ops):SC:=⟨⟨[(0,(.h (.sl .s)))],[]⟩,1,[(none,⟨[(0,(.hc .s))],[]⟩)],fun x=>zgL o x⟩
theorem ydX:SCok Tryz.prog tabs 197 (zwA o):=zbC (o:=o) (η:=[]) (Γ:=⟨[(61,yaM)],[(198,zvM)],false,[]⟩) (ctok ⟨ycH,trivial⟩ ⟨zyY,trivial⟩) Tryz.func197
def zvT(o:Ops)(v0:Bs)(v1:zzL):Option yhU:=
 (zgL o v1.1.1).bind fun v2=>(zgL o v1.1.2.1).bind fun v3=>(zgL o v1.1.2.2).bind fun v4=>some (v0,v2,v3,v4,v1.2)
def zzR(o:Ops):PC:=⟨[hS,(.h yuM)],[yvW],fun x=>zvT o x.1 x.2,false⟩
theorem yhY:PCok Tryz.prog tabs 100 (zzR o):=zhE (o:=o) (η:=[(4000002,.sch [(.pu,0,[]),(.pu,1,[]),(.pu,2,[]),(.pu,3,[]),(.pu,4,[]),(.pu,6,[]),(.pu,7,[]),(.pu,8,[]),(.pu,9,[]),(.pu,11,[]),(.pu,12,[]),(.pu,13,[]),(.pu,14,[]),(.pu,16,[]),(.pu,17,[]),(.mn,5,[]),(.mn,10,[]),(.mn,15,[]),(.pu,18,[]),(.mn,19,[1])])]) (Γ:=⟨[],[(197,(zwA o))],false,[]⟩) (ctok trivial ⟨ydX,trivial⟩) Tryz.func100
def zoO(o:Ops)(v3:((List Bs)×qbX))(v4:Int)(v5:qbX)(v6:List yhU):Option ((Int×qbX×List yhU)⊕((qbX×List yhU))):=
 bif decide (v4<(v3.1.length:Int))then((idx v3.1 v4).bind fun v7=>let v8:zzL:=zcD keqS v5 v7 ((([]:List Bs),([]:List Bs),([]:List Bs)),(0:Int))
 (zvT o v7 v8).bind fun v9=>(app v6 ([v9]:List yhU)).bind fun v10=>some (.inl (w64 (v4+1),v5,v10)))else some (.inr (v5,v6))
def zqA(o:Ops)(v0:qbX):Option ((qbX×List yhU)):=
 (chk (decide ((0:Int)<=(v0.length:Int))&&decide ((v0.length:Int)<=(LIM:Int)))).bind fun _=>(mkL (0:Int) (([]:Bs),([]:List Bs),([]:List Bs),([]:List Bs),(0:Int))).bind fun v1=>(zxU o v0).bind fun v2=>(zoN v2).bind fun v3=>(iter (fun x=>zoO o v3 x.1 x.2.1 x.2.2) ((0:Int),v3.2,v1)).bind fun v11=>some v11
def ztX(o:Ops):SC:=⟨⟨[(0,(.mpr 0)),(1,(.fn 100 [] []))],[zaF]⟩,1,[(none,⟨[(0,(.own 1))],[zaF,.osl yvW 57]⟩)],fun x=>zqA o x⟩
theorem ydC:SCok Tryz.prog tabs 99 (ztX o):=zbC (o:=o) (η:=[(200003,.loop [] ⟨[(0,(.mpr 0)),(1,(.fn 100 [] [])),(5,(.own 1)),(15,hI)],[zaF,.osl yvW 57]⟩ [4,13,14] [(some 0,⟨[(5,(.own 1))],[zaF,.osl yvW 57]⟩)])]) (Γ:=⟨[(100,(zzR o))],[(196,(ybP o)),(132,yiW)],false,[]⟩) (ctok ⟨yhY,trivial⟩ ⟨ylL,⟨yuB,trivial⟩⟩) Tryz.func99
def zeU(o:Ops)(v0:qbY)(v1:qbX)(v2:qbZ)(v3:qbW)(v4:List ((Bs×Bs)×Unit)):Option ((qbY×qbX×qbZ×qbW×(List ((Bs×Bs)×Unit))×List yhU)):=
 (zqA o v1).bind fun v5=>some (v0,v5.1,v2,v3,v4,v5.2)
def zmP(o:Ops):SC:=⟨⟨[(0,(.ptr 0 0))],[zaU,zaE,zaF,zaD,zaC,qaW]⟩,1,[(none,⟨[(0,(.own 6))],[zaU,zaE,zaF,zaD,zaC,qaW,.osl yvW 57]⟩)],fun x=>zeU o x.1 x.2.1 x.2.2.1 x.2.2.2.1 x.2.2.2.2⟩
theorem zvK:SCok Tryz.prog tabs 32 (zmP o):=zbC (o:=o) (η:=[]) (Γ:=⟨[],[(99,(ztX o))],false,[]⟩) (ctok trivial ⟨ydC,trivial⟩) Tryz.func32
def zxW(_o:Ops)(v0:List ((Bs×Bs)×Unit)):Option ((List ((Bs×Bs)×Unit))):=
 some v0
def ybV(o:Ops):SC:=⟨⟨[(0,(.mpr 0))],[qaW]⟩,1,[(none,⟨[(0,(.fn 211 [] [(.ptr 1 0)]))],[qaW,.blk 126 [(.mpr 0)]]⟩)],fun x=>zxW o x⟩
theorem ykZ:SCok Tryz.prog tabs 125 (ybV o):=zbC (o:=o) (η:=[]) (Γ:=⟨[],[],false,[]⟩) (ctok trivial trivial) Tryz.func125
def yiX:SC:=⟨⟨[(0,(.fn 211 [] [(.ptr 0 0)])),(1,(.fn 126 [] []))],[.blk 126 [(.mpr 1)],qaW]⟩,1,[(none,⟨[(0,(.h (.sl (.pr .s .s))))],[.blk 126 [(.mpr 1)],qaW]⟩)],fun(es:List ((Bs×Bs)×Unit))=>yaX es⟩
theorem yuE:SCok Tryz.prog tabs 124 yiX:=wit (G:=tabs)<|ypW
def ysT:PC:=⟨[.h (.sl (.pr .s .s))],[(.sl (.pr .s .s))],fun xs=>some xs,true⟩
theorem Clip_p2k:PCok Tryz.prog tabs 127 ysT:=wit (G:=tabs)<|yqC ydR τ_okWkF Tryz.func127 (isFn Tryz.func127) rfl (by kernel_rfl) (fun _=>by kernel_rfl)
def zgC(o:Ops)(v0:qbY)(v1:qbX)(v2:qbZ)(v3:qbW)(v4:List ((Bs×Bs)×Unit)):Option (((List (Bs×Bs))×zbA)):=
 (zxW o v4).bind fun v5=>(yaX v5).bind fun v6=>some (v6.1,v0,v1,v2,v3,v6.2)
def zpO(o:Ops):SC:=⟨⟨[(0,(.ptr 0 0))],[zaU,zaE,zaF,zaD,zaC,qaW]⟩,1,[(none,⟨[(0,(.hc (.pr .s .s)))],[zaU,zaE,zaF,zaD,zaC,qaW]⟩)],fun x=>zgC o x.1 x.2.1 x.2.2.1 x.2.2.2.1 x.2.2.2.2⟩
theorem zxZ:SCok Tryz.prog tabs 45 (zpO o):=zbC (o:=o) (η:=[]) (Γ:=⟨[(127,ysT)],[(125,(ybV o)),(124,yiX)],false,[]⟩) (ctok ⟨Clip_p2k,trivial⟩ ⟨ykZ,⟨yuE,trivial⟩⟩) Tryz.func45
def zgX(o:Ops)(v0:Bs)(v1:List (Bs×Bs)):Option ((List (Bs×Bs))):=
 (o.form ([]:List Bs)).bind fun v2=>(app v1 ([(v0,v2)]:List (Bs×Bs))).bind fun v3=>some v3
def zlK(o:Ops):SC:=⟨⟨[(0,hS),(1,.nils),(2,(.ptr 0 0))],[QWkF13,.osl (.pr .s .s) 33]⟩,0,[(none,⟨[],[yxN,.dead,.osl (.pr .s .s) 33]⟩)],fun x=>zgX o x.1 x.2⟩
theorem ztU:SCok Tryz.prog tabs 84 (zlK o):=zbC (o:=o) (η:=[(4000000,.sch [(.pu,0,[]),(.pu,1,[]),(.pu,2,[]),(.mn,3,[]),(.pu,4,[]),(.mn,5,[]),(.mn,6,[1]),(.mn,7,[0])])]) (Γ:=⟨[(22,(ygY o))],[],false,[]⟩) (ctok ⟨(zqV.form (G:=tabs)),trivial⟩ trivial) Tryz.func84
def zxM(_o:Ops)(v0:qbZ):Option (qbZ):=
 some v0
def yaR(o:Ops):SC:=⟨⟨[(0,(.mpr 0))],[zaD]⟩,1,[(none,⟨[(0,(.fn 273 [] [(.ptr 1 0)]))],[zaD,.blk 124 [(.mpr 0)]]⟩)],fun x=>zxM o x⟩
theorem ykI:SCok Tryz.prog tabs 205 (yaR o):=zbC (o:=o) (η:=[]) (Γ:=⟨[],[],false,[]⟩) (ctok trivial trivial) Tryz.func205
def yjE:SC:=⟨⟨[(0,(.fn 273 [] [(.ptr 0 0)]))],[.blk 124 [(.mpr 1)],zaD]⟩,1,[(none,⟨[(0,(.h (.sl .s)))],[.blk 124 [(.mpr 1)],zaD]⟩)],fun es=>zoN es⟩
theorem yuD:SCok Tryz.prog tabs 132 yjE:=wit (G:=tabs)<|zxN (kT:=9) (isFn Tryz.func132) (by kernel_rfl) YtopanhneegpgcaaGreatDoor.sorted273K
def zhA(o:Ops)(_v0:Bs)(v1:zdN):Option zdN:=
 (zeR o v1).bind fun v2=>some v2
def zlQ(o:Ops):PC:=⟨[hS,(.h ycS)],[ycS],fun x=>zhA o x.1 x.2,false⟩
theorem ztZ:PCok Tryz.prog tabs 113 (zlQ o):=zhE (o:=o) (η:=[]) (Γ:=⟨[(105,(zjV o))],[],false,[]⟩) (ctok ⟨zqO,trivial⟩ trivial) Tryz.func113
def zoK(o:Ops)(v3:((List Bs)×qbZ))(v4:Int)(v5:qbZ)(v6:qcW):Option ((Int×qbZ×qcW)⊕((qbZ×qcW))):=
 bif decide (v4<(v3.1.length:Int))then((idx v3.1 v4).bind fun v7=>let v8:zdN:=zcD keqS v5 v7 (([]:Bs),([]:List Bs))
 (zhA o v7 v8).bind fun v9=>(app v6 ([v9]:qcW)).bind fun v10=>some (.inl (w64 (v4+1),v5,v10)))else some (.inr (v5,v6))
def zpZ(o:Ops)(v0:qbZ):Option ((qbZ×qcW)):=
 (chk (decide ((0:Int)<=(v0.length:Int))&&decide ((v0.length:Int)<=(LIM:Int)))).bind fun _=>(mkL (0:Int) (([]:Bs),([]:List Bs))).bind fun v1=>(zxM o v0).bind fun v2=>(zoN v2).bind fun v3=>(iter (fun x=>zoK o v3 x.1 x.2.1 x.2.2) ((0:Int),v3.2,v1)).bind fun v11=>some v11
def ztY(o:Ops):SC:=⟨⟨[(0,(.mpr 0)),(1,(.fn 113 [] []))],[zaD]⟩,1,[(none,⟨[(0,(.own 1))],[zaD,.osl ycS 49]⟩)],fun x=>zpZ o x⟩
theorem ycR:SCok Tryz.prog tabs 112 (ztY o):=zbC (o:=o) (η:=[(200003,.loop [] ⟨[(0,(.mpr 0)),(1,(.fn 113 [] [])),(5,(.own 1)),(15,hI)],[zaD,.osl ycS 49]⟩ [4,13,14] [(some 0,⟨[(5,(.own 1))],[zaD,.osl ycS 49]⟩)])]) (Γ:=⟨[(113,(zlQ o))],[(205,(yaR o)),(132,yjE)],false,[]⟩) (ctok ⟨ztZ,trivial⟩ ⟨ykI,⟨yuD,trivial⟩⟩) Tryz.func112
def zfM(o:Ops)(v0:qbY)(v1:qbX)(v2:qbZ)(v3:qbW)(v4:List ((Bs×Bs)×Unit)):Option ((qbY×qbX×qbZ×qbW×(List ((Bs×Bs)×Unit))×qcW)):=
 (zpZ o v2).bind fun v5=>some (v0,v1,v5.1,v3,v4,v5.2)
def znP(o:Ops):SC:=⟨⟨[(0,(.ptr 0 0))],[zaU,zaE,zaF,zaD,zaC,qaW]⟩,1,[(none,⟨[(0,(.own 6))],[zaU,zaE,zaF,zaD,zaC,qaW,.osl ycS 49]⟩)],fun x=>zfM o x.1 x.2.1 x.2.2.1 x.2.2.2.1 x.2.2.2.2⟩
theorem zxD:SCok Tryz.prog tabs 40 (znP o):=zbC (o:=o) (η:=[]) (Γ:=⟨[],[(112,(ztY o))],false,[]⟩) (ctok trivial ⟨ycR,trivial⟩) Tryz.func40
def zyH(_o:Ops)(v0:qbY):Option (qbY):=
 some v0
def ybG(o:Ops):SC:=⟨⟨[(0,(.mpr 0))],[zaE]⟩,1,[(none,⟨[(0,(.fn 272 [] [(.ptr 1 0)]))],[zaE,.blk 122 [(.mpr 0)]]⟩)],fun x=>zyH o x⟩
theorem yjO:SCok Tryz.prog tabs 204 (ybG o):=zbC (o:=o) (η:=[]) (Γ:=⟨[],[],false,[]⟩) (ctok trivial trivial) Tryz.func204
def yiC:SC:=⟨⟨[(0,(.fn 272 [] [(.ptr 0 0)]))],[.blk 122 [(.mpr 1)],zaE]⟩,1,[(none,⟨[(0,(.h (.sl .s)))],[.blk 122 [(.mpr 1)],zaE]⟩)],fun es=>zoN es⟩
theorem ytY:SCok Tryz.prog tabs 132 yiC:=wit (G:=tabs)<|zxN (kT:=9) (isFn Tryz.func132) (by kernel_rfl) YtopanhneegpgcaaGreatDoor.sorted272K
def zhB(_o:Ops)(_v0:Bs)(v1:zwX):Option zwX:=
 some v1
def zkW(o:Ops):PC:=⟨[hS,(.h ylE)],[ylE],fun x=>zhB o x.1 x.2,false⟩
theorem zuC:PCok Tryz.prog tabs 111 (zkW o):=zhE (o:=o) (η:=[]) (Γ:=⟨[],[],false,[]⟩) (ctok trivial trivial) Tryz.func111
def zoR(o:Ops)(v3:((List Bs)×qbY))(v4:Int)(v5:qbY)(v6:List zwX):Option ((Int×qbY×List zwX)⊕((qbY×List zwX))):=
 bif decide (v4<(v3.1.length:Int))then((idx v3.1 v4).bind fun v7=>let v8:zwX:=zcD keqS v5 v7 (([]:Bs),([]:Bs),false,(0:Int))
 (zhB o v7 v8).bind fun v9=>(app v6 ([v9]:List zwX)).bind fun v10=>some (.inl (w64 (v4+1),v5,v10)))else some (.inr (v5,v6))
def zqJ(o:Ops)(v0:qbY):Option ((qbY×List zwX)):=
 (chk (decide ((0:Int)<=(v0.length:Int))&&decide ((v0.length:Int)<=(LIM:Int)))).bind fun _=>(mkL (0:Int) (([]:Bs),([]:Bs),false,(0:Int))).bind fun v1=>(zyH o v0).bind fun v2=>(zoN v2).bind fun v3=>(iter (fun x=>zoR o v3 x.1 x.2.1 x.2.2) ((0:Int),v3.2,v1)).bind fun v11=>some v11
def ztP(o:Ops):SC:=⟨⟨[(0,(.mpr 0)),(1,(.fn 111 [] []))],[zaE]⟩,1,[(none,⟨[(0,(.own 1))],[zaE,.osl ylE 77]⟩)],fun x=>zqJ o x⟩
theorem ycA:SCok Tryz.prog tabs 110 (ztP o):=zbC (o:=o) (η:=[(200003,.loop [] ⟨[(0,(.mpr 0)),(1,(.fn 111 [] [])),(5,(.own 1)),(15,hI)],[zaE,.osl ylE 77]⟩ [4,13,14] [(some 0,⟨[(5,(.own 1))],[zaE,.osl ylE 77]⟩)])]) (Γ:=⟨[(111,(zkW o))],[(204,(ybG o)),(132,yiC)],false,[]⟩) (ctok ⟨zuC,trivial⟩ ⟨yjO,⟨ytY,trivial⟩⟩) Tryz.func110
def zfP(o:Ops)(v0:qbY)(v1:qbX)(v2:qbZ)(v3:qbW)(v4:List ((Bs×Bs)×Unit)):Option ((qbY×qbX×qbZ×qbW×(List ((Bs×Bs)×Unit))×List zwX)):=
 (zqJ o v0).bind fun v5=>some (v5.1,v1,v2,v3,v4,v5.2)
def znS(o:Ops):SC:=⟨⟨[(0,(.ptr 0 0))],[zaU,zaE,zaF,zaD,zaC,qaW]⟩,1,[(none,⟨[(0,(.own 6))],[zaU,zaE,zaF,zaD,zaC,qaW,.osl ylE 77]⟩)],fun x=>zfP o x.1 x.2.1 x.2.2.1 x.2.2.2.1 x.2.2.2.2⟩
theorem zwY:SCok Tryz.prog tabs 39 (znS o):=zbC (o:=o) (η:=[]) (Γ:=⟨[],[(110,(ztP o))],false,[]⟩) (ctok trivial ⟨ycA,trivial⟩) Tryz.func39
def zgW(o:Ops)(v0:Bs)(v1:List Bs)(v2:List (Bs×Bs)):Option (((List Bs)×List (Bs×Bs))):=
 (o.form v1).bind fun v3=>(app v2 ([(v0,v3)]:List (Bs×Bs))).bind fun v4=>some (v1,v4)
def zlL(o:Ops):SC:=⟨⟨[(0,hS),(1,(.own 0)),(2,(.ptr 1 0))],[.osl .s 9,yxN,.osl (.pr .s .s) 33]⟩,0,[(none,⟨[],[.osl .s 9,.blk 31 [(.own 3)],.dead,.osl (.pr .s .s) 33]⟩)],fun x=>zgW o x.1 x.2.1 x.2.2⟩
theorem ztO:SCok Tryz.prog tabs 84 (zlL o):=zbC (o:=o) (η:=[(4000000,.sch [(.pu,0,[]),(.pu,1,[]),(.pu,2,[]),(.mn,3,[]),(.pu,4,[]),(.mn,5,[]),(.mn,6,[2]),(.mn,7,[1])])]) (Γ:=⟨[(22,(ygY o))],[],false,[]⟩) (ctok ⟨(zqV.form (G:=tabs)),trivial⟩ trivial) Tryz.func84
def yrQ:SC:=⟨⟨[(0,(.own 0)),(1,(.fn 89 [] []))],[.osl (.pr .s .s) 33]⟩,0,[(none,⟨[],[.osl (.pr .s .s) 33]⟩)],fun(xs:List (Bs×Bs))=>ydQ xs⟩
theorem xeZ:SCok Tryz.prog tabs 88 yrQ:=wit (G:=tabs)<|sortF89K
def ysK:PC:=⟨[.h (.sl (.pr .s .s))],[(.sl (.pr .s .s))],fun xs=>some xs,true⟩
theorem Clip_p3k:PCok Tryz.prog tabs 91 ysK:=wit (G:=tabs)<|yqC ydR τ_okWkF Tryz.func91 (isFn Tryz.func91) rfl (by kernel_rfl) (fun _=>by kernel_rfl)
def ziG(o:Ops)(v5:(qbY×qbX×qbZ×qbW×(List ((Bs×Bs)×Unit))×List zuL))(v6:Int)(v7:qbY)(v8:qbX)(v9:qbZ)(v10:qbW)(v11:List ((Bs×Bs)×Unit))(v12:List zuL)(v13:List (Bs×Bs)):Option ((Int×qbY×qbX×qbZ×qbW×(List ((Bs×Bs)×Unit))×(List zuL)×List (Bs×Bs))⊕((qbY×qbX×qbZ×qbW×(List ((Bs×Bs)×Unit))×List (Bs×Bs)))):=
 bif decide (v6<(v5.2.2.2.2.2.length:Int))then((chk (decide ((0:Int)<=v6)&&decide (v6<(v12.length:Int)))).bind fun _=>(idx v12 v6).bind fun v14=>(app ([99,108,105,101,110,116,47]:Bs) v14.1).bind fun v15=>(zfZ o v14.2.2.2.2.1).bind fun v16=>(zfZ o v14.2.2.2.2.2.1).bind fun v17=>(app v16 v17).bind fun v18=>(zfZ o v14.2.2.2.2.2.2.1).bind fun v19=>(app v18 v19).bind fun v20=>(zfZ o v14.2.2.2.2.2.2.2).bind fun v21=>(app v20 v21).bind fun v22=>(zcN o v14.2.2.1).bind fun v23=>(zcN o v14.2.2.2.1).bind fun v24=>(ziP o ([([v14.2.1,v22]:List Bs),v23,v24]:List (List Bs))).bind fun v25=>(zbX o v15 v25 v13).bind fun v26=>some (.inl (w64 (v6+1),v7,v8,v9,v10,v11,v12,v26)))else some (.inr (v7,v8,v9,v10,v11,v13))
def ziS(o:Ops)(v28:(qbY×qbX×qbZ×qbW×(List ((Bs×Bs)×Unit))×List yhU))(v29:Int)(v30:qbY)(v31:qbX)(v32:qbZ)(v33:qbW)(v34:List ((Bs×Bs)×Unit))(v35:List yhU)(v36:List (Bs×Bs)):Option ((Int×qbY×qbX×qbZ×qbW×(List ((Bs×Bs)×Unit))×(List yhU)×List (Bs×Bs))⊕((qbY×qbX×qbZ×qbW×(List ((Bs×Bs)×Unit))×List (Bs×Bs)))):=
 bif decide (v29<(v28.2.2.2.2.2.length:Int))then((chk (decide ((0:Int)<=v29)&&decide (v29<(v35.length:Int)))).bind fun _=>(idx v35 v29).bind fun v37=>(app ([103,114,111,117,112,47]:Bs) v37.1).bind fun v38=>(o.itoa v37.2.2.2.2).bind fun v39=>(zcN o v37.2.1).bind fun v40=>(zcN o v37.2.2.1).bind fun v41=>(zcN o v37.2.2.2.1).bind fun v42=>(ziP o ([([v39]:List Bs),v40,v41,v42]:List (List Bs))).bind fun v43=>(zbX o v38 v43 v36).bind fun v44=>some (.inl (w64 (v29+1),v30,v31,v32,v33,v34,v35,v44)))else some (.inr (v30,v31,v32,v33,v34,v36))
def zfJ(o:Ops)(v46:((List (Bs×Bs))×zbA))(v47:Int)(v48:qbY)(v49:qbX)(v50:qbZ)(v51:qbW)(v52:List ((Bs×Bs)×Unit))(v53:List (Bs×Bs)):Option ((Int×qbY×qbX×qbZ×qbW×(List ((Bs×Bs)×Unit))×List (Bs×Bs))⊕((qbY×qbX×qbZ×qbW×(List ((Bs×Bs)×Unit))×List (Bs×Bs)))):=
 bif decide (v47<(v46.1.length:Int))then((idx v46.1 v47).bind fun v54=>(app ([109,97,121,47]:Bs) v54.1).bind fun v55=>(app v55 ([124]:Bs)).bind fun v56=>(app v56 v54.2).bind fun v57=>(zgX o v57 v53).bind fun v58=>some (.inl (w64 (v47+1),v48,v49,v50,v51,v52,v58)))else some (.inr (v48,v49,v50,v51,v52,v53))
def zjC(o:Ops)(v60:(qbY×qbX×qbZ×qbW×(List ((Bs×Bs)×Unit))×qcW))(v61:Int)(v62:qbY)(v63:qbX)(v64:qbZ)(v65:qbW)(v66:List ((Bs×Bs)×Unit))(v67:qcW)(v68:List (Bs×Bs)):Option ((Int×qbY×qbX×qbZ×qbW×(List ((Bs×Bs)×Unit))×qcW×List (Bs×Bs))⊕((qbY×qbX×qbZ×qbW×(List ((Bs×Bs)×Unit))×List (Bs×Bs)))):=
 bif decide (v61<(v60.2.2.2.2.2.length:Int))then((chk (decide ((0:Int)<=v61)&&decide (v61<(v67.length:Int)))).bind fun _=>(idx v67 v61).bind fun v69=>(app ([114,111,108,101,47]:Bs) v69.1).bind fun v70=>(zcN o v69.2).bind fun v71=>(zbX o v70 v71 v68).bind fun v72=>some (.inl (w64 (v61+1),v62,v63,v64,v65,v66,v67,v72)))else some (.inr (v62,v63,v64,v65,v66,v68))
def ziU(o:Ops)(v74:(qbY×qbX×qbZ×qbW×(List ((Bs×Bs)×Unit))×List zwX))(v75:Int)(v76:qbY)(v77:qbX)(v78:qbZ)(v79:qbW)(v80:List ((Bs×Bs)×Unit))(v81:List zwX)(v82:List (Bs×Bs)):Option ((Int×qbY×qbX×qbZ×qbW×(List ((Bs×Bs)×Unit))×(List zwX)×List (Bs×Bs))⊕((qbY×qbX×qbZ×qbW×(List ((Bs×Bs)×Unit))×List (Bs×Bs)))):=
 bif decide (v75<(v74.2.2.2.2.2.length:Int))then((chk (decide ((0:Int)<=v75)&&decide (v75<(v81.length:Int)))).bind fun _=>(idx v81 v75).bind fun v83=>(app ([117,115,101,114,47]:Bs) v83.1).bind fun v84=>(zfZ o v83.2.2.1).bind fun v85=>(o.itoa v83.2.2.2).bind fun v86=>(zgW o v84 ([v83.2.1,v85,v86]:List Bs) v82).bind fun v87=>some (.inl (w64 (v75+1),v76,v77,v78,v79,v80,v81,v87.2)))else some (.inr (v76,v77,v78,v79,v80,v82))
def zbS(o:Ops)(v0:qbY)(v1:qbX)(v2:qbZ)(v3:qbW)(v4:List ((Bs×Bs)×Unit)):Option (((List (Bs×Bs))×zbA)):=
 (zeN o v0 v1 v2 v3 v4).bind fun v5=>(iter (fun x=>ziG o v5 x.1 x.2.1 x.2.2.1 x.2.2.2.1 x.2.2.2.2.1 x.2.2.2.2.2.1 x.2.2.2.2.2.2.1 x.2.2.2.2.2.2.2) ((0:Int),v5.1,v5.2.1,v5.2.2.1,v5.2.2.2.1,v5.2.2.2.2.1,v5.2.2.2.2.2,([]:List (Bs×Bs)))).bind fun v27=>(zeU o v27.1 v27.2.1 v27.2.2.1 v27.2.2.2.1 v27.2.2.2.2.1).bind fun v28=>(iter (fun x=>ziS o v28 x.1 x.2.1 x.2.2.1 x.2.2.2.1 x.2.2.2.2.1 x.2.2.2.2.2.1 x.2.2.2.2.2.2.1 x.2.2.2.2.2.2.2) ((0:Int),v28.1,v28.2.1,v28.2.2.1,v28.2.2.2.1,v28.2.2.2.2.1,v28.2.2.2.2.2,v27.2.2.2.2.2)).bind fun v45=>(zgC o v45.1 v45.2.1 v45.2.2.1 v45.2.2.2.1 v45.2.2.2.2.1).bind fun v46=>(iter (fun x=>zfJ o v46 x.1 x.2.1 x.2.2.1 x.2.2.2.1 x.2.2.2.2.1 x.2.2.2.2.2.1 x.2.2.2.2.2.2) ((0:Int),v46.2.1,v46.2.2.1,v46.2.2.2.1,v46.2.2.2.2.1,v46.2.2.2.2.2,v45.2.2.2.2.2)).bind fun v59=>(zfM o v59.1 v59.2.1 v59.2.2.1 v59.2.2.2.1 v59.2.2.2.2.1).bind fun v60=>(iter (fun x=>zjC o v60 x.1 x.2.1 x.2.2.1 x.2.2.2.1 x.2.2.2.2.1 x.2.2.2.2.2.1 x.2.2.2.2.2.2.1 x.2.2.2.2.2.2.2) ((0:Int),v60.1,v60.2.1,v60.2.2.1,v60.2.2.2.1,v60.2.2.2.2.1,v60.2.2.2.2.2,v59.2.2.2.2.2)).bind fun v73=>(zfP o v73.1 v73.2.1 v73.2.2.1 v73.2.2.2.1 v73.2.2.2.2.1).bind fun v74=>(iter (fun x=>ziU o v74 x.1 x.2.1 x.2.2.1 x.2.2.2.1 x.2.2.2.2.1 x.2.2.2.2.2.1 x.2.2.2.2.2.2.1 x.2.2.2.2.2.2.2) ((0:Int),v74.1,v74.2.1,v74.2.2.1,v74.2.2.2.1,v74.2.2.2.2.1,v74.2.2.2.2.2,v73.2.2.2.2.2)).bind fun v88=>(ydQ v88.2.2.2.2.2).bind fun v89=>some (v89,v88.1,v88.2.1,v88.2.2.1,v88.2.2.2.1,v88.2.2.2.2.1)
def ziQ(o:Ops):SC:=⟨⟨[(0,(.ptr 0 0))],[zaU,zaE,zaF,zaD,zaC,qaW]⟩,1,[(none,⟨[(0,(.hc (.pr .s .s)))],[zaU,zaE,zaF,zaD,zaC,qaW]⟩)],fun x=>zbS o x.1 x.2.1 x.2.2.1 x.2.2.2.1 x.2.2.2.2⟩
theorem zpB:SCok Tryz.prog tabs 29 (ziQ o):=zbC (o:=o) (η:=[(200004,.loop [.cell 3 0 (.pr .s .s) 33] ⟨[(0,(.ptr 0 0)),(3,(.ptr 6 0)),(4,(.fn 84 [] [(.ptr 6 0)])),(17,(.own 7)),(19,hI)],[zaU,zaE,zaF,zaD,zaC,qaW,yqZ,.osl ycI 51,.osl (.pr .s .s) 33]⟩ [2,18] [(some 0,⟨[(0,(.ptr 0 0)),(3,(.ptr 6 0)),(4,(.fn 84 [] [(.ptr 6 0)]))],[zaU,zaE,zaF,zaD,zaC,qaW,yiF,.osl (.pr .s .s) 33]⟩)]),
 (200009,.loop [] ⟨[(0,(.ptr 0 0)),(3,(.ptr 6 0)),(4,(.fn 84 [] [(.ptr 6 0)])),(56,(.own 7)),(58,hI)],[zaU,zaE,zaF,zaD,zaC,qaW,yqZ,.osl yvW 57,.osl (.pr .s .s) 33]⟩ [2,57] [(some 2,⟨[(0,(.ptr 0 0)),(3,(.ptr 6 0)),(4,(.fn 84 [] [(.ptr 6 0)]))],[zaU,zaE,zaF,zaD,zaC,qaW,yiF,.osl (.pr .s .s) 33]⟩)]),
 (200014,.loop [] ⟨[(0,(.ptr 0 0)),(3,(.ptr 6 0)),(4,(.fn 84 [] [(.ptr 6 0)])),(86,hI)],[zaU,zaE,zaF,zaD,zaC,qaW,yiF,.osl (.pr .s .s) 33]⟩ [2,84,85] [(some 4,⟨[(0,(.ptr 0 0)),(3,(.ptr 6 0)),(4,(.fn 84 [] [(.ptr 6 0)]))],[zaU,zaE,zaF,zaD,zaC,qaW,yiF,.osl (.pr .s .s) 33]⟩)]),
 (200019,.loop [] ⟨[(0,(.ptr 0 0)),(3,(.ptr 6 0)),(4,(.fn 84 [] [(.ptr 6 0)])),(101,(.own 7)),(103,hI)],[zaU,zaE,zaF,zaD,zaC,qaW,yqZ,.osl ycS 49,.osl (.pr .s .s) 33]⟩ [2,102] [(some 6,⟨[(0,(.ptr 0 0)),(3,(.ptr 6 0)),(4,(.fn 84 [] [(.ptr 6 0)]))],[zaU,zaE,zaF,zaD,zaC,qaW,yiF,.osl (.pr .s .s) 33]⟩)]),
 (200024,.loop [] ⟨[(3,(.ptr 6 0)),(4,(.fn 84 [] [(.ptr 6 0)])),(117,(.own 7)),(119,hI)],[zaU,zaE,zaF,zaD,zaC,qaW,yqZ,.osl ylE 77,.osl (.pr .s .s) 33]⟩ [2,118] [(some 8,⟨[(3,(.ptr 6 0))],[zaU,zaE,zaF,zaD,zaC,qaW,yiF,.osl (.pr .s .s) 33]⟩)]),
 (4000006,.sch [(.pu,0,[10,11]),(.pu,1,[10,11]),(.pu,2,[10,11]),(.pu,3,[10,11]),(.pu,4,[]),(.pu,5,[]),(.pu,6,[]),(.pu,7,[]),(.pu,9,[]),(.pu,10,[]),(.pu,13,[]),(.pu,14,[]),(.pu,17,[]),(.pu,18,[]),(.pu,22,[]),(.pu,23,[]),(.pu,25,[]),(.pu,26,[]),(.mn,8,[]),(.mn,11,[]),(.pu,12,[]),(.mn,15,[]),(.pu,16,[]),(.mn,19,[]),(.pu,20,[]),(.la,21,[]),(.mn,24,[]),(.mn,27,[]),(.rv,21,[]),(.mn,28,[10]),(.mn,29,[11]),(.mn,30,[6,8])]),
 (4000011,.sch [(.pu,0,[10,11]),(.pu,1,[10,11]),(.pu,2,[10,11]),(.pu,3,[10,11]),(.pu,4,[]),(.pu,5,[]),(.pu,8,[]),(.pu,9,[]),(.pu,11,[]),(.pu,12,[]),(.pu,14,[]),(.pu,15,[]),(.mn,6,[]),(.la,7,[]),(.mn,10,[]),(.mn,13,[]),(.mn,16,[]),(.rv,7,[]),(.mn,17,[10]),(.mn,18,[11]),(.mn,19,[6,8])]),
 (4000021,.sch [(.pu,0,[]),(.pu,1,[]),(.pu,2,[]),(.pu,3,[]),(.pu,4,[]),(.pu,5,[]),(.mn,6,[]),(.mn,7,[6,8])]),
 (4000026,.sch [(.pu,0,[]),(.pu,1,[]),(.pu,2,[]),(.pu,3,[]),(.pu,4,[]),(.pu,5,[]),(.pu,6,[]),(.pu,7,[]),(.pu,9,[]),(.pu,10,[]),(.mn,8,[]),(.mn,11,[]),(.mn,12,[]),(.mn,13,[6,8,10])])]) (Γ:=⟨[(86,(zyR o)),(87,(zvZ o)),(85,(zwB o)),(68,(ypG o)),(91,ysK)],[(84,(zlK o)),(38,(zlD o)),(84,(zkU o)),(32,(zmP o)),(45,(zpO o)),(40,(znP o)),(39,(znS o)),(84,(zlL o)),(88,yrQ)],false,[]⟩) (ctok ⟨yhB,⟨yeB,⟨ydV,⟨(zqV.itoa (G:=tabs)),⟨Clip_p3k,trivial⟩⟩⟩⟩⟩ ⟨ztU,⟨zuH,⟨ztM,⟨zvK,⟨zxZ,⟨zxD,⟨zwY,⟨ztO,⟨xeZ,trivial⟩⟩⟩⟩⟩⟩⟩⟩⟩) Tryz.func29
def ydU(o:Ops)(v0:Bs):Option ((Int×Bool)⊕Unit):=
 bif(v0==([]:Bs))then some (.inl ((0:Int),false))else(bif decide ((v0.length:Int)>15)then some (.inl ((0:Int),false))else((idx v0 (0:Int)).bind fun v1=>bif((v1.toNat:Int)==((48:UInt8).toNat:Int))then(bif(v0 != ([48]:Bs))then some (.inl ((0:Int),false))else((o.trim v0 ([48,49,50,51,52,53,54,55,56,57]:Bs)).bind fun v2=>bif(v2 != ([]:Bs))then some (.inl ((0:Int),false))else some (.inr ())))else((o.trim v0 ([48,49,50,51,52,53,54,55,56,57]:Bs)).bind fun v3=>bif(v3 != ([]:Bs))then some (.inl ((0:Int),false))else some (.inr ()))))
def zrM(o:Ops)(v0:Bs):Option (Int×Bool):=
 (ydU o v0).bind fun v4=>match v4 with
 |.inl v5=>(some v5)
 |.inr _v6=>((o.atoi v0).bind fun v7=>some (v7.1,(!v7.2)))
def zqD(o:Ops):PC:=⟨[hS],[(.i .i64),.b],fun x=>zrM o x,false⟩
theorem zvY:PCok Tryz.prog tabs 60 (zqD o):=zhE (o:=o) (η:=[(2000003,.join [] [0] [(some 1000000,⟨[(2,hI),(3,hB)],[]⟩),(none,⟨[],[]⟩)]),
 (4000004,.sch [(.pu,0,[]),(.pu,1,[]),(.pu,2,[]),(.pu,3,[]),(.pu,4,[])])]) (Γ:=⟨[(164,(yjZ o)),(165,(yyO o))],[],false,[]⟩) (ctok ⟨(zqV.trim (G:=tabs)),⟨(zqV.atoi (G:=tabs)),trivial⟩⟩ trivial) Tryz.func60
def yeK(_o:Ops)(v2:List Bs)(v3:Bs×Bs×Bool)(v4:Int×Bool):Option (Bool⊕List Bs):=
 bif(!v3.2.2)then some (.inl false)else(bif(!v4.2)then some (.inl false)else(bif decide (v4.1>(v3.2.1.length:Int))then some (.inl false)else some (.inr v2)))
def yeA(o:Ops)(v1:Bs)(v2:List Bs):Option (zdN⊕(Bool⊕List Bs)):=
 bif(v1 != ([]:Bs))then((o.cut v1 ([58]:Bs)).bind fun v3=>(zrM o v3.1).bind fun v4=>(yeK o v2 v3 v4).bind fun v5=>match v5 with
 |.inl v6=>some (.inr (.inl v6))
 |.inr v7=>((subH v3.2.1 v4.1).bind fun v8=>(app v7 ([v8]:List Bs)).bind fun v9=>(subL v3.2.1 v4.1).bind fun v10=>some (.inl (v10,v9))))else some (.inr (.inr v2))
def zzV(o:Ops)(v0:Bs):Option (yeL):=
 (iter (fun x=>yeA o x.1 x.2) (v0,([]:List Bs))).bind fun v11=>match v11 with
 |.inl v12=>some (([]:List Bs),v12)
 |.inr v13=>some (v13,true)
def zyJ(o:Ops):SC:=⟨⟨[(0,hS)],[]⟩,2,[(none,⟨[(0,(.h (.sl .s))),(1,hB)],[]⟩)],fun x=>zzV o x⟩
theorem yfR:SCok Tryz.prog tabs 11 (zyJ o):=zbC (o:=o) (η:=[(2000007,.join [] [6,8] [(some 1000000,⟨[(2,.nils),(3,hB)],[]⟩),(none,⟨[(4,(.own 0))],[.osl .s 9]⟩)]),
 (200002,.loop [.sl 4 .s 9] ⟨[(0,hS),(4,(.own 0))],[.osl .s 9]⟩ [] [(some 1000000,⟨[(2,.nils),(3,hB)],[]⟩),(some 0,⟨[(4,(.own 0))],[.osl .s 9]⟩)])]) (Γ:=⟨[(59,(ywD o)),(60,(zqD o)),(61,yaM)],[],false,[]⟩) (ctok ⟨(zqV.cut (G:=tabs)),⟨zvY,⟨ycH,trivial⟩⟩⟩ trivial) Tryz.func11
def zcO(_o:Ops)(v0:List Bs)(v1:Bool):Option ((Bs×yeL)):=
 bif((v0.length:Int)==0)then some (([]:Bs),v0,true)else((idx v0 (0:Int)).bind fun v2=>(subL v0 (1:Int)).bind fun v3=>some (v2,v3,v1))
def ziN(o:Ops):SC:=⟨⟨[(0,(.ptr 0 0))],[yaP]⟩,1,[(none,⟨[(0,hS)],[yaP]⟩)],fun x=>zcO o x.1 x.2⟩
theorem zoZ:SCok Tryz.prog tabs 169 (ziN o):=zbC (o:=o) (η:=[]) (Γ:=⟨[],[],false,[]⟩) (ctok trivial trivial) Tryz.func169
def zcP(_o:Ops)(v0:Bs)(v1:List Bs)(v2:Bool):Option ((Bool×yeL)):=
 bif v2 then some ((v0==([49]:Bs)),v1,true)else(bif(v0 != ([48]:Bs))then some ((v0==([49]:Bs)),v1,(v0 != ([49]:Bs)))else some ((v0==([49]:Bs)),v1,false))
def zpV(o:Ops):SC:=⟨⟨[(0,(.ptr 0 0)),(1,hS)],[yaP]⟩,1,[(none,⟨[(0,hB)],[yaP]⟩)],fun x=>zcP o x.1 x.2.1 x.2.2⟩
theorem zxJ:SCok Tryz.prog tabs 170 (zpV o):=zbC (o:=o) (η:=[]) (Γ:=⟨[],[],false,[]⟩) (ctok trivial trivial) Tryz.func170
def zhO(o:Ops)(v0:List Bs)(v1:Bool):Option ((Int×yeL)):=
 (zcO o v0 v1).bind fun v2=>(zrM o v2.1).bind fun v3=>bif v2.2.2 then some (v3.1,v2.2.1,true)else some (v3.1,v2.2.1,(!v3.2))
def zgZ(o:Ops):SC:=⟨⟨[(0,(.ptr 0 0))],[yaP]⟩,1,[(none,⟨[(0,hI)],[yaP]⟩)],fun x=>zhO o x.1 x.2⟩
theorem zmI:SCok Tryz.prog tabs 243 (zgZ o):=zbC (o:=o) (η:=[]) (Γ:=⟨[(60,(zqD o))],[(169,(ziN o))],false,[]⟩) (ctok ⟨zvY,trivial⟩ ⟨zoZ,trivial⟩) Tryz.func243
def zxX(_o:Ops)(v2:(Int×yeL)):Option (yeL⊕yeL):=
 bif v2.2.2 then some (.inl (v2.2.1,true))else(bif decide (v2.1>(v2.2.1.length:Int))then some (.inl (v2.2.1,true))else some (.inr v2.2))
def zdZ(o:Ops)(v0:List Bs)(v1:Bool):Option (((List Bs)×yeL)):=
 (zhO o v0 v1).bind fun v2=>(zxX o v2).bind fun v3=>match v3 with
 |.inl v4=>some (([]:List Bs),v4)
 |.inr v5=>((subH v5.1 v2.1).bind fun v6=>(app ([]:List Bs) v6).bind fun v7=>(subL v5.1 v2.1).bind fun v8=>some (v7,v8,v5.2))
def zoX(o:Ops):SC:=⟨⟨[(0,(.ptr 0 0))],[yaP]⟩,1,[(none,⟨[(0,(.h (.sl .s)))],[yaP]⟩)],fun x=>zdZ o x.1 x.2⟩
theorem zxS:SCok Tryz.prog tabs 171 (zoX o):=zbC (o:=o) (η:=[(2000005,.join [] [3] [(some 1000000,⟨[(2,.nils)],[yaP]⟩),(none,⟨[(0,(.ptr 0 0))],[yaP]⟩)])]) (Γ:=⟨[],[(243,(zgZ o)),(198,zvM)],false,[]⟩) (ctok trivial ⟨zmI,⟨zyY,trivial⟩⟩) Tryz.func171
def zqK(o:Ops)(v0:List Bs)(v2:Int):Option (Int⊕(Bool⊕Unit)):=
 bif decide (v2<(v0.length:Int))then((idx v0 v2).bind fun v3=>(zcM o v3).bind fun v4=>bif(!v4)then some (.inr (.inl false))else(bif decide (v2>0)then((idx v0 (w64 (v2-1))).bind fun v5=>bif(Op.bytesLess v3 v5||v3==v5)then some (.inr (.inl false))else some (.inl (w64 (v2+1))))else some (.inl (w64 (v2+1)))))else some (.inr (.inr ()))
def zmJ(o:Ops)(v0:List Bs)(v1:Int):Option (Bool):=
 (iter (zqK o v0) (0:Int)).bind fun v6=>match v6 with
 |.inl v7=>some v7
 |.inr _v8=>some (decide ((v0.length:Int)<=v1))
def zwG(o:Ops):SC:=⟨⟨[(0,(.h (.sl .s))),(1,hI),(2,(.fn 15 [] []))],[]⟩,1,[(none,⟨[(0,hB)],[]⟩)],fun x=>zmJ o x.1 x.2⟩
theorem yeD:SCok Tryz.prog tabs 174 (zwG o):=zbC (o:=o) (η:=[(200002,.loop [] ⟨[(2,(.fn 15 [] [])),(11,hI)],[]⟩ [0,1,9,10] [(some 1000000,⟨[(6,hB)],[]⟩),(some 0,⟨[],[]⟩)])]) (Γ:=⟨[(15,(zkD o))],[],false,[]⟩) (ctok ⟨zoW,trivial⟩ trivial) Tryz.func174
def zqB(o:Ops)(v0:zuL):Option ((Bool×zuL)):=
 bif(v0.2.1==([]:Bs))then some (true,v0)else(bif((v0.2.1.length:Int)==64)then((o.trim v0.2.1 ([48,49,50,51,52,53,54,55,56,57,97,98,99,100,101,102]:Bs)).bind fun v1=>some ((v1==([]:Bs)),v0))else some (false,v0))
def ziT(o:Ops)(v0:zuL):Option (Bool):=
 (zqB o v0).bind fun v2=>(zaN o v2.2.1).bind fun v3=>bif v3 then(bif v2.1 then((zmJ o v2.2.2.2.1 (16:Int)).bind fun v4=>bif v4 then((zkE o v2.2.2.2.2.1 (16:Int)).bind fun v5=>some v5)else(some false))else(some false))else(some false)
def zqE(o:Ops):PC:=⟨[(.h ycI)],[.b],fun x=>ziT o x,false⟩
theorem zwJ:PCok Tryz.prog tabs 106 (zqE o):=zhE (o:=o) (η:=[(2000002,.join [] [] [(none,⟨[(1,(.ptr 0 0)),(3,hB)],[.blk 51 [hS,hS,(.h (.sl .s)),(.h (.sl .s)),hB,hB,hB,hB]]⟩)])]) (Γ:=⟨[(164,(yjZ o)),(13,(zbD o))],[(174,(zwG o)),(174,(zrR o))],false,[]⟩) (ctok ⟨(zqV.trim (G:=tabs)),⟨zbI,trivial⟩⟩ ⟨yeD,⟨zxV,trivial⟩⟩) Tryz.func106
def zgU(o:Ops)(v0:List Bs)(v1:Bool):Option ((Int×yeL)):=
 (zhO o v0 v1).bind fun v2=>bif v2.2.2 then some (v2.1,v2.2.1,true)else(bif decide (v2.1<1)then some (v2.1,v2.2.1,true)else some (v2.1,v2.2.1,decide (v2.1>1099511627776)))
def zkV(o:Ops):SC:=⟨⟨[(0,(.ptr 0 0))],[yaP]⟩,1,[(none,⟨[(0,hI)],[yaP]⟩)],fun x=>zgU o x.1 x.2⟩
theorem zuA:SCok Tryz.prog tabs 172 (zkV o):=zbC (o:=o) (η:=[]) (Γ:=⟨[],[(243,(zgZ o))],false,[]⟩) (ctok trivial ⟨zmI,trivial⟩) Tryz.func172
def ztE(_o:Ops)(v1:qbY)(v2:qbX)(v3:qbZ)(v4:qbW)(v5:List ((Bs×Bs)×Unit))(v6:yeL)(v7:Bs×Bs×Bool):Option ((Bool×zbA)⊕zbA):=
 bif(!v6.2)then some (.inl (false,v1,v2,v3,v4,v5))else(bif(!v7.2.2)then some (.inl (false,v1,v2,v3,v4,v5))else some (.inr (v1,v2,v3,v4,v5)))
def ztA(o:Ops)(v26:Int)(v27:qbY)(v28:qbX)(v29:qbZ)(v30:qbW)(v31:List ((Bs×Bs)×Unit))(v32:List Bs)(v33:Bool)(v34:List Bs)(v35:List Bs)(v36:List Bs)(v37:Int):Option ((Int×qbY×qbX×qbZ×qbW×(List ((Bs×Bs)×Unit))×(List Bs)×Bool×(List Bs)×(List Bs)×(List Bs)×Int)⊕((qbY×qbX×qbZ×qbW×(List ((Bs×Bs)×Unit))×(List Bs)×Bool×(List Bs)×(List Bs)×(List Bs)×Int))):=
 bif decide (v26<3)then((zdZ o v32 v33).bind fun v38=>bif decide (v26=(0:Int))then some (.inl (w64 (v26+1),v27,v28,v29,v30,v31,v38.2.1,v38.2.2,v38.1,v35,v36,v37))else(bif decide (v26=(1:Int))then some (.inl (w64 (v26+1),v27,v28,v29,v30,v31,v38.2.1,v38.2.2,v34,v38.1,v36,v37))else(bif decide (v26=(2:Int))then some (.inl (w64 (v26+1),v27,v28,v29,v30,v31,v38.2.1,v38.2.2,v34,v35,v38.1,v37))else none)))else some (.inr (v27,v28,v29,v30,v31,v32,v33,v34,v35,v36,v37))
def ztI(o:Ops)(v6:yeL)(v7:Bs×Bs×Bool)(v10:zbA):Option ((Bool×zbA)⊕(Bool×qbY×qbX×qbZ×qbW×(List ((Bs×Bs)×Unit))×yeL)):=
 bif(v7.1==([99,108,105,101,110,116]:Bs))then((zcO o v6.1 false).bind fun v11=>(zcO o v11.2.1 v11.2.2).bind fun v12=>bif((v12.1.length:Int) != 4)then some (.inl (false,v10))else((subH v12.1 (1:Int)).bind fun v13=>(sub3 v12.1 (1:Int) (2:Int)).bind fun v14=>(sub3 v12.1 (2:Int) (3:Int)).bind fun v15=>(subL v12.1 (3:Int)).bind fun v16=>(zcP o v13 v12.2.1 v12.2.2).bind fun v17=>(zcP o v14 v17.2.1 v17.2.2).bind fun v18=>(zcP o v15 v18.2.1 v18.2.2).bind fun v19=>(zcP o v16 v19.2.1 v19.2.2).bind fun v20=>(zdZ o v20.2.1 v20.2.2).bind fun v21=>(zdZ o v21.2.1 v21.2.2).bind fun v22=>let v23:qbW:=mset keqS kltS v10.2.2.2.1 v7.2.1 (v7.2.1,v11.1,v21.1,v22.1,v17.1,v18.1,v19.1,v20.1)
 (ziT o (v7.2.1,v11.1,v21.1,v22.1,v17.1,v18.1,v19.1,v20.1)).bind fun v24=>some (.inr (v24,v10.1,v10.2.1,v10.2.2.1,v23,v10.2.2.2.2,v22.2))))else(bif(v7.1==([103,114,111,117,112]:Bs))then((zgU o v6.1 false).bind fun v25=>(iter (fun x=>ztA o x.1 x.2.1 x.2.2.1 x.2.2.2.1 x.2.2.2.2.1 x.2.2.2.2.2.1 x.2.2.2.2.2.2.1 x.2.2.2.2.2.2.2.1 x.2.2.2.2.2.2.2.2.1 x.2.2.2.2.2.2.2.2.2.1 x.2.2.2.2.2.2.2.2.2.2.1 x.2.2.2.2.2.2.2.2.2.2.2) ((0:Int),v10.1,v10.2.1,v10.2.2.1,v10.2.2.2.1,v10.2.2.2.2,v25.2.1,v25.2.2,([]:List Bs),([]:List Bs),([]:List Bs),v25.1)).bind fun v39=>let v40:qbX:=mset keqS kltS v39.2.1 v7.2.1 ((v39.2.2.2.2.2.2.2.1,v39.2.2.2.2.2.2.2.2.1,v39.2.2.2.2.2.2.2.2.2.1),v39.2.2.2.2.2.2.2.2.2.2)
 (zaN o v7.2.1).bind fun v41=>some (.inr (v41,v39.1,v40,v39.2.2.1,v39.2.2.2.1,v39.2.2.2.2.1,v39.2.2.2.2.2.1,v39.2.2.2.2.2.2.1)))else(bif(v7.1==([109,97,121]:Bs))then((o.cut v7.2.1 ([124]:Bs)).bind fun v42=>let v43:List ((Bs×Bs)×Unit):=mset (keq (.pr .s .s)) (klt (.pr .s .s)) v10.2.2.2.2 (v42.1,v42.2.1) ()
 bif v42.2.2 then((zbG o v42.1).bind fun v44=>bif v44 then((zbG o v42.2.1).bind fun v45=>some (.inr (v45,v10.1,v10.2.1,v10.2.2.1,v10.2.2.2.1,v43,v6.1,false)))else some (.inr (false,v10.1,v10.2.1,v10.2.2.1,v10.2.2.2.1,v43,v6.1,false)))else some (.inr (false,v10.1,v10.2.1,v10.2.2.1,v10.2.2.2.1,v43,v6.1,false)))else(bif(v7.1==([114,111,108,101]:Bs))then((zdZ o v6.1 false).bind fun v46=>let v47:qbZ:=mset keqS kltS v10.2.2.1 v7.2.1 (v7.2.1,v46.1)
 (zmY o (v7.2.1,v46.1)).bind fun v48=>some (.inr (v48,v10.1,v10.2.1,v47,v10.2.2.2.1,v10.2.2.2.2,v46.2)))else(bif(v7.1==([117,115,101,114]:Bs))then((zcO o v6.1 false).bind fun v49=>(zcO o v49.2.1 v49.2.2).bind fun v50=>(zcP o v50.1 v50.2.1 v50.2.2).bind fun v51=>(zgU o v51.2.1 v51.2.2).bind fun v52=>let v53:qbY:=mset keqS kltS v10.1 v7.2.1 (v7.2.1,v49.1,v51.1,v52.1)
 (zaN o v7.2.1).bind fun v54=>bif v54 then((zcM o v49.1).bind fun v55=>some (.inr (v55,v53,v10.2.1,v10.2.2.1,v10.2.2.2.1,v10.2.2.2.2,v52.2)))else some (.inr (false,v53,v10.2.1,v10.2.2.1,v10.2.2.2.1,v10.2.2.2.2,v52.2)))else some (.inr (false,v10.1,v10.2.1,v10.2.2.1,v10.2.2.2.1,v10.2.2.2.2,v6.1,false))))))
def zgO(o:Ops)(v0:Bs×Bs)(v1:qbY)(v2:qbX)(v3:qbZ)(v4:qbW)(v5:List ((Bs×Bs)×Unit)):Option ((Bool×zbA)):=
 (zzV o v0.2).bind fun v6=>(o.cut v0.1 ([47]:Bs)).bind fun v7=>(ztE o v1 v2 v3 v4 v5 v6 v7).bind fun v8=>match v8 with
 |.inl v9=>some v9
 |.inr v10=>((ztI o v6 v7 v10).bind fun v56=>match v56 with
 |.inl v57=>some v57
 |.inr v58=>(bif v58.1 then(bif(!v58.2.2.2.2.2.2.2)then some (((v58.2.2.2.2.2.2.1.length:Int)==0),v58.2.1,v58.2.2.1,v58.2.2.2.1,v58.2.2.2.2.1,v58.2.2.2.2.2.1)else some (false,v58.2.1,v58.2.2.1,v58.2.2.2.1,v58.2.2.2.2.1,v58.2.2.2.2.2.1))else some (false,v58.2.1,v58.2.2.1,v58.2.2.2.1,v58.2.2.2.2.1,v58.2.2.2.2.2.1)))
def zjW(o:Ops):SC:=⟨⟨[(0,(.ptr 0 0)),(1,(.h (.pr .s .s)))],[zaU,zaE,zaF,zaD,zaC,qaW]⟩,1,[(none,⟨[(0,hB)],[zaU,ywU,ybB,xbN,.mp false .s ycI,.mp false (.pr .s .s) .un]⟩)],fun x=>zgO o x.1 x.2.1 x.2.2.1 x.2.2.2.1 x.2.2.2.2.1 x.2.2.2.2.2⟩
theorem zsS:SCok Tryz.prog tabs 75 (zjW o):=zbC (o:=o) (η:=[(2000005,.join [] [5,7,8] [(some 1000000,⟨[(4,hB)],[zaU,zaE,zaF,zaD,zaC,qaW]⟩),(none,⟨[(0,(.ptr 0 0))],[zaU,zaE,zaF,zaD,zaC,qaW]⟩)]),
 (200020,.loop [] ⟨[(0,(.ptr 0 0)),(10,(.ptr 6 0)),(13,(.ptr 7 0)),(93,hI)],[zaU,zaE,zaF,zaD,zaC,qaW,yaP,zwP]⟩ [8] [(some 1,⟨[(0,(.ptr 0 0)),(10,(.ptr 6 0)),(13,(.ptr 7 0))],[zaU,zaE,zaF,zaD,zaC,qaW,yaP,zwP]⟩)]),
 (2000038,.join [] [] [(some 1000000,⟨[(4,hB)],[zaU,zaE,zaF,zaD,zaC,qaW]⟩),(none,⟨[(6,hB),(10,(.ptr 6 0))],[zaU,ywU,ybB,xbN,.mp false .s ycI,.mp false (.pr .s .s) .un,yaP]⟩)]),
 (4000013,.sch [(.pu,0,[]),(.pu,1,[]),(.pu,2,[]),(.pu,4,[6]),(.pu,5,[6]),(.pu,6,[6]),(.pu,8,[6]),(.pu,9,[6]),(.pu,10,[6]),(.pu,12,[6]),(.pu,13,[6]),(.pu,14,[6]),(.mn,3,[6]),(.pu,16,[6]),(.mn,7,[6]),(.mn,11,[6]),(.mn,15,[6]),(.mn,17,[8]),(.pu,18,[]),(.mn,19,[8]),(.pu,20,[]),(.mn,21,[8]),(.pu,22,[]),(.mn,23,[8])]),
 (4000015,.sch [(.pu,0,[]),(.pu,1,[]),(.pu,2,[]),(.pu,3,[]),(.pu,4,[]),(.pu,5,[]),(.mn,6,[0,1,2,3,4,5,6,7,8,9,10,11,12,13,14,15])]),
 (4000024,.sch [(.pu,0,[]),(.pu,1,[]),(.pu,2,[]),(.pu,3,[]),(.pu,4,[]),(.pu,5,[]),(.mn,6,[0,1,2,3,4,5,6,7])]),
 (4000032,.sch [(.pu,0,[]),(.pu,1,[]),(.pu,2,[]),(.pu,3,[]),(.pu,4,[]),(.pu,5,[]),(.mn,6,[0,1,2,3,4,5,6,7,8])]),
 (4000036,.sch [(.pu,0,[]),(.pu,1,[]),(.pu,2,[]),(.pu,3,[]),(.pu,4,[]),(.pu,5,[]),(.mn,6,[0,1,2,3,4,5,6,7,8,9,10,11])])]) (Γ:=⟨[(59,(ywD o)),(106,(zqE o)),(13,(zbD o)),(19,(zgT o)),(104,(ztC o)),(15,(zkD o))],[(11,(zyJ o)),(169,(ziN o)),(170,(zpV o)),(171,(zoX o)),(172,(zkV o))],false,[]⟩) (ctok ⟨(zqV.cut (G:=tabs)),⟨zwJ,⟨zbI,⟨zkJ,⟨zzP,⟨zoW,trivial⟩⟩⟩⟩⟩⟩ ⟨yfR,⟨zoZ,⟨zxJ,⟨zxS,⟨zuA,trivial⟩⟩⟩⟩⟩) Tryz.func75
def yeJ(o:Ops)(v0:List Bs)(v7:Int)(v8:qbY)(v9:qbX)(v10:qbZ)(v11:qbW)(v12:List ((Bs×Bs)×Unit)):Option ((Int×zbA)⊕((Bool×zbA)⊕zbA)):=
 bif decide (v7<(v0.length:Int))then((idx v0 v7).bind fun v13=>(zeE o v13 v8 v9 v10 v11 v12).bind fun v14=>bif(!v14.1)then some (.inr (.inl (false,v14.2)))else(bif decide (v7>0)then((idx v0 (w64 (v7-1))).bind fun v15=>bif(Op.bytesLess v13 v15||v13==v15)then some (.inr (.inl (false,v14.2)))else some (.inl (w64 (v7+1),v14.2)))else some (.inl (w64 (v7+1),v14.2))))else some (.inr (.inr (v8,v9,v10,v11,v12)))
def zxK(o:Ops)(v0:List Bs)(v1:Int)(v2:qbY)(v3:qbX)(v4:qbZ)(v5:qbW)(v6:List ((Bs×Bs)×Unit)):Option ((Bool×zbA)):=
 (iter (fun x=>yeJ o v0 x.1 x.2.1 x.2.2.1 x.2.2.2.1 x.2.2.2.2.1 x.2.2.2.2.2) ((0:Int),v2,v3,v4,v5,v6)).bind fun v16=>match v16 with
 |.inl v17=>some v17
 |.inr v18=>some (decide ((v0.length:Int)<=v1),v18)
def zwI(o:Ops):SC:=⟨⟨[(0,(.h (.sl .s))),(1,hI),(2,(.fn 244 [] [(.ptr 0 0)]))],[ztK,zjS,zaE,zaF,zaD,zaC,qaW]⟩,1,[(none,⟨[(0,hB)],[ztK,zjS,zaE,zaF,zaD,zaC,qaW]⟩)],fun x=>zxK o x.1 x.2.1 x.2.2.1 x.2.2.2.1 x.2.2.2.2.1 x.2.2.2.2.2.1 x.2.2.2.2.2.2⟩
theorem ydZ:SCok Tryz.prog tabs 174 (zwI o):=zbC (o:=o) (η:=[(200002,.loop [] ⟨[(2,(.fn 244 [] [(.ptr 0 0)])),(11,hI)],[ztK,zjS,zaE,zaF,zaD,zaC,qaW]⟩ [0,1,9,10] [(some 1000000,⟨[(6,hB)],[ztK,zjS,zaE,zaF,zaD,zaC,qaW]⟩),(some 0,⟨[],[ztK,zjS,zaE,zaF,zaD,zaC,qaW]⟩)])]) (Γ:=⟨[],[(244,(zgI o))],false,[]⟩) (ctok trivial ⟨zlO,trivial⟩) Tryz.func174
def ydW(o:Ops)(v0:List Bs)(v7:Int)(v8:qbY)(v9:qbX)(v10:qbZ)(v11:qbW)(v12:List ((Bs×Bs)×Unit)):Option ((Int×zbA)⊕((Bool×zbA)⊕zbA)):=
 bif decide (v7<(v0.length:Int))then((idx v0 v7).bind fun v13=>(zeK o v13 v8 v9 v10 v11 v12).bind fun v14=>bif(!v14.1)then some (.inr (.inl (false,v14.2)))else(bif decide (v7>0)then((idx v0 (w64 (v7-1))).bind fun v15=>bif(Op.bytesLess v13 v15||v13==v15)then some (.inr (.inl (false,v14.2)))else some (.inl (w64 (v7+1),v14.2)))else some (.inl (w64 (v7+1),v14.2))))else some (.inr (.inr (v8,v9,v10,v11,v12)))
def zyO(o:Ops)(v0:List Bs)(v1:Int)(v2:qbY)(v3:qbX)(v4:qbZ)(v5:qbW)(v6:List ((Bs×Bs)×Unit)):Option ((Bool×zbA)):=
 (iter (fun x=>ydW o v0 x.1 x.2.1 x.2.2.1 x.2.2.2.1 x.2.2.2.2.1 x.2.2.2.2.2) ((0:Int),v2,v3,v4,v5,v6)).bind fun v16=>match v16 with
 |.inl v17=>some v17
 |.inr v18=>some (decide ((v0.length:Int)<=v1),v18)
def zwF(o:Ops):SC:=⟨⟨[(0,(.h (.sl .s))),(1,hI),(2,(.fn 245 [] [(.ptr 0 0)]))],[ztK,zjS,zaE,zaF,zaD,zaC,qaW]⟩,1,[(none,⟨[(0,hB)],[ztK,zjS,zaE,zaF,zaD,zaC,qaW]⟩)],fun x=>zyO o x.1 x.2.1 x.2.2.1 x.2.2.2.1 x.2.2.2.2.1 x.2.2.2.2.2.1 x.2.2.2.2.2.2⟩
theorem yeC:SCok Tryz.prog tabs 174 (zwF o):=zbC (o:=o) (η:=[(200002,.loop [] ⟨[(2,(.fn 245 [] [(.ptr 0 0)])),(11,hI)],[ztK,zjS,zaE,zaF,zaD,zaC,qaW]⟩ [0,1,9,10] [(some 1000000,⟨[(6,hB)],[ztK,zjS,zaE,zaF,zaD,zaC,qaW]⟩),(some 0,⟨[],[ztK,zjS,zaE,zaF,zaD,zaC,qaW]⟩)])]) (Γ:=⟨[],[(245,(zgN o))],false,[]⟩) (ctok trivial ⟨zkT,trivial⟩) Tryz.func174
def yeI(o:Ops)(v0:List Bs)(v7:Int)(v8:qbY)(v9:qbX)(v10:qbZ)(v11:qbW)(v12:List ((Bs×Bs)×Unit)):Option ((Int×zbA)⊕((Bool×zbA)⊕zbA)):=
 bif decide (v7<(v0.length:Int))then((idx v0 v7).bind fun v13=>(zeF o v13 v8 v9 v10 v11 v12).bind fun v14=>bif(!v14.1)then some (.inr (.inl (false,v14.2)))else(bif decide (v7>0)then((idx v0 (w64 (v7-1))).bind fun v15=>bif(Op.bytesLess v13 v15||v13==v15)then some (.inr (.inl (false,v14.2)))else some (.inl (w64 (v7+1),v14.2)))else some (.inl (w64 (v7+1),v14.2))))else some (.inr (.inr (v8,v9,v10,v11,v12)))
def zyA(o:Ops)(v0:List Bs)(v1:Int)(v2:qbY)(v3:qbX)(v4:qbZ)(v5:qbW)(v6:List ((Bs×Bs)×Unit)):Option ((Bool×zbA)):=
 (iter (fun x=>yeI o v0 x.1 x.2.1 x.2.2.1 x.2.2.2.1 x.2.2.2.2.1 x.2.2.2.2.2) ((0:Int),v2,v3,v4,v5,v6)).bind fun v16=>match v16 with
 |.inl v17=>some v17
 |.inr v18=>some (decide ((v0.length:Int)<=v1),v18)
def zwC(o:Ops):SC:=⟨⟨[(0,(.h (.sl .s))),(1,hI),(2,(.fn 246 [] [(.ptr 0 0)]))],[ztK,zjS,zaE,zaF,zaD,zaC,qaW]⟩,1,[(none,⟨[(0,hB)],[ztK,zjS,zaE,zaF,zaD,zaC,qaW]⟩)],fun x=>zyA o x.1 x.2.1 x.2.2.1 x.2.2.2.1 x.2.2.2.2.1 x.2.2.2.2.2.1 x.2.2.2.2.2.2⟩
theorem ydT:SCok Tryz.prog tabs 174 (zwC o):=zbC (o:=o) (η:=[(200002,.loop [] ⟨[(2,(.fn 246 [] [(.ptr 0 0)])),(11,hI)],[ztK,zjS,zaE,zaF,zaD,zaC,qaW]⟩ [0,1,9,10] [(some 1000000,⟨[(6,hB)],[ztK,zjS,zaE,zaF,zaD,zaC,qaW]⟩),(some 0,⟨[],[ztK,zjS,zaE,zaF,zaD,zaC,qaW]⟩)])]) (Γ:=⟨[],[(246,(zgQ o))],false,[]⟩) (ctok trivial ⟨zkS,trivial⟩) Tryz.func174
def zlB(_o:Ops)(v0:Bs)(v1:qcW):Option ((Bool×qcW)):=
 let _v2:List Bs:=zcD keqS v1 v0 ([]:List Bs)
 some (mhas keqS v1 v0,v1)
abbrev qaV:OSh:=.mp true .s (.sl .s)
def zjZ(o:Ops):SC:=⟨⟨[(0,hS),(1,(.ptr 0 0))],[ykT,qaV]⟩,1,[(none,⟨[(0,hB)],[ykT,qaV]⟩)],fun x=>zlB o x.1 x.2⟩
theorem zsZ:SCok Tryz.prog tabs 247 (zjZ o):=zbC (o:=o) (η:=[]) (Γ:=⟨[],[],false,[]⟩) (ctok trivial trivial) Tryz.func247
def zzM(o:Ops)(v0:List Bs)(v2:Int)(v3:qcW):Option ((Int×qcW)⊕((Int×qcW)⊕qcW)):=
 bif decide (v2<(v0.length:Int))then((idx v0 v2).bind fun v4=>(zlB o v4 v3).bind fun v5=>bif v5.1 then some (.inr (.inl (v2,v5.2)))else some (.inl (w64 (v2+1),v5.2)))else some (.inr (.inr v3))
def zrZ(o:Ops)(v0:List Bs)(v1:qcW):Option ((Int×qcW)):=
 (iter (fun x=>zzM o v0 x.1 x.2) ((0:Int),v1)).bind fun v6=>match v6 with
 |.inl v7=>some v7
 |.inr v8=>some ((-1:Int),v8)
def zqM(o:Ops):SC:=⟨⟨[(0,(.h (.sl .s))),(1,(.fn 247 [] [(.ptr 0 0)]))],[ykT,qaV]⟩,1,[(none,⟨[(0,hI)],[ykT,qaV]⟩)],fun x=>zrZ o x.1 x.2⟩
theorem zzJ:SCok Tryz.prog tabs 212 (zqM o):=zbC (o:=o) (η:=[(200002,.loop [] ⟨[(1,(.fn 247 [] [(.ptr 0 0)])),(8,hI)],[ykT,qaV]⟩ [0,7] [(some 1000000,⟨[(4,hI)],[ykT,qaV]⟩),(some 0,⟨[],[ykT,qaV]⟩)])]) (Γ:=⟨[],[(247,(zjZ o))],false,[]⟩) (ctok trivial ⟨zsZ,trivial⟩) Tryz.func212
def znO(o:Ops)(v0:List Bs)(v1:qcW):Option ((Bool×qcW)):=
 (zrZ o v0 v1).bind fun v2=>some (decide (v2.1≥0),v2.2)
def zlU(o:Ops):SC:=⟨⟨[(0,(.h (.sl .s))),(1,(.fn 247 [] [(.ptr 0 0)]))],[ykT,qaV]⟩,1,[(none,⟨[(0,hB)],[ykT,qaV]⟩)],fun x=>znO o x.1 x.2⟩
theorem zvS:SCok Tryz.prog tabs 129 (zlU o):=zbC (o:=o) (η:=[]) (Γ:=⟨[],[(212,(zqM o))],false,[]⟩) (ctok trivial ⟨zzJ,trivial⟩) Tryz.func129
noncomputable def zvX(_o:Ops)(v5:qbY)(v6:qbX)(v7:qbZ)(v8:qbW)(v9:List ((Bs×Bs)×Unit))(v10:List Bs)(v11:qcW):List (Option ((qbY×qbX×qbZ×qbW×(List ((Bs×Bs)×Unit))×(List Bs)×qcW)⊕((qbY×qbX×qbZ×qbW×(List ((Bs×Bs)×Unit))×qcW)))):=
 rngL (rngC keqS v6 v10) (some (.inr (v5,v6,v7,v8,v9,v11))) fun v12=>(mget keqS v6 v12.1).bind fun v13=>let v14:qcW:=mset keqS kltS v11 v12.1 v13.1.2.1
 some (.inl (v5,v6,v7,v8,v9,rngD keqS v10 v12.1,v14))
noncomputable def zvE(_o:Ops)(v16:Bool)(v17:qbY)(v18:qbX)(v19:qbZ)(v20:qbW)(v21:List ((Bs×Bs)×Unit))(v22:qcW):Option (((Bool×qbY×qbX×qbZ×qbW×(List ((Bs×Bs)×Unit))×qcW)⊕(Bool×qbY×qbX×qbZ×qbW×(List ((Bs×Bs)×Unit))×(List Bs)×qcW))⊕((qbY×qbX×qbZ×qbW×(List ((Bs×Bs)×Unit))×qcW))):=
 bif v16 then some (.inl (.inr (false,v17,v18,v19,v20,v21,List.map Prod.fst v22,v22)))else some (.inr (v17,v18,v19,v20,v21,v22))
noncomputable def zuO(o:Ops)(v23:Bool)(v24:qbY)(v25:qbX)(v26:qbZ)(v27:qbW)(v28:List ((Bs×Bs)×Unit))(v29:List Bs)(v30:qcW):List (Option (((Bool×qbY×qbX×qbZ×qbW×(List ((Bs×Bs)×Unit))×qcW)⊕(Bool×qbY×qbX×qbZ×qbW×(List ((Bs×Bs)×Unit))×(List Bs)×qcW))⊕((qbY×qbX×qbZ×qbW×(List ((Bs×Bs)×Unit))×qcW)))):=
 rngL (rngC keqS v30 v29) (some (.inl (.inl (v23,v24,v25,v26,v27,v28,v30)))) fun v31=>(mget keqS v30 v31.1).bind fun v32=>(znO o v32 v30).bind fun v33=>bif(!v33.1)then some (.inl (.inr (true,v24,v25,v26,v27,v28,rngD keqS v29 v31.1,mdel keqS v33.2 v31.1)))else some (.inl (.inr (v23,v24,v25,v26,v27,v28,rngD keqS v29 v31.1,v33.2)))
noncomputable def zuZ(o:Ops):(Bool×qbY×qbX×qbZ×qbW×(List ((Bs×Bs)×Unit))×qcW)⊕(Bool×qbY×qbX×qbZ×qbW×(List ((Bs×Bs)×Unit))×(List Bs)×qcW)->List (Option (((Bool×qbY×qbX×qbZ×qbW×(List ((Bs×Bs)×Unit))×qcW)⊕(Bool×qbY×qbX×qbZ×qbW×(List ((Bs×Bs)×Unit))×(List Bs)×qcW))⊕((qbY×qbX×qbZ×qbW×(List ((Bs×Bs)×Unit))×qcW))))
 |.inl x=>[zvE o x.1 x.2.1 x.2.2.1 x.2.2.2.1 x.2.2.2.2.1 x.2.2.2.2.2.1 x.2.2.2.2.2.2]
 |.inr x=>zuO o x.1 x.2.1 x.2.2.1 x.2.2.2.1 x.2.2.2.2.1 x.2.2.2.2.2.1 x.2.2.2.2.2.2.1 x.2.2.2.2.2.2.2
noncomputable def zcU(o:Ops)(v0:qbY)(v1:qbX)(v2:qbZ)(v3:qbW)(v4:List ((Bs×Bs)×Unit)):Option ((Bool×zbA)):=
 (rngA (fun x=>zvX o x.1 x.2.1 x.2.2.1 x.2.2.2.1 x.2.2.2.2.1 x.2.2.2.2.2.1 x.2.2.2.2.2.2) (v0,v1,v2,v3,v4,List.map Prod.fst v1,([]:qcW))).bind fun v15=>(rngA (zuZ o) (Sum.inl (true,v15))).bind fun v34=>some (((v34.2.2.2.2.2.length:Int)==0),v34.1,v34.2.1,v34.2.2.1,v34.2.2.2.1,v34.2.2.2.2.1)
noncomputable def zmS(o:Ops):SC:=⟨⟨[(0,(.ptr 0 0))],[zaU,zaE,zaF,zaD,zaC,qaW]⟩,1,[(none,⟨[(0,hB)],[zaU,zaE,zaF,zaD,zaC,qaW]⟩)],fun x=>zcU o x.1 x.2.1 x.2.2.1 x.2.2.2.1 x.2.2.2.2⟩
theorem zvV:SCok Tryz.prog tabs 175 (zmS o):=witO (G:=tabs) (o:=o)<|fn_nc (H:=⟨[false,false,false,true,false],[],⟨[(3,(.ptr 6 0)),(6,hB)],[zaU,zaE,zaF,zaD,zaC,qaW,QWkF9,qaV]⟩,[2],[(some 2,⟨[(3,(.ptr 6 0))],[zaU,zaE,zaF,zaD,zaC,qaW,QWkF9,qaV]⟩)],[false,false,false],⟨[(3,(.ptr 6 0)),(6,hB),(27,(.ptr 7 0))],[zaU,zaE,zaF,zaD,zaC,qaW,.blk 237 [(.mpr 8)],.it 8 true .s,qaV]⟩,[2]⟩) (η:=[(200003,.rng [] ⟨[(3,(.ptr 6 0)),(14,(.ptr 7 0))],[zaU,zaE,zaF,zaD,zaC,qaW,.blk 237 [(.mpr 8)],.it 2 true .s,qaV]⟩ [2] [(some 0,⟨[(3,(.ptr 6 0))],[zaU,zaE,zaF,zaD,zaC,qaW,QWkF9,qaV]⟩)])]) (Γ:=⟨[],[(129,(zlU o))],false,[]⟩) ydR τ_okWkF (ctok trivial ⟨zvS,trivial⟩) Tryz.func175 (isFn Tryz.func175) (by kernel_rfl) (by kernel_rfl) (by kernel_rfl)
noncomputable def znK(_o:Ops)(v0:qbY)(v1:qbX)(v2:qbZ)(v3:qbW)(v4:List ((Bs×Bs)×Unit)):Option ((Bool×zbA)⊕zbA):=
 bif decide ((v0.length:Int)>64)then some (.inl (false,v0,v1,v2,v3,v4))else(bif decide ((v1.length:Int)>32)then some (.inl (false,v0,v1,v2,v3,v4))else(bif decide ((v2.length:Int)>32)then some (.inl (false,v0,v1,v2,v3,v4))else(bif decide ((v3.length:Int)>32)then some (.inl (false,v0,v1,v2,v3,v4))else(bif decide ((v4.length:Int)>64)then some (.inl (false,v0,v1,v2,v3,v4))else some (.inr (v0,v1,v2,v3,v4))))))
noncomputable def zwW(_o:Ops)(v17:Int)(v18:qbY)(v19:qbX)(v20:qbZ)(v21:qbW)(v22:List ((Bs×Bs)×Unit))(v23:List Bs)(v24:List Bs)(v25:List Bs)(v26:Int)(v27:List Bs):Option ((qbY×qbX×qbZ×qbW×(List ((Bs×Bs)×Unit))×(List Bs)×(List Bs)×(List Bs)×Int×List Bs)⊕(qbY×qbX×qbZ×qbW×(List ((Bs×Bs)×Unit))×(List Bs)×(List Bs)×(List Bs)×Int×List Bs)⊕(qbY×qbX×qbZ×qbW×(List ((Bs×Bs)×Unit))×(List Bs)×(List Bs)×(List Bs)×Int×List Bs)):=
 bif decide (v17=(0:Int))then some (.inl (v18,v19,v20,v21,v22,v23,v24,v25,v26,v27))else(bif decide (v17=(1:Int))then some (.inr (.inl (v18,v19,v20,v21,v22,v23,v24,v25,v26,v27)))else(bif decide (v17=(2:Int))then some (.inr (.inr (v18,v19,v20,v21,v22,v23,v24,v25,v26,v27)))else none))
noncomputable def zxA(o:Ops)(v17:Int)(v18:qbY)(v19:qbX)(v20:qbZ)(v21:qbW)(v22:List ((Bs×Bs)×Unit))(v23:List Bs)(v24:List Bs)(v25:List Bs)(v26:Int)(v27:List Bs):Option ((Int×qbY×qbX×qbZ×qbW×(List ((Bs×Bs)×Unit))×(List Bs)×(List Bs)×(List Bs)×Int×List Bs)⊕((Bool×zbA)⊕(qbY×qbX×qbZ×qbW×(List ((Bs×Bs)×Unit))×List Bs))):=
 bif decide (v17<3)then((zwW o v17 v18 v19 v20 v21 v22 v23 v24 v25 v26 v27).bind fun v28=>match v28 with
 |.inl v29=>((zxK o v29.2.2.2.2.2.1 (v29.2.2.2.2.2.1.length:Int) v29.1 v29.2.1 v29.2.2.1 v29.2.2.2.1 v29.2.2.2.2.1).bind fun v31=>bif(!v31.1)then some (.inr (.inl (false,v31.2)))else some (.inl (w64 (v17+1),v31.2.1,v31.2.2.1,v31.2.2.2.1,v31.2.2.2.2.1,v31.2.2.2.2.2,v29.2.2.2.2.2)))
 |.inr v30=>(match v30 with
 |.inl v32=>((zyO o v32.2.2.2.2.2.2.1 (v32.2.2.2.2.2.2.1.length:Int) v32.1 v32.2.1 v32.2.2.1 v32.2.2.2.1 v32.2.2.2.2.1).bind fun v34=>bif(!v34.1)then some (.inr (.inl (false,v34.2)))else some (.inl (w64 (v17+1),v34.2.1,v34.2.2.1,v34.2.2.2.1,v34.2.2.2.2.1,v34.2.2.2.2.2,v32.2.2.2.2.2)))
 |.inr v33=>((zyA o v33.2.2.2.2.2.2.2.1 (v33.2.2.2.2.2.2.2.1.length:Int) v33.1 v33.2.1 v33.2.2.1 v33.2.2.2.1 v33.2.2.2.2.1).bind fun v35=>bif(!v35.1)then some (.inr (.inl (false,v35.2)))else some (.inl (w64 (v17+1),v35.2.1,v35.2.2.1,v35.2.2.2.1,v35.2.2.2.2.1,v35.2.2.2.2.2,v33.2.2.2.2.2)))))else some (.inr (.inr (v18,v19,v20,v21,v22,v27)))
noncomputable def zxB(o:Ops)(v8:qbY)(v9:qbX)(v10:qbZ)(v11:qbW)(v12:List ((Bs×Bs)×Unit))(v13:List Bs):List (Option ((qbY×qbX×qbZ×qbW×(List ((Bs×Bs)×Unit))×List Bs)⊕(zbA⊕(Bool×zbA)))):=
 rngL (rngC keqS v9 v13) (some (.inr (.inl (v8,v9,v10,v11,v12)))) fun v14=>(mget keqS v9 v14.1).bind fun v15=>(zaP o v8 v9 v10 v11 v12).bind fun v16=>(iter (fun x=>zxA o x.1 x.2.1 x.2.2.1 x.2.2.2.1 x.2.2.2.2.1 x.2.2.2.2.2.1 x.2.2.2.2.2.2.1 x.2.2.2.2.2.2.2.1 x.2.2.2.2.2.2.2.2.1 x.2.2.2.2.2.2.2.2.2.1 x.2.2.2.2.2.2.2.2.2.2) ((0:Int),v16.1,v16.2.1,v16.2.2.1,v16.2.2.2.1,v16.2.2.2.2,v15.1.1,v15.1.2.1,v15.1.2.2,v15.2,rngD keqS v13 v14.1)).bind fun v36=>match v36 with
 |.inl v37=>some (.inr (.inr v37))
 |.inr v38=>some (.inl v38)
noncomputable def zwU(o:Ops)(v42:qbY)(v43:qbX)(v44:qbZ)(v45:qbW)(v46:List ((Bs×Bs)×Unit))(v47:List (Bs×Bs)):List (Option ((qbY×qbX×qbZ×qbW×(List ((Bs×Bs)×Unit))×List (Bs×Bs))⊕(zbA⊕(Bool×zbA)))):=
 rngL (rngC (keq (.pr .s .s)) v46 v47) (some (.inr (.inl (v42,v43,v44,v45,v46)))) fun v48=>(mget (keq (.pr .s .s)) v46 v48.1).bind fun _v49=>(zbM o v48.1.1 v42 v43 v44 v45 v46).bind fun v50=>bif(!v50.1)then some (.inr (.inr (false,v50.2)))else((zbM o v48.1.2 v50.2.1 v50.2.2.1 v50.2.2.2.1 v50.2.2.2.2.1 v50.2.2.2.2.2).bind fun v51=>bif(!v51.1)then some (.inr (.inr (false,v51.2)))else some (.inl (v51.2.1,v51.2.2.1,v51.2.2.2.1,v51.2.2.2.2.1,v51.2.2.2.2.2,rngD (keq (.pr .s .s)) v47 v48.1)))
noncomputable def zdI(o:Ops)(v0:qbY)(v1:qbX)(v2:qbZ)(v3:qbW)(v4:List ((Bs×Bs)×Unit)):Option ((Bool×zbA)):=
 (znK o v0 v1 v2 v3 v4).bind fun v5=>match v5 with
 |.inl v6=>some v6
 |.inr v7=>((rngA (fun x=>zxB o x.1 x.2.1 x.2.2.1 x.2.2.2.1 x.2.2.2.2.1 x.2.2.2.2.2) (v7.1,v7.2.1,v7.2.2.1,v7.2.2.2.1,v7.2.2.2.2,List.map Prod.fst v7.2.1)).bind fun v39=>match v39 with
 |.inl v40=>((rngA (fun x=>zwU o x.1 x.2.1 x.2.2.1 x.2.2.2.1 x.2.2.2.2.1 x.2.2.2.2.2) (v40.1,v40.2.1,v40.2.2.1,v40.2.2.2.1,v40.2.2.2.2,List.map Prod.fst v40.2.2.2.2)).bind fun v52=>match v52 with
 |.inl v53=>((zcU o v53.1 v53.2.1 v53.2.2.1 v53.2.2.2.1 v53.2.2.2.2).bind fun v55=>some v55)
 |.inr v54=>some v54)
 |.inr v41=>some v41)
noncomputable def zoH(o:Ops):SC:=⟨⟨[(0,(.ptr 0 0))],[zaU,zaE,zaF,zaD,zaC,qaW]⟩,1,[(none,⟨[(0,hB)],[zaU,zaE,zaF,zaD,zaC,qaW]⟩)],fun x=>zdI o x.1 x.2.1 x.2.2.1 x.2.2.2.1 x.2.2.2.2⟩
theorem zwZ:SCok Tryz.prog tabs 76 (zoH o):=zbC (o:=o) (η:=[(2000003,.join [] [] [(some 1000000,⟨[(2,hB)],[zaU,zaE,zaF,zaD,zaC,qaW]⟩),(none,⟨[(0,(.ptr 0 0))],[zaU,zaE,zaF,zaD,zaC,qaW]⟩)]),
 (2000009,.join [] [57] [(none,⟨[(0,(.ptr 0 0)),(4,(.ptr 6 0)),(6,(.ptr 7 0)),(50,(.ptr 8 0)),(56,(.ag [(.kn .i64 0),(.fn 244 [] [(.ptr 9 0)]),(.kn .i64 1),(.fn 245 [] [(.ptr 9 0)]),(.kn .i64 2),(.fn 246 [] [(.ptr 9 0)])]))],[zaU,zaE,zaF,zaD,zaC,qaW,zwP,.blk 187 [(.kn .i64 0),(.fn 244 [] [(.ptr 9 0)])],.it 2 true .s,zyP]⟩),(none,⟨[(0,(.ptr 0 0)),(4,(.ptr 6 0)),(6,(.ptr 7 0)),(50,(.ptr 8 0)),(56,(.ag [(.kn .i64 0),(.fn 244 [] [(.ptr 9 0)]),(.kn .i64 1),(.fn 245 [] [(.ptr 9 0)]),(.kn .i64 2),(.fn 246 [] [(.ptr 9 0)])]))],[zaU,zaE,zaF,zaD,zaC,qaW,zwP,.blk 187 [(.kn .i64 1),(.fn 245 [] [(.ptr 9 0)])],.it 2 true .s,zyP]⟩),(none,⟨[(0,(.ptr 0 0)),(4,(.ptr 6 0)),(6,(.ptr 7 0)),(50,(.ptr 8 0)),(56,(.ag [(.kn .i64 0),(.fn 244 [] [(.ptr 9 0)]),(.kn .i64 1),(.fn 245 [] [(.ptr 9 0)]),(.kn .i64 2),(.fn 246 [] [(.ptr 9 0)])]))],[zaU,zaE,zaF,zaD,zaC,qaW,zwP,.blk 187 [(.kn .i64 2),(.fn 246 [] [(.ptr 9 0)])],.it 2 true .s,zyP]⟩)]),
 (200007,.loop [] ⟨[(0,(.ptr 0 0)),(4,(.ptr 6 0)),(50,(.ptr 7 0)),(56,(.ag [(.kn .i64 0),(.fn 244 [] [(.ptr 8 0)]),(.kn .i64 1),(.fn 245 [] [(.ptr 8 0)]),(.kn .i64 2),(.fn 246 [] [(.ptr 8 0)])])),(57,hI)],[zaU,zaE,zaF,zaD,zaC,qaW,zwP,.it 2 true .s,zyP]⟩ [] [(some 1000000,⟨[(2,hB)],[zaU,zaE,zaF,zaD,zaC,qaW]⟩),(some 2,⟨[(0,(.ptr 0 0)),(50,(.ptr 6 0))],[zaU,zaE,zaF,zaD,zaC,qaW,.it 2 true .s]⟩)]),
 (200004,.rng [] ⟨[(0,(.ptr 0 0)),(50,(.ptr 6 0))],[zaU,zaE,zaF,zaD,zaC,qaW,.it 2 true .s]⟩ [] [(some 0,⟨[(0,(.ptr 0 0))],[zaU,zaE,zaF,zaD,zaC,qaW]⟩),(some 1000000,⟨[(2,hB)],[zaU,zaE,zaF,zaD,zaC,qaW]⟩)]),
 (200013,.rng [] ⟨[(0,(.ptr 0 0)),(80,(.ptr 6 0))],[zaU,zaE,zaF,zaD,zaC,qaW,.it 5 true (.pr .s .s)]⟩ [] [(some 4,⟨[(0,(.ptr 0 0))],[zaU,zaE,zaF,zaD,zaC,qaW]⟩),(some 1000000,⟨[(2,hB)],[zaU,zaE,zaF,zaD,zaC,qaW]⟩)]),
 (4000009,.sch [(.pu,0,[]),(.pu,1,[]),(.pu,2,[]),(.pu,3,[]),(.pu,4,[]),(.pu,5,[]),(.pu,6,[]),(.pu,7,[]),(.pu,8,[]),(.pu,9,[]),(.pu,10,[]),(.pu,11,[]),(.pu,12,[]),(.mn,13,[0,1,2,3,4,5,9]),(.pu,14,[])])]) (Γ:=⟨[],[(173,(zbJ o)),(174,(zwI o)),(174,(zwF o)),(174,(zwC o)),(128,(zfD o)),(175,(zmS o))],false,[]⟩) (ctok trivial ⟨zbT,⟨ydZ,⟨yeC,⟨ydT,⟨zhK,⟨zvV,trivial⟩⟩⟩⟩⟩⟩) Tryz.func76
noncomputable def zzQ(o:Ops)(v0:List (Bs×Bs))(v2:Int)(v3:qbY)(v4:qbX)(v5:qbZ)(v6:qbW)(v7:List ((Bs×Bs)×Unit)):Option ((Int×zbA)⊕(Int⊕zbA)):=
 bif decide (v2<(v0.length:Int))then((idx v0 v2).bind fun v8=>bif decide (v2>0)then((idx v0 (w64 (v2-1))).bind fun v9=>bif(Op.bytesLess v8.1 v9.1||v8.1==v9.1)then some (.inr (.inl (125:Int)))else((zgO o v8 v3 v4 v5 v6 v7).bind fun v10=>bif(!v10.1)then some (.inr (.inl (125:Int)))else some (.inl (w64 (v2+1),v10.2))))else((zgO o v8 v3 v4 v5 v6 v7).bind fun v11=>bif(!v11.1)then some (.inr (.inl (125:Int)))else some (.inl (w64 (v2+1),v11.2))))else some (.inr (.inr (v3,v4,v5,v6,v7)))
noncomputable def zmG(o:Ops)(v0:List (Bs×Bs)):Option (Int⊕(Int×zbA)):=
 (ziR o).bind fun v1=>(iter (fun x=>zzQ o v0 x.1 x.2.1 x.2.2.1 x.2.2.2.1 x.2.2.2.2.1 x.2.2.2.2.2) ((0:Int),v1)).bind fun v12=>match v12 with
 |.inl v13=>some (.inl v13)
 |.inr v14=>((zdI o v14.1 v14.2.1 v14.2.2.1 v14.2.2.2.1 v14.2.2.2.2).bind fun v15=>bif(!v15.1)then some (.inl (125:Int))else some (.inr ((0:Int),v15.2)))
noncomputable def zzS(o:Ops):SC:=⟨⟨[(0,(.h (.sl (.pr .s .s))))],[]⟩,2,[(none,⟨[(0,.nilp),(1,hI)],[]⟩),(none,⟨[(0,(.ptr 0 0)),(1,hI)],[zaU,zaE,zaF,zaD,zaC,qaW]⟩)],fun x=>zmG o x⟩
theorem yhS:SCok Tryz.prog tabs 25 (zzS o):=zbC (o:=o) (η:=[(200003,.loop [] ⟨[(4,(.ptr 0 0)),(10,hI)],[zaU,zaE,zaF,zaD,zaC,qaW]⟩ [0,8,9] [(some 1000000,⟨[(2,.nilp),(3,hI)],[]⟩),(some 0,⟨[(4,(.ptr 0 0))],[zaU,zaE,zaF,zaD,zaC,qaW]⟩)]),
 (4000005,.sch [(.pu,0,[]),(.pu,1,[]),(.pu,2,[]),(.pu,3,[]),(.pu,4,[]),(.pu,5,[]),(.pu,6,[]),(.pu,7,[]),(.pu,8,[]),(.pu,9,[]),(.pu,10,[]),(.pu,11,[]),(.pu,12,[]),(.pu,13,[]),(.pu,14,[]),(.pu,15,[]),(.mn,16,[0,1,2,3,4,5]),(.pu,17,[]),(.pu,18,[])])]) (Γ:=⟨[],[(30,(zqX o)),(75,(zjW o)),(76,(zoH o))],false,[]⟩) (ctok trivial ⟨zvO,⟨zsS,⟨zwZ,trivial⟩⟩⟩) Tryz.func25
noncomputable def zlR(o:Ops)(v0:zbA):Option (Bool⊕zbA):=
 (zbW o ([97,110,110]:Bs) ([97,64,120]:Bs) v0.1 v0.2.1 v0.2.2.1 v0.2.2.2.1 v0.2.2.2.2).bind fun v1=>bif(v1.1 != 0)then some (.inl false)else((zbW o ([97,110,110]:Bs) ([97,64,120]:Bs) v1.2.1 v1.2.2.1 v1.2.2.2.1 v1.2.2.2.2.1 v1.2.2.2.2.2).bind fun v2=>bif(v2.1 != 121)then some (.inl false)else((zbU o ([103]:Bs) v2.2.1 v2.2.2.1 v2.2.2.2.1 v2.2.2.2.2.1 v2.2.2.2.2.2).bind fun v3=>bif(v3.1 != 0)then some (.inl false)else((zbU o ([104]:Bs) v3.2.1 v3.2.2.1 v3.2.2.2.1 v3.2.2.2.2.1 v3.2.2.2.2.2).bind fun v4=>bif(v4.1 != 0)then some (.inl false)else((zdX o ([103]:Bs) ([104]:Bs) v4.2.1 v4.2.2.1 v4.2.2.2.1 v4.2.2.2.2.1 v4.2.2.2.2.2).bind fun v5=>bif(v5.1 != 0)then some (.inl false)else((zdX o ([104]:Bs) ([103]:Bs) v5.2.1 v5.2.2.1 v5.2.2.2.1 v5.2.2.2.2.1 v5.2.2.2.2.2).bind fun v6=>bif(v6.1 != 123)then some (.inl false)else((zgD o ([104]:Bs) ([97,110,110]:Bs) v6.2.1 v6.2.2.1 v6.2.2.2.1 v6.2.2.2.2.1 v6.2.2.2.2.2).bind fun v7=>bif(v7.1 != 0)then some (.inl false)else some (.inr v7.2)))))))
noncomputable def zhD(o:Ops)(v10:zbA):Option (Bool⊕zbA):=
 (zcI o (([114]:Bs),([([114,101,97,100]:Bs)]:List Bs)) v10.1 v10.2.1 v10.2.2.1 v10.2.2.2.1 v10.2.2.2.2).bind fun v11=>bif(v11.1 != 0)then some (.inl false)else((zgB o ([103]:Bs) ([114]:Bs) v11.2.1 v11.2.2.1 v11.2.2.2.1 v11.2.2.2.2.1 v11.2.2.2.2.2).bind fun v12=>bif(v12.1 != 0)then some (.inl false)else((znZ o ([117,58,97,110,110]:Bs) v12.2.1 v12.2.2.1 v12.2.2.2.1 v12.2.2.2.2.1 v12.2.2.2.2.2).bind fun v13=>bif(!v13.1)then some (.inl false)else some (.inr v13.2)))
noncomputable def zhV(o:Ops):Option (Bool):=
 (ziR o).bind fun v0=>(zlR o v0).bind fun v8=>match v8 with
 |.inl v9=>(some v9)
 |.inr v10=>((zhD o v10).bind fun v14=>match v14 with
 |.inl v15=>(some v15)
 |.inr v16=>((zcB o ([97,110,110]:Bs) v16.1 v16.2.1 v16.2.2.1 v16.2.2.2.1 v16.2.2.2.2).bind fun v17=>(zbF o ([97,110,110]:Bs) v17.2.1 v17.2.2.1 v17.2.2.2.1 v17.2.2.2.2.1 v17.2.2.2.2.2).bind fun v18=>(zbS o v18.2.1 v18.2.2.1 v18.2.2.2.1 v18.2.2.2.2.1 v18.2.2.2.2.2).bind fun v19=>(zmG o v19.1).bind fun v20=>match v20 with
 |.inl _v21=>(bif((v17.1.length:Int)==2)then((idx v17.1 (0:Int)).bind fun v23=>bif(v23==([103]:Bs))then(bif((v18.1.length:Int)==1)then((idx v18.1 (0:Int)).bind fun v24=>bif(v24==([114,101,97,100]:Bs))then(bif((v19.1.length:Int)==4)then((idx v19.1 (1:Int)).bind fun v25=>let v26:Bool:=((v25.1==([103,114,111,117,112,47,104]:Bs))&&(v25.2==([49,58,50,49,58,49,51,58,97,110,110,49,58,48,49,58,48]:Bs)))
 bif v26 then(some false)else(some false))else(some false))else(some false))else(some false))else(some false))else(some false))
 |.inr v22=>(bif((v17.1.length:Int)==2)then((idx v17.1 (0:Int)).bind fun v27=>bif(v27==([103]:Bs))then(bif((v18.1.length:Int)==1)then((idx v18.1 (0:Int)).bind fun v28=>bif(v28==([114,101,97,100]:Bs))then(bif((v19.1.length:Int)==4)then((idx v19.1 (1:Int)).bind fun v29=>let v30:Bool:=((v29.1==([103,114,111,117,112,47,104]:Bs))&&(v29.2==([49,58,50,49,58,49,51,58,97,110,110,49,58,48,49,58,48]:Bs)))
 bif v30 then(bif(v22.1==0)then((o.form ([([97,98]:Bs),([]:Bs)]:List Bs)).bind fun v31=>some (v31==([50,58,97,98,48,58]:Bs)))else(some false))else(some false))else(some false))else(some false))else(some false))else(some false))else(some false))))
noncomputable def zmO(o:Ops):PC:=⟨[],[.b],fun _=>zhV o,false⟩
theorem zuT:PCok Tryz.prog tabs 24 (zmO o):=zhE (o:=o) (η:=[(2000004,.join [] [] [(some 1000000,⟨[(0,hB)],[]⟩),(none,⟨[(1,(.ptr 0 0))],[zaU,zaE,zaF,zaD,zaC,qaW]⟩)]),
 (2000006,.join [] [] [(some 1000000,⟨[(0,hB)],[]⟩),(none,⟨[(1,(.ptr 0 0))],[zaU,zaE,zaF,zaD,zaC,qaW]⟩)])]) (Γ:=⟨[(22,(ygY o))],[(30,(zqX o)),(71,(zgM o)),(72,(zfU o)),(33,(ziL o)),(73,(ziZ o)),(36,(zgJ o)),(74,(ziD o)),(49,(zmA o)),(50,(zkP o)),(34,(zhL o)),(29,(ziQ o)),(25,(zzS o))],false,[]⟩) (ctok ⟨(zqV.form (G:=tabs)),trivial⟩ ⟨zvO,⟨zlI,⟨zjY,⟨zpF,⟨zpQ,⟨zkY,⟨zpN,⟨zuS,⟨zrK,⟨znE,⟨zpB,⟨yhS,trivial⟩⟩⟩⟩⟩⟩⟩⟩⟩⟩⟩⟩) Tryz.func24
end
end Go.Proofs.YtopanhneegpgcaaGreatDoor.Am
