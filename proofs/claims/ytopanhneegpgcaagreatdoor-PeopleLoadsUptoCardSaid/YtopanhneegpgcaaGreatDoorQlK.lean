/- Parts of one proof. Conditions: as each theorem says. -/
import Derived.KernelRfl
import Derived.Test.YtopanhneegpgcaaGreatDoorQlJ
open List renaming map->cU
open Go.Proofs.Tryz renaming prog->aA
namespace Go.Proofs.YtopanhneegpgcaaGreatDoor.Am
open Go Go.RowKit
def τWkF:TE:=[(3,⟨.int .i64,1,[.v (.i .i64) (show Int from 0)],(.i .i64),8⟩),
 (4,⟨.b,1,[.v .b (show Bool from false)],.b,1⟩),
 (9,⟨.s,1,[.v .s (show Bs from [])],.s,16⟩),
 (22,⟨.sl 9,1,[.nils],(.sl .s),24⟩),
 (25,⟨.fn,1,[.nilf],.un,8⟩),
 (31,⟨.sl 33,1,[.nils],(.sl (.pr .s .s)),24⟩),
 (33,⟨.st [(9,0),(9,1)],2,[.v .s (show Bs from []),.v .s (show Bs from [])],(.pr .s .s),32⟩),
 (34,⟨.pt 128,1,[.nilp],.un,8⟩),
 (49,⟨.st [(9,0),(22,1)],2,[.v .s (show Bs from []),.nils],(.pr .s (.sl .s)),40⟩),
 (51,⟨.st [(9,0),(9,1),(22,2),(22,3),(4,4),(4,5),(4,6),(4,7)],8,[.v .s (show Bs from []),.v .s (show Bs from []),.nils,.nils,.v .b (show Bool from false),.v .b (show Bool from false),.v .b (show Bool from false),.v .b (show Bool from false)],(.pr .s (.pr .s (.pr (.sl .s) (.pr (.sl .s) (.pr .b (.pr .b (.pr .b .b))))))),88⟩),
 (54,⟨.sl 57,1,[.nils],(.sl (.pr .s (.pr (.sl .s) (.pr (.sl .s) (.pr (.sl .s) (.i .i64)))))),24⟩),
 (57,⟨.st [(9,0),(22,1),(22,2),(22,3),(3,4)],5,[.v .s (show Bs from []),.nils,.nils,.nils,.v (.i .i64) (show Int from 0)],(.pr .s (.pr (.sl .s) (.pr (.sl .s) (.pr (.sl .s) (.i .i64))))),96⟩),
 (64,⟨.sl 51,1,[.nils],(.sl (.pr .s (.pr .s (.pr (.sl .s) (.pr (.sl .s) (.pr .b (.pr .b (.pr .b .b)))))))),24⟩),
 (67,⟨.sl 77,1,[.nils],(.sl (.pr .s (.pr .s (.pr .b (.i .i64))))),24⟩),
 (69,⟨.sl 49,1,[.nils],(.sl (.pr .s (.sl .s))),24⟩),
 (72,⟨.sl 75,1,[.nils],(.sl (.pr .s .s)),24⟩),
 (75,⟨.st [(9,0),(9,1)],2,[.v .s (show Bs from []),.v .s (show Bs from [])],(.pr .s .s),32⟩),
 (77,⟨.st [(9,0),(9,1),(4,2),(3,3)],4,[.v .s (show Bs from []),.v .s (show Bs from []),.v .b (show Bool from false),.v (.i .i64) (show Int from 0)],(.pr .s (.pr .s (.pr .b (.i .i64)))),48⟩),
 (106,⟨.ifc,1,[.v .er (show Bool from false)],.er,16⟩),
 (122,⟨.map 9 77,1,[.nilm],(.mp .s (.pr .s (.pr .s (.pr .b (.i .i64))))),8⟩),
 (123,⟨.map 9 133,1,[.nilm],(.mp .s (.pr (.pr (.sl .s) (.pr (.sl .s) (.sl .s))) (.i .i64))),8⟩),
 (124,⟨.map 9 49,1,[.nilm],(.mp .s (.pr .s (.sl .s))),8⟩),
 (125,⟨.map 9 51,1,[.nilm],(.mp .s (.pr .s (.pr .s (.pr (.sl .s) (.pr (.sl .s) (.pr .b (.pr .b (.pr .b .b)))))))),8⟩),
 (126,⟨.map 75 157,1,[.nilm],(.mp (.pr .s .s) .un),8⟩),
 (128,⟨.st [(122,0),(123,1),(124,2),(125,3),(126,4)],5,[.nilm,.nilm,.nilm,.nilm,.nilm],(.pr (.mp .s (.pr .s (.pr .s (.pr .b (.i .i64))))) (.pr (.mp .s (.pr (.pr (.sl .s) (.pr (.sl .s) (.sl .s))) (.i .i64))) (.pr (.mp .s (.pr .s (.sl .s))) (.pr (.mp .s (.pr .s (.pr .s (.pr (.sl .s) (.pr (.sl .s) (.pr .b (.pr .b (.pr .b .b)))))))) (.mp (.pr .s .s) .un))))),40⟩),
 (131,⟨.ar 3 22,3,[.nils,.nils,.nils],(.pr (.sl .s) (.pr (.sl .s) (.sl .s))),72⟩),
 (133,⟨.st [(131,0),(3,3)],4,[.nils,.nils,.nils,.v (.i .i64) (show Int from 0)],(.pr (.pr (.sl .s) (.pr (.sl .s) (.sl .s))) (.i .i64)),80⟩),
 (157,⟨.st [],0,[],.un,0⟩),
 (160,⟨.map 9 157,1,[.nilm],(.mp .s .un),8⟩),
 (183,⟨.st [(22,0),(4,1)],2,[.nils,.v .b (show Bool from false)],(.pr (.sl .s) .b),32⟩),
 (187,⟨.st [(3,0),(25,1)],2,[.v (.i .i64) (show Int from 0),.nilf],.un,16⟩),
 (188,⟨.ar 3 187,6,[.v (.i .i64) (show Int from 0),.nilf,.v (.i .i64) (show Int from 0),.nilf,.v (.i .i64) (show Int from 0),.nilf],.un,48⟩),
 (197,⟨.sl 22,1,[.nils],(.sl (.sl .s)),24⟩),
 (201,⟨.int .u64,1,[.v (.i .u64) (show UInt64 from 0)],(.i .u64),8⟩),
 (237,⟨.map 9 22,1,[.nilm],(.mp .s (.sl .s)),8⟩)]
theorem τ_okWkF:TEok aA τWkF:=yrP (by kernel_rfl) (by kernel_rfl)
theorem yfB:Tryz.prog.follows .mixedOrders=true:=by kernel_rfl
theorem zbS {G : List (Nat × Obj)} {o : Ops} [zrD G] [zoW G o] {Γ : CT} {η : HT} {f : FuncId} {fn : Func} {c : SC} (hΓ : ∀ B, GB G B -> CTok aA Γ B) (hf : Tryz.prog.funcs[f]? = some fn) (i : (fn.name == "runtime.NumGoroutine") = false := by kernel_rfl) (j : fn.body.isNone = false := by kernel_rfl) (l : Nat.ble c.I.sl.length fn.ntmps = true := by kernel_rfl) (r : Nat.beq fn.results.toList.length c.nr = true := by kernel_rfl) (e : fnS τWkF Γ η fn c.I c.outs = c.p := by kernel_rfl) : SCok aA G f c := witO (G := G) (o := o) <| xbF yfB τ_okWkF hΓ hf (isFn hf i j) l r e
theorem zkL {G : List (Nat × Obj)} {o : Ops} [zrD G] [zoW G o] {Γ : CT} {η : HT} {f : FuncId} {fn : Func} {c : PC} (hΓ : ∀ B, GB G B -> CTok aA Γ B) (hf : Tryz.prog.funcs[f]? = some fn) (i : (fn.name == "runtime.NumGoroutine") = false := by kernel_rfl) (j : fn.body.isNone = false := by kernel_rfl) (l : Nat.ble c.ash.length fn.ntmps = true := by kernel_rfl) (r : c.cl = false := by kernel_rfl) (e : fnP τWkF Γ η fn c.ash c.rts = c.p := by kernel_rfl) : PCok aA G f c := witO (G := G) (o := o) <| yyR yfB τ_okWkF hΓ hf (isFn hf i j) l r e
abbrev yeJ:Type:=(List Bs)×Bool
abbrev zgA:Type:=Bs×List Bs
abbrev qcY:Type:=List zgA
abbrev yeK:Ty:=.pr .s (.sl .s)
abbrev zyI:Type:=Bs×Bs×Bool×Int
abbrev ylV:Ty:=.pr .s (.pr .s (.pr .b (.i .i64)))
abbrev zaI:Type:=Bs×zgA
abbrev qbX:Type:=List zaI
abbrev zaJ:Type:=Bs×zyI
abbrev qaV:Type:=List zaJ
abbrev yaY:Type:=((List Bs)×(List Bs)×List Bs)×Int
abbrev ywS:Ty:=.pr (.pr (.sl .s) (.pr (.sl .s) (.sl .s))) (.i .i64)
abbrev yjX:Type:=Bs×(List Bs)×(List Bs)×(List Bs)×Int
abbrev yxB:Ty:=.pr .s (.pr (.sl .s) (.pr (.sl .s) (.pr (.sl .s) (.i .i64))))
abbrev zaH:Type:=Bs×yaY
abbrev qaW:Type:=List zaH
abbrev zvT:Type:=Bs×Bs×(List Bs)×(List Bs)×Bool×Bool×Bool×Bool
abbrev yeM:Ty:=.pr .s (.pr .s (.pr (.sl .s) (.pr (.sl .s) (.pr .b (.pr .b (.pr .b .b))))))
abbrev zaK:Type:=Bs×zvT
abbrev qbY:Type:=List zaK
abbrev zbO:Type:=(List (Bs×zyI))×(List (Bs×yaY))×(List (Bs×zgA))×(List (Bs×zvT))×List ((Bs×Bs)×Unit)
abbrev zbC:OSh:=.blk 128 [(.mpr 1),(.mpr 2),(.mpr 3),(.mpr 4),(.mpr 5)]
abbrev zmQ:OSh:=.blk 128 [(.mpr 2),(.mpr 3),(.mpr 4),(.mpr 5),(.mpr 6)]
abbrev zxU:OSh:=.blk 133 [(.h (.sl .s)),(.h (.sl .s)),(.h (.sl .s)),hI]
abbrev ywY:OSh:=.blk 133 [.nils,.nils,.nils,hI]
abbrev ycA:OSh:=.blk 183 [(.h (.sl .s)),hB]
abbrev zzH:OSh:=.blk 34 [(.ptr 0 0)]
abbrev zuT:OSh:=.blk 34 [(.ptr 1 0)]
abbrev yhT:OSh:=.blk 160 [(.mpr 1)]
abbrev ylW:OSh:=.blk 237 [(.mpr 1)]
abbrev QWkF9:OSh:=.blk 237 [(.mpr 7)]
abbrev xfO:OSh:=.mp false .s ylV
abbrev ycQ:OSh:=.mp false .s ywS
abbrev yzZ:OSh:=.mp false .s yeK
abbrev QWkF13:OSh:=.blk 31 [(.own 1)]
abbrev yyT:OSh:=.blk 31 [(.own 2)]
abbrev yvT:OSh:=.blk 31 [(.own 8)]
abbrev ylB:OSh:=.blk 31 [(.own 7)]
abbrev zaD:OSh:=.mp true .s ylV
abbrev zaF:OSh:=.mp true .s ywS
abbrev zaE:OSh:=.mp true .s yeK
abbrev zaC:OSh:=.mp true .s yeM
abbrev zoN:OSh:=.mp true .s .un
section
variable {tabs:List (Nat×Obj)}[zrD tabs]{o:Ops}[zoW tabs o]
def znP(_o:Ops):Option (zbO):=
 some (([]:qaV),([]:qaW),([]:qbX),([]:qbY),([]:List ((Bs×Bs)×Unit)))
def zwU(o:Ops):SC:=⟨⟨[],[]⟩,1,[(none,⟨[(0,(.ptr 0 0))],[zbC,zaD,zaF,zaE,zaC,qaY]⟩)],fun _=>znP o⟩
theorem ycG:SCok aA tabs 30 (zwU o):=zbS (o:=o) (η:=[]) (Γ:=⟨[],[],false,[]⟩) (ctok trivial trivial) Tryz.func30
def znC(o:Ops)(v0:Bs)(v1:Int)(v2:Bs):Option (Bool):=
 bif(v0 != ([]:Bs))then(bif decide ((v0.length:Int)<=v1)then((o.trim v0 v2).bind fun v3=>some (v3==([]:Bs)))else(some false))else(some false)
def zyW(o:Ops):PC:=⟨[hS,hI,hS],[.b],fun x=>znC o x.1 x.2.1 x.2.2,false⟩
theorem yeX:PCok aA tabs 63 (zyW o):=zkL (o:=o) (η:=[]) (Γ:=⟨[(164,(ynM o))],[],false,[]⟩) (ctok ⟨(zoW.trim (G:=tabs)),trivial⟩ trivial) Tryz.func63
def zbJ(o:Ops)(v0:Bs):Option (Bool):=
 (znC o v0 (24:Int) ([97,98,99,100,101,102,103,104,105,106,107,108,109,110,111,112,113,114,115,116,117,118,119,120,121,122,48,49,50,51,52,53,54,55,56,57,46,95,45]:Bs)).bind fun v1=>some v1
def zeK(o:Ops):PC:=⟨[hS],[.b],fun x=>zbJ o x,false⟩
theorem zfU:PCok aA tabs 13 (zeK o):=zkL (o:=o) (η:=[]) (Γ:=⟨[(63,(zyW o))],[],false,[]⟩) (ctok ⟨yeX,trivial⟩ trivial) Tryz.func13
def zlT(_o:Ops)(v0:Int):Option (Bool):=
 bif decide (v0<33)then(some true)else(some (decide (v0>126)))
def zxR(o:Ops):PC:=⟨[(.h (.i .i32))],[.b],fun x=>zlT o x,false⟩
theorem yfH:PCok aA tabs 66 (zxR o):=zkL (o:=o) (η:=[]) (Γ:=⟨[],[],false,[]⟩) (ctok trivial trivial) Tryz.func66
def ziO(o:Ops)(v1:Bool)(v2:Bs)(v3:Int):Option ((Bs×Int)⊕(Int⊕Unit)):=
 bif decide (v3.toNat<v2.length)then((zlT o (nxR v2 v3.toNat)).bind fun v4=>bif(v4==v1)then some (.inr (.inl (v3.toNat:Int)))else some (.inl (v2,(nxP v2 v3.toNat:Int))))else some (.inr (.inr ()))
def zjP(o:Ops)(v0:Bs)(v1:Bool):Option (Int):=
 (iter (fun x=>ziO o v1 x.1 x.2) (v0,(0:Int))).bind fun v5=>match v5 with
 |.inl v6=>some v6|.inr _v7=>some (-1:Int)
def zsQ(o:Ops):SC:=⟨⟨[(0,hS),(1,(.fn 66 [] [])),(2,hB)],[]⟩,1,[(none,⟨[(0,hI)],[]⟩)],fun x=>zjP o x.1 x.2⟩
theorem yaV:SCok aA tabs 240 (zsQ o):=zbS (o:=o) (η:=[(200002,.loop [] ⟨[(1,(.fn 66 [] [])),(10,(.ptr 0 0))],[.is]⟩ [2] [(some 1000000,⟨[(6,hI)],[]⟩),(some 0,⟨[],[]⟩)])]) (Γ:=⟨[(66,(zxR o))],[],false,[]⟩) (ctok ⟨yfH,trivial⟩ trivial) Tryz.func240
def zkD(o:Ops)(v0:Bs):Option (Int):=
 (zjP o v0 true).bind fun v1=>some v1
def zsR(o:Ops):SC:=⟨⟨[(0,hS),(1,(.fn 66 [] []))],[]⟩,1,[(none,⟨[(0,hI)],[]⟩)],fun x=>zkD o x⟩
theorem ybB:SCok aA tabs 166 (zsR o):=zbS (o:=o) (η:=[]) (Γ:=⟨[],[(240,(zsQ o))],false,[]⟩) (ctok trivial ⟨yaV,trivial⟩) Tryz.func166
def zfJ(o:Ops)(v0:Bs):Option (Bool):=
 (zkD o v0).bind fun v1=>some (decide (v1≥0))
def zpH(o:Ops):SC:=⟨⟨[(0,hS),(1,(.fn 66 [] []))],[]⟩,1,[(none,⟨[(0,hB)],[]⟩)],fun x=>zfJ o x⟩
theorem zwW:SCok aA tabs 65 (zpH o):=zbS (o:=o) (η:=[]) (Γ:=⟨[],[(166,(zsR o))],false,[]⟩) (ctok trivial ⟨ybB,trivial⟩) Tryz.func65
def zfV(o:Ops)(v0:Bs):Option (Bool):=
 bif(v0 != ([]:Bs))then(bif decide ((v0.length:Int)<=128)then((zfJ o v0).bind fun v1=>some (!v1))else(some false))else(some false)
def zqW(o:Ops):PC:=⟨[hS],[.b],fun x=>zfV o x,false⟩
theorem zuX:PCok aA tabs 15 (zqW o):=zkL (o:=o) (η:=[]) (Γ:=⟨[],[(65,(zpH o))],false,[]⟩) (ctok trivial ⟨zwW,trivial⟩) Tryz.func15
def zvZ(o:Ops)(v0:Bs)(v1:Bs)(v2:qaV)(v3:qaW)(v4:qbX)(v5:qbY)(v6:List ((Bs×Bs)×Unit)):Option ((Int×zbO)⊕zbO):=
 (zbJ o v0).bind fun v7=>bif(!v7)then some (.inl ((120:Int),v2,v3,v4,v5,v6))else((zfV o v1).bind fun v8=>bif(!v8)then some (.inl ((120:Int),v2,v3,v4,v5,v6))else some (.inr (v2,v3,v4,v5,v6)))
def zkE(o:Ops)(v0:Bs)(v1:Bs)(v2:qaV)(v3:qaW)(v4:qbX)(v5:qbY)(v6:List ((Bs×Bs)×Unit)):Option ((Int×zbO)):=
 (zvZ o v0 v1 v2 v3 v4 v5 v6).bind fun v9=>match v9 with
 |.inl v10=>some v10|.inr v11=>(let _v12:zyI:=zeD keqS v11.1 v0 (([]:Bs),([]:Bs),false,(0:Int))
 bif mhas keqS v11.1 v0 then some ((121:Int),v11)else(bif decide ((v11.1.length:Int)≥64)then some ((124:Int),v11)else(let v13:qaV:=mset keqS kltS v11.1 v0 (v0,v1,true,(1:Int))
 some ((0:Int),v13,v11.2))))
def znS(o:Ops):SC:=⟨⟨[(0,(.ptr 0 0)),(1,hS),(2,hS)],[zbC,zaD,zaF,zaE,zaC,qaY]⟩,1,[(none,⟨[(0,hI)],[zbC,xfO,zaF,zaE,zaC,qaY]⟩)],fun x=>zkE o x.1 x.2.1 x.2.2.1 x.2.2.2.1 x.2.2.2.2.1 x.2.2.2.2.2.1 x.2.2.2.2.2.2⟩
theorem zvX:SCok aA tabs 71 (znS o):=zbS (o:=o) (η:=[(2000003,.join [] [1,2] [(some 1000000,⟨[(6,hI)],[zbC,zaD,zaF,zaE,zaC,qaY]⟩),(none,⟨[(0,(.ptr 0 0))],[zbC,zaD,zaF,zaE,zaC,qaY]⟩)])]) (Γ:=⟨[(13,(zeK o)),(15,(zqW o))],[],false,[]⟩) (ctok ⟨zfU,⟨zuX,trivial⟩⟩ trivial) Tryz.func71
def ziW(o:Ops)(v0:Bs)(v1:qaV)(v2:qaW)(v3:qbX)(v4:qbY)(v5:List ((Bs×Bs)×Unit)):Option ((Int×zbO)):=
 (zbJ o v0).bind fun v6=>bif(!v6)then some ((120:Int),v1,v2,v3,v4,v5)else(let _v7:yaY:=zeD keqS v2 v0 ((([]:List Bs),([]:List Bs),([]:List Bs)),(0:Int))
 bif mhas keqS v2 v0 then some ((121:Int),v1,v2,v3,v4,v5)else(bif decide ((v2.length:Int)≥32)then some ((124:Int),v1,v2,v3,v4,v5)else(let v8:qaW:=mset keqS kltS v2 v0 ((([]:List Bs),([]:List Bs),([]:List Bs)),(1:Int))
 some ((0:Int),v1,v8,v3,v4,v5))))
def zmY(o:Ops):SC:=⟨⟨[(0,(.ptr 0 0)),(1,hS)],[zbC,zaD,zaF,zaE,zaC,qaY]⟩,1,[(none,⟨[(0,hI)],[zbC,zaD,ycQ,zaE,zaC,qaY]⟩)],fun x=>ziW o x.1 x.2.1 x.2.2.1 x.2.2.2.1 x.2.2.2.2.1 x.2.2.2.2.2⟩
theorem zuS:SCok aA tabs 72 (zmY o):=zbS (o:=o) (η:=[]) (Γ:=⟨[(13,(zeK o))],[],false,[]⟩) (ctok ⟨zfU,trivial⟩ trivial) Tryz.func72
def zcM(_o:Ops)(v0:qaV)(v1:qaW)(v2:qbX)(v3:qbY)(v4:List ((Bs×Bs)×Unit)):Option (zbO):=
 some (v0,v1,v2,v3,v4)
def zfH(o:Ops):SC:=⟨⟨[(0,(.ptr 0 0))],[zbC,zaD,zaF,zaE,zaC,qaY]⟩,1,[(none,⟨[(0,(.ag [(.kn .i64 0),(.fn 244 [] [(.ptr 6 0)]),(.kn .i64 1),(.fn 245 [] [(.ptr 6 0)]),(.kn .i64 2),(.fn 246 [] [(.ptr 6 0)])]))],[zbC,zaD,zaF,zaE,zaC,qaY,zzH]⟩)],fun x=>zcM o x.1 x.2.1 x.2.2.1 x.2.2.2.1 x.2.2.2.2⟩
theorem zhU:SCok aA tabs 173 (zfH o):=zbS (o:=o) (η:=[]) (Γ:=⟨[],[],false,[]⟩) (ctok trivial trivial) Tryz.func173
def zeS(_o:Ops)(v0:Bs)(v1:qaV)(v2:qaW)(v3:qbX)(v4:qbY)(v5:List ((Bs×Bs)×Unit)):Option ((Bool×zbO)):=
 let _v6:yaY:=zeD keqS v2 v0 ((([]:List Bs),([]:List Bs),([]:List Bs)),(0:Int))
 some (mhas keqS v2 v0,v1,v2,v3,v4,v5)
def ziR(o:Ops):SC:=⟨⟨[(0,hS),(1,(.ptr 0 0))],[zuT,zmQ,zaD,zaF,zaE,zaC,qaY]⟩,1,[(none,⟨[(0,hB)],[zuT,zmQ,zaD,zaF,zaE,zaC,qaY]⟩)],fun x=>zeS o x.1 x.2.1 x.2.2.1 x.2.2.2.1 x.2.2.2.2.1 x.2.2.2.2.2⟩
theorem znY:SCok aA tabs 245 (ziR o):=zbS (o:=o) (η:=[]) (Γ:=⟨[],[],false,[]⟩) (ctok trivial trivial) Tryz.func245
def zyR(o:Ops)(v0:Bs)(v1:Bs)(v2:qaV)(v3:qaW)(v4:qbX)(v5:qbY)(v6:List ((Bs×Bs)×Unit)):Option ((Int×qaV×qaW×qbX×qbY×(List ((Bs×Bs)×Unit))×Int)⊕(qaV×qaW×qbX×qbY×(List ((Bs×Bs)×Unit))×Int)):=
 (zbJ o v0).bind fun v7=>bif(!v7)then some (.inl ((120:Int),v2,v3,v4,v5,v6,(0:Int)))else((zbJ o v1).bind fun v8=>bif(!v8)then some (.inl ((120:Int),v2,v3,v4,v5,v6,(0:Int)))else some (.inr (v2,v3,v4,v5,v6,(0:Int))))
def zsV(o:Ops)(v0:Bs)(v1:Bs)(v2:qaV)(v3:qaW)(v4:qbX)(v5:qbY)(v6:List ((Bs×Bs)×Unit)):Option ((yaY×Int×zbO)):=
 (zyR o v0 v1 v2 v3 v4 v5 v6).bind fun v9=>match v9 with
 |.inl v10=>some (((([]:List Bs),([]:List Bs),([]:List Bs)),v10.2.2.2.2.2.2),v10.1,v10.2.1,v10.2.2.1,v10.2.2.2.1,v10.2.2.2.2.1,v10.2.2.2.2.2.1)|.inr v11=>(let v12:yaY:=zeD keqS v11.2.1 v0 ((([]:List Bs),([]:List Bs),([]:List Bs)),(0:Int))
 bif(!(mhas keqS v11.2.1 v0))then some (((([]:List Bs),([]:List Bs),([]:List Bs)),(0:Int)),(122:Int),v11.1,v11.2.1,v11.2.2.1,v11.2.2.2.1,v11.2.2.2.2.1)else((zeS o v1 v11.1 v11.2.1 v11.2.2.1 v11.2.2.2.1 v11.2.2.2.2.1).bind fun v13=>bif(!v13.1)then some (((([]:List Bs),([]:List Bs),([]:List Bs)),(0:Int)),(122:Int),v13.2)else some (v12,(0:Int),v13.2)))
def zrP(o:Ops):SC:=⟨⟨[(0,(.ptr 0 0)),(1,hS),(2,(.ag [(.kn .i64 1),(.fn 245 [] [(.ptr 1 0)])])),(3,hS)],[zmQ,zzH,zaD,zaF,zaE,zaC,qaY]⟩,2,[(none,⟨[(0,(.h ywS)),(1,hI)],[zmQ,zzH,zaD,zaF,zaE,zaC,qaY]⟩)],fun x=>zsV o x.1 x.2.1 x.2.2.1 x.2.2.2.1 x.2.2.2.2.1 x.2.2.2.2.2.1 x.2.2.2.2.2.2⟩
theorem zzW:SCok aA tabs 199 (zrP o):=zbS (o:=o) (η:=[(2000003,.join [] [1,3] [(some 1000000,⟨[(8,(.ptr 7 0)),(9,hI)],[zmQ,zzH,zaD,zaF,zaE,zaC,qaY,ywY]⟩),(none,⟨[(0,(.ptr 0 0)),(6,(.ptr 7 0)),(8,(.ptr 8 0))],[zmQ,zzH,zaD,zaF,zaE,zaC,qaY,.blk 187 [(.kn .i64 1),(.fn 245 [] [(.ptr 1 0)])],ywY]⟩)])]) (Γ:=⟨[(13,(zeK o))],[(245,(ziR o))],false,[]⟩) (ctok ⟨zfU,trivial⟩ ⟨znY,trivial⟩) Tryz.func199
def zwS(_o:Ops)(v0:Bs):Option (Bool):=
 some (v0 != v0)
def yeV(o:Ops):PC:=⟨[hS],[.b],fun x=>zwS o x,false⟩
theorem yqT:PCok aA tabs 307 (yeV o):=zkL (o:=o) (η:=[]) (Γ:=⟨[],[],false,[]⟩) (ctok trivial trivial) Tryz.func307
def yaS(o:Ops)(v0:Bs)(v1:Bs):Option (Bool):=
 (zwS o v0).bind fun v2=>bif v2 then((zwS o v1).bind fun v3=>bif(!v3)then(some true)else(some (Op.bytesLess v0 v1)))else(some (Op.bytesLess v0 v1))
def yiC(o:Ops):PC:=⟨[hS,hS],[.b],fun x=>yaS o x.1 x.2,false⟩
theorem ytD:PCok aA tabs 268 (yiC o):=zkL (o:=o) (η:=[]) (Γ:=⟨[(307,(yeV o))],[],false,[]⟩) (ctok ⟨yqT,trivial⟩ trivial) Tryz.func268
def zqV(_o:Ops)(v0:Bs):Option (Bool):=
 some (v0 != v0)
def yaF(o:Ops):PC:=⟨[hS],[.b],fun x=>zqV o x,false⟩
theorem yhH:PCok aA tabs 278 (yaF o):=zkL (o:=o) (η:=[]) (Γ:=⟨[],[],false,[]⟩) (ctok trivial trivial) Tryz.func278
def zhZ(o:Ops)(v0:List Bs)(v1:Bs)(v2:Int)(v3:Int):Option ((Int×Int)⊕Int):=
 bif decide (v2<v3)then((chk (decide ((0:Int)<=((1:UInt64).toNat:Int)))).bind fun _=>let v4:UInt64:=i64 (shrI .u64 ((i64 (w64 (v2+v3))).toNat:Int) ((1:UInt64).toNat:Int))
 (idx v0 (w64 (v4.toNat:Int))).bind fun v5=>(yaS o v5 v1).bind fun v6=>bif v6 then some (.inl (w64 ((w64 (v4.toNat:Int))+1),v3))else some (.inl (v2,w64 (v4.toNat:Int))))else some (.inr v2)
def zfY(o:Ops)(v0:List Bs)(v1:Bs):Option (Int×Bool):=
 (iter (fun x=>zhZ o v0 v1 x.1 x.2) ((0:Int),(v0.length:Int))).bind fun v7=>bif decide (v7<(v0.length:Int))then((idx v0 v7).bind fun v8=>bif(v8==v1)then(some (v7,true))else((idx v0 v7).bind fun v9=>(zqV o v9).bind fun v10=>bif v10 then((zqV o v1).bind fun v11=>some (v7,v11))else(some (v7,false))))else(some (v7,false))
def zlE(o:Ops):PC:=⟨[(.h (.sl .s)),hS],[(.i .i64),.b],fun x=>zfY o x.1 x.2,false⟩
theorem zqA:PCok aA tabs 213 (zlE o):=zkL (o:=o) (η:=[(200003,.loop [] ⟨[(7,hI),(8,hI)],[]⟩ [0,1,4,5,6] [(some 0,⟨[(7,hI)],[]⟩)])]) (Γ:=⟨[(268,(yiC o)),(278,(yaF o))],[],false,[]⟩) (ctok ⟨ytD,⟨yhH,trivial⟩⟩ trivial) Tryz.func213
def zjK(o:Ops)(v0:List Bs)(v1:Bs):Option (Bool):=
 (zfY o v0 v1).bind fun v2=>some v2.2
def zoR(o:Ops):PC:=⟨[(.h (.sl .s)),hS],[.b],fun x=>zjK o x.1 x.2,false⟩
theorem ztG:PCok aA tabs 131 (zoR o):=zkL (o:=o) (η:=[]) (Γ:=⟨[(213,(zlE o))],[],false,[]⟩) (ctok ⟨zqA,trivial⟩ trivial) Tryz.func131
def zvI(_o:Ops)(v17:yaY)(v18:Int)(v19:qaV)(v20:qaW)(v21:qbX)(v22:qbY)(v23:List ((Bs×Bs)×Unit))(v24:List (Bs×Unit))(v25:List Bs):Option ((Int×qaV×qaW×qbX×qbY×(List ((Bs×Bs)×Unit))×(List (Bs×Unit))×List Bs)⊕((qaV×qaW×qbX×qbY×(List ((Bs×Bs)×Unit))×(List (Bs×Unit))×List Bs))):=
 bif decide (v18<(v17.1.2.1.length:Int))then((idx v17.1.2.1 v18).bind fun v26=>let _v27:Unit:=zeD keqS v24 v26 ()
 bif(!(mhas keqS v24 v26))then(let v28:List (Bs×Unit):=mset keqS kltS v24 v26 ()
 (app v25 ([v26]:List Bs)).bind fun v29=>some (.inl (w64 (v18+1),v19,v20,v21,v22,v23,v28,v29)))else some (.inl (w64 (v18+1),v19,v20,v21,v22,v23,v24,v25)))else some (.inr (v19,v20,v21,v22,v23,v24,v25))
def zwR(o:Ops)(v1:Bs)(v8:qaV)(v9:qaW)(v10:qbX)(v11:qbY)(v12:List ((Bs×Bs)×Unit))(v13:List (Bs×Unit))(v14:List Bs):Option ((qaV×qaW×qbX×qbY×(List ((Bs×Bs)×Unit))×(List (Bs×Unit))×List Bs)⊕((Bool×zbO)⊕zbO)):=
 bif decide ((v14.length:Int)>0)then((chk (decide ((0:Int)<=0)&&decide ((0:Int)<(v14.length:Int)))).bind fun _=>(idx v14 (0:Int)).bind fun v15=>bif(v15==v1)then some (.inr (.inl (true,v8,v9,v10,v11,v12)))else((chk (decide ((0:Int)<=0)&&decide ((0:Int)<(v14.length:Int)))).bind fun _=>(idx v14 (0:Int)).bind fun v16=>let v17:yaY:=zeD keqS v9 v16 ((([]:List Bs),([]:List Bs),([]:List Bs)),(0:Int))
 (iter (fun x=>zvI o v17 x.1 x.2.1 x.2.2.1 x.2.2.2.1 x.2.2.2.2.1 x.2.2.2.2.2.1 x.2.2.2.2.2.2.1 x.2.2.2.2.2.2.2) ((0:Int),v8,v9,v10,v11,v12,v13,v14)).bind fun v30=>(subL v30.2.2.2.2.2.2 (1:Int)).bind fun v31=>some (.inl (v30.1,v30.2.1,v30.2.2.1,v30.2.2.2.1,v30.2.2.2.2.1,v30.2.2.2.2.2.1,v31))))else some (.inr (.inr (v8,v9,v10,v11,v12)))
def zqG(o:Ops)(v0:Bs)(v1:Bs)(v2:qaV)(v3:qaW)(v4:qbX)(v5:qbY)(v6:List ((Bs×Bs)×Unit)):Option ((Bool×zbO)):=
 let v7:List (Bs×Unit):=mset keqS kltS ([]:List (Bs×Unit)) v0 ()
 (iter (fun x=>zwR o v1 x.1 x.2.1 x.2.2.1 x.2.2.2.1 x.2.2.2.2.1 x.2.2.2.2.2.1 x.2.2.2.2.2.2) (v2,v3,v4,v5,v6,v7,([v0]:List Bs))).bind fun v32=>match v32 with
 |.inl v33=>some v33|.inr v34=>some (false,v34)
def zoZ(o:Ops):SC:=⟨⟨[(0,(.ptr 0 0)),(1,hS),(2,hS)],[zbC,zaD,zaF,zaE,zaC,qaY]⟩,1,[(none,⟨[(0,hB)],[zbC,zaD,zaF,zaE,zaC,qaY]⟩)],fun x=>zqG o x.1 x.2.1 x.2.2.1 x.2.2.2.1 x.2.2.2.2.1 x.2.2.2.2.2.1 x.2.2.2.2.2.2⟩
theorem zwG:SCok aA tabs 200 (zoZ o):=zbS (o:=o) (η:=[(200008,.loop [] ⟨[(0,(.ptr 0 0)),(7,(.mpr 6)),(8,(.own 7)),(40,hI)],[zbC,zaD,zaF,zaE,zaC,qaY,zoN,.qu .s 9]⟩ [2,38,39] [(some 2,⟨[(0,(.ptr 0 0)),(7,(.mpr 6)),(8,(.own 7))],[zbC,zaD,zaF,zaE,zaC,qaY,zoN,.qu .s 9]⟩)]),
 (200003,.loop [.qu 8] ⟨[(0,(.ptr 0 0)),(7,(.mpr 6)),(8,(.own 7))],[zbC,zaD,zaF,zaE,zaC,qaY,zoN,.qu .s 9]⟩ [2] [(some 1000000,⟨[(6,hB)],[zbC,zaD,zaF,zaE,zaC,qaY]⟩),(some 0,⟨[],[zbC,zaD,zaF,zaE,zaC,qaY]⟩)]),
 (4000007,.sch (zpu 0 12))]) (Γ:=⟨[],[],false,[]⟩) (ctok trivial trivial) Tryz.func200
def yaK:SC:=⟨⟨[(0,(.h (.sl .s)))],[]⟩,1,[(none,⟨[(0,(.own 0))],[.osl .s 9]⟩)],fun xs=>app [] xs⟩
theorem ycX:SCok aA tabs 198 yaK:=wit (G:=tabs)<|clone_sc yfB τ_okWkF Tryz.func198 (isFn Tryz.func198) rfl (by kernel_rfl) (by kernel_rfl) (by kernel_rfl) (fun _=>by kernel_rfl)
def yoO:SC:=⟨⟨[(0,(.own 0)),(1,hI),(2,(.own 1))],[.osl .s 9,.osl .s 9]⟩,1,[(none,⟨[(0,(.own 2))],[.dead,.dead,.osl .s 9]⟩)],insTP⟩
theorem xbJ:SCok aA tabs 261 yoO:=wit (G:=tabs)<|insK
def ztC(o:Ops)(v0:List Bs)(v1:Bs):Option (List Bs):=
 (zfY o v0 v1).bind fun v2=>(app ([]:List Bs) v0).bind fun v3=>((fun i xs vs=>insTP (i,xs,vs)) v2.1 v3 ([v1]:List Bs)).bind fun v4=>some v4
def zqU(o:Ops):PC:=⟨[(.h (.sl .s)),hS],[(.sl .s)],fun x=>ztC o x.1 x.2,false⟩
theorem zuV:PCok aA tabs 201 (zqU o):=zkL (o:=o) (η:=[]) (Γ:=⟨[(213,(zlE o))],[(198,yaK),(261,yoO)],false,[]⟩) (ctok ⟨zqA,trivial⟩ ⟨ycX,⟨xbJ,trivial⟩⟩) Tryz.func201
def zzQ(o:Ops)(v0:Bs)(v1:Bs)(v2:qaV)(v3:qaW)(v4:qbX)(v5:qbY)(v6:List ((Bs×Bs)×Unit)):Option ((Int×qaV×qaW×qbX×qbY×(List ((Bs×Bs)×Unit))×(List Bs)×(List Bs)×(List Bs)×Int)):=
 (zcM o v2 v3 v4 v5 v6).bind fun v7=>(zsV o v0 v1 v7.1 v7.2.1 v7.2.2.1 v7.2.2.2.1 v7.2.2.2.2).bind fun v8=>some (v8.2.1,v8.2.2.1,v8.2.2.2.1,v8.2.2.2.2.1,v8.2.2.2.2.2.1,v8.2.2.2.2.2.2,v8.1.1.1,v8.1.1.2.1,v8.1.1.2.2,v8.1.2)
def yaA(o:Ops)(v1:Bs)(v9:Int×qaV×qaW×qbX×qbY×(List ((Bs×Bs)×Unit))×(List Bs)×(List Bs)×(List Bs)×Int):Option ((Bool×qaV×qaW×qbX×qbY×(List ((Bs×Bs)×Unit))×(List Bs)×(List Bs)×(List Bs)×Int)):=
 (zjK o v9.2.2.2.2.2.2.2.1 v1).bind fun v10=>some (v10,v9.2)
def zyY(o:Ops)(v0:Bs)(v1:Bs)(v9:Int×qaV×qaW×qbX×qbY×(List ((Bs×Bs)×Unit))×(List Bs)×(List Bs)×(List Bs)×Int):Option ((Int×zbO)⊕(qaV×qaW×qbX×qbY×(List ((Bs×Bs)×Unit))×(List Bs)×(List Bs)×(List Bs)×Int)):=
 bif(v9.1 != 0)then some (.inl (v9.1,v9.2.1,v9.2.2.1,v9.2.2.2.1,v9.2.2.2.2.1,v9.2.2.2.2.2.1))else((yaA o v1 v9).bind fun v11=>bif v11.1 then some (.inl ((121:Int),v11.2.1,v11.2.2.1,v11.2.2.2.1,v11.2.2.2.2.1,v11.2.2.2.2.2.1))else((zqG o v1 v0 v11.2.1 v11.2.2.1 v11.2.2.2.1 v11.2.2.2.2.1 v11.2.2.2.2.2.1).bind fun v12=>bif v12.1 then some (.inl ((123:Int),v12.2))else some (.inr (v12.2.1,v12.2.2.1,v12.2.2.2.1,v12.2.2.2.2.1,v12.2.2.2.2.2,v11.2.2.2.2.2.2))))
def zzK(o:Ops)(v1:Bs)(v15:qaV×qaW×qbX×qbY×(List ((Bs×Bs)×Unit))×(List Bs)×(List Bs)×(List Bs)×Int):Option ((qaV×qaW×qbX×qbY×(List ((Bs×Bs)×Unit))×(List Bs)×(List Bs)×(List Bs)×Int)):=
 (ztC o v15.2.2.2.2.2.2.1 v1).bind fun v16=>some (v15.1,v15.2.1,v15.2.2.1,v15.2.2.2.1,v15.2.2.2.2.1,v15.2.2.2.2.2.1,v16,v15.2.2.2.2.2.2.2)
def zsX(o:Ops)(v0:Bs)(v1:Bs)(v2:qaV)(v3:qaW)(v4:qbX)(v5:qbY)(v6:List ((Bs×Bs)×Unit)):Option ((Int×zbO)):=
 (zzQ o v0 v1 v2 v3 v4 v5 v6).bind fun v9=>(zyY o v0 v1 v9).bind fun v13=>match v13 with
 |.inl v14=>some v14|.inr v15=>((zzK o v1 v15).bind fun v17=>let v18:qaW:=mset keqS kltS v17.2.1 v0 ((v17.2.2.2.2.2.1,v17.2.2.2.2.2.2.1,v17.2.2.2.2.2.2.2.1),w64 (v17.2.2.2.2.2.2.2.2+1))
 some ((0:Int),v17.1,v18,v17.2.2.1,v17.2.2.2.1,v17.2.2.2.2.1))
def zrC(o:Ops):SC:=⟨⟨[(0,(.ptr 0 0)),(1,hS),(2,(.kn .i64 1)),(3,hS)],[zbC,zaD,zaF,zaE,zaC,qaY]⟩,1,[(none,⟨[(0,hI)],[zbC,zaD,ycQ,zaE,zaC,qaY]⟩)],fun x=>zsX o x.1 x.2.1 x.2.2.1 x.2.2.2.1 x.2.2.2.2.1 x.2.2.2.2.2.1 x.2.2.2.2.2.2⟩
theorem yaH:SCok aA tabs 101 (zrC o):=zbS (o:=o) (η:=[(2100000,.join [] [1,2,3] [(none,⟨[(0,(.ptr 0 0)),(9,(.ptr 6 0)),(10,hI)],[zbC,zaD,zaF,zaE,zaC,qaY,zxU]⟩)]),
 (2300005,.join [] [1,2,3] [(none,⟨[(0,(.ptr 0 0)),(9,(.ptr 6 0)),(26,hB)],[zbC,zaD,zaF,zaE,zaC,qaY,zxU]⟩)]),
 (2000008,.join [] [1,2,3] [(some 1000000,⟨[(8,hI)],[zbC,zaD,zaF,zaE,zaC,qaY]⟩),(none,⟨[(0,(.ptr 0 0)),(9,(.ptr 6 0))],[zbC,zaD,zaF,zaE,zaC,qaY,zxU]⟩)]),
 (2000009,.join [] [1] [(none,⟨[(0,(.ptr 0 0)),(9,(.ptr 6 0))],[zbC,zaD,zaF,zaE,zaC,qaY,zxU]⟩)]),
 (4000010,.sch (zpu 0 6++[(.mn,6,[0,1,2,3,4,5,6])]))]) (Γ:=⟨[(131,(zoR o)),(201,(zqU o))],[(173,(zfH o)),(199,(zrP o)),(200,(zoZ o))],false,[]⟩) (ctok ⟨ztG,⟨zuV,trivial⟩⟩ ⟨zhU,⟨zzW,⟨zwG,trivial⟩⟩⟩) Tryz.func101
def zmR(o:Ops)(v0:Bs)(v1:Bs)(v2:qaV)(v3:qaW)(v4:qbX)(v5:qbY)(v6:List ((Bs×Bs)×Unit)):Option ((Int×zbO)):=
 (zsX o v0 v1 v2 v3 v4 v5 v6).bind fun v7=>some v7
def zrO(o:Ops):SC:=⟨⟨[(0,(.ptr 0 0)),(1,hS),(2,hS)],[zbC,zaD,zaF,zaE,zaC,qaY]⟩,1,[(none,⟨[(0,hI)],[zbC,zaD,ycQ,zaE,zaC,qaY]⟩)],fun x=>zmR o x.1 x.2.1 x.2.2.1 x.2.2.2.1 x.2.2.2.2.1 x.2.2.2.2.2.1 x.2.2.2.2.2.2⟩
theorem zzX:SCok aA tabs 33 (zrO o):=zbS (o:=o) (η:=[]) (Γ:=⟨[],[(101,(zrC o))],false,[]⟩) (ctok trivial ⟨yaH,trivial⟩) Tryz.func33
def zeO(_o:Ops)(v0:Bs)(v1:qaV)(v2:qaW)(v3:qbX)(v4:qbY)(v5:List ((Bs×Bs)×Unit)):Option ((Bool×zbO)):=
 let _v6:zyI:=zeD keqS v1 v0 (([]:Bs),([]:Bs),false,(0:Int))
 some (mhas keqS v1 v0,v1,v2,v3,v4,v5)
def ziY(o:Ops):SC:=⟨⟨[(0,hS),(1,(.ptr 0 0))],[zuT,zmQ,zaD,zaF,zaE,zaC,qaY]⟩,1,[(none,⟨[(0,hB)],[zuT,zmQ,zaD,zaF,zaE,zaC,qaY]⟩)],fun x=>zeO o x.1 x.2.1 x.2.2.1 x.2.2.2.1 x.2.2.2.2.1 x.2.2.2.2.2⟩
theorem zoE:SCok aA tabs 244 (ziY o):=zbS (o:=o) (η:=[]) (Γ:=⟨[],[],false,[]⟩) (ctok trivial trivial) Tryz.func244
def zyC(o:Ops)(v0:Bs)(v1:Bs)(v2:qaV)(v3:qaW)(v4:qbX)(v5:qbY)(v6:List ((Bs×Bs)×Unit)):Option ((Int×qaV×qaW×qbX×qbY×(List ((Bs×Bs)×Unit))×Int)⊕(qaV×qaW×qbX×qbY×(List ((Bs×Bs)×Unit))×Int)):=
 (zbJ o v0).bind fun v7=>bif(!v7)then some (.inl ((120:Int),v2,v3,v4,v5,v6,(0:Int)))else((zbJ o v1).bind fun v8=>bif(!v8)then some (.inl ((120:Int),v2,v3,v4,v5,v6,(0:Int)))else some (.inr (v2,v3,v4,v5,v6,(0:Int))))
def zrL(o:Ops)(v0:Bs)(v1:Bs)(v2:qaV)(v3:qaW)(v4:qbX)(v5:qbY)(v6:List ((Bs×Bs)×Unit)):Option ((yaY×Int×zbO)):=
 (zyC o v0 v1 v2 v3 v4 v5 v6).bind fun v9=>match v9 with
 |.inl v10=>some (((([]:List Bs),([]:List Bs),([]:List Bs)),v10.2.2.2.2.2.2),v10.1,v10.2.1,v10.2.2.1,v10.2.2.2.1,v10.2.2.2.2.1,v10.2.2.2.2.2.1)|.inr v11=>(let v12:yaY:=zeD keqS v11.2.1 v0 ((([]:List Bs),([]:List Bs),([]:List Bs)),(0:Int))
 bif(!(mhas keqS v11.2.1 v0))then some (((([]:List Bs),([]:List Bs),([]:List Bs)),(0:Int)),(122:Int),v11.1,v11.2.1,v11.2.2.1,v11.2.2.2.1,v11.2.2.2.2.1)else((zeO o v1 v11.1 v11.2.1 v11.2.2.1 v11.2.2.2.1 v11.2.2.2.2.1).bind fun v13=>bif(!v13.1)then some (((([]:List Bs),([]:List Bs),([]:List Bs)),(0:Int)),(122:Int),v13.2)else some (v12,(0:Int),v13.2)))
def zqJ(o:Ops):SC:=⟨⟨[(0,(.ptr 0 0)),(1,hS),(2,(.ag [(.kn .i64 0),(.fn 244 [] [(.ptr 1 0)])])),(3,hS)],[zmQ,zzH,zaD,zaF,zaE,zaC,qaY]⟩,2,[(none,⟨[(0,(.h ywS)),(1,hI)],[zmQ,zzH,zaD,zaF,zaE,zaC,qaY]⟩)],fun x=>zrL o x.1 x.2.1 x.2.2.1 x.2.2.2.1 x.2.2.2.2.1 x.2.2.2.2.2.1 x.2.2.2.2.2.2⟩
theorem zyJ:SCok aA tabs 199 (zqJ o):=zbS (o:=o) (η:=[(2000003,.join [] [1,3] [(some 1000000,⟨[(8,(.ptr 7 0)),(9,hI)],[zmQ,zzH,zaD,zaF,zaE,zaC,qaY,ywY]⟩),(none,⟨[(0,(.ptr 0 0)),(6,(.ptr 7 0)),(8,(.ptr 8 0))],[zmQ,zzH,zaD,zaF,zaE,zaC,qaY,.blk 187 [(.kn .i64 0),(.fn 244 [] [(.ptr 1 0)])],ywY]⟩)])]) (Γ:=⟨[(13,(zeK o))],[(244,(ziY o))],false,[]⟩) (ctok ⟨zfU,trivial⟩ ⟨zoE,trivial⟩) Tryz.func199
def zyE(o:Ops)(v0:Bs)(v1:Bs)(v2:qaV)(v3:qaW)(v4:qbX)(v5:qbY)(v6:List ((Bs×Bs)×Unit)):Option ((Int×qaV×qaW×qbX×qbY×(List ((Bs×Bs)×Unit))×(List Bs)×(List Bs)×(List Bs)×Int)):=
 (zcM o v2 v3 v4 v5 v6).bind fun v7=>(zrL o v0 v1 v7.1 v7.2.1 v7.2.2.1 v7.2.2.2.1 v7.2.2.2.2).bind fun v8=>some (v8.2.1,v8.2.2.1,v8.2.2.2.1,v8.2.2.2.2.1,v8.2.2.2.2.2.1,v8.2.2.2.2.2.2,v8.1.1.1,v8.1.1.2.1,v8.1.1.2.2,v8.1.2)
def zyG(o:Ops)(v1:Bs)(v9:Int×qaV×qaW×qbX×qbY×(List ((Bs×Bs)×Unit))×(List Bs)×(List Bs)×(List Bs)×Int):Option ((Bool×qaV×qaW×qbX×qbY×(List ((Bs×Bs)×Unit))×(List Bs)×(List Bs)×(List Bs)×Int)):=
 (zjK o v9.2.2.2.2.2.2.1 v1).bind fun v10=>some (v10,v9.2)
def zyA(o:Ops)(v1:Bs)(v9:Int×qaV×qaW×qbX×qbY×(List ((Bs×Bs)×Unit))×(List Bs)×(List Bs)×(List Bs)×Int):Option ((Int×zbO)⊕(qaV×qaW×qbX×qbY×(List ((Bs×Bs)×Unit))×(List Bs)×(List Bs)×(List Bs)×Int)):=
 bif(v9.1 != 0)then some (.inl (v9.1,v9.2.1,v9.2.2.1,v9.2.2.2.1,v9.2.2.2.2.1,v9.2.2.2.2.2.1))else((zyG o v1 v9).bind fun v11=>bif v11.1 then some (.inl ((121:Int),v11.2.1,v11.2.2.1,v11.2.2.2.1,v11.2.2.2.2.1,v11.2.2.2.2.2.1))else some (.inr v11.2))
def zxX(o:Ops)(v1:Bs)(v14:qaV×qaW×qbX×qbY×(List ((Bs×Bs)×Unit))×(List Bs)×(List Bs)×(List Bs)×Int):Option ((qaV×qaW×qbX×qbY×(List ((Bs×Bs)×Unit))×(List Bs)×(List Bs)×(List Bs)×Int)):=
 (ztC o v14.2.2.2.2.2.1 v1).bind fun v15=>some (v14.1,v14.2.1,v14.2.2.1,v14.2.2.2.1,v14.2.2.2.2.1,v15,v14.2.2.2.2.2.2)
def zrX(o:Ops)(v0:Bs)(v1:Bs)(v2:qaV)(v3:qaW)(v4:qbX)(v5:qbY)(v6:List ((Bs×Bs)×Unit)):Option ((Int×zbO)):=
 (zyE o v0 v1 v2 v3 v4 v5 v6).bind fun v9=>(zyA o v1 v9).bind fun v12=>match v12 with
 |.inl v13=>some v13|.inr v14=>((zxX o v1 v14).bind fun v16=>let v17:qaW:=mset keqS kltS v16.2.1 v0 ((v16.2.2.2.2.2.1,v16.2.2.2.2.2.2.1,v16.2.2.2.2.2.2.2.1),w64 (v16.2.2.2.2.2.2.2.2+1))
 some ((0:Int),v16.1,v17,v16.2.2.1,v16.2.2.2.1,v16.2.2.2.2.1))
def zqI(o:Ops):SC:=⟨⟨[(0,(.ptr 0 0)),(1,hS),(2,(.kn .i64 0)),(3,hS)],[zbC,zaD,zaF,zaE,zaC,qaY]⟩,1,[(none,⟨[(0,hI)],[zbC,zaD,ycQ,zaE,zaC,qaY]⟩)],fun x=>zrX o x.1 x.2.1 x.2.2.1 x.2.2.2.1 x.2.2.2.2.1 x.2.2.2.2.2.1 x.2.2.2.2.2.2⟩
theorem zyO:SCok aA tabs 101 (zqI o):=zbS (o:=o) (η:=[(2100000,.join [] [1,2,3] [(none,⟨[(0,(.ptr 0 0)),(9,(.ptr 6 0)),(10,hI)],[zbC,zaD,zaF,zaE,zaC,qaY,zxU]⟩)]),
 (2300005,.join [] [1,2,3] [(none,⟨[(0,(.ptr 0 0)),(9,(.ptr 6 0)),(26,hB)],[zbC,zaD,zaF,zaE,zaC,qaY,zxU]⟩)]),
 (2000008,.join [] [1,2,3] [(some 1000000,⟨[(8,hI)],[zbC,zaD,zaF,zaE,zaC,qaY]⟩),(none,⟨[(0,(.ptr 0 0)),(9,(.ptr 6 0))],[zbC,zaD,zaF,zaE,zaC,qaY,zxU]⟩)]),
 (2000009,.join [] [1] [(none,⟨[(0,(.ptr 0 0)),(9,(.ptr 6 0))],[zbC,zaD,zaF,zaE,zaC,qaY,zxU]⟩)]),
 (4000010,.sch (zpu 0 6++[(.mn,6,[0,1,2,3,4,5,6])]))]) (Γ:=⟨[(131,(zoR o)),(201,(zqU o))],[(173,(zfH o)),(199,(zqJ o))],false,[]⟩) (ctok ⟨ztG,⟨zuV,trivial⟩⟩ ⟨zhU,⟨zyJ,trivial⟩⟩) Tryz.func101
def zsU(o:Ops)(v0:Bs)(v1:Bs)(v2:qaV)(v3:qaW)(v4:qbX)(v5:qbY)(v6:List ((Bs×Bs)×Unit)):Option ((Int×zbO)):=
 (zrX o v0 v1 v2 v3 v4 v5 v6).bind fun v7=>some v7
def zrI(o:Ops):SC:=⟨⟨[(0,(.ptr 0 0)),(1,hS),(2,hS)],[zbC,zaD,zaF,zaE,zaC,qaY]⟩,1,[(none,⟨[(0,hI)],[zbC,zaD,ycQ,zaE,zaC,qaY]⟩)],fun x=>zsU o x.1 x.2.1 x.2.2.1 x.2.2.2.1 x.2.2.2.2.1 x.2.2.2.2.2.1 x.2.2.2.2.2.2⟩
theorem zzN:SCok aA tabs 73 (zrI o):=zbS (o:=o) (η:=[]) (Γ:=⟨[],[(101,(zqI o))],false,[]⟩) (ctok trivial ⟨zyO,trivial⟩) Tryz.func73
def ziH(o:Ops)(v0:Bs):Option (Bool):=
 (znC o v0 (32:Int) ([97,98,99,100,101,102,103,104,105,106,107,108,109,110,111,112,113,114,115,116,117,118,119,120,121,122,48,49,50,51,52,53,54,55,56,57,46,95,45,58]:Bs)).bind fun v1=>some v1
def zyX(o:Ops):PC:=⟨[hS],[.b],fun x=>ziH o x,false⟩
theorem yiE:PCok aA tabs 17 (zyX o):=zkL (o:=o) (η:=[]) (Γ:=⟨[(63,(zyW o))],[],false,[]⟩) (ctok ⟨yeX,trivial⟩ trivial) Tryz.func17
def ztN(o:Ops)(v0:List Bs)(v2:Int):Option (Int⊕(Bool⊕Unit)):=
 bif decide (v2<(v0.length:Int))then((idx v0 v2).bind fun v3=>(ziH o v3).bind fun v4=>bif(!v4)then some (.inr (.inl false))else(bif decide (v2>0)then((idx v0 (w64 (v2-1))).bind fun v5=>bif(Op.bytesLess v3 v5||v3==v5)then some (.inr (.inl false))else some (.inl (w64 (v2+1))))else some (.inl (w64 (v2+1)))))else some (.inr (.inr ()))
def zmS(o:Ops)(v0:List Bs)(v1:Int):Option (Bool):=
 (iter (ztN o v0) (0:Int)).bind fun v6=>match v6 with
 |.inl v7=>some v7|.inr _v8=>some (decide ((v0.length:Int)<=v1))
def ztQ(o:Ops):SC:=⟨⟨[(0,(.h (.sl .s))),(1,hI),(2,(.fn 17 [] []))],[]⟩,1,[(none,⟨[(0,hB)],[]⟩)],fun x=>zmS o x.1 x.2⟩
theorem yaB:SCok aA tabs 174 (ztQ o):=zbS (o:=o) (η:=[(200002,.loop [] ⟨[(2,(.fn 17 [] [])),(11,hI)],[]⟩ [0,1,9,10] [(some 1000000,⟨[(6,hB)],[]⟩),(some 0,⟨[],[]⟩)])]) (Γ:=⟨[(17,(zyX o))],[],false,[]⟩) (ctok ⟨yiE,trivial⟩ trivial) Tryz.func174
def zpB(o:Ops)(v0:zgA):Option (Bool):=
 (zbJ o v0.1).bind fun v1=>bif v1 then((zmS o v0.2 (16:Int)).bind fun v2=>some v2)else(some false)
def zuU(o:Ops):PC:=⟨[(.h yeK)],[.b],fun x=>zpB o x,false⟩
theorem ybE:PCok aA tabs 104 (zuU o):=zkL (o:=o) (η:=[]) (Γ:=⟨[(13,(zeK o))],[(174,(ztQ o))],false,[]⟩) (ctok ⟨zfU,trivial⟩ ⟨yaB,trivial⟩) Tryz.func104
def ybM:PC:=⟨[.h (.sl .s)],[(.sl .s)],fun xs=>some xs,true⟩
theorem yeP:PCok aA tabs 61 ybM:=wit (G:=tabs)<|ysZ yfB τ_okWkF Tryz.func61 (isFn Tryz.func61) rfl (by kernel_rfl) (fun _=>by kernel_rfl)
def zhO(_o:Ops)(v0:zgA):Option zgA:=
 (app ([]:List Bs) v0.2).bind fun v1=>some (v0.1,v1)
def zmN(o:Ops):PC:=⟨[(.h yeK)],[yeK],fun x=>zhO o x,false⟩
theorem zsZ:PCok aA tabs 105 (zmN o):=zkL (o:=o) (η:=[]) (Γ:=⟨[(61,ybM)],[(198,yaK)],false,[]⟩) (ctok ⟨yeP,trivial⟩ ⟨ycX,trivial⟩) Tryz.func105
def zvD(_o:Ops)(v0:zgA)(v1:qaV)(v2:qaW)(v3:qbX)(v4:qbY)(v5:List ((Bs×Bs)×Unit)):Option ((Int×zbO)⊕(qaV×qaW×qbX×qbY×(List ((Bs×Bs)×Unit))×zgA)):=
 let _v7:zgA:=zeD keqS v3 v0.1 (([]:Bs),([]:List Bs))
 bif(!(mhas keqS v3 v0.1))then(bif decide ((v3.length:Int)≥32)then some (.inl ((124:Int),v1,v2,v3,v4,v5))else some (.inr (v1,v2,v3,v4,v5,v0)))else some (.inr (v1,v2,v3,v4,v5,v0))
def zpM(o:Ops)(v0:zgA)(v1:qaV)(v2:qaW)(v3:qbX)(v4:qbY)(v5:List ((Bs×Bs)×Unit)):Option ((Int×zbO)):=
 (zpB o v0).bind fun v6=>bif(!v6)then some ((120:Int),v1,v2,v3,v4,v5)else((zvD o v0 v1 v2 v3 v4 v5).bind fun v8=>match v8 with
 |.inl v9=>some v9|.inr v10=>((zhO o v10.2.2.2.2.2).bind fun v11=>let v12:qbX:=mset keqS kltS v10.2.2.1 v10.2.2.2.2.2.1 v11
 some ((0:Int),v10.1,v10.2.1,v12,v10.2.2.2.1,v10.2.2.2.2.1)))
def znT(o:Ops):SC:=⟨⟨[(0,(.ptr 0 0)),(1,(.h yeK))],[zbC,zaD,zaF,zaE,zaC,qaY]⟩,1,[(none,⟨[(0,hI)],[zbC,zaD,zaF,yzZ,zaC,qaY]⟩)],fun x=>zpM o x.1 x.2.1 x.2.2.1 x.2.2.2.1 x.2.2.2.2.1 x.2.2.2.2.2⟩
theorem zvV:SCok aA tabs 36 (znT o):=zbS (o:=o) (η:=[(2000006,.join [] [] [(some 1000000,⟨[(4,hI)],[zbC,zaD,zaF,zaE,zaC,qaY]⟩),(none,⟨[(0,(.ptr 0 0)),(3,(.ptr 6 0))],[zbC,zaD,zaF,zaE,zaC,qaY,.blk 49 [hS,(.h (.sl .s))]]⟩)]),
 (4000003,.sch (zpu 0 9++[(.pu,9,[7]),(.mn,10,[]),(.mn,11,[7]),(.pu,12,[])])),
 (4000006,.sch (zpu 0 7++[(.mn,7,[]),(.mn,8,[0,1,2,3,4,5,6])]))]) (Γ:=⟨[(104,(zuU o)),(105,(zmN o))],[],false,[]⟩) (ctok ⟨ybE,⟨zsZ,trivial⟩⟩ trivial) Tryz.func36
def zeV(_o:Ops)(v0:Bs)(v1:qaV)(v2:qaW)(v3:qbX)(v4:qbY)(v5:List ((Bs×Bs)×Unit)):Option ((Bool×zbO)):=
 let _v6:zgA:=zeD keqS v3 v0 (([]:Bs),([]:List Bs))
 some (mhas keqS v3 v0,v1,v2,v3,v4,v5)
def zjC(o:Ops):SC:=⟨⟨[(0,hS),(1,(.ptr 0 0))],[zuT,zmQ,zaD,zaF,zaE,zaC,qaY]⟩,1,[(none,⟨[(0,hB)],[zuT,zmQ,zaD,zaF,zaE,zaC,qaY]⟩)],fun x=>zeV o x.1 x.2.1 x.2.2.1 x.2.2.2.1 x.2.2.2.2.1 x.2.2.2.2.2⟩
theorem zoA:SCok aA tabs 246 (zjC o):=zbS (o:=o) (η:=[]) (Γ:=⟨[],[],false,[]⟩) (ctok trivial trivial) Tryz.func246
def zyL(o:Ops)(v0:Bs)(v1:Bs)(v2:qaV)(v3:qaW)(v4:qbX)(v5:qbY)(v6:List ((Bs×Bs)×Unit)):Option ((Int×qaV×qaW×qbX×qbY×(List ((Bs×Bs)×Unit))×Int)⊕(qaV×qaW×qbX×qbY×(List ((Bs×Bs)×Unit))×Int)):=
 (zbJ o v0).bind fun v7=>bif(!v7)then some (.inl ((120:Int),v2,v3,v4,v5,v6,(0:Int)))else((zbJ o v1).bind fun v8=>bif(!v8)then some (.inl ((120:Int),v2,v3,v4,v5,v6,(0:Int)))else some (.inr (v2,v3,v4,v5,v6,(0:Int))))
def zrQ(o:Ops)(v0:Bs)(v1:Bs)(v2:qaV)(v3:qaW)(v4:qbX)(v5:qbY)(v6:List ((Bs×Bs)×Unit)):Option ((yaY×Int×zbO)):=
 (zyL o v0 v1 v2 v3 v4 v5 v6).bind fun v9=>match v9 with
 |.inl v10=>some (((([]:List Bs),([]:List Bs),([]:List Bs)),v10.2.2.2.2.2.2),v10.1,v10.2.1,v10.2.2.1,v10.2.2.2.1,v10.2.2.2.2.1,v10.2.2.2.2.2.1)|.inr v11=>(let v12:yaY:=zeD keqS v11.2.1 v0 ((([]:List Bs),([]:List Bs),([]:List Bs)),(0:Int))
 bif(!(mhas keqS v11.2.1 v0))then some (((([]:List Bs),([]:List Bs),([]:List Bs)),(0:Int)),(122:Int),v11.1,v11.2.1,v11.2.2.1,v11.2.2.2.1,v11.2.2.2.2.1)else((zeV o v1 v11.1 v11.2.1 v11.2.2.1 v11.2.2.2.1 v11.2.2.2.2.1).bind fun v13=>bif(!v13.1)then some (((([]:List Bs),([]:List Bs),([]:List Bs)),(0:Int)),(122:Int),v13.2)else some (v12,(0:Int),v13.2)))
def zpU(o:Ops):SC:=⟨⟨[(0,(.ptr 0 0)),(1,hS),(2,(.ag [(.kn .i64 2),(.fn 246 [] [(.ptr 1 0)])])),(3,hS)],[zmQ,zzH,zaD,zaF,zaE,zaC,qaY]⟩,2,[(none,⟨[(0,(.h ywS)),(1,hI)],[zmQ,zzH,zaD,zaF,zaE,zaC,qaY]⟩)],fun x=>zrQ o x.1 x.2.1 x.2.2.1 x.2.2.2.1 x.2.2.2.2.1 x.2.2.2.2.2.1 x.2.2.2.2.2.2⟩
theorem zyF:SCok aA tabs 199 (zpU o):=zbS (o:=o) (η:=[(2000003,.join [] [1,3] [(some 1000000,⟨[(8,(.ptr 7 0)),(9,hI)],[zmQ,zzH,zaD,zaF,zaE,zaC,qaY,ywY]⟩),(none,⟨[(0,(.ptr 0 0)),(6,(.ptr 7 0)),(8,(.ptr 8 0))],[zmQ,zzH,zaD,zaF,zaE,zaC,qaY,.blk 187 [(.kn .i64 2),(.fn 246 [] [(.ptr 1 0)])],ywY]⟩)])]) (Γ:=⟨[(13,(zeK o))],[(246,(zjC o))],false,[]⟩) (ctok ⟨zfU,trivial⟩ ⟨zoA,trivial⟩) Tryz.func199
def zxY(o:Ops)(v0:Bs)(v1:Bs)(v2:qaV)(v3:qaW)(v4:qbX)(v5:qbY)(v6:List ((Bs×Bs)×Unit)):Option ((Int×qaV×qaW×qbX×qbY×(List ((Bs×Bs)×Unit))×(List Bs)×(List Bs)×(List Bs)×Int)):=
 (zcM o v2 v3 v4 v5 v6).bind fun v7=>(zrQ o v0 v1 v7.1 v7.2.1 v7.2.2.1 v7.2.2.2.1 v7.2.2.2.2).bind fun v8=>some (v8.2.1,v8.2.2.1,v8.2.2.2.1,v8.2.2.2.2.1,v8.2.2.2.2.2.1,v8.2.2.2.2.2.2,v8.1.1.1,v8.1.1.2.1,v8.1.1.2.2,v8.1.2)
def zyM(o:Ops)(v1:Bs)(v9:Int×qaV×qaW×qbX×qbY×(List ((Bs×Bs)×Unit))×(List Bs)×(List Bs)×(List Bs)×Int):Option ((Bool×qaV×qaW×qbX×qbY×(List ((Bs×Bs)×Unit))×(List Bs)×(List Bs)×(List Bs)×Int)):=
 (zjK o v9.2.2.2.2.2.2.2.2.1 v1).bind fun v10=>some (v10,v9.2)
def zyP(o:Ops)(v1:Bs)(v9:Int×qaV×qaW×qbX×qbY×(List ((Bs×Bs)×Unit))×(List Bs)×(List Bs)×(List Bs)×Int):Option ((Int×zbO)⊕(qaV×qaW×qbX×qbY×(List ((Bs×Bs)×Unit))×(List Bs)×(List Bs)×(List Bs)×Int)):=
 bif(v9.1 != 0)then some (.inl (v9.1,v9.2.1,v9.2.2.1,v9.2.2.2.1,v9.2.2.2.2.1,v9.2.2.2.2.2.1))else((zyM o v1 v9).bind fun v11=>bif v11.1 then some (.inl ((121:Int),v11.2.1,v11.2.2.1,v11.2.2.2.1,v11.2.2.2.2.1,v11.2.2.2.2.2.1))else some (.inr v11.2))
def zyK(o:Ops)(v1:Bs)(v14:qaV×qaW×qbX×qbY×(List ((Bs×Bs)×Unit))×(List Bs)×(List Bs)×(List Bs)×Int):Option ((qaV×qaW×qbX×qbY×(List ((Bs×Bs)×Unit))×(List Bs)×(List Bs)×(List Bs)×Int)):=
 (ztC o v14.2.2.2.2.2.2.2.1 v1).bind fun v15=>some (v14.1,v14.2.1,v14.2.2.1,v14.2.2.2.1,v14.2.2.2.2.1,v14.2.2.2.2.2.1,v14.2.2.2.2.2.2.1,v15,v14.2.2.2.2.2.2.2.2)
def zqZ(o:Ops)(v0:Bs)(v1:Bs)(v2:qaV)(v3:qaW)(v4:qbX)(v5:qbY)(v6:List ((Bs×Bs)×Unit)):Option ((Int×zbO)):=
 (zxY o v0 v1 v2 v3 v4 v5 v6).bind fun v9=>(zyP o v1 v9).bind fun v12=>match v12 with
 |.inl v13=>some v13|.inr v14=>((zyK o v1 v14).bind fun v16=>let v17:qaW:=mset keqS kltS v16.2.1 v0 ((v16.2.2.2.2.2.1,v16.2.2.2.2.2.2.1,v16.2.2.2.2.2.2.2.1),w64 (v16.2.2.2.2.2.2.2.2+1))
 some ((0:Int),v16.1,v17,v16.2.2.1,v16.2.2.2.1,v16.2.2.2.2.1))
def zqB(o:Ops):SC:=⟨⟨[(0,(.ptr 0 0)),(1,hS),(2,(.kn .i64 2)),(3,hS)],[zbC,zaD,zaF,zaE,zaC,qaY]⟩,1,[(none,⟨[(0,hI)],[zbC,zaD,ycQ,zaE,zaC,qaY]⟩)],fun x=>zqZ o x.1 x.2.1 x.2.2.1 x.2.2.2.1 x.2.2.2.2.1 x.2.2.2.2.2.1 x.2.2.2.2.2.2⟩
theorem zyB:SCok aA tabs 101 (zqB o):=zbS (o:=o) (η:=[(2100000,.join [] [1,2,3] [(none,⟨[(0,(.ptr 0 0)),(9,(.ptr 6 0)),(10,hI)],[zbC,zaD,zaF,zaE,zaC,qaY,zxU]⟩)]),
 (2300005,.join [] [1,2,3] [(none,⟨[(0,(.ptr 0 0)),(9,(.ptr 6 0)),(26,hB)],[zbC,zaD,zaF,zaE,zaC,qaY,zxU]⟩)]),
 (2000008,.join [] [1,2,3] [(some 1000000,⟨[(8,hI)],[zbC,zaD,zaF,zaE,zaC,qaY]⟩),(none,⟨[(0,(.ptr 0 0)),(9,(.ptr 6 0))],[zbC,zaD,zaF,zaE,zaC,qaY,zxU]⟩)]),
 (2000009,.join [] [1] [(none,⟨[(0,(.ptr 0 0)),(9,(.ptr 6 0))],[zbC,zaD,zaF,zaE,zaC,qaY,zxU]⟩)]),
 (4000010,.sch (zpu 0 6++[(.mn,6,[0,1,2,3,4,5,6])]))]) (Γ:=⟨[(131,(zoR o)),(201,(zqU o))],[(173,(zfH o)),(199,(zpU o))],false,[]⟩) (ctok ⟨ztG,⟨zuV,trivial⟩⟩ ⟨zhU,⟨zyF,trivial⟩⟩) Tryz.func101
def zsW(o:Ops)(v0:Bs)(v1:Bs)(v2:qaV)(v3:qaW)(v4:qbX)(v5:qbY)(v6:List ((Bs×Bs)×Unit)):Option ((Int×zbO)):=
 (zqZ o v0 v1 v2 v3 v4 v5 v6).bind fun v7=>some v7
def zrE(o:Ops):SC:=⟨⟨[(0,(.ptr 0 0)),(1,hS),(2,hS)],[zbC,zaD,zaF,zaE,zaC,qaY]⟩,1,[(none,⟨[(0,hI)],[zbC,zaD,ycQ,zaE,zaC,qaY]⟩)],fun x=>zsW o x.1 x.2.1 x.2.2.1 x.2.2.2.1 x.2.2.2.2.1 x.2.2.2.2.2.1 x.2.2.2.2.2.2⟩
theorem zzC:SCok aA tabs 74 (zrE o):=zbS (o:=o) (η:=[]) (Γ:=⟨[],[(101,(zqB o))],false,[]⟩) (ctok trivial ⟨zyB,trivial⟩) Tryz.func74
def zcI(o:Ops)(v0:Bs):Option (Bool):=
 bif decide ((v0.length:Int)>2)then((subH v0 (2:Int)).bind fun v1=>bif(v1==([117,58]:Bs))then((subL v0 (2:Int)).bind fun v2=>(zbJ o v2).bind fun v3=>some v3)else((subH v0 (2:Int)).bind fun v4=>bif(v4==([99,58]:Bs))then((subL v0 (2:Int)).bind fun v5=>(zbJ o v5).bind fun v6=>some v6)else(some false)))else(some false)
def znF(o:Ops):PC:=⟨[hS],[.b],fun x=>zcI o x,false⟩
theorem ztP:PCok aA tabs 19 (znF o):=zkL (o:=o) (η:=[]) (Γ:=⟨[(13,(zeK o))],[],false,[]⟩) (ctok ⟨zfU,trivial⟩ trivial) Tryz.func19
def zcL(_o:Ops)(v0:Bs)(v1:qaV)(v2:qaW)(v3:qbX)(v4:qbY)(v5:List ((Bs×Bs)×Unit)):Option ((Bool×zbO)):=
 (idx v0 (0:Int)).bind fun v6=>bif((v6.toNat:Int)==((99:UInt8).toNat:Int))then((subL v0 (2:Int)).bind fun v7=>let _v8:zvT:=zeD keqS v4 v7 (([]:Bs),([]:Bs),([]:List Bs),([]:List Bs),false,false,false,false)
 some (mhas keqS v4 v7,v1,v2,v3,v4,v5))else((subL v0 (2:Int)).bind fun v9=>let _v10:zyI:=zeD keqS v1 v9 (([]:Bs),([]:Bs),false,(0:Int))
 some (mhas keqS v1 v9,v1,v2,v3,v4,v5))
def zlC(o:Ops):SC:=⟨⟨[(0,(.ptr 0 0)),(1,hS)],[zbC,zaD,zaF,zaE,zaC,qaY]⟩,1,[(none,⟨[(0,hB)],[zbC,zaD,zaF,zaE,zaC,qaY]⟩)],fun x=>zcL o x.1 x.2.1 x.2.2.1 x.2.2.2.1 x.2.2.2.2.1 x.2.2.2.2.2⟩
theorem zpZ:SCok aA tabs 128 (zlC o):=zbS (o:=o) (η:=[(4000002,.sch (zpu 0 9++[(.pu,9,[6]),(.mn,10,[]),(.mn,11,[6]),(.pu,12,[])])),
 (4000004,.sch (zpu 0 9++[(.pu,9,[6]),(.mn,10,[]),(.mn,11,[6]),(.pu,12,[])]))]) (Γ:=⟨[],[],false,[]⟩) (ctok trivial trivial) Tryz.func128
def zqD(o:Ops)(v0:Bs)(v1:qaV)(v2:qaW)(v3:qbX)(v4:qbY)(v5:List ((Bs×Bs)×Unit)):Option ((Bool×zbO)):=
 (zcI o v0).bind fun v6=>bif(!v6)then some (false,v1,v2,v3,v4,v5)else((idx v0 (0:Int)).bind fun v7=>bif((v7.toNat:Int)==((99:UInt8).toNat:Int))then((zcL o v0 v1 v2 v3 v4 v5).bind fun v8=>some v8)else((subL v0 (2:Int)).bind fun v9=>let v10:zyI:=zeD keqS v1 v9 (([]:Bs),([]:Bs),false,(0:Int))
 some (v10.2.2.1,v1,v2,v3,v4,v5)))
def zoT(o:Ops):SC:=⟨⟨[(0,(.ptr 0 0)),(1,hS)],[zbC,zaD,zaF,zaE,zaC,qaY]⟩,1,[(none,⟨[(0,hB)],[zbC,zaD,zaF,zaE,zaC,qaY]⟩)],fun x=>zqD o x.1 x.2.1 x.2.2.1 x.2.2.2.1 x.2.2.2.2.1 x.2.2.2.2.2⟩
theorem zwL:SCok aA tabs 49 (zoT o):=zbS (o:=o) (η:=[(4000005,.sch (zpu 0 9))]) (Γ:=⟨[(19,(znF o))],[(128,(zlC o))],false,[]⟩) (ctok ⟨ztP,trivial⟩ ⟨zpZ,trivial⟩) Tryz.func49
def zmP(_o:Ops)(v0:Bs)(v1:List (Bs×Unit)):Option ((Bool×List (Bs×Unit))):=
 let _v2:Unit:=zeD keqS v1 v0 ()
 some (mhas keqS v1 v0,v1)
def zrT(o:Ops):SC:=⟨⟨[(0,hS),(1,(.ptr 0 0))],[yhT,zoN]⟩,1,[(none,⟨[(0,hB)],[yhT,zoN]⟩)],fun x=>zmP o x.1 x.2⟩
theorem zzF:SCok aA tabs 130 (zrT o):=zbS (o:=o) (η:=[]) (Γ:=⟨[],[],false,[]⟩) (ctok trivial trivial) Tryz.func130
def zfP(o:Ops)(v0:List Bs)(v2:Int)(v3:List (Bs×Unit)):Option ((Int×List (Bs×Unit))⊕((Int×List (Bs×Unit))⊕(List (Bs×Unit)))):=
 bif decide (v2<(v0.length:Int))then((idx v0 v2).bind fun v4=>(zmP o v4 v3).bind fun v5=>bif v5.1 then some (.inr (.inl (v2,v5.2)))else some (.inl (w64 (v2+1),v5.2)))else some (.inr (.inr v3))
def zoO(o:Ops)(v0:List Bs)(v1:List (Bs×Unit)):Option ((Int×List (Bs×Unit))):=
 (iter (fun x=>zfP o v0 x.1 x.2) ((0:Int),v1)).bind fun v6=>match v6 with
 |.inl v7=>some v7|.inr v8=>some ((-1:Int),v8)
def ztR(o:Ops):SC:=⟨⟨[(0,(.h (.sl .s))),(1,(.fn 130 [] [(.ptr 0 0)]))],[yhT,zoN]⟩,1,[(none,⟨[(0,hI)],[yhT,zoN]⟩)],fun x=>zoO o x.1 x.2⟩
theorem ybW:SCok aA tabs 212 (ztR o):=zbS (o:=o) (η:=[(200002,.loop [] ⟨[(1,(.fn 130 [] [(.ptr 0 0)])),(8,hI)],[yhT,zoN]⟩ [0,7] [(some 1000000,⟨[(4,hI)],[yhT,zoN]⟩),(some 0,⟨[],[yhT,zoN]⟩)])]) (Γ:=⟨[],[(130,(zrT o))],false,[]⟩) (ctok trivial ⟨zzF,trivial⟩) Tryz.func212
def zgG(o:Ops)(v0:List Bs)(v1:List (Bs×Unit)):Option ((Bool×List (Bs×Unit))):=
 (zoO o v0 v1).bind fun v2=>some (decide (v2.1≥0),v2.2)
def zpX(o:Ops):SC:=⟨⟨[(0,(.h (.sl .s))),(1,(.fn 130 [] [(.ptr 0 0)]))],[yhT,zoN]⟩,1,[(none,⟨[(0,hB)],[yhT,zoN]⟩)],fun x=>zgG o x.1 x.2⟩
theorem zxZ:SCok aA tabs 129 (zpX o):=zbS (o:=o) (η:=[]) (Γ:=⟨[],[(212,(ztR o))],false,[]⟩) (ctok trivial ⟨ybW,trivial⟩) Tryz.func129
def ybQ(_o:Ops)(v0:List (Bs×Unit)):Option ((List (Bs×Unit))):=
 some v0
def yfE(o:Ops):SC:=⟨⟨[(0,(.mpr 0))],[zoN]⟩,1,[(none,⟨[(0,(.fn 215 [] [(.ptr 1 0)]))],[zoN,.blk 160 [(.mpr 0)]]⟩)],fun x=>ybQ o x⟩
theorem yoK:SCok aA tabs 133 (yfE o):=zbS (o:=o) (η:=[]) (Γ:=⟨[],[],false,[]⟩) (ctok trivial trivial) Tryz.func133
def yrA:SC:=⟨⟨[(0,(.fn 215 [] [(.ptr 0 0)]))],[yhT,zoN]⟩,1,[(none,⟨[(0,(.h (.sl .s)))],[yhT,zoN]⟩)],fun es=>zqR es⟩
theorem xbO:SCok aA tabs 132 yrA:=wit (G:=tabs)<|yaC (kT:=9) (isFn Tryz.func132) (by kernel_rfl) YtopanhneegpgcaaGreatDoor.sorted215K
noncomputable def znI(_o:Ops)(v6:Bool)(v7:qaV)(v8:qaW)(v9:qbX)(v10:qbY)(v11:List ((Bs×Bs)×Unit))(v12:List (Bs×Unit)):Option (((Bool×qaV×qaW×qbX×qbY×(List ((Bs×Bs)×Unit))×List (Bs×Unit))⊕(Bool×qaV×qaW×qbX×qbY×(List ((Bs×Bs)×Unit))×(List Bs)×List (Bs×Unit)))⊕((qaV×qaW×qbX×qbY×(List ((Bs×Bs)×Unit))×List (Bs×Unit)))):=
 bif v6 then some (.inl (.inr (false,v7,v8,v9,v10,v11,cU Prod.fst v8,v12)))else some (.inr (v7,v8,v9,v10,v11,v12))
noncomputable def znM(o:Ops)(v0:Bs)(v13:Bool)(v14:qaV)(v15:qaW)(v16:qbX)(v17:qbY)(v18:List ((Bs×Bs)×Unit))(v19:List Bs)(v20:List (Bs×Unit)):List (Option (((Bool×qaV×qaW×qbX×qbY×(List ((Bs×Bs)×Unit))×List (Bs×Unit))⊕(Bool×qaV×qaW×qbX×qbY×(List ((Bs×Bs)×Unit))×(List Bs)×List (Bs×Unit)))⊕((qaV×qaW×qbX×qbY×(List ((Bs×Bs)×Unit))×List (Bs×Unit))))):=
 rngL (rngC keqS v15 v19) (some (.inl (.inl (v13,v14,v15,v16,v17,v18,v20)))) fun v21=>(mget keqS v15 v21.1).bind fun v22=>let _v23:Unit:=zeD keqS v20 v21.1 ()
 bif mhas keqS v20 v21.1 then some (.inl (.inr (v13,v14,v15,v16,v17,v18,rngD keqS v19 v21.1,v20)))else((zgG o v22.1.2.1 v20).bind fun v24=>bif v24.1 then(let v25:List (Bs×Unit):=mset keqS kltS v24.2 v21.1 ()
 some (.inl (.inr (true,v14,v15,v16,v17,v18,rngD keqS v19 v21.1,v25))))else((zjK o v22.1.1 v0).bind fun v26=>bif v26 then(let v27:List (Bs×Unit):=mset keqS kltS v24.2 v21.1 ()
 some (.inl (.inr (true,v14,v15,v16,v17,v18,rngD keqS v19 v21.1,v27))))else some (.inl (.inr (v13,v14,v15,v16,v17,v18,rngD keqS v19 v21.1,v24.2)))))
noncomputable def ztZ(o:Ops)(v0:Bs):(Bool×qaV×qaW×qbX×qbY×(List ((Bs×Bs)×Unit))×List (Bs×Unit))⊕(Bool×qaV×qaW×qbX×qbY×(List ((Bs×Bs)×Unit))×(List Bs)×List (Bs×Unit))->List (Option (((Bool×qaV×qaW×qbX×qbY×(List ((Bs×Bs)×Unit))×List (Bs×Unit))⊕(Bool×qaV×qaW×qbX×qbY×(List ((Bs×Bs)×Unit))×(List Bs)×List (Bs×Unit)))⊕((qaV×qaW×qbX×qbY×(List ((Bs×Bs)×Unit))×List (Bs×Unit)))))
 |.inl x=>[znI o x.1 x.2.1 x.2.2.1 x.2.2.2.1 x.2.2.2.2.1 x.2.2.2.2.2.1 x.2.2.2.2.2.2]|.inr x=>znM o v0 x.1 x.2.1 x.2.2.1 x.2.2.2.1 x.2.2.2.2.1 x.2.2.2.2.2.1 x.2.2.2.2.2.2.1 x.2.2.2.2.2.2.2
noncomputable def zdA(o:Ops)(v0:Bs)(v1:qaV)(v2:qaW)(v3:qbX)(v4:qbY)(v5:List ((Bs×Bs)×Unit)):Option (((List Bs)×zbO)):=
 (rngA (ztZ o v0) (Sum.inl (true,v1,v2,v3,v4,v5,([]:List (Bs×Unit))))).bind fun v28=>(ybQ o v28.2.2.2.2.2).bind fun v29=>(zqR v29).bind fun v30=>some (v30.1,v28.1,v28.2.1,v28.2.2.1,v28.2.2.2.1,v28.2.2.2.2.1)
noncomputable def zkC(o:Ops):SC:=⟨⟨[(0,(.ptr 0 0)),(1,hS)],[zbC,zaD,zaF,zaE,zaC,qaY]⟩,1,[(none,⟨[(0,(.hc .s))],[zbC,zaD,zaF,zaE,zaC,qaY]⟩)],fun x=>zdA o x.1 x.2.1 x.2.2.1 x.2.2.2.1 x.2.2.2.2.1 x.2.2.2.2.2⟩
theorem znH:SCok aA tabs 50 (zkC o):=witO (G:=tabs) (o:=o)<|fn_nc (H:=⟨[false,false,true,false],[],⟨[(0,(.ptr 0 0)),(5,(.ptr 6 0)),(6,hB)],[zbC,zaD,zaF,zaE,zaC,qaY,.blk 160 [(.mpr 7)],zoN]⟩,[1,4],[(some 0,⟨[(5,(.ptr 6 0))],[zbC,zaD,zaF,zaE,zaC,qaY,.blk 160 [(.mpr 7)],zoN]⟩)],[false,false,false],⟨[(0,(.ptr 0 0)),(5,(.ptr 6 0)),(6,hB),(18,(.ptr 7 0))],[zbC,zaD,zaF,zaE,zaC,qaY,.blk 160 [(.mpr 8)],.it 2 true .s,zoN]⟩,[1,4]⟩) (η:=[]) (Γ:=⟨[(131,(zoR o)),(61,ybM)],[(129,(zpX o)),(133,(yfE o)),(132,yrA)],false,[]⟩) yfB τ_okWkF (ctok ⟨ztG,⟨yeP,trivial⟩⟩ ⟨zxZ,⟨yoK,⟨xbO,trivial⟩⟩⟩) Tryz.func50 (isFn Tryz.func50) (by kernel_rfl) (by kernel_rfl) (by kernel_rfl)
def xcT:SC:=⟨⟨[(0,(.own 0))],[.osl .s 9]⟩,0,[(none,⟨[],[.osl .s 9]⟩)],ypL⟩
theorem Sort_sk:SCok aA tabs 102 xcT:=wit (G:=tabs)<|sortK
def ykR:SC:=⟨⟨[(0,(.own 0))],[.osl .s 9]⟩,1,[(none,⟨[(0,(.h (.sl .s)))],[.dead]⟩)],zzE⟩
theorem yxL:SCok aA tabs 103 ykR:=wit (G:=tabs)<|compactK
noncomputable def zhJ(_o:Ops)(v15:yaY)(v16:Int)(v17:qaV)(v18:qaW)(v19:qbX)(v20:qbY)(v21:List ((Bs×Bs)×Unit))(v22:List Bs):Option ((Int×qaV×qaW×qbX×qbY×(List ((Bs×Bs)×Unit))×List Bs)⊕((qaV×qaW×qbX×qbY×(List ((Bs×Bs)×Unit))×List Bs))):=
 bif decide (v16<(v15.1.2.2.length:Int))then((idx v15.1.2.2 v16).bind fun v23=>let v24:zgA:=zeD keqS v19 v23 (([]:Bs),([]:List Bs))
 (app v22 v24.2).bind fun v25=>some (.inl (w64 (v16+1),v17,v18,v19,v20,v21,v25)))else some (.inr (v17,v18,v19,v20,v21,v22))
noncomputable def zhV(o:Ops)(v6:((List Bs)×zbO))(v7:Int)(v8:qaV)(v9:qaW)(v10:qbX)(v11:qbY)(v12:List ((Bs×Bs)×Unit))(v13:List Bs):Option ((Int×qaV×qaW×qbX×qbY×(List ((Bs×Bs)×Unit))×List Bs)⊕((qaV×qaW×qbX×qbY×(List ((Bs×Bs)×Unit))×List Bs))):=
 bif decide (v7<(v6.1.length:Int))then((idx v6.1 v7).bind fun v14=>let v15:yaY:=zeD keqS v9 v14 ((([]:List Bs),([]:List Bs),([]:List Bs)),(0:Int))
 (iter (fun x=>zhJ o v15 x.1 x.2.1 x.2.2.1 x.2.2.2.1 x.2.2.2.2.1 x.2.2.2.2.2.1 x.2.2.2.2.2.2) ((0:Int),v8,v9,v10,v11,v12,v13)).bind fun v26=>some (.inl (w64 (v7+1),v26)))else some (.inr (v8,v9,v10,v11,v12,v13))
noncomputable def zcJ(o:Ops)(v0:Bs)(v1:qaV)(v2:qaW)(v3:qbX)(v4:qbY)(v5:List ((Bs×Bs)×Unit)):Option (((List Bs)×zbO)):=
 (zdA o v0 v1 v2 v3 v4 v5).bind fun v6=>(iter (fun x=>zhV o v6 x.1 x.2.1 x.2.2.1 x.2.2.2.1 x.2.2.2.2.1 x.2.2.2.2.2.1 x.2.2.2.2.2.2) ((0:Int),v6.2.1,v6.2.2.1,v6.2.2.2.1,v6.2.2.2.2.1,v6.2.2.2.2.2,([]:List Bs))).bind fun v27=>(ypL v27.2.2.2.2.2).bind fun v28=>(zzE v28).bind fun v29=>some (v29,v27.1,v27.2.1,v27.2.2.1,v27.2.2.2.1,v27.2.2.2.2.1)
noncomputable def zlA(o:Ops):SC:=⟨⟨[(0,(.ptr 0 0)),(1,hS)],[zbC,zaD,zaF,zaE,zaC,qaY]⟩,1,[(none,⟨[(0,(.hc .s))],[zbC,zaD,zaF,zaE,zaC,qaY]⟩)],fun x=>zcJ o x.1 x.2.1 x.2.2.1 x.2.2.2.1 x.2.2.2.2.1 x.2.2.2.2.2⟩
theorem zqC:SCok aA tabs 34 (zlA o):=zbS (o:=o) (η:=[(200006,.loop [] ⟨[(0,(.ptr 0 0)),(5,(.own 6)),(27,hI)],[zbC,zaD,zaF,zaE,zaC,qaY,.osl .s 9]⟩ [4,12,13,14,25,26] [(some 2,⟨[(0,(.ptr 0 0)),(5,(.own 6))],[zbC,zaD,zaF,zaE,zaC,qaY,.osl .s 9]⟩)]),
 (200003,.loop [.sl 5 .s 9] ⟨[(0,(.ptr 0 0)),(5,(.own 6)),(14,hI)],[zbC,zaD,zaF,zaE,zaC,qaY,.osl .s 9]⟩ [4,12,13] [(some 0,⟨[(5,(.own 6))],[zbC,zaD,zaF,zaE,zaC,qaY,.osl .s 9]⟩)])]) (Γ:=⟨[(61,ybM)],[(50,(zkC o)),(102,xcT),(103,ykR)],false,[]⟩) (ctok ⟨yeP,trivial⟩ ⟨znH,⟨Sort_sk,⟨yxL,trivial⟩⟩⟩) Tryz.func34
def yaG(_o:Ops)(v0:qbY):Option (qbY):=
 some v0
def ycL(o:Ops):SC:=⟨⟨[(0,(.mpr 0))],[zaC]⟩,1,[(none,⟨[(0,(.fn 271 [] [(.ptr 1 0)]))],[zaC,.blk 125 [(.mpr 0)]]⟩)],fun x=>yaG o x⟩
theorem ymR:SCok aA tabs 203 (ycL o):=zbS (o:=o) (η:=[]) (Γ:=⟨[],[],false,[]⟩) (ctok trivial trivial) Tryz.func203
def ylC:SC:=⟨⟨[(0,(.fn 271 [] [(.ptr 0 0)]))],[.blk 125 [(.mpr 1)],zaC]⟩,1,[(none,⟨[(0,(.h (.sl .s)))],[.blk 125 [(.mpr 1)],zaC]⟩)],fun es=>zqR es⟩
theorem yyC:SCok aA tabs 132 ylC:=wit (G:=tabs)<|yaC (kT:=9) (isFn Tryz.func132) (by kernel_rfl) YtopanhneegpgcaaGreatDoor.sorted271K
def zpQ(_o:Ops)(v0:zvT):Option zvT:=
 (app ([]:List Bs) v0.2.2.1).bind fun v1=>(app ([]:List Bs) v0.2.2.2.1).bind fun v2=>some (v0.1,v0.2.1,v1,v2,v0.2.2.2.2)
def zxI(o:Ops):PC:=⟨[(.h yeM)],[yeM],fun x=>zpQ o x,false⟩
theorem yfQ:PCok aA tabs 107 (zxI o):=zkL (o:=o) (η:=[(4000001,.sch [(.pu,0,[]),(.pu,1,[]),(.pu,4,[3]),(.pu,5,[3]),(.mn,2,[]),(.mn,3,[3]),(.pu,8,[5]),(.mn,6,[]),(.mn,7,[5]),(.mn,9,[0]),(.pu,10,[]),(.mn,11,[0])])]) (Γ:=⟨[(61,ybM)],[(198,yaK)],false,[]⟩) (ctok ⟨yeP,trivial⟩ ⟨ycX,trivial⟩) Tryz.func107
def ziK(o:Ops)(_v0:Bs)(v1:zvT):Option zvT:=
 (zpQ o v1).bind fun v2=>some v2
def zmJ(o:Ops):PC:=⟨[hS,(.h yeM)],[yeM],fun x=>ziK o x.1 x.2,false⟩
theorem zuD:PCok aA tabs 109 (zmJ o):=zkL (o:=o) (η:=[]) (Γ:=⟨[(107,(zxI o))],[],false,[]⟩) (ctok ⟨yfQ,trivial⟩ trivial) Tryz.func109
def zsB(o:Ops)(v3:((List Bs)×qbY))(v4:Int)(v5:qbY)(v6:List zvT):Option ((Int×qbY×List zvT)⊕((qbY×List zvT))):=
 bif decide (v4<(v3.1.length:Int))then((idx v3.1 v4).bind fun v7=>let v8:zvT:=zeD keqS v5 v7 (([]:Bs),([]:Bs),([]:List Bs),([]:List Bs),false,false,false,false)
 (ziK o v7 v8).bind fun v9=>(app v6 ([v9]:List zvT)).bind fun v10=>some (.inl (w64 (v4+1),v5,v10)))else some (.inr (v5,v6))
def zuB(o:Ops)(v0:qbY):Option ((qbY×List zvT)):=
 (chk (decide ((0:Int)<=(v0.length:Int))&&decide ((v0.length:Int)<=(LIM:Int)))).bind fun _=>(mkL (0:Int) (([]:Bs),([]:Bs),([]:List Bs),([]:List Bs),false,false,false,false)).bind fun v1=>(yaG o v0).bind fun v2=>(zqR v2).bind fun v3=>(iter (fun x=>zsB o v3 x.1 x.2.1 x.2.2) ((0:Int),v3.2,v1)).bind fun v11=>some v11
def zxO(o:Ops):SC:=⟨⟨[(0,(.mpr 0)),(1,(.fn 109 [] []))],[zaC]⟩,1,[(none,⟨[(0,(.own 1))],[zaC,.osl yeM 51]⟩)],fun x=>zuB o x⟩
theorem yfX:SCok aA tabs 108 (zxO o):=zbS (o:=o) (η:=[(200003,.loop [] ⟨[(0,(.mpr 0)),(1,(.fn 109 [] [])),(5,(.own 1)),(15,hI)],[zaC,.osl yeM 51]⟩ [4,13,14] [(some 0,⟨[(5,(.own 1))],[zaC,.osl yeM 51]⟩)])]) (Γ:=⟨[(109,(zmJ o))],[(203,(ycL o)),(132,ylC)],false,[]⟩) (ctok ⟨zuD,trivial⟩ ⟨ymR,⟨yyC,trivial⟩⟩) Tryz.func108
def zeP(o:Ops)(v0:qaV)(v1:qaW)(v2:qbX)(v3:qbY)(v4:List ((Bs×Bs)×Unit)):Option ((qaV×qaW×qbX×qbY×(List ((Bs×Bs)×Unit))×List zvT)):=
 (zuB o v3).bind fun v5=>some (v0,v1,v2,v5.1,v4,v5.2)
def zjD(o:Ops):SC:=⟨⟨[(0,(.ptr 0 0))],[zbC,zaD,zaF,zaE,zaC,qaY]⟩,1,[(none,⟨[(0,(.own 6))],[zbC,zaD,zaF,zaE,zaC,qaY,.osl yeM 51]⟩)],fun x=>zeP o x.1 x.2.1 x.2.2.1 x.2.2.2.1 x.2.2.2.2⟩
theorem znQ:SCok aA tabs 38 (zjD o):=zbS (o:=o) (η:=[]) (Γ:=⟨[],[(108,(zxO o))],false,[]⟩) (ctok trivial ⟨yfX,trivial⟩) Tryz.func38
def ziI(_o:Ops)(v0:Bool):Option Bs:=
 bif v0 then(some ([49]:Bs))else(some ([48]:Bs))
def zzS(o:Ops):PC:=⟨[hB],[.s],fun x=>ziI o x,false⟩
theorem yhA:PCok aA tabs 86 (zzS o):=zkL (o:=o) (η:=[]) (Γ:=⟨[],[],false,[]⟩) (ctok trivial trivial) Tryz.func86
def zeN(o:Ops)(v0:List Bs):Option (List Bs):=
 (o.itoa (v0.length:Int)).bind fun v1=>(app ([v1]:List Bs) v0).bind fun v2=>some v2
def zxH(o:Ops):PC:=⟨[(.h (.sl .s))],[(.sl .s)],fun x=>zeN o x,false⟩
theorem yfI:PCok aA tabs 87 (zxH o):=zkL (o:=o) (η:=[]) (Γ:=⟨[(68,(yrN o))],[],false,[]⟩) (ctok ⟨(zoW.itoa (G:=tabs)),trivial⟩ trivial) Tryz.func87
def xdV:SC:=⟨⟨[(0,.nils),(1,hI)],[]⟩,1,[(none,⟨[(0,(.own 0))],[.osl .s 9]⟩)],fun n=>ysM .s n⟩
theorem Grow_sk:SCok aA tabs 187 xdV:=wit (G:=tabs)<|grow0_sc (isFn Tryz.func187) growK
def zkK(_o:Ops)(v0:List (List Bs))(v1:Int)(v2:Int):Option ((Int×Int)⊕Int):=
 bif decide (v2<(v0.length:Int))then((idx v0 v2).bind fun v3=>bif decide ((w64 (v1+(v3.length:Int)))<0)then none else some (.inl (w64 (v1+(v3.length:Int)),w64 (v2+1))))else some (.inr v1)
def zkP(_o:Ops)(v0:List (List Bs))(v6:Int)(v7:List Bs):Option ((Int×List Bs)⊕List Bs):=
 bif decide (v6<(v0.length:Int))then((idx v0 v6).bind fun v8=>(app v7 v8).bind fun v9=>some (.inl (w64 (v6+1),v9)))else some (.inr v7)
def zmB(o:Ops)(v0:List (List Bs)):Option (List Bs):=
 (iter (fun x=>zkK o v0 x.1 x.2) ((0:Int),(0:Int))).bind fun v4=>(ysM .s v4).bind fun v5=>(iter (fun x=>zkP o v0 x.1 x.2) ((0:Int),v5)).bind fun v10=>some v10
def zxS(o:Ops):PC:=⟨[(.h (.sl (.sl .s)))],[(.sl .s)],fun x=>zmB o x,false⟩
theorem yfU:PCok aA tabs 85 (zxS o):=zkL (o:=o) (η:=[(200003,.loop [] ⟨[(3,hI),(11,hI)],[]⟩ [0,2,9,10] [(some 0,⟨[(3,hI)],[]⟩)]),
 (200011,.loop [] ⟨[(6,(.own 0)),(27,hI)],[.osl .s 9]⟩ [2,25,26] [(some 2,⟨[(6,(.own 0))],[.osl .s 9]⟩)])]) (Γ:=⟨[],[(187,xdV)],false,[]⟩) (ctok trivial ⟨Grow_sk,trivial⟩) Tryz.func85
def zdH(o:Ops)(v0:Bs)(v1:List Bs)(v2:List (Bs×Bs)):Option ((List (Bs×Bs))):=
 (o.form v1).bind fun v3=>(app v2 ([(v0,v3)]:List (Bs×Bs))).bind fun v4=>some v4
def znR(o:Ops):SC:=⟨⟨[(0,hS),(1,(.h (.sl .s))),(2,(.ptr 0 0))],[QWkF13,.osl (.pr .s .s) 33]⟩,0,[(none,⟨[],[yyT,.dead,.osl (.pr .s .s) 33]⟩)],fun x=>zdH o x.1 x.2.1 x.2.2⟩
theorem zuY:SCok aA tabs 84 (znR o):=zbS (o:=o) (η:=[(4000000,.sch (zpu 0 3++[(.mn,3,[]),(.pu,4,[]),(.mn,5,[]),(.mn,6,[1]),(.mn,7,[0])]))]) (Γ:=⟨[(22,(yjK o))],[],false,[]⟩) (ctok ⟨(zoW.form (G:=tabs)),trivial⟩ trivial) Tryz.func84
def zzB(_o:Ops)(v0:qaW):Option (qaW):=
 some v0
def ydB(o:Ops):SC:=⟨⟨[(0,(.mpr 0))],[zaF]⟩,1,[(none,⟨[(0,(.fn 260 [] [(.ptr 1 0)]))],[zaF,.blk 123 [(.mpr 0)]]⟩)],fun x=>zzB o x⟩
theorem ylN:SCok aA tabs 196 (ydB o):=zbS (o:=o) (η:=[]) (Γ:=⟨[],[],false,[]⟩) (ctok trivial trivial) Tryz.func196
def ykH:SC:=⟨⟨[(0,(.fn 260 [] [(.ptr 0 0)]))],[.blk 123 [(.mpr 1)],zaF]⟩,1,[(none,⟨[(0,(.h (.sl .s)))],[.blk 123 [(.mpr 1)],zaF]⟩)],fun es=>zqR es⟩
theorem yxG:SCok aA tabs 132 ykH:=wit (G:=tabs)<|yaC (kT:=9) (isFn Tryz.func132) (by kernel_rfl) YtopanhneegpgcaaGreatDoor.sorted260K
def ziQ(_o:Ops)(v0:List Bs):Option (List Bs):=
 (app ([]:List Bs) v0).bind fun v1=>some v1
def zxT(o:Ops):SC:=⟨⟨[(0,(.h (.sl .s)))],[]⟩,1,[(none,⟨[(0,(.hc .s))],[]⟩)],fun x=>ziQ o x⟩
theorem yfT:SCok aA tabs 197 (zxT o):=zbS (o:=o) (η:=[]) (Γ:=⟨[(61,ybM)],[(198,yaK)],false,[]⟩) (ctok ⟨yeP,trivial⟩ ⟨ycX,trivial⟩) Tryz.func197
def zwY(o:Ops)(v0:Bs)(v1:yaY):Option yjX:=
 (ziQ o v1.1.1).bind fun v2=>(ziQ o v1.1.2.1).bind fun v3=>(ziQ o v1.1.2.2).bind fun v4=>some (v0,v2,v3,v4,v1.2)
def ybH(o:Ops):PC:=⟨[hS,(.h ywS)],[yxB],fun x=>zwY o x.1 x.2,false⟩
theorem ykB:PCok aA tabs 100 (ybH o):=zkL (o:=o) (η:=[(4000002,.sch (zpu 0 5++zpu 6 4++zpu 11 4++[(.pu,16,[]),(.pu,17,[]),(.mn,5,[]),(.mn,10,[]),(.mn,15,[]),(.pu,18,[]),(.mn,19,[1])]))]) (Γ:=⟨[],[(197,(zxT o))],false,[]⟩) (ctok trivial ⟨yfT,trivial⟩) Tryz.func100
def zqQ(o:Ops)(v3:((List Bs)×qaW))(v4:Int)(v5:qaW)(v6:List yjX):Option ((Int×qaW×List yjX)⊕((qaW×List yjX))):=
 bif decide (v4<(v3.1.length:Int))then((idx v3.1 v4).bind fun v7=>let v8:yaY:=zeD keqS v5 v7 ((([]:List Bs),([]:List Bs),([]:List Bs)),(0:Int))
 (zwY o v7 v8).bind fun v9=>(app v6 ([v9]:List yjX)).bind fun v10=>some (.inl (w64 (v4+1),v5,v10)))else some (.inr (v5,v6))
def zsH(o:Ops)(v0:qaW):Option ((qaW×List yjX)):=
 (chk (decide ((0:Int)<=(v0.length:Int))&&decide ((v0.length:Int)<=(LIM:Int)))).bind fun _=>(mkL (0:Int) (([]:Bs),([]:List Bs),([]:List Bs),([]:List Bs),(0:Int))).bind fun v1=>(zzB o v0).bind fun v2=>(zqR v2).bind fun v3=>(iter (fun x=>zqQ o v3 x.1 x.2.1 x.2.2) ((0:Int),v3.2,v1)).bind fun v11=>some v11
def zvJ(o:Ops):SC:=⟨⟨[(0,(.mpr 0)),(1,(.fn 100 [] []))],[zaF]⟩,1,[(none,⟨[(0,(.own 1))],[zaF,.osl yxB 57]⟩)],fun x=>zsH o x⟩
theorem ydW:SCok aA tabs 99 (zvJ o):=zbS (o:=o) (η:=[(200003,.loop [] ⟨[(0,(.mpr 0)),(1,(.fn 100 [] [])),(5,(.own 1)),(15,hI)],[zaF,.osl yxB 57]⟩ [4,13,14] [(some 0,⟨[(5,(.own 1))],[zaF,.osl yxB 57]⟩)])]) (Γ:=⟨[(100,(ybH o))],[(196,(ydB o)),(132,ykH)],false,[]⟩) (ctok ⟨ykB,trivial⟩ ⟨ylN,⟨yxG,trivial⟩⟩) Tryz.func99
def zfM(o:Ops)(v0:qaV)(v1:qaW)(v2:qbX)(v3:qbY)(v4:List ((Bs×Bs)×Unit)):Option ((qaV×qaW×qbX×qbY×(List ((Bs×Bs)×Unit))×List yjX)):=
 (zsH o v1).bind fun v5=>some (v0,v5.1,v2,v3,v4,v5.2)
def zkF(o:Ops):SC:=⟨⟨[(0,(.ptr 0 0))],[zbC,zaD,zaF,zaE,zaC,qaY]⟩,1,[(none,⟨[(0,(.own 6))],[zbC,zaD,zaF,zaE,zaC,qaY,.osl yxB 57]⟩)],fun x=>zfM o x.1 x.2.1 x.2.2.1 x.2.2.2.1 x.2.2.2.2⟩
theorem zpI:SCok aA tabs 32 (zkF o):=zbS (o:=o) (η:=[]) (Γ:=⟨[],[(99,(zvJ o))],false,[]⟩) (ctok trivial ⟨ydW,trivial⟩) Tryz.func32
def zyU(_o:Ops)(v0:List ((Bs×Bs)×Unit)):Option ((List ((Bs×Bs)×Unit))):=
 some v0
def ycW(o:Ops):SC:=⟨⟨[(0,(.mpr 0))],[qaY]⟩,1,[(none,⟨[(0,(.fn 211 [] [(.ptr 1 0)]))],[qaY,.blk 126 [(.mpr 0)]]⟩)],fun x=>zyU o x⟩
theorem ymM:SCok aA tabs 125 (ycW o):=zbS (o:=o) (η:=[]) (Γ:=⟨[],[],false,[]⟩) (ctok trivial trivial) Tryz.func125
def ykY:SC:=⟨⟨[(0,(.fn 211 [] [(.ptr 0 0)])),(1,(.fn 126 [] []))],[.blk 126 [(.mpr 1)],qaY]⟩,1,[(none,⟨[(0,(.h (.sl (.pr .s .s))))],[.blk 126 [(.mpr 1)],qaY]⟩)],fun(es:List ((Bs×Bs)×Unit))=>ycO es⟩
theorem yxQ:SCok aA tabs 124 ykY:=wit (G:=tabs)<|yrF
def ywK:PC:=⟨[.h (.sl (.pr .s .s))],[(.sl (.pr .s .s))],fun xs=>some xs,true⟩
theorem Clip_p2k:PCok aA tabs 127 ywK:=wit (G:=tabs)<|ysZ yfB τ_okWkF Tryz.func127 (isFn Tryz.func127) rfl (by kernel_rfl) (fun _=>by kernel_rfl)
def zgZ(o:Ops)(v0:qaV)(v1:qaW)(v2:qbX)(v3:qbY)(v4:List ((Bs×Bs)×Unit)):Option (((List (Bs×Bs))×zbO)):=
 (zyU o v4).bind fun v5=>(ycO v5).bind fun v6=>some (v6.1,v0,v1,v2,v3,v6.2)
def zlY(o:Ops):SC:=⟨⟨[(0,(.ptr 0 0))],[zbC,zaD,zaF,zaE,zaC,qaY]⟩,1,[(none,⟨[(0,(.hc (.pr .s .s)))],[zbC,zaD,zaF,zaE,zaC,qaY]⟩)],fun x=>zgZ o x.1 x.2.1 x.2.2.1 x.2.2.2.1 x.2.2.2.2⟩
theorem zrR:SCok aA tabs 45 (zlY o):=zbS (o:=o) (η:=[]) (Γ:=⟨[(127,ywK)],[(125,(ycW o)),(124,ykY)],false,[]⟩) (ctok ⟨Clip_p2k,trivial⟩ ⟨ymM,⟨yxQ,trivial⟩⟩) Tryz.func45
def zjS(o:Ops)(v0:Bs)(v1:List (Bs×Bs)):Option ((List (Bs×Bs))):=
 (o.form ([]:List Bs)).bind fun v2=>(app v1 ([(v0,v2)]:List (Bs×Bs))).bind fun v3=>some v3
def zoF(o:Ops):SC:=⟨⟨[(0,hS),(1,.nils),(2,(.ptr 0 0))],[QWkF13,.osl (.pr .s .s) 33]⟩,0,[(none,⟨[],[yyT,.dead,.osl (.pr .s .s) 33]⟩)],fun x=>zjS o x.1 x.2⟩
theorem zvB:SCok aA tabs 84 (zoF o):=zbS (o:=o) (η:=[(4000000,.sch (zpu 0 3++[(.mn,3,[]),(.pu,4,[]),(.mn,5,[]),(.mn,6,[1]),(.mn,7,[0])]))]) (Γ:=⟨[(22,(yjK o))],[],false,[]⟩) (ctok ⟨(zoW.form (G:=tabs)),trivial⟩ trivial) Tryz.func84
def zzA(_o:Ops)(v0:qbX):Option (qbX):=
 some v0
def ycZ(o:Ops):SC:=⟨⟨[(0,(.mpr 0))],[zaE]⟩,1,[(none,⟨[(0,(.fn 273 [] [(.ptr 1 0)]))],[zaE,.blk 124 [(.mpr 0)]]⟩)],fun x=>zzA o x⟩
theorem ylY:SCok aA tabs 205 (ycZ o):=zbS (o:=o) (η:=[]) (Γ:=⟨[],[],false,[]⟩) (ctok trivial trivial) Tryz.func205
def ylH:SC:=⟨⟨[(0,(.fn 273 [] [(.ptr 0 0)]))],[.blk 124 [(.mpr 1)],zaE]⟩,1,[(none,⟨[(0,(.h (.sl .s)))],[.blk 124 [(.mpr 1)],zaE]⟩)],fun es=>zqR es⟩
theorem ywU:SCok aA tabs 132 ylH:=wit (G:=tabs)<|yaC (kT:=9) (isFn Tryz.func132) (by kernel_rfl) YtopanhneegpgcaaGreatDoor.sorted273K
def zjQ(o:Ops)(_v0:Bs)(v1:zgA):Option zgA:=
 (zhO o v1).bind fun v2=>some v2
def znN(o:Ops):PC:=⟨[hS,(.h yeK)],[yeK],fun x=>zjQ o x.1 x.2,false⟩
theorem zvQ:PCok aA tabs 113 (znN o):=zkL (o:=o) (η:=[]) (Γ:=⟨[(105,(zmN o))],[],false,[]⟩) (ctok ⟨zsZ,trivial⟩ trivial) Tryz.func113
def zqT(o:Ops)(v3:((List Bs)×qbX))(v4:Int)(v5:qbX)(v6:qcY):Option ((Int×qbX×qcY)⊕((qbX×qcY))):=
 bif decide (v4<(v3.1.length:Int))then((idx v3.1 v4).bind fun v7=>let v8:zgA:=zeD keqS v5 v7 (([]:Bs),([]:List Bs))
 (zjQ o v7 v8).bind fun v9=>(app v6 ([v9]:qcY)).bind fun v10=>some (.inl (w64 (v4+1),v5,v10)))else some (.inr (v5,v6))
def zsD(o:Ops)(v0:qbX):Option ((qbX×qcY)):=
 (chk (decide ((0:Int)<=(v0.length:Int))&&decide ((v0.length:Int)<=(LIM:Int)))).bind fun _=>(mkL (0:Int) (([]:Bs),([]:List Bs))).bind fun v1=>(zzA o v0).bind fun v2=>(zqR v2).bind fun v3=>(iter (fun x=>zqT o v3 x.1 x.2.1 x.2.2) ((0:Int),v3.2,v1)).bind fun v11=>some v11
def zvP(o:Ops):SC:=⟨⟨[(0,(.mpr 0)),(1,(.fn 113 [] []))],[zaE]⟩,1,[(none,⟨[(0,(.own 1))],[zaE,.osl yeK 49]⟩)],fun x=>zsD o x⟩
theorem ydX:SCok aA tabs 112 (zvP o):=zbS (o:=o) (η:=[(200003,.loop [] ⟨[(0,(.mpr 0)),(1,(.fn 113 [] [])),(5,(.own 1)),(15,hI)],[zaE,.osl yeK 49]⟩ [4,13,14] [(some 0,⟨[(5,(.own 1))],[zaE,.osl yeK 49]⟩)])]) (Γ:=⟨[(113,(znN o))],[(205,(ycZ o)),(132,ylH)],false,[]⟩) (ctok ⟨zvQ,trivial⟩ ⟨ylY,⟨ywU,trivial⟩⟩) Tryz.func112
def zgK(o:Ops)(v0:qaV)(v1:qaW)(v2:qbX)(v3:qbY)(v4:List ((Bs×Bs)×Unit)):Option ((qaV×qaW×qbX×qbY×(List ((Bs×Bs)×Unit))×qcY)):=
 (zsD o v2).bind fun v5=>some (v0,v1,v5.1,v3,v4,v5.2)
def zlB(o:Ops):SC:=⟨⟨[(0,(.ptr 0 0))],[zbC,zaD,zaF,zaE,zaC,qaY]⟩,1,[(none,⟨[(0,(.own 6))],[zbC,zaD,zaF,zaE,zaC,qaY,.osl yeK 49]⟩)],fun x=>zgK o x.1 x.2.1 x.2.2.1 x.2.2.2.1 x.2.2.2.2⟩
theorem zqF:SCok aA tabs 40 (zlB o):=zbS (o:=o) (η:=[]) (Γ:=⟨[],[(112,(zvP o))],false,[]⟩) (ctok trivial ⟨ydX,trivial⟩) Tryz.func40
def zzO(_o:Ops)(v0:qaV):Option (qaV):=
 some v0
def ycY(o:Ops):SC:=⟨⟨[(0,(.mpr 0))],[zaD]⟩,1,[(none,⟨[(0,(.fn 272 [] [(.ptr 1 0)]))],[zaD,.blk 122 [(.mpr 0)]]⟩)],fun x=>zzO o x⟩
theorem ymF:SCok aA tabs 204 (ycY o):=zbS (o:=o) (η:=[]) (Γ:=⟨[],[],false,[]⟩) (ctok trivial trivial) Tryz.func204
def ylA:SC:=⟨⟨[(0,(.fn 272 [] [(.ptr 0 0)]))],[.blk 122 [(.mpr 1)],zaD]⟩,1,[(none,⟨[(0,(.h (.sl .s)))],[.blk 122 [(.mpr 1)],zaD]⟩)],fun es=>zqR es⟩
theorem yyD:SCok aA tabs 132 ylA:=wit (G:=tabs)<|yaC (kT:=9) (isFn Tryz.func132) (by kernel_rfl) YtopanhneegpgcaaGreatDoor.sorted272K
def zjT(_o:Ops)(_v0:Bs)(v1:zyI):Option zyI:=
 some v1
def znZ(o:Ops):PC:=⟨[hS,(.h ylV)],[ylV],fun x=>zjT o x.1 x.2,false⟩
theorem zvU:PCok aA tabs 111 (znZ o):=zkL (o:=o) (η:=[]) (Γ:=⟨[],[],false,[]⟩) (ctok trivial trivial) Tryz.func111
def zqP(o:Ops)(v3:((List Bs)×qaV))(v4:Int)(v5:qaV)(v6:List zyI):Option ((Int×qaV×List zyI)⊕((qaV×List zyI))):=
 bif decide (v4<(v3.1.length:Int))then((idx v3.1 v4).bind fun v7=>let v8:zyI:=zeD keqS v5 v7 (([]:Bs),([]:Bs),false,(0:Int))
 (zjT o v7 v8).bind fun v9=>(app v6 ([v9]:List zyI)).bind fun v10=>some (.inl (w64 (v4+1),v5,v10)))else some (.inr (v5,v6))
def zsO(o:Ops)(v0:qaV):Option ((qaV×List zyI)):=
 (chk (decide ((0:Int)<=(v0.length:Int))&&decide ((v0.length:Int)<=(LIM:Int)))).bind fun _=>(mkL (0:Int) (([]:Bs),([]:Bs),false,(0:Int))).bind fun v1=>(zzO o v0).bind fun v2=>(zqR v2).bind fun v3=>(iter (fun x=>zqP o v3 x.1 x.2.1 x.2.2) ((0:Int),v3.2,v1)).bind fun v11=>some v11
def zvF(o:Ops):SC:=⟨⟨[(0,(.mpr 0)),(1,(.fn 111 [] []))],[zaD]⟩,1,[(none,⟨[(0,(.own 1))],[zaD,.osl ylV 77]⟩)],fun x=>zsO o x⟩
theorem yeO:SCok aA tabs 110 (zvF o):=zbS (o:=o) (η:=[(200003,.loop [] ⟨[(0,(.mpr 0)),(1,(.fn 111 [] [])),(5,(.own 1)),(15,hI)],[zaD,.osl ylV 77]⟩ [4,13,14] [(some 0,⟨[(5,(.own 1))],[zaD,.osl ylV 77]⟩)])]) (Γ:=⟨[(111,(znZ o))],[(204,(ycY o)),(132,ylA)],false,[]⟩) (ctok ⟨zvU,trivial⟩ ⟨ymF,⟨yyD,trivial⟩⟩) Tryz.func110
def zgC(o:Ops)(v0:qaV)(v1:qaW)(v2:qbX)(v3:qbY)(v4:List ((Bs×Bs)×Unit)):Option ((qaV×qaW×qbX×qbY×(List ((Bs×Bs)×Unit))×List zyI)):=
 (zsO o v0).bind fun v5=>some (v5.1,v1,v2,v3,v4,v5.2)
def zkZ(o:Ops):SC:=⟨⟨[(0,(.ptr 0 0))],[zbC,zaD,zaF,zaE,zaC,qaY]⟩,1,[(none,⟨[(0,(.own 6))],[zbC,zaD,zaF,zaE,zaC,qaY,.osl ylV 77]⟩)],fun x=>zgC o x.1 x.2.1 x.2.2.1 x.2.2.2.1 x.2.2.2.2⟩
theorem zpV:SCok aA tabs 39 (zkZ o):=zbS (o:=o) (η:=[]) (Γ:=⟨[],[(110,(zvF o))],false,[]⟩) (ctok trivial ⟨yeO,trivial⟩) Tryz.func39
def zjZ(o:Ops)(v0:Bs)(v1:List Bs)(v2:List (Bs×Bs)):Option (((List Bs)×List (Bs×Bs))):=
 (o.form v1).bind fun v3=>(app v2 ([(v0,v3)]:List (Bs×Bs))).bind fun v4=>some (v1,v4)
def zoC(o:Ops):SC:=⟨⟨[(0,hS),(1,(.own 0)),(2,(.ptr 1 0))],[.osl .s 9,yyT,.osl (.pr .s .s) 33]⟩,0,[(none,⟨[],[.osl .s 9,.blk 31 [(.own 3)],.dead,.osl (.pr .s .s) 33]⟩)],fun x=>zjZ o x.1 x.2.1 x.2.2⟩
theorem zvS:SCok aA tabs 84 (zoC o):=zbS (o:=o) (η:=[(4000000,.sch (zpu 0 3++[(.mn,3,[]),(.pu,4,[]),(.mn,5,[]),(.mn,6,[2]),(.mn,7,[1])]))]) (Γ:=⟨[(22,(yjK o))],[],false,[]⟩) (ctok ⟨(zoW.form (G:=tabs)),trivial⟩ trivial) Tryz.func84
def ytQ:SC:=⟨⟨[(0,(.own 0)),(1,(.fn 89 [] []))],[.osl (.pr .s .s) 33]⟩,0,[(none,⟨[],[.osl (.pr .s .s) 33]⟩)],fun(xs:List (Bs×Bs))=>yeY xs⟩
theorem SortF_sk:SCok aA tabs 88 ytQ:=wit (G:=tabs)<|sortF89K
def yuZ:PC:=⟨[.h (.sl (.pr .s .s))],[(.sl (.pr .s .s))],fun xs=>some xs,true⟩
theorem Clip_p3k:PCok aA tabs 91 yuZ:=wit (G:=tabs)<|ysZ yfB τ_okWkF Tryz.func91 (isFn Tryz.func91) rfl (by kernel_rfl) (fun _=>by kernel_rfl)
def zlS(o:Ops)(v5:(qaV×qaW×qbX×qbY×(List ((Bs×Bs)×Unit))×List zvT))(v6:Int)(v7:qaV)(v8:qaW)(v9:qbX)(v10:qbY)(v11:List ((Bs×Bs)×Unit))(v12:List zvT)(v13:List (Bs×Bs)):Option ((Int×qaV×qaW×qbX×qbY×(List ((Bs×Bs)×Unit))×(List zvT)×List (Bs×Bs))⊕((qaV×qaW×qbX×qbY×(List ((Bs×Bs)×Unit))×List (Bs×Bs)))):=
 bif decide (v6<(v5.2.2.2.2.2.length:Int))then((chk (decide ((0:Int)<=v6)&&decide (v6<(v12.length:Int)))).bind fun _=>(idx v12 v6).bind fun v14=>(app ([99,108,105,101,110,116,47]:Bs) v14.1).bind fun v15=>(ziI o v14.2.2.2.2.1).bind fun v16=>(ziI o v14.2.2.2.2.2.1).bind fun v17=>(app v16 v17).bind fun v18=>(ziI o v14.2.2.2.2.2.2.1).bind fun v19=>(app v18 v19).bind fun v20=>(ziI o v14.2.2.2.2.2.2.2).bind fun v21=>(app v20 v21).bind fun v22=>(zeN o v14.2.2.1).bind fun v23=>(zeN o v14.2.2.2.1).bind fun v24=>(zmB o ([([v14.2.1,v22]:List Bs),v23,v24]:List (List Bs))).bind fun v25=>(zdH o v15 v25 v13).bind fun v26=>some (.inl (w64 (v6+1),v7,v8,v9,v10,v11,v12,v26)))else some (.inr (v7,v8,v9,v10,v11,v13))
def zlP(o:Ops)(v28:(qaV×qaW×qbX×qbY×(List ((Bs×Bs)×Unit))×List yjX))(v29:Int)(v30:qaV)(v31:qaW)(v32:qbX)(v33:qbY)(v34:List ((Bs×Bs)×Unit))(v35:List yjX)(v36:List (Bs×Bs)):Option ((Int×qaV×qaW×qbX×qbY×(List ((Bs×Bs)×Unit))×(List yjX)×List (Bs×Bs))⊕((qaV×qaW×qbX×qbY×(List ((Bs×Bs)×Unit))×List (Bs×Bs)))):=
 bif decide (v29<(v28.2.2.2.2.2.length:Int))then((chk (decide ((0:Int)<=v29)&&decide (v29<(v35.length:Int)))).bind fun _=>(idx v35 v29).bind fun v37=>(app ([103,114,111,117,112,47]:Bs) v37.1).bind fun v38=>(o.itoa v37.2.2.2.2).bind fun v39=>(zeN o v37.2.1).bind fun v40=>(zeN o v37.2.2.1).bind fun v41=>(zeN o v37.2.2.2.1).bind fun v42=>(zmB o ([([v39]:List Bs),v40,v41,v42]:List (List Bs))).bind fun v43=>(zdH o v38 v43 v36).bind fun v44=>some (.inl (w64 (v29+1),v30,v31,v32,v33,v34,v35,v44)))else some (.inr (v30,v31,v32,v33,v34,v36))
def ziG(o:Ops)(v46:((List (Bs×Bs))×zbO))(v47:Int)(v48:qaV)(v49:qaW)(v50:qbX)(v51:qbY)(v52:List ((Bs×Bs)×Unit))(v53:List (Bs×Bs)):Option ((Int×qaV×qaW×qbX×qbY×(List ((Bs×Bs)×Unit))×List (Bs×Bs))⊕((qaV×qaW×qbX×qbY×(List ((Bs×Bs)×Unit))×List (Bs×Bs)))):=
 bif decide (v47<(v46.1.length:Int))then((idx v46.1 v47).bind fun v54=>(app ([109,97,121,47]:Bs) v54.1).bind fun v55=>(app v55 ([124]:Bs)).bind fun v56=>(app v56 v54.2).bind fun v57=>(zjS o v57 v53).bind fun v58=>some (.inl (w64 (v47+1),v48,v49,v50,v51,v52,v58)))else some (.inr (v48,v49,v50,v51,v52,v53))
def zlX(o:Ops)(v60:(qaV×qaW×qbX×qbY×(List ((Bs×Bs)×Unit))×qcY))(v61:Int)(v62:qaV)(v63:qaW)(v64:qbX)(v65:qbY)(v66:List ((Bs×Bs)×Unit))(v67:qcY)(v68:List (Bs×Bs)):Option ((Int×qaV×qaW×qbX×qbY×(List ((Bs×Bs)×Unit))×qcY×List (Bs×Bs))⊕((qaV×qaW×qbX×qbY×(List ((Bs×Bs)×Unit))×List (Bs×Bs)))):=
 bif decide (v61<(v60.2.2.2.2.2.length:Int))then((chk (decide ((0:Int)<=v61)&&decide (v61<(v67.length:Int)))).bind fun _=>(idx v67 v61).bind fun v69=>(app ([114,111,108,101,47]:Bs) v69.1).bind fun v70=>(zeN o v69.2).bind fun v71=>(zdH o v70 v71 v68).bind fun v72=>some (.inl (w64 (v61+1),v62,v63,v64,v65,v66,v67,v72)))else some (.inr (v62,v63,v64,v65,v66,v68))
def zlR(o:Ops)(v74:(qaV×qaW×qbX×qbY×(List ((Bs×Bs)×Unit))×List zyI))(v75:Int)(v76:qaV)(v77:qaW)(v78:qbX)(v79:qbY)(v80:List ((Bs×Bs)×Unit))(v81:List zyI)(v82:List (Bs×Bs)):Option ((Int×qaV×qaW×qbX×qbY×(List ((Bs×Bs)×Unit))×(List zyI)×List (Bs×Bs))⊕((qaV×qaW×qbX×qbY×(List ((Bs×Bs)×Unit))×List (Bs×Bs)))):=
 bif decide (v75<(v74.2.2.2.2.2.length:Int))then((chk (decide ((0:Int)<=v75)&&decide (v75<(v81.length:Int)))).bind fun _=>(idx v81 v75).bind fun v83=>(app ([117,115,101,114,47]:Bs) v83.1).bind fun v84=>(ziI o v83.2.2.1).bind fun v85=>(o.itoa v83.2.2.2).bind fun v86=>(zjZ o v84 ([v83.2.1,v85,v86]:List Bs) v82).bind fun v87=>some (.inl (w64 (v75+1),v76,v77,v78,v79,v80,v81,v87.2)))else some (.inr (v76,v77,v78,v79,v80,v82))
def zdM(o:Ops)(v0:qaV)(v1:qaW)(v2:qbX)(v3:qbY)(v4:List ((Bs×Bs)×Unit)):Option (((List (Bs×Bs))×zbO)):=
 (zeP o v0 v1 v2 v3 v4).bind fun v5=>(iter (fun x=>zlS o v5 x.1 x.2.1 x.2.2.1 x.2.2.2.1 x.2.2.2.2.1 x.2.2.2.2.2.1 x.2.2.2.2.2.2.1 x.2.2.2.2.2.2.2) ((0:Int),v5.1,v5.2.1,v5.2.2.1,v5.2.2.2.1,v5.2.2.2.2.1,v5.2.2.2.2.2,([]:List (Bs×Bs)))).bind fun v27=>(zfM o v27.1 v27.2.1 v27.2.2.1 v27.2.2.2.1 v27.2.2.2.2.1).bind fun v28=>(iter (fun x=>zlP o v28 x.1 x.2.1 x.2.2.1 x.2.2.2.1 x.2.2.2.2.1 x.2.2.2.2.2.1 x.2.2.2.2.2.2.1 x.2.2.2.2.2.2.2) ((0:Int),v28.1,v28.2.1,v28.2.2.1,v28.2.2.2.1,v28.2.2.2.2.1,v28.2.2.2.2.2,v27.2.2.2.2.2)).bind fun v45=>(zgZ o v45.1 v45.2.1 v45.2.2.1 v45.2.2.2.1 v45.2.2.2.2.1).bind fun v46=>(iter (fun x=>ziG o v46 x.1 x.2.1 x.2.2.1 x.2.2.2.1 x.2.2.2.2.1 x.2.2.2.2.2.1 x.2.2.2.2.2.2) ((0:Int),v46.2.1,v46.2.2.1,v46.2.2.2.1,v46.2.2.2.2.1,v46.2.2.2.2.2,v45.2.2.2.2.2)).bind fun v59=>(zgK o v59.1 v59.2.1 v59.2.2.1 v59.2.2.2.1 v59.2.2.2.2.1).bind fun v60=>(iter (fun x=>zlX o v60 x.1 x.2.1 x.2.2.1 x.2.2.2.1 x.2.2.2.2.1 x.2.2.2.2.2.1 x.2.2.2.2.2.2.1 x.2.2.2.2.2.2.2) ((0:Int),v60.1,v60.2.1,v60.2.2.1,v60.2.2.2.1,v60.2.2.2.2.1,v60.2.2.2.2.2,v59.2.2.2.2.2)).bind fun v73=>(zgC o v73.1 v73.2.1 v73.2.2.1 v73.2.2.2.1 v73.2.2.2.2.1).bind fun v74=>(iter (fun x=>zlR o v74 x.1 x.2.1 x.2.2.1 x.2.2.2.1 x.2.2.2.2.1 x.2.2.2.2.2.1 x.2.2.2.2.2.2.1 x.2.2.2.2.2.2.2) ((0:Int),v74.1,v74.2.1,v74.2.2.1,v74.2.2.2.1,v74.2.2.2.2.1,v74.2.2.2.2.2,v73.2.2.2.2.2)).bind fun v88=>(yeY v88.2.2.2.2.2).bind fun v89=>some (v89,v88.1,v88.2.1,v88.2.2.1,v88.2.2.2.1,v88.2.2.2.2.1)
def zmD(o:Ops):SC:=⟨⟨[(0,(.ptr 0 0))],[zbC,zaD,zaF,zaE,zaC,qaY]⟩,1,[(none,⟨[(0,(.hc (.pr .s .s)))],[zbC,zaD,zaF,zaE,zaC,qaY]⟩)],fun x=>zdM o x.1 x.2.1 x.2.2.1 x.2.2.2.1 x.2.2.2.2⟩
theorem zrG:SCok aA tabs 29 (zmD o):=zbS (o:=o) (η:=[(200004,.loop [.cell 3 0 (.pr .s .s) 33] ⟨[(0,(.ptr 0 0)),(3,(.ptr 6 0)),(4,(.fn 84 [] [(.ptr 6 0)])),(17,(.own 7)),(19,hI)],[zbC,zaD,zaF,zaE,zaC,qaY,yvT,.osl yeM 51,.osl (.pr .s .s) 33]⟩ [2,18] [(some 0,⟨[(0,(.ptr 0 0)),(3,(.ptr 6 0)),(4,(.fn 84 [] [(.ptr 6 0)]))],[zbC,zaD,zaF,zaE,zaC,qaY,ylB,.osl (.pr .s .s) 33]⟩)]),
 (200009,.loop [] ⟨[(0,(.ptr 0 0)),(3,(.ptr 6 0)),(4,(.fn 84 [] [(.ptr 6 0)])),(56,(.own 7)),(58,hI)],[zbC,zaD,zaF,zaE,zaC,qaY,yvT,.osl yxB 57,.osl (.pr .s .s) 33]⟩ [2,57] [(some 2,⟨[(0,(.ptr 0 0)),(3,(.ptr 6 0)),(4,(.fn 84 [] [(.ptr 6 0)]))],[zbC,zaD,zaF,zaE,zaC,qaY,ylB,.osl (.pr .s .s) 33]⟩)]),
 (200014,.loop [] ⟨[(0,(.ptr 0 0)),(3,(.ptr 6 0)),(4,(.fn 84 [] [(.ptr 6 0)])),(86,hI)],[zbC,zaD,zaF,zaE,zaC,qaY,ylB,.osl (.pr .s .s) 33]⟩ [2,84,85] [(some 4,⟨[(0,(.ptr 0 0)),(3,(.ptr 6 0)),(4,(.fn 84 [] [(.ptr 6 0)]))],[zbC,zaD,zaF,zaE,zaC,qaY,ylB,.osl (.pr .s .s) 33]⟩)]),
 (200019,.loop [] ⟨[(0,(.ptr 0 0)),(3,(.ptr 6 0)),(4,(.fn 84 [] [(.ptr 6 0)])),(101,(.own 7)),(103,hI)],[zbC,zaD,zaF,zaE,zaC,qaY,yvT,.osl yeK 49,.osl (.pr .s .s) 33]⟩ [2,102] [(some 6,⟨[(0,(.ptr 0 0)),(3,(.ptr 6 0)),(4,(.fn 84 [] [(.ptr 6 0)]))],[zbC,zaD,zaF,zaE,zaC,qaY,ylB,.osl (.pr .s .s) 33]⟩)]),
 (200024,.loop [] ⟨[(3,(.ptr 6 0)),(4,(.fn 84 [] [(.ptr 6 0)])),(117,(.own 7)),(119,hI)],[zbC,zaD,zaF,zaE,zaC,qaY,yvT,.osl ylV 77,.osl (.pr .s .s) 33]⟩ [2,118] [(some 8,⟨[(3,(.ptr 6 0))],[zbC,zaD,zaF,zaE,zaC,qaY,ylB,.osl (.pr .s .s) 33]⟩)]),
 (4000006,.sch ([(.pu,0,[10,11]),(.pu,1,[10,11]),(.pu,2,[10,11]),(.pu,3,[10,11])]++zpu 4 4++[(.pu,9,[]),(.pu,10,[]),(.pu,13,[]),(.pu,14,[]),(.pu,17,[]),(.pu,18,[]),(.pu,22,[]),(.pu,23,[]),(.pu,25,[]),(.pu,26,[]),(.mn,8,[]),(.mn,11,[]),(.pu,12,[]),(.mn,15,[]),(.pu,16,[]),(.mn,19,[]),(.pu,20,[]),(.la,21,[]),(.mn,24,[]),(.mn,27,[]),(.rv,21,[]),(.mn,28,[10]),(.mn,29,[11]),(.mn,30,[6,8])])),
 (4000011,.sch [(.pu,0,[10,11]),(.pu,1,[10,11]),(.pu,2,[10,11]),(.pu,3,[10,11]),(.pu,4,[]),(.pu,5,[]),(.pu,8,[]),(.pu,9,[]),(.pu,11,[]),(.pu,12,[]),(.pu,14,[]),(.pu,15,[]),(.mn,6,[]),(.la,7,[]),(.mn,10,[]),(.mn,13,[]),(.mn,16,[]),(.rv,7,[]),(.mn,17,[10]),(.mn,18,[11]),(.mn,19,[6,8])]),
 (4000021,.sch (zpu 0 6++[(.mn,6,[]),(.mn,7,[6,8])])),
 (4000026,.sch (zpu 0 8++[(.pu,9,[]),(.pu,10,[]),(.mn,8,[]),(.mn,11,[]),(.mn,12,[]),(.mn,13,[6,8,10])]))]) (Γ:=⟨[(86,(zzS o)),(87,(zxH o)),(85,(zxS o)),(68,(yrN o)),(91,yuZ)],[(84,(zoF o)),(38,(zjD o)),(84,(znR o)),(32,(zkF o)),(45,(zlY o)),(40,(zlB o)),(39,(zkZ o)),(84,(zoC o)),(88,ytQ)],false,[]⟩) (ctok ⟨yhA,⟨yfI,⟨yfU,⟨(zoW.itoa (G:=tabs)),⟨Clip_p3k,trivial⟩⟩⟩⟩⟩ ⟨zvB,⟨znQ,⟨zuY,⟨zpI,⟨zrR,⟨zqF,⟨zpV,⟨zvS,⟨SortF_sk,trivial⟩⟩⟩⟩⟩⟩⟩⟩⟩) Tryz.func29
def zkN(o:Ops)(v0:Bs):Option ((Int×Bool)⊕Unit):=
 bif(v0==([]:Bs))then some (.inl ((0:Int),false))else(bif decide ((v0.length:Int)>15)then some (.inl ((0:Int),false))else((idx v0 (0:Int)).bind fun v1=>bif((v1.toNat:Int)==((48:UInt8).toNat:Int))then(bif(v0 != ([48]:Bs))then some (.inl ((0:Int),false))else((o.trim v0 ([48,49,50,51,52,53,54,55,56,57]:Bs)).bind fun v2=>bif(v2 != ([]:Bs))then some (.inl ((0:Int),false))else some (.inr ())))else((o.trim v0 ([48,49,50,51,52,53,54,55,56,57]:Bs)).bind fun v3=>bif(v3 != ([]:Bs))then some (.inl ((0:Int),false))else some (.inr ()))))
def zgJ(o:Ops)(v0:Bs):Option (Int×Bool):=
 (zkN o v0).bind fun v4=>match v4 with
 |.inl v5=>(some v5)|.inr _v6=>((o.atoi v0).bind fun v7=>some (v7.1,(!v7.2)))
def zsP(o:Ops):PC:=⟨[hS],[(.i .i64),.b],fun x=>zgJ o x,false⟩
theorem zxL:PCok aA tabs 60 (zsP o):=zkL (o:=o) (η:=[(2000003,.join [] [0] [(some 1000000,⟨[(2,hI),(3,hB)],[]⟩),(none,⟨[],[]⟩)]),
 (4000004,.sch (zpu 0 5))]) (Γ:=⟨[(164,(ynM o)),(165,(oc_atoi o))],[],false,[]⟩) (ctok ⟨(zoW.trim (G:=tabs)),⟨(zoW.atoi (G:=tabs)),trivial⟩⟩ trivial) Tryz.func60
def znA(_o:Ops)(v2:List Bs)(v3:Bs×Bs×Bool)(v4:Int×Bool):Option (Bool⊕List Bs):=
 bif(!v3.2.2)then some (.inl false)else(bif(!v4.2)then some (.inl false)else(bif decide (v4.1>(v3.2.1.length:Int))then some (.inl false)else some (.inr v2)))
def ziU(o:Ops)(v1:Bs)(v2:List Bs):Option (zgA⊕(Bool⊕List Bs)):=
 bif(v1 != ([]:Bs))then((o.cut v1 ([58]:Bs)).bind fun v3=>(zgJ o v3.1).bind fun v4=>(znA o v2 v3 v4).bind fun v5=>match v5 with
 |.inl v6=>some (.inr (.inl v6))|.inr v7=>((subH v3.2.1 v4.1).bind fun v8=>(app v7 ([v8]:List Bs)).bind fun v9=>(subL v3.2.1 v4.1).bind fun v10=>some (.inl (v10,v9))))else some (.inr (.inr v2))
def zmX(o:Ops)(v0:Bs):Option yeJ:=
 (iter (fun x=>ziU o x.1 x.2) (v0,([]:List Bs))).bind fun v11=>match v11 with
 |.inl v12=>(some (([]:List Bs),v12))|.inr v13=>(some (v13,true))
def yfM(_o:Ops)(v2:List Bs)(v3:Bs×Bs×Bool)(v4:Int×Bool):Option (Bool⊕List Bs):=
 bif(!v3.2.2)then some (.inl false)else(bif(!v4.2)then some (.inl false)else(bif decide (v4.1>(v3.2.1.length:Int))then some (.inl false)else some (.inr v2)))
def yfL(o:Ops)(v1:Bs)(v2:List Bs):Option (zgA⊕(Bool⊕List Bs)):=
 bif(v1 != ([]:Bs))then((o.cut v1 ([58]:Bs)).bind fun v3=>(zgJ o v3.1).bind fun v4=>(yfM o v2 v3 v4).bind fun v5=>match v5 with
 |.inl v6=>some (.inr (.inl v6))|.inr v7=>((subH v3.2.1 v4.1).bind fun v8=>(app v7 ([v8]:List Bs)).bind fun v9=>(subL v3.2.1 v4.1).bind fun v10=>some (.inl (v10,v9))))else some (.inr (.inr v2))
def zuL(o:Ops)(v0:Bs):Option (yeJ):=
 (iter (fun x=>yfL o x.1 x.2) (v0,([]:List Bs))).bind fun v11=>match v11 with
 |.inl v12=>some (([]:List Bs),v12)|.inr v13=>some (v13,true)
def zyQ(o:Ops):SC:=⟨⟨[(0,hS)],[]⟩,2,[(none,⟨[(0,(.h (.sl .s))),(1,hB)],[]⟩)],fun x=>zuL o x⟩
theorem yiP:SCok aA tabs 11 (zyQ o):=zbS (o:=o) (η:=[(2000007,.join [] [6,8] [(some 1000000,⟨[(2,.nils),(3,hB)],[]⟩),(none,⟨[(4,(.own 0))],[.osl .s 9]⟩)]),
 (200002,.loop [.sl 4 .s 9] ⟨[(0,hS),(4,(.own 0))],[.osl .s 9]⟩ [] [(some 1000000,⟨[(2,.nils),(3,hB)],[]⟩),(some 0,⟨[(4,(.own 0))],[.osl .s 9]⟩)])]) (Γ:=⟨[(59,(xfF o)),(60,(zsP o)),(61,ybM)],[],false,[]⟩) (ctok ⟨(zoW.cut (G:=tabs)),⟨zxL,⟨yeP,trivial⟩⟩⟩ trivial) Tryz.func11
def zcH(_o:Ops)(v0:List Bs)(v1:Bool):Option ((Bs×yeJ)):=
 bif((v0.length:Int)==0)then some (([]:Bs),v0,true)else((idx v0 (0:Int)).bind fun v2=>(subL v0 (1:Int)).bind fun v3=>some (v2,v3,v1))
def zlW(o:Ops):SC:=⟨⟨[(0,(.ptr 0 0))],[ycA]⟩,1,[(none,⟨[(0,hS)],[ycA]⟩)],fun x=>zcH o x.1 x.2⟩
theorem zrA:SCok aA tabs 169 (zlW o):=zbS (o:=o) (η:=[]) (Γ:=⟨[],[],false,[]⟩) (ctok trivial trivial) Tryz.func169
def zcF(_o:Ops)(v0:Bs)(v1:List Bs)(v2:Bool):Option ((Bool×yeJ)):=
 bif v2 then some ((v0==([49]:Bs)),v1,true)else(bif(v0 != ([48]:Bs))then some ((v0==([49]:Bs)),v1,(v0 != ([49]:Bs)))else some ((v0==([49]:Bs)),v1,false))
def zrH(o:Ops):SC:=⟨⟨[(0,(.ptr 0 0)),(1,hS)],[ycA]⟩,1,[(none,⟨[(0,hB)],[ycA]⟩)],fun x=>zcF o x.1 x.2.1 x.2.2⟩
theorem zyV:SCok aA tabs 170 (zrH o):=zbS (o:=o) (η:=[]) (Γ:=⟨[],[],false,[]⟩) (ctok trivial trivial) Tryz.func170
def zcW(o:Ops)(v0:List Bs)(v1:Bool):Option ((Int×yeJ)):=
 (zcH o v0 v1).bind fun v2=>(zgJ o v2.1).bind fun v3=>bif v2.2.2 then some (v3.1,v2.2.1,true)else some (v3.1,v2.2.1,(!v3.2))
def zjU(o:Ops):SC:=⟨⟨[(0,(.ptr 0 0))],[ycA]⟩,1,[(none,⟨[(0,hI)],[ycA]⟩)],fun x=>zcW o x.1 x.2⟩
theorem zoL:SCok aA tabs 243 (zjU o):=zbS (o:=o) (η:=[]) (Γ:=⟨[(60,(zsP o))],[(169,(zlW o))],false,[]⟩) (ctok ⟨zxL,trivial⟩ ⟨zrA,trivial⟩) Tryz.func243
def zmE(_o:Ops)(v2:(Int×yeJ)):Option (yeJ⊕yeJ):=
 bif v2.2.2 then some (.inl (v2.2.1,true))else(bif decide (v2.1>(v2.2.1.length:Int))then some (.inl (v2.2.1,true))else some (.inr v2.2))
def zbX(o:Ops)(v0:List Bs)(v1:Bool):Option (((List Bs)×yeJ)):=
 (zcW o v0 v1).bind fun v2=>(zmE o v2).bind fun v3=>match v3 with
 |.inl v4=>some (([]:List Bs),v4)|.inr v5=>((subH v5.1 v2.1).bind fun v6=>(app ([]:List Bs) v6).bind fun v7=>(subL v5.1 v2.1).bind fun v8=>some (v7,v8,v5.2))
def zrN(o:Ops):SC:=⟨⟨[(0,(.ptr 0 0))],[ycA]⟩,1,[(none,⟨[(0,(.h (.sl .s)))],[ycA]⟩)],fun x=>zbX o x.1 x.2⟩
theorem yaD:SCok aA tabs 171 (zrN o):=zbS (o:=o) (η:=[(2000005,.join [] [3] [(some 1000000,⟨[(2,.nils)],[ycA]⟩),(none,⟨[(0,(.ptr 0 0))],[ycA]⟩)])]) (Γ:=⟨[],[(243,(zjU o)),(198,yaK)],false,[]⟩) (ctok trivial ⟨zoL,⟨ycX,trivial⟩⟩) Tryz.func171
def zsA(o:Ops)(v0:List Bs)(v2:Int):Option (Int⊕(Bool⊕Unit)):=
 bif decide (v2<(v0.length:Int))then((idx v0 v2).bind fun v3=>(zfV o v3).bind fun v4=>bif(!v4)then some (.inr (.inl false))else(bif decide (v2>0)then((idx v0 (w64 (v2-1))).bind fun v5=>bif(Op.bytesLess v3 v5||v3==v5)then some (.inr (.inl false))else some (.inl (w64 (v2+1))))else some (.inl (w64 (v2+1)))))else some (.inr (.inr ()))
def zoQ(o:Ops)(v0:List Bs)(v1:Int):Option (Bool):=
 (iter (zsA o v0) (0:Int)).bind fun v6=>match v6 with
 |.inl v7=>some v7|.inr _v8=>some (decide ((v0.length:Int)<=v1))
def zxN(o:Ops):SC:=⟨⟨[(0,(.h (.sl .s))),(1,hI),(2,(.fn 15 [] []))],[]⟩,1,[(none,⟨[(0,hB)],[]⟩)],fun x=>zoQ o x.1 x.2⟩
theorem yfO:SCok aA tabs 174 (zxN o):=zbS (o:=o) (η:=[(200002,.loop [] ⟨[(2,(.fn 15 [] [])),(11,hI)],[]⟩ [0,1,9,10] [(some 1000000,⟨[(6,hB)],[]⟩),(some 0,⟨[],[]⟩)])]) (Γ:=⟨[(15,(zqW o))],[],false,[]⟩) (ctok ⟨zuX,trivial⟩ trivial) Tryz.func174
def zsK(o:Ops)(v0:zvT):Option ((Bool×zvT)):=
 bif(v0.2.1==([]:Bs))then some (true,v0)else(bif((v0.2.1.length:Int)==64)then((o.trim v0.2.1 ([48,49,50,51,52,53,54,55,56,57,97,98,99,100,101,102]:Bs)).bind fun v1=>some ((v1==([]:Bs)),v0))else some (false,v0))
def zpN(o:Ops)(v0:zvT):Option (Bool):=
 (zsK o v0).bind fun v2=>(zbJ o v2.2.1).bind fun v3=>bif v3 then(bif v2.1 then((zoQ o v2.2.2.2.1 (16:Int)).bind fun v4=>bif v4 then((zmS o v2.2.2.2.2.1 (16:Int)).bind fun v5=>some v5)else(some false))else(some false))else(some false)
def zxJ(o:Ops):PC:=⟨[(.h yeM)],[.b],fun x=>zpN o x,false⟩
theorem yfS:PCok aA tabs 106 (zxJ o):=zkL (o:=o) (η:=[(2000002,.join [] [] [(none,⟨[(1,(.ptr 0 0)),(3,hB)],[.blk 51 [hS,hS,(.h (.sl .s)),(.h (.sl .s)),hB,hB,hB,hB]]⟩)])]) (Γ:=⟨[(164,(ynM o)),(13,(zeK o))],[(174,(zxN o)),(174,(ztQ o))],false,[]⟩) (ctok ⟨(zoW.trim (G:=tabs)),⟨zfU,trivial⟩⟩ ⟨yfO,⟨yaB,trivial⟩⟩) Tryz.func106
def zcO(o:Ops)(v0:List Bs)(v1:Bool):Option ((Int×yeJ)):=
 (zcW o v0 v1).bind fun v2=>bif v2.2.2 then some (v2.1,v2.2.1,true)else(bif decide (v2.1<1)then some (v2.1,v2.2.1,true)else some (v2.1,v2.2.1,decide (v2.1>1099511627776)))
def znU(o:Ops):SC:=⟨⟨[(0,(.ptr 0 0))],[ycA]⟩,1,[(none,⟨[(0,hI)],[ycA]⟩)],fun x=>zcO o x.1 x.2⟩
theorem zvH:SCok aA tabs 172 (znU o):=zbS (o:=o) (η:=[]) (Γ:=⟨[],[(243,(zjU o))],false,[]⟩) (ctok trivial ⟨zoL,trivial⟩) Tryz.func172
def ziM(_o:Ops)(v1:qaV)(v2:qaW)(v3:qbX)(v4:qbY)(v5:List ((Bs×Bs)×Unit))(v6:yeJ)(v7:Bs×Bs×Bool):Option ((Bool×zbO)⊕zbO):=
 bif(!v6.2)then some (.inl (false,v1,v2,v3,v4,v5))else(bif(!v7.2.2)then some (.inl (false,v1,v2,v3,v4,v5))else some (.inr (v1,v2,v3,v4,v5)))
def zaO(o:Ops)(v26:Int)(v27:qaV)(v28:qaW)(v29:qbX)(v30:qbY)(v31:List ((Bs×Bs)×Unit))(v32:List Bs)(v33:Bool)(v34:List Bs)(v35:List Bs)(v36:List Bs)(v37:Int):Option ((Int×qaV×qaW×qbX×qbY×(List ((Bs×Bs)×Unit))×(List Bs)×Bool×(List Bs)×(List Bs)×(List Bs)×Int)⊕((qaV×qaW×qbX×qbY×(List ((Bs×Bs)×Unit))×(List Bs)×Bool×(List Bs)×(List Bs)×(List Bs)×Int))):=
 bif decide (v26<3)then((zbX o v32 v33).bind fun v38=>bif decide (v26=(0:Int))then some (.inl (w64 (v26+1),v27,v28,v29,v30,v31,v38.2.1,v38.2.2,v38.1,v35,v36,v37))else(bif decide (v26=(1:Int))then some (.inl (w64 (v26+1),v27,v28,v29,v30,v31,v38.2.1,v38.2.2,v34,v38.1,v36,v37))else(bif decide (v26=(2:Int))then some (.inl (w64 (v26+1),v27,v28,v29,v30,v31,v38.2.1,v38.2.2,v34,v35,v38.1,v37))else none)))else some (.inr (v27,v28,v29,v30,v31,v32,v33,v34,v35,v36,v37))
def zbI(o:Ops)(v6:yeJ)(v7:Bs×Bs×Bool)(v10:zbO):Option ((Bool×zbO)⊕(Bool×qaV×qaW×qbX×qbY×(List ((Bs×Bs)×Unit))×yeJ)):=
 bif(v7.1==([99,108,105,101,110,116]:Bs))then((zcH o v6.1 false).bind fun v11=>(zcH o v11.2.1 v11.2.2).bind fun v12=>bif((v12.1.length:Int) != 4)then some (.inl (false,v10))else((subH v12.1 (1:Int)).bind fun v13=>(sub3 v12.1 (1:Int) (2:Int)).bind fun v14=>(sub3 v12.1 (2:Int) (3:Int)).bind fun v15=>(subL v12.1 (3:Int)).bind fun v16=>(zcF o v13 v12.2.1 v12.2.2).bind fun v17=>(zcF o v14 v17.2.1 v17.2.2).bind fun v18=>(zcF o v15 v18.2.1 v18.2.2).bind fun v19=>(zcF o v16 v19.2.1 v19.2.2).bind fun v20=>(zbX o v20.2.1 v20.2.2).bind fun v21=>(zbX o v21.2.1 v21.2.2).bind fun v22=>let v23:qbY:=mset keqS kltS v10.2.2.2.1 v7.2.1 (v7.2.1,v11.1,v21.1,v22.1,v17.1,v18.1,v19.1,v20.1)
 (zpN o (v7.2.1,v11.1,v21.1,v22.1,v17.1,v18.1,v19.1,v20.1)).bind fun v24=>some (.inr (v24,v10.1,v10.2.1,v10.2.2.1,v23,v10.2.2.2.2,v22.2))))else(bif(v7.1==([103,114,111,117,112]:Bs))then((zcO o v6.1 false).bind fun v25=>(iter (fun x=>zaO o x.1 x.2.1 x.2.2.1 x.2.2.2.1 x.2.2.2.2.1 x.2.2.2.2.2.1 x.2.2.2.2.2.2.1 x.2.2.2.2.2.2.2.1 x.2.2.2.2.2.2.2.2.1 x.2.2.2.2.2.2.2.2.2.1 x.2.2.2.2.2.2.2.2.2.2.1 x.2.2.2.2.2.2.2.2.2.2.2) ((0:Int),v10.1,v10.2.1,v10.2.2.1,v10.2.2.2.1,v10.2.2.2.2,v25.2.1,v25.2.2,([]:List Bs),([]:List Bs),([]:List Bs),v25.1)).bind fun v39=>let v40:qaW:=mset keqS kltS v39.2.1 v7.2.1 ((v39.2.2.2.2.2.2.2.1,v39.2.2.2.2.2.2.2.2.1,v39.2.2.2.2.2.2.2.2.2.1),v39.2.2.2.2.2.2.2.2.2.2)
 (zbJ o v7.2.1).bind fun v41=>some (.inr (v41,v39.1,v40,v39.2.2.1,v39.2.2.2.1,v39.2.2.2.2.1,v39.2.2.2.2.2.1,v39.2.2.2.2.2.2.1)))else(bif(v7.1==([109,97,121]:Bs))then((o.cut v7.2.1 ([124]:Bs)).bind fun v42=>let v43:List ((Bs×Bs)×Unit):=mset (keq (.pr .s .s)) (klt (.pr .s .s)) v10.2.2.2.2 (v42.1,v42.2.1) ()
 bif v42.2.2 then((zcI o v42.1).bind fun v44=>bif v44 then((zcI o v42.2.1).bind fun v45=>some (.inr (v45,v10.1,v10.2.1,v10.2.2.1,v10.2.2.2.1,v43,v6.1,false)))else some (.inr (false,v10.1,v10.2.1,v10.2.2.1,v10.2.2.2.1,v43,v6.1,false)))else some (.inr (false,v10.1,v10.2.1,v10.2.2.1,v10.2.2.2.1,v43,v6.1,false)))else(bif(v7.1==([114,111,108,101]:Bs))then((zbX o v6.1 false).bind fun v46=>let v47:qbX:=mset keqS kltS v10.2.2.1 v7.2.1 (v7.2.1,v46.1)
 (zpB o (v7.2.1,v46.1)).bind fun v48=>some (.inr (v48,v10.1,v10.2.1,v47,v10.2.2.2.1,v10.2.2.2.2,v46.2)))else(bif(v7.1==([117,115,101,114]:Bs))then((zcH o v6.1 false).bind fun v49=>(zcH o v49.2.1 v49.2.2).bind fun v50=>(zcF o v50.1 v50.2.1 v50.2.2).bind fun v51=>(zcO o v51.2.1 v51.2.2).bind fun v52=>let v53:qaV:=mset keqS kltS v10.1 v7.2.1 (v7.2.1,v49.1,v51.1,v52.1)
 (zbJ o v7.2.1).bind fun v54=>bif v54 then((zfV o v49.1).bind fun v55=>some (.inr (v55,v53,v10.2.1,v10.2.2.1,v10.2.2.2.1,v10.2.2.2.2,v52.2)))else some (.inr (false,v53,v10.2.1,v10.2.2.1,v10.2.2.2.1,v10.2.2.2.2,v52.2)))else some (.inr (false,v10.1,v10.2.1,v10.2.2.1,v10.2.2.2.1,v10.2.2.2.2,v6.1,false))))))
def zaM(o:Ops)(v0:Bs×Bs)(v1:qaV)(v2:qaW)(v3:qbX)(v4:qbY)(v5:List ((Bs×Bs)×Unit)):Option ((Bool×zbO)):=
 (zuL o v0.2).bind fun v6=>(o.cut v0.1 ([47]:Bs)).bind fun v7=>(ziM o v1 v2 v3 v4 v5 v6 v7).bind fun v8=>match v8 with
 |.inl v9=>some v9|.inr v10=>((zbI o v6 v7 v10).bind fun v56=>match v56 with
 |.inl v57=>some v57|.inr v58=>(bif v58.1 then(bif(!v58.2.2.2.2.2.2.2)then some (((v58.2.2.2.2.2.2.1.length:Int)==0),v58.2.1,v58.2.2.1,v58.2.2.2.1,v58.2.2.2.2.1,v58.2.2.2.2.2.1)else some (false,v58.2.1,v58.2.2.1,v58.2.2.2.1,v58.2.2.2.2.1,v58.2.2.2.2.2.1))else some (false,v58.2.1,v58.2.2.1,v58.2.2.2.1,v58.2.2.2.2.1,v58.2.2.2.2.2.1)))
def zmU(o:Ops):SC:=⟨⟨[(0,(.ptr 0 0)),(1,(.h (.pr .s .s)))],[zbC,zaD,zaF,zaE,zaC,qaY]⟩,1,[(none,⟨[(0,hB)],[zbC,xfO,ycQ,yzZ,.mp false .s yeM,.mp false (.pr .s .s) .un]⟩)],fun x=>zaM o x.1 x.2.1 x.2.2.1 x.2.2.2.1 x.2.2.2.2.1 x.2.2.2.2.2⟩
theorem zuQ:SCok aA tabs 75 (zmU o):=zbS (o:=o) (η:=[(2000005,.join [] [5,7,8] [(some 1000000,⟨[(4,hB)],[zbC,zaD,zaF,zaE,zaC,qaY]⟩),(none,⟨[(0,(.ptr 0 0))],[zbC,zaD,zaF,zaE,zaC,qaY]⟩)]),
 (200020,.loop [] ⟨[(0,(.ptr 0 0)),(10,(.ptr 6 0)),(13,(.ptr 7 0)),(93,hI)],[zbC,zaD,zaF,zaE,zaC,qaY,ycA,zxU]⟩ [8] [(some 1,⟨[(0,(.ptr 0 0)),(10,(.ptr 6 0)),(13,(.ptr 7 0))],[zbC,zaD,zaF,zaE,zaC,qaY,ycA,zxU]⟩)]),
 (2000038,.join [] [] [(some 1000000,⟨[(4,hB)],[zbC,zaD,zaF,zaE,zaC,qaY]⟩),(none,⟨[(6,hB),(10,(.ptr 6 0))],[zbC,xfO,ycQ,yzZ,.mp false .s yeM,.mp false (.pr .s .s) .un,ycA]⟩)]),
 (4000013,.sch (zpu 0 3++[(.pu,4,[6]),(.pu,5,[6]),(.pu,6,[6]),(.pu,8,[6]),(.pu,9,[6]),(.pu,10,[6]),(.pu,12,[6]),(.pu,13,[6]),(.pu,14,[6]),(.mn,3,[6]),(.pu,16,[6]),(.mn,7,[6]),(.mn,11,[6]),(.mn,15,[6]),(.mn,17,[8]),(.pu,18,[]),(.mn,19,[8]),(.pu,20,[]),(.mn,21,[8]),(.pu,22,[]),(.mn,23,[8])])),
 (4000015,.sch (zpu 0 6++[(.mn,6,[0,1,2,3,4,5,6,7,8,9,10,11,12,13,14,15])])),
 (4000024,.sch (zpu 0 6++[(.mn,6,[0,1,2,3,4,5,6,7])])),
 (4000032,.sch (zpu 0 6++[(.mn,6,[0,1,2,3,4,5,6,7,8])])),
 (4000036,.sch (zpu 0 6++[(.mn,6,[0,1,2,3,4,5,6,7,8,9,10,11])]))]) (Γ:=⟨[(59,(xfF o)),(106,(zxJ o)),(13,(zeK o)),(19,(znF o)),(104,(zuU o)),(15,(zqW o))],[(11,(zyQ o)),(169,(zlW o)),(170,(zrH o)),(171,(zrN o)),(172,(znU o))],false,[]⟩) (ctok ⟨(zoW.cut (G:=tabs)),⟨yfS,⟨zfU,⟨ztP,⟨ybE,⟨zuX,trivial⟩⟩⟩⟩⟩⟩ ⟨yiP,⟨zrA,⟨zyV,⟨yaD,⟨zvH,trivial⟩⟩⟩⟩⟩) Tryz.func75
def zgR(o:Ops)(v0:List Bs)(v7:Int)(v8:qaV)(v9:qaW)(v10:qbX)(v11:qbY)(v12:List ((Bs×Bs)×Unit)):Option ((Int×zbO)⊕((Bool×zbO)⊕zbO)):=
 bif decide (v7<(v0.length:Int))then((idx v0 v7).bind fun v13=>(zeO o v13 v8 v9 v10 v11 v12).bind fun v14=>bif(!v14.1)then some (.inr (.inl (false,v14.2)))else(bif decide (v7>0)then((idx v0 (w64 (v7-1))).bind fun v15=>bif(Op.bytesLess v13 v15||v13==v15)then some (.inr (.inl (false,v14.2)))else some (.inl (w64 (v7+1),v14.2)))else some (.inl (w64 (v7+1),v14.2))))else some (.inr (.inr (v8,v9,v10,v11,v12)))
def zgH(o:Ops)(v0:List Bs)(v1:Int)(v2:qaV)(v3:qaW)(v4:qbX)(v5:qbY)(v6:List ((Bs×Bs)×Unit)):Option ((Bool×zbO)):=
 (iter (fun x=>zgR o v0 x.1 x.2.1 x.2.2.1 x.2.2.2.1 x.2.2.2.2.1 x.2.2.2.2.2) ((0:Int),v2,v3,v4,v5,v6)).bind fun v16=>match v16 with
 |.inl v17=>some v17|.inr v18=>some (decide ((v0.length:Int)<=v1),v18)
def zxG(o:Ops):SC:=⟨⟨[(0,(.h (.sl .s))),(1,hI),(2,(.fn 244 [] [(.ptr 0 0)]))],[zuT,zmQ,zaD,zaF,zaE,zaC,qaY]⟩,1,[(none,⟨[(0,hB)],[zuT,zmQ,zaD,zaF,zaE,zaC,qaY]⟩)],fun x=>zgH o x.1 x.2.1 x.2.2.1 x.2.2.2.1 x.2.2.2.2.1 x.2.2.2.2.2.1 x.2.2.2.2.2.2⟩
theorem yfG:SCok aA tabs 174 (zxG o):=zbS (o:=o) (η:=[(200002,.loop [] ⟨[(2,(.fn 244 [] [(.ptr 0 0)])),(11,hI)],[zuT,zmQ,zaD,zaF,zaE,zaC,qaY]⟩ [0,1,9,10] [(some 1000000,⟨[(6,hB)],[zuT,zmQ,zaD,zaF,zaE,zaC,qaY]⟩),(some 0,⟨[],[zuT,zmQ,zaD,zaF,zaE,zaC,qaY]⟩)])]) (Γ:=⟨[],[(244,(ziY o))],false,[]⟩) (ctok trivial ⟨zoE,trivial⟩) Tryz.func174
def zgU(o:Ops)(v0:List Bs)(v7:Int)(v8:qaV)(v9:qaW)(v10:qbX)(v11:qbY)(v12:List ((Bs×Bs)×Unit)):Option ((Int×zbO)⊕((Bool×zbO)⊕zbO)):=
 bif decide (v7<(v0.length:Int))then((idx v0 v7).bind fun v13=>(zeS o v13 v8 v9 v10 v11 v12).bind fun v14=>bif(!v14.1)then some (.inr (.inl (false,v14.2)))else(bif decide (v7>0)then((idx v0 (w64 (v7-1))).bind fun v15=>bif(Op.bytesLess v13 v15||v13==v15)then some (.inr (.inl (false,v14.2)))else some (.inl (w64 (v7+1),v14.2)))else some (.inl (w64 (v7+1),v14.2))))else some (.inr (.inr (v8,v9,v10,v11,v12)))
def zgL(o:Ops)(v0:List Bs)(v1:Int)(v2:qaV)(v3:qaW)(v4:qbX)(v5:qbY)(v6:List ((Bs×Bs)×Unit)):Option ((Bool×zbO)):=
 (iter (fun x=>zgU o v0 x.1 x.2.1 x.2.2.1 x.2.2.2.1 x.2.2.2.2.1 x.2.2.2.2.2) ((0:Int),v2,v3,v4,v5,v6)).bind fun v16=>match v16 with
 |.inl v17=>some v17|.inr v18=>some (decide ((v0.length:Int)<=v1),v18)
def zxK(o:Ops):SC:=⟨⟨[(0,(.h (.sl .s))),(1,hI),(2,(.fn 245 [] [(.ptr 0 0)]))],[zuT,zmQ,zaD,zaF,zaE,zaC,qaY]⟩,1,[(none,⟨[(0,hB)],[zuT,zmQ,zaD,zaF,zaE,zaC,qaY]⟩)],fun x=>zgL o x.1 x.2.1 x.2.2.1 x.2.2.2.1 x.2.2.2.2.1 x.2.2.2.2.2.1 x.2.2.2.2.2.2⟩
theorem yfW:SCok aA tabs 174 (zxK o):=zbS (o:=o) (η:=[(200002,.loop [] ⟨[(2,(.fn 245 [] [(.ptr 0 0)])),(11,hI)],[zuT,zmQ,zaD,zaF,zaE,zaC,qaY]⟩ [0,1,9,10] [(some 1000000,⟨[(6,hB)],[zuT,zmQ,zaD,zaF,zaE,zaC,qaY]⟩),(some 0,⟨[],[zuT,zmQ,zaD,zaF,zaE,zaC,qaY]⟩)])]) (Γ:=⟨[],[(245,(ziR o))],false,[]⟩) (ctok trivial ⟨znY,trivial⟩) Tryz.func174
def zgV(o:Ops)(v0:List Bs)(v7:Int)(v8:qaV)(v9:qaW)(v10:qbX)(v11:qbY)(v12:List ((Bs×Bs)×Unit)):Option ((Int×zbO)⊕((Bool×zbO)⊕zbO)):=
 bif decide (v7<(v0.length:Int))then((idx v0 v7).bind fun v13=>(zeV o v13 v8 v9 v10 v11 v12).bind fun v14=>bif(!v14.1)then some (.inr (.inl (false,v14.2)))else(bif decide (v7>0)then((idx v0 (w64 (v7-1))).bind fun v15=>bif(Op.bytesLess v13 v15||v13==v15)then some (.inr (.inl (false,v14.2)))else some (.inl (w64 (v7+1),v14.2)))else some (.inl (w64 (v7+1),v14.2))))else some (.inr (.inr (v8,v9,v10,v11,v12)))
def zgB(o:Ops)(v0:List Bs)(v1:Int)(v2:qaV)(v3:qaW)(v4:qbX)(v5:qbY)(v6:List ((Bs×Bs)×Unit)):Option ((Bool×zbO)):=
 (iter (fun x=>zgV o v0 x.1 x.2.1 x.2.2.1 x.2.2.2.1 x.2.2.2.2.1 x.2.2.2.2.2) ((0:Int),v2,v3,v4,v5,v6)).bind fun v16=>match v16 with
 |.inl v17=>some v17|.inr v18=>some (decide ((v0.length:Int)<=v1),v18)
def zxM(o:Ops):SC:=⟨⟨[(0,(.h (.sl .s))),(1,hI),(2,(.fn 246 [] [(.ptr 0 0)]))],[zuT,zmQ,zaD,zaF,zaE,zaC,qaY]⟩,1,[(none,⟨[(0,hB)],[zuT,zmQ,zaD,zaF,zaE,zaC,qaY]⟩)],fun x=>zgB o x.1 x.2.1 x.2.2.1 x.2.2.2.1 x.2.2.2.2.1 x.2.2.2.2.2.1 x.2.2.2.2.2.2⟩
theorem yfJ:SCok aA tabs 174 (zxM o):=zbS (o:=o) (η:=[(200002,.loop [] ⟨[(2,(.fn 246 [] [(.ptr 0 0)])),(11,hI)],[zuT,zmQ,zaD,zaF,zaE,zaC,qaY]⟩ [0,1,9,10] [(some 1000000,⟨[(6,hB)],[zuT,zmQ,zaD,zaF,zaE,zaC,qaY]⟩),(some 0,⟨[],[zuT,zmQ,zaD,zaF,zaE,zaC,qaY]⟩)])]) (Γ:=⟨[],[(246,(zjC o))],false,[]⟩) (ctok trivial ⟨zoA,trivial⟩) Tryz.func174
def ziP(_o:Ops)(v0:Bs)(v1:qcY):Option ((Bool×qcY)):=
 let _v2:List Bs:=zeD keqS v1 v0 ([]:List Bs)
 some (mhas keqS v1 v0,v1)
abbrev qaZ:OSh:=.mp true .s (.sl .s)
def zmT(o:Ops):SC:=⟨⟨[(0,hS),(1,(.ptr 0 0))],[ylW,qaZ]⟩,1,[(none,⟨[(0,hB)],[ylW,qaZ]⟩)],fun x=>ziP o x.1 x.2⟩
theorem zuM:SCok aA tabs 247 (zmT o):=zbS (o:=o) (η:=[]) (Γ:=⟨[],[],false,[]⟩) (ctok trivial trivial) Tryz.func247
def zeZ(o:Ops)(v0:List Bs)(v2:Int)(v3:qcY):Option ((Int×qcY)⊕((Int×qcY)⊕qcY)):=
 bif decide (v2<(v0.length:Int))then((idx v0 v2).bind fun v4=>(ziP o v4 v3).bind fun v5=>bif v5.1 then some (.inr (.inl (v2,v5.2)))else some (.inl (w64 (v2+1),v5.2)))else some (.inr (.inr v3))
def znL(o:Ops)(v0:List Bs)(v1:qcY):Option ((Int×qcY)):=
 (iter (fun x=>zeZ o v0 x.1 x.2) ((0:Int),v1)).bind fun v6=>match v6 with
 |.inl v7=>some v7|.inr v8=>some ((-1:Int),v8)
def zsY(o:Ops):SC:=⟨⟨[(0,(.h (.sl .s))),(1,(.fn 247 [] [(.ptr 0 0)]))],[ylW,qaZ]⟩,1,[(none,⟨[(0,hI)],[ylW,qaZ]⟩)],fun x=>znL o x.1 x.2⟩
theorem yaZ:SCok aA tabs 212 (zsY o):=zbS (o:=o) (η:=[(200002,.loop [] ⟨[(1,(.fn 247 [] [(.ptr 0 0)])),(8,hI)],[ylW,qaZ]⟩ [0,7] [(some 1000000,⟨[(4,hI)],[ylW,qaZ]⟩),(some 0,⟨[],[ylW,qaZ]⟩)])]) (Γ:=⟨[],[(247,(zmT o))],false,[]⟩) (ctok trivial ⟨zuM,trivial⟩) Tryz.func212
def zhY(o:Ops)(v0:List Bs)(v1:qcY):Option ((Bool×qcY)):=
 (znL o v0 v1).bind fun v2=>some (decide (v2.1≥0),v2.2)
def zoI(o:Ops):SC:=⟨⟨[(0,(.h (.sl .s))),(1,(.fn 247 [] [(.ptr 0 0)]))],[ylW,qaZ]⟩,1,[(none,⟨[(0,hB)],[ylW,qaZ]⟩)],fun x=>zhY o x.1 x.2⟩
theorem zwH:SCok aA tabs 129 (zoI o):=zbS (o:=o) (η:=[]) (Γ:=⟨[],[(212,(zsY o))],false,[]⟩) (ctok trivial ⟨yaZ,trivial⟩) Tryz.func129
noncomputable def zeW(_o:Ops)(v5:qaV)(v6:qaW)(v7:qbX)(v8:qbY)(v9:List ((Bs×Bs)×Unit))(v10:List Bs)(v11:qcY):List (Option ((qaV×qaW×qbX×qbY×(List ((Bs×Bs)×Unit))×(List Bs)×qcY)⊕((qaV×qaW×qbX×qbY×(List ((Bs×Bs)×Unit))×qcY)))):=
 rngL (rngC keqS v6 v10) (some (.inr (v5,v6,v7,v8,v9,v11))) fun v12=>(mget keqS v6 v12.1).bind fun v13=>let v14:qcY:=mset keqS kltS v11 v12.1 v13.1.2.1
 some (.inl (v5,v6,v7,v8,v9,rngD keqS v10 v12.1,v14))
noncomputable def zeU(_o:Ops)(v16:Bool)(v17:qaV)(v18:qaW)(v19:qbX)(v20:qbY)(v21:List ((Bs×Bs)×Unit))(v22:qcY):Option (((Bool×qaV×qaW×qbX×qbY×(List ((Bs×Bs)×Unit))×qcY)⊕(Bool×qaV×qaW×qbX×qbY×(List ((Bs×Bs)×Unit))×(List Bs)×qcY))⊕((qaV×qaW×qbX×qbY×(List ((Bs×Bs)×Unit))×qcY))):=
 bif v16 then some (.inl (.inr (false,v17,v18,v19,v20,v21,cU Prod.fst v22,v22)))else some (.inr (v17,v18,v19,v20,v21,v22))
noncomputable def zeM(o:Ops)(v23:Bool)(v24:qaV)(v25:qaW)(v26:qbX)(v27:qbY)(v28:List ((Bs×Bs)×Unit))(v29:List Bs)(v30:qcY):List (Option (((Bool×qaV×qaW×qbX×qbY×(List ((Bs×Bs)×Unit))×qcY)⊕(Bool×qaV×qaW×qbX×qbY×(List ((Bs×Bs)×Unit))×(List Bs)×qcY))⊕((qaV×qaW×qbX×qbY×(List ((Bs×Bs)×Unit))×qcY)))):=
 rngL (rngC keqS v30 v29) (some (.inl (.inl (v23,v24,v25,v26,v27,v28,v30)))) fun v31=>(mget keqS v30 v31.1).bind fun v32=>(zhY o v32 v30).bind fun v33=>bif(!v33.1)then some (.inl (.inr (true,v24,v25,v26,v27,v28,rngD keqS v29 v31.1,mdel keqS v33.2 v31.1)))else some (.inl (.inr (v23,v24,v25,v26,v27,v28,rngD keqS v29 v31.1,v33.2)))
noncomputable def zjO(o:Ops):(Bool×qaV×qaW×qbX×qbY×(List ((Bs×Bs)×Unit))×qcY)⊕(Bool×qaV×qaW×qbX×qbY×(List ((Bs×Bs)×Unit))×(List Bs)×qcY)->List (Option (((Bool×qaV×qaW×qbX×qbY×(List ((Bs×Bs)×Unit))×qcY)⊕(Bool×qaV×qaW×qbX×qbY×(List ((Bs×Bs)×Unit))×(List Bs)×qcY))⊕((qaV×qaW×qbX×qbY×(List ((Bs×Bs)×Unit))×qcY))))
 |.inl x=>[zeU o x.1 x.2.1 x.2.2.1 x.2.2.2.1 x.2.2.2.2.1 x.2.2.2.2.2.1 x.2.2.2.2.2.2]|.inr x=>zeM o x.1 x.2.1 x.2.2.1 x.2.2.2.1 x.2.2.2.2.1 x.2.2.2.2.2.1 x.2.2.2.2.2.2.1 x.2.2.2.2.2.2.2
noncomputable def zbV(o:Ops)(v0:qaV)(v1:qaW)(v2:qbX)(v3:qbY)(v4:List ((Bs×Bs)×Unit)):Option ((Bool×zbO)):=
 (rngA (fun x=>zeW o x.1 x.2.1 x.2.2.1 x.2.2.2.1 x.2.2.2.2.1 x.2.2.2.2.2.1 x.2.2.2.2.2.2) (v0,v1,v2,v3,v4,cU Prod.fst v1,([]:qcY))).bind fun v15=>(rngA (zjO o) (Sum.inl (true,v15))).bind fun v34=>some (((v34.2.2.2.2.2.length:Int)==0),v34.1,v34.2.1,v34.2.2.1,v34.2.2.2.1,v34.2.2.2.2.1)
noncomputable def zoM(o:Ops):SC:=⟨⟨[(0,(.ptr 0 0))],[zbC,zaD,zaF,zaE,zaC,qaY]⟩,1,[(none,⟨[(0,hB)],[zbC,zaD,zaF,zaE,zaC,qaY]⟩)],fun x=>zbV o x.1 x.2.1 x.2.2.1 x.2.2.2.1 x.2.2.2.2⟩
theorem zwN:SCok aA tabs 175 (zoM o):=witO (G:=tabs) (o:=o)<|fn_nc (H:=⟨[false,false,false,true,false],[],⟨[(3,(.ptr 6 0)),(6,hB)],[zbC,zaD,zaF,zaE,zaC,qaY,QWkF9,qaZ]⟩,[2],[(some 2,⟨[(3,(.ptr 6 0))],[zbC,zaD,zaF,zaE,zaC,qaY,QWkF9,qaZ]⟩)],[false,false,false],⟨[(3,(.ptr 6 0)),(6,hB),(27,(.ptr 7 0))],[zbC,zaD,zaF,zaE,zaC,qaY,.blk 237 [(.mpr 8)],.it 8 true .s,qaZ]⟩,[2]⟩) (η:=[(200003,.rng [] ⟨[(3,(.ptr 6 0)),(14,(.ptr 7 0))],[zbC,zaD,zaF,zaE,zaC,qaY,.blk 237 [(.mpr 8)],.it 2 true .s,qaZ]⟩ [2] [(some 0,⟨[(3,(.ptr 6 0))],[zbC,zaD,zaF,zaE,zaC,qaY,QWkF9,qaZ]⟩)])]) (Γ:=⟨[],[(129,(zoI o))],false,[]⟩) yfB τ_okWkF (ctok trivial ⟨zwH,trivial⟩) Tryz.func175 (isFn Tryz.func175) (by kernel_rfl) (by kernel_rfl) (by kernel_rfl)
noncomputable def zhT(_o:Ops)(v0:qaV)(v1:qaW)(v2:qbX)(v3:qbY)(v4:List ((Bs×Bs)×Unit)):Option ((Bool×zbO)⊕zbO):=
 bif decide ((v0.length:Int)>64)then some (.inl (false,v0,v1,v2,v3,v4))else(bif decide ((v1.length:Int)>32)then some (.inl (false,v0,v1,v2,v3,v4))else(bif decide ((v2.length:Int)>32)then some (.inl (false,v0,v1,v2,v3,v4))else(bif decide ((v3.length:Int)>32)then some (.inl (false,v0,v1,v2,v3,v4))else(bif decide ((v4.length:Int)>64)then some (.inl (false,v0,v1,v2,v3,v4))else some (.inr (v0,v1,v2,v3,v4))))))
noncomputable def zcX(_o:Ops)(v17:Int)(v18:qaV)(v19:qaW)(v20:qbX)(v21:qbY)(v22:List ((Bs×Bs)×Unit))(v23:List Bs)(v24:List Bs)(v25:List Bs)(v26:Int)(v27:List Bs):Option ((qaV×qaW×qbX×qbY×(List ((Bs×Bs)×Unit))×(List Bs)×(List Bs)×(List Bs)×Int×List Bs)⊕(qaV×qaW×qbX×qbY×(List ((Bs×Bs)×Unit))×(List Bs)×(List Bs)×(List Bs)×Int×List Bs)⊕(qaV×qaW×qbX×qbY×(List ((Bs×Bs)×Unit))×(List Bs)×(List Bs)×(List Bs)×Int×List Bs)):=
 bif decide (v17=(0:Int))then some (.inl (v18,v19,v20,v21,v22,v23,v24,v25,v26,v27))else(bif decide (v17=(1:Int))then some (.inr (.inl (v18,v19,v20,v21,v22,v23,v24,v25,v26,v27)))else(bif decide (v17=(2:Int))then some (.inr (.inr (v18,v19,v20,v21,v22,v23,v24,v25,v26,v27)))else none))
noncomputable def zbG(o:Ops)(v17:Int)(v18:qaV)(v19:qaW)(v20:qbX)(v21:qbY)(v22:List ((Bs×Bs)×Unit))(v23:List Bs)(v24:List Bs)(v25:List Bs)(v26:Int)(v27:List Bs):Option ((Int×qaV×qaW×qbX×qbY×(List ((Bs×Bs)×Unit))×(List Bs)×(List Bs)×(List Bs)×Int×List Bs)⊕((Bool×zbO)⊕(qaV×qaW×qbX×qbY×(List ((Bs×Bs)×Unit))×List Bs))):=
 bif decide (v17<3)then((zcX o v17 v18 v19 v20 v21 v22 v23 v24 v25 v26 v27).bind fun v28=>match v28 with
 |.inl v29=>((zgH o v29.2.2.2.2.2.1 (v29.2.2.2.2.2.1.length:Int) v29.1 v29.2.1 v29.2.2.1 v29.2.2.2.1 v29.2.2.2.2.1).bind fun v31=>bif(!v31.1)then some (.inr (.inl (false,v31.2)))else some (.inl (w64 (v17+1),v31.2.1,v31.2.2.1,v31.2.2.2.1,v31.2.2.2.2.1,v31.2.2.2.2.2,v29.2.2.2.2.2)))|.inr v30=>(match v30 with
 |.inl v32=>((zgL o v32.2.2.2.2.2.2.1 (v32.2.2.2.2.2.2.1.length:Int) v32.1 v32.2.1 v32.2.2.1 v32.2.2.2.1 v32.2.2.2.2.1).bind fun v34=>bif(!v34.1)then some (.inr (.inl (false,v34.2)))else some (.inl (w64 (v17+1),v34.2.1,v34.2.2.1,v34.2.2.2.1,v34.2.2.2.2.1,v34.2.2.2.2.2,v32.2.2.2.2.2)))|.inr v33=>((zgB o v33.2.2.2.2.2.2.2.1 (v33.2.2.2.2.2.2.2.1.length:Int) v33.1 v33.2.1 v33.2.2.1 v33.2.2.2.1 v33.2.2.2.2.1).bind fun v35=>bif(!v35.1)then some (.inr (.inl (false,v35.2)))else some (.inl (w64 (v17+1),v35.2.1,v35.2.2.1,v35.2.2.2.1,v35.2.2.2.2.1,v35.2.2.2.2.2,v33.2.2.2.2.2)))))else some (.inr (.inr (v18,v19,v20,v21,v22,v27)))
noncomputable def zbU(o:Ops)(v8:qaV)(v9:qaW)(v10:qbX)(v11:qbY)(v12:List ((Bs×Bs)×Unit))(v13:List Bs):List (Option ((qaV×qaW×qbX×qbY×(List ((Bs×Bs)×Unit))×List Bs)⊕(zbO⊕(Bool×zbO)))):=
 rngL (rngC keqS v9 v13) (some (.inr (.inl (v8,v9,v10,v11,v12)))) fun v14=>(mget keqS v9 v14.1).bind fun v15=>(zcM o v8 v9 v10 v11 v12).bind fun v16=>(iter (fun x=>zbG o x.1 x.2.1 x.2.2.1 x.2.2.2.1 x.2.2.2.2.1 x.2.2.2.2.2.1 x.2.2.2.2.2.2.1 x.2.2.2.2.2.2.2.1 x.2.2.2.2.2.2.2.2.1 x.2.2.2.2.2.2.2.2.2.1 x.2.2.2.2.2.2.2.2.2.2) ((0:Int),v16.1,v16.2.1,v16.2.2.1,v16.2.2.2.1,v16.2.2.2.2,v15.1.1,v15.1.2.1,v15.1.2.2,v15.2,rngD keqS v13 v14.1)).bind fun v36=>match v36 with
 |.inl v37=>some (.inr (.inr v37))|.inr v38=>some (.inl v38)
noncomputable def zbW(o:Ops)(v42:qaV)(v43:qaW)(v44:qbX)(v45:qbY)(v46:List ((Bs×Bs)×Unit))(v47:List (Bs×Bs)):List (Option ((qaV×qaW×qbX×qbY×(List ((Bs×Bs)×Unit))×List (Bs×Bs))⊕(zbO⊕(Bool×zbO)))):=
 rngL (rngC (keq (.pr .s .s)) v46 v47) (some (.inr (.inl (v42,v43,v44,v45,v46)))) fun v48=>(mget (keq (.pr .s .s)) v46 v48.1).bind fun _v49=>(zcL o v48.1.1 v42 v43 v44 v45 v46).bind fun v50=>bif(!v50.1)then some (.inr (.inr (false,v50.2)))else((zcL o v48.1.2 v50.2.1 v50.2.2.1 v50.2.2.2.1 v50.2.2.2.2.1 v50.2.2.2.2.2).bind fun v51=>bif(!v51.1)then some (.inr (.inr (false,v51.2)))else some (.inl (v51.2.1,v51.2.2.1,v51.2.2.2.1,v51.2.2.2.2.1,v51.2.2.2.2.2,rngD (keq (.pr .s .s)) v47 v48.1)))
noncomputable def zbK(o:Ops)(v0:qaV)(v1:qaW)(v2:qbX)(v3:qbY)(v4:List ((Bs×Bs)×Unit)):Option ((Bool×zbO)):=
 (zhT o v0 v1 v2 v3 v4).bind fun v5=>match v5 with
 |.inl v6=>some v6|.inr v7=>((rngA (fun x=>zbU o x.1 x.2.1 x.2.2.1 x.2.2.2.1 x.2.2.2.2.1 x.2.2.2.2.2) (v7.1,v7.2.1,v7.2.2.1,v7.2.2.2.1,v7.2.2.2.2,cU Prod.fst v7.2.1)).bind fun v39=>match v39 with
 |.inl v40=>((rngA (fun x=>zbW o x.1 x.2.1 x.2.2.1 x.2.2.2.1 x.2.2.2.2.1 x.2.2.2.2.2) (v40.1,v40.2.1,v40.2.2.1,v40.2.2.2.1,v40.2.2.2.2,cU Prod.fst v40.2.2.2.2)).bind fun v52=>match v52 with
 |.inl v53=>((zbV o v53.1 v53.2.1 v53.2.2.1 v53.2.2.2.1 v53.2.2.2.2).bind fun v55=>some v55)|.inr v54=>some v54)
 |.inr v41=>some v41)
noncomputable def zqH(o:Ops):SC:=⟨⟨[(0,(.ptr 0 0))],[zbC,zaD,zaF,zaE,zaC,qaY]⟩,1,[(none,⟨[(0,hB)],[zbC,zaD,zaF,zaE,zaC,qaY]⟩)],fun x=>zbK o x.1 x.2.1 x.2.2.1 x.2.2.2.1 x.2.2.2.2⟩
theorem zyH:SCok aA tabs 76 (zqH o):=zbS (o:=o) (η:=[(2000003,.join [] [] [(some 1000000,⟨[(2,hB)],[zbC,zaD,zaF,zaE,zaC,qaY]⟩),(none,⟨[(0,(.ptr 0 0))],[zbC,zaD,zaF,zaE,zaC,qaY]⟩)]),
 (2000009,.join [] [57] [(none,⟨[(0,(.ptr 0 0)),(4,(.ptr 6 0)),(6,(.ptr 7 0)),(50,(.ptr 8 0)),(56,(.ag [(.kn .i64 0),(.fn 244 [] [(.ptr 9 0)]),(.kn .i64 1),(.fn 245 [] [(.ptr 9 0)]),(.kn .i64 2),(.fn 246 [] [(.ptr 9 0)])]))],[zbC,zaD,zaF,zaE,zaC,qaY,zxU,.blk 187 [(.kn .i64 0),(.fn 244 [] [(.ptr 9 0)])],.it 2 true .s,zzH]⟩),(none,⟨[(0,(.ptr 0 0)),(4,(.ptr 6 0)),(6,(.ptr 7 0)),(50,(.ptr 8 0)),(56,(.ag [(.kn .i64 0),(.fn 244 [] [(.ptr 9 0)]),(.kn .i64 1),(.fn 245 [] [(.ptr 9 0)]),(.kn .i64 2),(.fn 246 [] [(.ptr 9 0)])]))],[zbC,zaD,zaF,zaE,zaC,qaY,zxU,.blk 187 [(.kn .i64 1),(.fn 245 [] [(.ptr 9 0)])],.it 2 true .s,zzH]⟩),(none,⟨[(0,(.ptr 0 0)),(4,(.ptr 6 0)),(6,(.ptr 7 0)),(50,(.ptr 8 0)),(56,(.ag [(.kn .i64 0),(.fn 244 [] [(.ptr 9 0)]),(.kn .i64 1),(.fn 245 [] [(.ptr 9 0)]),(.kn .i64 2),(.fn 246 [] [(.ptr 9 0)])]))],[zbC,zaD,zaF,zaE,zaC,qaY,zxU,.blk 187 [(.kn .i64 2),(.fn 246 [] [(.ptr 9 0)])],.it 2 true .s,zzH]⟩)]),
 (200007,.loop [] ⟨[(0,(.ptr 0 0)),(4,(.ptr 6 0)),(50,(.ptr 7 0)),(56,(.ag [(.kn .i64 0),(.fn 244 [] [(.ptr 8 0)]),(.kn .i64 1),(.fn 245 [] [(.ptr 8 0)]),(.kn .i64 2),(.fn 246 [] [(.ptr 8 0)])])),(57,hI)],[zbC,zaD,zaF,zaE,zaC,qaY,zxU,.it 2 true .s,zzH]⟩ [] [(some 1000000,⟨[(2,hB)],[zbC,zaD,zaF,zaE,zaC,qaY]⟩),(some 2,⟨[(0,(.ptr 0 0)),(50,(.ptr 6 0))],[zbC,zaD,zaF,zaE,zaC,qaY,.it 2 true .s]⟩)]),
 (200004,.rng [] ⟨[(0,(.ptr 0 0)),(50,(.ptr 6 0))],[zbC,zaD,zaF,zaE,zaC,qaY,.it 2 true .s]⟩ [] [(some 0,⟨[(0,(.ptr 0 0))],[zbC,zaD,zaF,zaE,zaC,qaY]⟩),(some 1000000,⟨[(2,hB)],[zbC,zaD,zaF,zaE,zaC,qaY]⟩)]),
 (200013,.rng [] ⟨[(0,(.ptr 0 0)),(80,(.ptr 6 0))],[zbC,zaD,zaF,zaE,zaC,qaY,.it 5 true (.pr .s .s)]⟩ [] [(some 4,⟨[(0,(.ptr 0 0))],[zbC,zaD,zaF,zaE,zaC,qaY]⟩),(some 1000000,⟨[(2,hB)],[zbC,zaD,zaF,zaE,zaC,qaY]⟩)]),
 (4000009,.sch (zpu 0 13++[(.mn,13,[0,1,2,3,4,5,9]),(.pu,14,[])]))]) (Γ:=⟨[],[(173,(zfH o)),(174,(zxG o)),(174,(zxK o)),(174,(zxM o)),(128,(zlC o)),(175,(zoM o))],false,[]⟩) (ctok trivial ⟨zhU,⟨yfG,⟨yfW,⟨yfJ,⟨zpZ,⟨zwN,trivial⟩⟩⟩⟩⟩⟩) Tryz.func76
noncomputable def zfS(o:Ops)(v0:List (Bs×Bs))(v2:Int)(v3:qaV)(v4:qaW)(v5:qbX)(v6:qbY)(v7:List ((Bs×Bs)×Unit)):Option ((Int×zbO)⊕(Int⊕zbO)):=
 bif decide (v2<(v0.length:Int))then((idx v0 v2).bind fun v8=>bif decide (v2>0)then((idx v0 (w64 (v2-1))).bind fun v9=>bif(Op.bytesLess v8.1 v9.1||v8.1==v9.1)then some (.inr (.inl (125:Int)))else((zaM o v8 v3 v4 v5 v6 v7).bind fun v10=>bif(!v10.1)then some (.inr (.inl (125:Int)))else some (.inl (w64 (v2+1),v10.2))))else((zaM o v8 v3 v4 v5 v6 v7).bind fun v11=>bif(!v11.1)then some (.inr (.inl (125:Int)))else some (.inl (w64 (v2+1),v11.2))))else some (.inr (.inr (v3,v4,v5,v6,v7)))
noncomputable def zeR(o:Ops)(v0:List (Bs×Bs)):Option (Int⊕(Int×zbO)):=
 (znP o).bind fun v1=>(iter (fun x=>zfS o v0 x.1 x.2.1 x.2.2.1 x.2.2.2.1 x.2.2.2.2.1 x.2.2.2.2.2) ((0:Int),v1)).bind fun v12=>match v12 with
 |.inl v13=>some (.inl v13)|.inr v14=>((zbK o v14.1 v14.2.1 v14.2.2.1 v14.2.2.2.1 v14.2.2.2.2).bind fun v15=>bif(!v15.1)then some (.inl (125:Int))else some (.inr ((0:Int),v15.2)))
noncomputable def zuW(o:Ops):SC:=⟨⟨[(0,(.h (.sl (.pr .s .s))))],[]⟩,2,[(none,⟨[(0,.nilp),(1,hI)],[]⟩),(none,⟨[(0,(.ptr 0 0)),(1,hI)],[zbC,zaD,zaF,zaE,zaC,qaY]⟩)],fun x=>zeR o x⟩
theorem ybG:SCok aA tabs 25 (zuW o):=zbS (o:=o) (η:=[(200003,.loop [] ⟨[(4,(.ptr 0 0)),(10,hI)],[zbC,zaD,zaF,zaE,zaC,qaY]⟩ [0,8,9] [(some 1000000,⟨[(2,.nilp),(3,hI)],[]⟩),(some 0,⟨[(4,(.ptr 0 0))],[zbC,zaD,zaF,zaE,zaC,qaY]⟩)]),
 (4000005,.sch (zpu 0 16++[(.mn,16,[0,1,2,3,4,5]),(.pu,17,[]),(.pu,18,[])]))]) (Γ:=⟨[],[(30,(zwU o)),(75,(zmU o)),(76,(zqH o))],false,[]⟩) (ctok trivial ⟨ycG,⟨zuQ,⟨zyH,trivial⟩⟩⟩) Tryz.func25
noncomputable def zpK(o:Ops)(v0:zbO):Option (Bool⊕zbO):=
 (zkE o ([97,110,110]:Bs) ([97,64,120]:Bs) v0.1 v0.2.1 v0.2.2.1 v0.2.2.2.1 v0.2.2.2.2).bind fun v1=>bif(v1.1 != 0)then some (.inl false)else((zkE o ([97,110,110]:Bs) ([97,64,120]:Bs) v1.2.1 v1.2.2.1 v1.2.2.2.1 v1.2.2.2.2.1 v1.2.2.2.2.2).bind fun v2=>bif(v2.1 != 121)then some (.inl false)else((ziW o ([103]:Bs) v2.2.1 v2.2.2.1 v2.2.2.2.1 v2.2.2.2.2.1 v2.2.2.2.2.2).bind fun v3=>bif(v3.1 != 0)then some (.inl false)else((ziW o ([104]:Bs) v3.2.1 v3.2.2.1 v3.2.2.2.1 v3.2.2.2.2.1 v3.2.2.2.2.2).bind fun v4=>bif(v4.1 != 0)then some (.inl false)else((zmR o ([103]:Bs) ([104]:Bs) v4.2.1 v4.2.2.1 v4.2.2.2.1 v4.2.2.2.2.1 v4.2.2.2.2.2).bind fun v5=>bif(v5.1 != 0)then some (.inl false)else((zmR o ([104]:Bs) ([103]:Bs) v5.2.1 v5.2.2.1 v5.2.2.2.1 v5.2.2.2.2.1 v5.2.2.2.2.2).bind fun v6=>bif(v6.1 != 123)then some (.inl false)else((zsU o ([104]:Bs) ([97,110,110]:Bs) v6.2.1 v6.2.2.1 v6.2.2.2.1 v6.2.2.2.2.1 v6.2.2.2.2.2).bind fun v7=>bif(v7.1 != 0)then some (.inl false)else some (.inr v7.2)))))))
noncomputable def zjW(o:Ops)(v10:zbO):Option (Bool⊕zbO):=
 (zpM o (([114]:Bs),([([114,101,97,100]:Bs)]:List Bs)) v10.1 v10.2.1 v10.2.2.1 v10.2.2.2.1 v10.2.2.2.2).bind fun v11=>bif(v11.1 != 0)then some (.inl false)else((zsW o ([103]:Bs) ([114]:Bs) v11.2.1 v11.2.2.1 v11.2.2.2.1 v11.2.2.2.2.1 v11.2.2.2.2.2).bind fun v12=>bif(v12.1 != 0)then some (.inl false)else((zqD o ([117,58,97,110,110]:Bs) v12.2.1 v12.2.2.1 v12.2.2.2.1 v12.2.2.2.2.1 v12.2.2.2.2.2).bind fun v13=>bif(!v13.1)then some (.inl false)else some (.inr v13.2)))
noncomputable def zkX(o:Ops):Option (Bool):=
 (znP o).bind fun v0=>(zpK o v0).bind fun v8=>match v8 with
 |.inl v9=>(some v9)|.inr v10=>((zjW o v10).bind fun v14=>match v14 with
 |.inl v15=>(some v15)|.inr v16=>((zdA o ([97,110,110]:Bs) v16.1 v16.2.1 v16.2.2.1 v16.2.2.2.1 v16.2.2.2.2).bind fun v17=>(zcJ o ([97,110,110]:Bs) v17.2.1 v17.2.2.1 v17.2.2.2.1 v17.2.2.2.2.1 v17.2.2.2.2.2).bind fun v18=>(zdM o v18.2.1 v18.2.2.1 v18.2.2.2.1 v18.2.2.2.2.1 v18.2.2.2.2.2).bind fun v19=>(zeR o v19.1).bind fun v20=>match v20 with
 |.inl _v21=>(bif((v17.1.length:Int)==2)then((idx v17.1 (0:Int)).bind fun v23=>bif(v23==([103]:Bs))then(bif((v18.1.length:Int)==1)then((idx v18.1 (0:Int)).bind fun v24=>bif(v24==([114,101,97,100]:Bs))then(bif((v19.1.length:Int)==4)then((idx v19.1 (1:Int)).bind fun v25=>let v26:Bool:=((v25.1==([103,114,111,117,112,47,104]:Bs))&&(v25.2==([49,58,50,49,58,49,51,58,97,110,110,49,58,48,49,58,48]:Bs)))
 bif v26 then(some false)else(some false))else(some false))else(some false))else(some false))else(some false))else(some false))
 |.inr v22=>(bif((v17.1.length:Int)==2)then((idx v17.1 (0:Int)).bind fun v27=>bif(v27==([103]:Bs))then(bif((v18.1.length:Int)==1)then((idx v18.1 (0:Int)).bind fun v28=>bif(v28==([114,101,97,100]:Bs))then(bif((v19.1.length:Int)==4)then((idx v19.1 (1:Int)).bind fun v29=>let v30:Bool:=((v29.1==([103,114,111,117,112,47,104]:Bs))&&(v29.2==([49,58,50,49,58,49,51,58,97,110,110,49,58,48,49,58,48]:Bs)))
 bif v30 then(bif(v22.1==0)then((o.form ([([97,98]:Bs),([]:Bs)]:List Bs)).bind fun v31=>some (v31==([50,58,97,98,48,58]:Bs)))else(some false))else(some false))else(some false))else(some false))else(some false))else(some false))else(some false))))
noncomputable def zoU(o:Ops):PC:=⟨[],[.b],fun _=>zkX o,false⟩
theorem zwT:PCok aA tabs 24 (zoU o):=zkL (o:=o) (η:=[(2000004,.join [] [] [(some 1000000,⟨[(0,hB)],[]⟩),(none,⟨[(1,(.ptr 0 0))],[zbC,zaD,zaF,zaE,zaC,qaY]⟩)]),
 (2000006,.join [] [] [(some 1000000,⟨[(0,hB)],[]⟩),(none,⟨[(1,(.ptr 0 0))],[zbC,zaD,zaF,zaE,zaC,qaY]⟩)])]) (Γ:=⟨[(22,(yjK o))],[(30,(zwU o)),(71,(znS o)),(72,(zmY o)),(33,(zrO o)),(73,(zrI o)),(36,(znT o)),(74,(zrE o)),(49,(zoT o)),(50,(zkC o)),(34,(zlA o)),(29,(zmD o)),(25,(zuW o))],false,[]⟩) (ctok ⟨(zoW.form (G:=tabs)),trivial⟩ ⟨ycG,⟨zvX,⟨zuS,⟨zzX,⟨zzN,⟨zvV,⟨zzC,⟨zwL,⟨znH,⟨zqC,⟨zrG,⟨ybG,trivial⟩⟩⟩⟩⟩⟩⟩⟩⟩⟩⟩⟩) Tryz.func24
end
end Go.Proofs.YtopanhneegpgcaaGreatDoor.Am
