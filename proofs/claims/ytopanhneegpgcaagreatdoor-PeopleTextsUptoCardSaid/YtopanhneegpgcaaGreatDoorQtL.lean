/- What some functions compute, over plain values, and that they do. Conditions: as each theorem says. -/
import Derived.KernelRfl
import Derived.Test.YtopanhneegpgcaaGreatDoorQtK
namespace Go.Proofs.YtopanhneegpgcaaGreatDoor.Am
open Go Go.RowKit
def τWkF:TE:=[(3,⟨.int .i64,1,[.v (.i .i64) (show Int from 0)],(.i .i64),8⟩),
 (4,⟨.b,1,[.v .b (show Bool from false)],.b,1⟩),
 (9,⟨.s,1,[.v .s (show Bs from [])],.s,16⟩),
 (22,⟨.sl 9,1,[.nils],(.sl .s),24⟩),
 (25,⟨.fn,1,[.nilf],.un,8⟩),
 (31,⟨.sl 33,1,[.nils],(.sl (.pr .s .s)),24⟩),
 (33,⟨.st [(9,0),(9,1)],2,[.v .s (show Bs from []),.v .s (show Bs from [])],(.pr .s .s),32⟩),
 (34,⟨.pt 128,1,[.nilp],.un,8⟩),
 (49,⟨.st [(9,0),(22,1)],2,[.v .s (show Bs from []),.nils],(.pr .s (.sl .s)),40⟩),
 (51,⟨.st [(9,0),(9,1),(22,2),(22,3),(4,4),(4,5),(4,6),(4,7)],8,[.v .s (show Bs from []),.v .s (show Bs from []),.nils,.nils,.v .b (show Bool from false),.v .b (show Bool from false),.v .b (show Bool from false),.v .b (show Bool from false)],(.pr .s (.pr .s (.pr (.sl .s) (.pr (.sl .s) (.pr .b (.pr .b (.pr .b .b))))))),88⟩),
 (54,⟨.sl 57,1,[.nils],(.sl (.pr .s (.pr (.sl .s) (.pr (.sl .s) (.pr (.sl .s) (.i .i64)))))),24⟩),
 (57,⟨.st [(9,0),(22,1),(22,2),(22,3),(3,4)],5,[.v .s (show Bs from []),.nils,.nils,.nils,.v (.i .i64) (show Int from 0)],(.pr .s (.pr (.sl .s) (.pr (.sl .s) (.pr (.sl .s) (.i .i64))))),96⟩),
 (64,⟨.sl 51,1,[.nils],(.sl (.pr .s (.pr .s (.pr (.sl .s) (.pr (.sl .s) (.pr .b (.pr .b (.pr .b .b)))))))),24⟩),
 (67,⟨.sl 77,1,[.nils],(.sl (.pr .s (.pr .s (.pr .b (.i .i64))))),24⟩),
 (69,⟨.sl 49,1,[.nils],(.sl (.pr .s (.sl .s))),24⟩),
 (72,⟨.sl 75,1,[.nils],(.sl (.pr .s .s)),24⟩),
 (75,⟨.st [(9,0),(9,1)],2,[.v .s (show Bs from []),.v .s (show Bs from [])],(.pr .s .s),32⟩),
 (77,⟨.st [(9,0),(9,1),(4,2),(3,3)],4,[.v .s (show Bs from []),.v .s (show Bs from []),.v .b (show Bool from false),.v (.i .i64) (show Int from 0)],(.pr .s (.pr .s (.pr .b (.i .i64)))),48⟩),
 (106,⟨.ifc,1,[.v .er (show Bool from false)],.er,16⟩),
 (122,⟨.map 9 77,1,[.nilm],(.mp .s (.pr .s (.pr .s (.pr .b (.i .i64))))),8⟩),
 (123,⟨.map 9 133,1,[.nilm],(.mp .s (.pr (.pr (.sl .s) (.pr (.sl .s) (.sl .s))) (.i .i64))),8⟩),
 (124,⟨.map 9 49,1,[.nilm],(.mp .s (.pr .s (.sl .s))),8⟩),
 (125,⟨.map 9 51,1,[.nilm],(.mp .s (.pr .s (.pr .s (.pr (.sl .s) (.pr (.sl .s) (.pr .b (.pr .b (.pr .b .b)))))))),8⟩),
 (126,⟨.map 75 157,1,[.nilm],(.mp (.pr .s .s) .un),8⟩),
 (128,⟨.st [(122,0),(123,1),(124,2),(125,3),(126,4)],5,[.nilm,.nilm,.nilm,.nilm,.nilm],(.pr (.mp .s (.pr .s (.pr .s (.pr .b (.i .i64))))) (.pr (.mp .s (.pr (.pr (.sl .s) (.pr (.sl .s) (.sl .s))) (.i .i64))) (.pr (.mp .s (.pr .s (.sl .s))) (.pr (.mp .s (.pr .s (.pr .s (.pr (.sl .s) (.pr (.sl .s) (.pr .b (.pr .b (.pr .b .b)))))))) (.mp (.pr .s .s) .un))))),40⟩),
 (131,⟨.ar 3 22,3,[.nils,.nils,.nils],(.pr (.sl .s) (.pr (.sl .s) (.sl .s))),72⟩),
 (133,⟨.st [(131,0),(3,3)],4,[.nils,.nils,.nils,.v (.i .i64) (show Int from 0)],(.pr (.pr (.sl .s) (.pr (.sl .s) (.sl .s))) (.i .i64)),80⟩),
 (157,⟨.st [],0,[],.un,0⟩),
 (160,⟨.map 9 157,1,[.nilm],(.mp .s .un),8⟩),
 (183,⟨.st [(22,0),(4,1)],2,[.nils,.v .b (show Bool from false)],(.pr (.sl .s) .b),32⟩),
 (187,⟨.st [(3,0),(25,1)],2,[.v (.i .i64) (show Int from 0),.nilf],.un,16⟩),
 (188,⟨.ar 3 187,6,[.v (.i .i64) (show Int from 0),.nilf,.v (.i .i64) (show Int from 0),.nilf,.v (.i .i64) (show Int from 0),.nilf],.un,48⟩),
 (197,⟨.sl 22,1,[.nils],(.sl (.sl .s)),24⟩),
 (201,⟨.int .u64,1,[.v (.i .u64) (show UInt64 from 0)],(.i .u64),8⟩),
 (237,⟨.map 9 22,1,[.nilm],(.mp .s (.sl .s)),8⟩)]
theorem τ_okWkF:TEok Tryz.prog τWkF:=ysZ (by kernel_rfl) (by kernel_rfl)
theorem zxC:Tryz.prog.follows .mixedOrders=true:=by kernel_rfl
theorem zaT {G : List (Nat × Obj)} {o : Ops} [zqN G] [zlH G o] {Γ : CT} {η : HT} {f : FuncId} {fn : Func} {c : SC} (hΓ : ∀ B, GB G B → CTok Tryz.prog Γ B) (hf : Tryz.prog.funcs[f]? = some fn) (i : (fn.name == "runtime.NumGoroutine") = false := by kernel_rfl) (j : fn.body.isNone = false := by kernel_rfl) (l : Nat.ble c.I.sl.length fn.ntmps = true := by kernel_rfl) (r : Nat.beq fn.results.toList.length c.nr = true := by kernel_rfl) (e : fnS τWkF Γ η fn c.I c.outs = c.p := by kernel_rfl) : SCok Tryz.prog G f c := witO (G := G) (o := o) <| xcJ zxC τ_okWkF hΓ hf (isFn hf i j) l r e
theorem zdR {G : List (Nat × Obj)} {o : Ops} [zqN G] [zlH G o] {Γ : CT} {η : HT} {f : FuncId} {fn : Func} {c : PC} (hΓ : ∀ B, GB G B → CTok Tryz.prog Γ B) (hf : Tryz.prog.funcs[f]? = some fn) (i : (fn.name == "runtime.NumGoroutine") = false := by kernel_rfl) (j : fn.body.isNone = false := by kernel_rfl) (l : Nat.ble c.ash.length fn.ntmps = true := by kernel_rfl) (r : c.cl = false := by kernel_rfl) (e : fnP τWkF Γ η fn c.ash c.rts = c.p := by kernel_rfl) : PCok Tryz.prog G f c := witO (G := G) (o := o) <| xcW zxC τ_okWkF hΓ hf (isFn hf i j) l r e
abbrev zvS:Type:=(List Bs)×Bool
abbrev zbW:Type:=Bs×List Bs
abbrev zvX:Ty:=.pr .s (.sl .s)
abbrev zqP:Type:=Bs×Bs×Bool×Int
abbrev yeD:Ty:=.pr .s (.pr .s (.pr .b (.i .i64)))
abbrev zaI:Type:=Bs×zbW
abbrev zaJ:Type:=Bs×zqP
abbrev ztI:Type:=((List Bs)×(List Bs)×List Bs)×Int
abbrev ymC:Ty:=.pr (.pr (.sl .s) (.pr (.sl .s) (.sl .s))) (.i .i64)
abbrev ybB:Type:=Bs×(List Bs)×(List Bs)×(List Bs)×Int
abbrev ylE:Ty:=.pr .s (.pr (.sl .s) (.pr (.sl .s) (.pr (.sl .s) (.i .i64))))
abbrev zaG:Type:=Bs×ztI
abbrev zmZ:Type:=Bs×Bs×(List Bs)×(List Bs)×Bool×Bool×Bool×Bool
abbrev zvW:Ty:=.pr .s (.pr .s (.pr (.sl .s) (.pr (.sl .s) (.pr .b (.pr .b (.pr .b .b))))))
abbrev zaK:Type:=Bs×zmZ
abbrev zaS:Type:=(List (Bs×zqP))×(List (Bs×ztI))×(List (Bs×zbW))×(List (Bs×zmZ))×List ((Bs×Bs)×Unit)
abbrev zaO:OSh:=.blk 128 [(.mpr 1),(.mpr 2),(.mpr 3),(.mpr 4),(.mpr 5)]
abbrev zfK:OSh:=.blk 128 [(.mpr 2),(.mpr 3),(.mpr 4),(.mpr 5),(.mpr 6)]
abbrev zqA:OSh:=.blk 133 [(.h (.sl .s)),(.h (.sl .s)),(.h (.sl .s)),hI]
abbrev ylG:OSh:=.blk 133 [.nils,.nils,.nils,hI]
abbrev ztU:OSh:=.blk 183 [(.h (.sl .s)),hB]
abbrev zsG:OSh:=.blk 34 [(.ptr 0 0)]
abbrev zmD:OSh:=.blk 34 [(.ptr 1 0)]
abbrev zyT:OSh:=.blk 160 [(.mpr 1)]
abbrev ycZ:OSh:=.blk 237 [(.mpr 1)]
abbrev yxT:OSh:=.blk 237 [(.mpr 7)]
abbrev ynD:OSh:=.mp false .s yeD
abbrev zvC:OSh:=.mp false .s ymC
abbrev yoD:OSh:=.mp false .s zvX
abbrev yvS:OSh:=.blk 31 [(.own 1)]
abbrev yqQ:OSh:=.blk 31 [(.own 2)]
abbrev yjI:OSh:=.blk 31 [(.own 8)]
abbrev ycE:OSh:=.blk 31 [(.own 7)]
abbrev zaC:OSh:=.mp true .s yeD
abbrev zaE:OSh:=.mp true .s ymC
abbrev zaD:OSh:=.mp true .s zvX
abbrev zaB:OSh:=.mp true .s zvW
abbrev zhU:OSh:=.mp true .s .un
section
variable {tabs:List (Nat×Obj)}[zqN tabs]{o:Ops}[zlH tabs o]
def zjM(_o:Ops):Option (zaS):=
 some (([]:List zaJ),([]:List zaG),([]:List zaI),([]:List zaK),([]:List ((Bs×Bs)×Unit)))
def zoC(o:Ops):SC:=⟨⟨[],[]⟩,1,[(none,⟨[(0,(.ptr 0 0))],[zaO,zaC,zaE,zaD,zaB,.mp true (.pr .s .s) .un]⟩)],fun _=>zjM o⟩
theorem zuM:SCok Tryz.prog tabs 30 (zoC o):=zaT (o:=o) (η:=[]) (Γ:=⟨[],[],false,[]⟩) (ctok trivial trivial) Tryz.func30
def zgE(o:Ops)(v0:Bs)(v1:Int)(v2:Bs):Option (Bool):=
 bif(v0 != ([]:Bs))then(bif decide ((v0.length:Int)≤v1)then((o.trim v0 v2).bind fun v3=>some (v3==([]:Bs)))else(some false))else(some false)
def zsN(o:Ops):PC:=⟨[hS,hI,hS],[.b],fun x=>zgE o x.1 x.2.1 x.2.2,false⟩
theorem zxE:PCok Tryz.prog tabs 63 (zsN o):=zdR (o:=o) (η:=[]) (Γ:=⟨[(164,(ycT o))],[],false,[]⟩) (ctok ⟨(zlH.trim (G:=tabs)),trivial⟩ trivial) Tryz.func63
def zaP(o:Ops)(v0:Bs):Option (Bool):=
 (zgE o v0 (24:Int) ([97,98,99,100,101,102,103,104,105,106,107,108,109,110,111,112,113,114,115,116,117,118,119,120,121,122,48,49,50,51,52,53,54,55,56,57,46,95,45]:Bs)).bind fun v1=>some v1
def zbD(o:Ops):PC:=⟨[hS],[.b],fun x=>zaP o x,false⟩
theorem zbH:PCok Tryz.prog tabs 13 (zbD o):=zdR (o:=o) (η:=[]) (Γ:=⟨[(63,(zsN o))],[],false,[]⟩) (ctok ⟨zxE,trivial⟩ trivial) Tryz.func13
def zfD(_o:Ops)(v0:Int):Option (Bool):=
 bif decide (v0<33)then(some true)else(some (decide (v0>126)))
def zpL(o:Ops):PC:=⟨[(.h (.i .i32))],[.b],fun x=>zfD o x,false⟩
theorem zxP:PCok Tryz.prog tabs 66 (zpL o):=zdR (o:=o) (η:=[]) (Γ:=⟨[],[],false,[]⟩) (ctok trivial trivial) Tryz.func66
def zdH(o:Ops)(v1:Bool)(v2:Bs)(v3:Int):Option ((Bs×Int)⊕(Int⊕Unit)):=
 bif decide (v3.toNat<v2.length)then((zfD o (nxR v2 v3.toNat)).bind fun v4=>bif(v4==v1)then some (.inr (.inl (v3.toNat:Int)))else some (.inl (v2,(nxP v2 v3.toNat:Int))))else some (.inr (.inr ()))
def zdX(o:Ops)(v0:Bs)(v1:Bool):Option (Int):=
 (iter (fun x=>zdH o v1 x.1 x.2) (v0,(0:Int))).bind fun v5=>match v5 with
 |.inl v6=>some v6
 |.inr _v7=>some (-1:Int)
def zkP(o:Ops):SC:=⟨⟨[(0,hS),(1,(.fn 66 [] [])),(2,hB)],[]⟩,1,[(none,⟨[(0,hI)],[]⟩)],fun x=>zdX o x.1 x.2⟩
theorem ztJ:SCok Tryz.prog tabs 240 (zkP o):=zaT (o:=o) (η:=[(200002,.loop [] ⟨[(1,(.fn 66 [] [])),(10,(.ptr 0 0))],[.is]⟩ [2] [(some 1000000,⟨[(6,hI)],[]⟩),(some 0,⟨[],[]⟩)])]) (Γ:=⟨[(66,(zpL o))],[],false,[]⟩) (ctok ⟨zxP,trivial⟩ trivial) Tryz.func240
def zdY(o:Ops)(v0:Bs):Option (Int):=
 (zdX o v0 true).bind fun v1=>some v1
def zkN(o:Ops):SC:=⟨⟨[(0,hS),(1,(.fn 66 [] []))],[]⟩,1,[(none,⟨[(0,hI)],[]⟩)],fun x=>zdY o x⟩
theorem ztH:SCok Tryz.prog tabs 166 (zkN o):=zaT (o:=o) (η:=[]) (Γ:=⟨[],[(240,(zkP o))],false,[]⟩) (ctok trivial ⟨ztJ,trivial⟩) Tryz.func166
def zbQ(o:Ops)(v0:Bs):Option (Bool):=
 (zdY o v0).bind fun v1=>some (decide (v1≥0))
def zhC(o:Ops):SC:=⟨⟨[(0,hS),(1,(.fn 66 [] []))],[]⟩,1,[(none,⟨[(0,hB)],[]⟩)],fun x=>zbQ o x⟩
theorem zoI:SCok Tryz.prog tabs 65 (zhC o):=zaT (o:=o) (η:=[]) (Γ:=⟨[],[(166,(zkN o))],false,[]⟩) (ctok trivial ⟨ztH,trivial⟩) Tryz.func65
def zbJ(o:Ops)(v0:Bs):Option (Bool):=
 bif(v0 != ([]:Bs))then(bif decide ((v0.length:Int)≤128)then((zbQ o v0).bind fun v1=>some (!v1))else(some false))else(some false)
def zfS(o:Ops):PC:=⟨[hS],[.b],fun x=>zbJ o x,false⟩
theorem zjB:PCok Tryz.prog tabs 15 (zfS o):=zdR (o:=o) (η:=[]) (Γ:=⟨[],[(65,(zhC o))],false,[]⟩) (ctok trivial ⟨zoI,trivial⟩) Tryz.func15
def znE(o:Ops)(v0:Bs)(v1:Bs)(v2:List zaJ)(v3:List zaG)(v4:List zaI)(v5:List zaK)(v6:List ((Bs×Bs)×Unit)):Option ((Int×zaS)⊕zaS):=
 (zaP o v0).bind fun v7=>bif(!v7)then some (.inl ((120:Int),v2,v3,v4,v5,v6))else((zbJ o v1).bind fun v8=>bif(!v8)then some (.inl ((120:Int),v2,v3,v4,v5,v6))else some (.inr (v2,v3,v4,v5,v6)))
def zeB(o:Ops)(v0:Bs)(v1:Bs)(v2:List zaJ)(v3:List zaG)(v4:List zaI)(v5:List zaK)(v6:List ((Bs×Bs)×Unit)):Option ((Int×zaS)):=
 (znE o v0 v1 v2 v3 v4 v5 v6).bind fun v9=>match v9 with
 |.inl v10=>some v10
 |.inr v11=>(let _v12:zqP:=zgX keqS v11.1 v0 (([]:Bs),([]:Bs),false,(0:Int))
 bif mhas keqS v11.1 v0 then some ((121:Int),v11)else(bif decide ((v11.1.length:Int)≥64)then some ((124:Int),v11)else(let v13:List zaJ:=mset keqS kltS v11.1 v0 (v0,v1,true,(1:Int))
 some ((0:Int),v13,v11.2))))
def zgR(o:Ops):SC:=⟨⟨[(0,(.ptr 0 0)),(1,hS),(2,hS)],[zaO,zaC,zaE,zaD,zaB,.mp true (.pr .s .s) .un]⟩,1,[(none,⟨[(0,hI)],[zaO,ynD,zaE,zaD,zaB,.mp true (.pr .s .s) .un]⟩)],fun x=>zeB o x.1 x.2.1 x.2.2.1 x.2.2.2.1 x.2.2.2.2.1 x.2.2.2.2.2.1 x.2.2.2.2.2.2⟩
theorem znK:SCok Tryz.prog tabs 71 (zgR o):=zaT (o:=o) (η:=[(2000003,.join [] [1,2] [(some 1000000,⟨[(6,hI)],[zaO,zaC,zaE,zaD,zaB,.mp true (.pr .s .s) .un]⟩),(none,⟨[(0,(.ptr 0 0))],[zaO,zaC,zaE,zaD,zaB,.mp true (.pr .s .s) .un]⟩)])]) (Γ:=⟨[(13,(zbD o)),(15,(zfS o))],[],false,[]⟩) (ctok ⟨zbH,⟨zjB,trivial⟩⟩ trivial) Tryz.func71
def zdO(o:Ops)(v0:Bs)(v1:List zaJ)(v2:List zaG)(v3:List zaI)(v4:List zaK)(v5:List ((Bs×Bs)×Unit)):Option ((Int×zaS)):=
 (zaP o v0).bind fun v6=>bif(!v6)then some ((120:Int),v1,v2,v3,v4,v5)else(let _v7:ztI:=zgX keqS v2 v0 ((([]:List Bs),([]:List Bs),([]:List Bs)),(0:Int))
 bif mhas keqS v2 v0 then some ((121:Int),v1,v2,v3,v4,v5)else(bif decide ((v2.length:Int)≥32)then some ((124:Int),v1,v2,v3,v4,v5)else(let v8:List zaG:=mset keqS kltS v2 v0 ((([]:List Bs),([]:List Bs),([]:List Bs)),(1:Int))
 some ((0:Int),v1,v8,v3,v4,v5))))
def zfO(o:Ops):SC:=⟨⟨[(0,(.ptr 0 0)),(1,hS)],[zaO,zaC,zaE,zaD,zaB,.mp true (.pr .s .s) .un]⟩,1,[(none,⟨[(0,hI)],[zaO,zaC,zvC,zaD,zaB,.mp true (.pr .s .s) .un]⟩)],fun x=>zdO o x.1 x.2.1 x.2.2.1 x.2.2.2.1 x.2.2.2.2.1 x.2.2.2.2.2⟩
theorem zmH:SCok Tryz.prog tabs 72 (zfO o):=zaT (o:=o) (η:=[]) (Γ:=⟨[(13,(zbD o))],[],false,[]⟩) (ctok ⟨zbH,trivial⟩ trivial) Tryz.func72
def zcA(_o:Ops)(v0:List zaJ)(v1:List zaG)(v2:List zaI)(v3:List zaK)(v4:List ((Bs×Bs)×Unit)):Option (zaS):=
 some (v0,v1,v2,v3,v4)
def zbR(o:Ops):SC:=⟨⟨[(0,(.ptr 0 0))],[zaO,zaC,zaE,zaD,zaB,.mp true (.pr .s .s) .un]⟩,1,[(none,⟨[(0,(.ag [(.kn .i64 0),(.fn 244 [] [(.ptr 6 0)]),(.kn .i64 1),(.fn 245 [] [(.ptr 6 0)]),(.kn .i64 2),(.fn 246 [] [(.ptr 6 0)])]))],[zaO,zaC,zaE,zaD,zaB,.mp true (.pr .s .s) .un,zsG]⟩)],fun x=>zcA o x.1 x.2.1 x.2.2.1 x.2.2.2.1 x.2.2.2.2⟩
theorem zcU:SCok Tryz.prog tabs 173 (zbR o):=zaT (o:=o) (η:=[]) (Γ:=⟨[],[],false,[]⟩) (ctok trivial trivial) Tryz.func173
def zeA(_o:Ops)(v0:Bs)(v1:List zaJ)(v2:List zaG)(v3:List zaI)(v4:List zaK)(v5:List ((Bs×Bs)×Unit)):Option ((Bool×zaS)):=
 let _v6:ztI:=zgX keqS v2 v0 ((([]:List Bs),([]:List Bs),([]:List Bs)),(0:Int))
 some (mhas keqS v2 v0,v1,v2,v3,v4,v5)
def zdQ(o:Ops):SC:=⟨⟨[(0,hS),(1,(.ptr 0 0))],[zmD,zfK,zaC,zaE,zaD,zaB,.mp true (.pr .s .s) .un]⟩,1,[(none,⟨[(0,hB)],[zmD,zfK,zaC,zaE,zaD,zaB,.mp true (.pr .s .s) .un]⟩)],fun x=>zeA o x.1 x.2.1 x.2.2.1 x.2.2.2.1 x.2.2.2.2.1 x.2.2.2.2.2⟩
theorem zgN:SCok Tryz.prog tabs 245 (zdQ o):=zaT (o:=o) (η:=[]) (Γ:=⟨[],[],false,[]⟩) (ctok trivial trivial) Tryz.func245
def zqT(o:Ops)(v0:Bs)(v1:Bs)(v2:List zaJ)(v3:List zaG)(v4:List zaI)(v5:List zaK)(v6:List ((Bs×Bs)×Unit)):Option ((Int×(List zaJ)×(List zaG)×(List zaI)×(List zaK)×(List ((Bs×Bs)×Unit))×Int)⊕((List zaJ)×(List zaG)×(List zaI)×(List zaK)×(List ((Bs×Bs)×Unit))×Int)):=
 (zaP o v0).bind fun v7=>bif(!v7)then some (.inl ((120:Int),v2,v3,v4,v5,v6,(0:Int)))else((zaP o v1).bind fun v8=>bif(!v8)then some (.inl ((120:Int),v2,v3,v4,v5,v6,(0:Int)))else some (.inr (v2,v3,v4,v5,v6,(0:Int))))
def zkO(o:Ops)(v0:Bs)(v1:Bs)(v2:List zaJ)(v3:List zaG)(v4:List zaI)(v5:List zaK)(v6:List ((Bs×Bs)×Unit)):Option ((ztI×Int×zaS)):=
 (zqT o v0 v1 v2 v3 v4 v5 v6).bind fun v9=>match v9 with
 |.inl v10=>some (((([]:List Bs),([]:List Bs),([]:List Bs)),v10.2.2.2.2.2.2),v10.1,v10.2.1,v10.2.2.1,v10.2.2.2.1,v10.2.2.2.2.1,v10.2.2.2.2.2.1)
 |.inr v11=>(let v12:ztI:=zgX keqS v11.2.1 v0 ((([]:List Bs),([]:List Bs),([]:List Bs)),(0:Int))
 bif(!(mhas keqS v11.2.1 v0))then some (((([]:List Bs),([]:List Bs),([]:List Bs)),(0:Int)),(122:Int),v11.1,v11.2.1,v11.2.2.1,v11.2.2.2.1,v11.2.2.2.2.1)else((zeA o v1 v11.1 v11.2.1 v11.2.2.1 v11.2.2.2.1 v11.2.2.2.2.1).bind fun v13=>bif(!v13.1)then some (((([]:List Bs),([]:List Bs),([]:List Bs)),(0:Int)),(122:Int),v13.2)else some (v12,(0:Int),v13.2)))
def zjP(o:Ops):SC:=⟨⟨[(0,(.ptr 0 0)),(1,hS),(2,(.ag [(.kn .i64 1),(.fn 245 [] [(.ptr 1 0)])])),(3,hS)],[zfK,zsG,zaC,zaE,zaD,zaB,.mp true (.pr .s .s) .un]⟩,2,[(none,⟨[(0,(.h ymC)),(1,hI)],[zfK,zsG,zaC,zaE,zaD,zaB,.mp true (.pr .s .s) .un]⟩)],fun x=>zkO o x.1 x.2.1 x.2.2.1 x.2.2.2.1 x.2.2.2.2.1 x.2.2.2.2.2.1 x.2.2.2.2.2.2⟩
theorem zrH:SCok Tryz.prog tabs 199 (zjP o):=zaT (o:=o) (η:=[(2000003,.join [] [1,3] [(some 1000000,⟨[(8,(.ptr 7 0)),(9,hI)],[zfK,zsG,zaC,zaE,zaD,zaB,.mp true (.pr .s .s) .un,ylG]⟩),(none,⟨[(0,(.ptr 0 0)),(6,(.ptr 7 0)),(8,(.ptr 8 0))],[zfK,zsG,zaC,zaE,zaD,zaB,.mp true (.pr .s .s) .un,.blk 187 [(.kn .i64 1),(.fn 245 [] [(.ptr 1 0)])],ylG]⟩)])]) (Γ:=⟨[(13,(zbD o))],[(245,(zdQ o))],false,[]⟩) (ctok ⟨zbH,trivial⟩ ⟨zgN,trivial⟩) Tryz.func199
def zuH(_o:Ops)(v0:Bs):Option (Bool):=
 some (v0 != v0)
def zwR(o:Ops):PC:=⟨[hS],[.b],fun x=>zuH o x,false⟩
theorem ygD:PCok Tryz.prog tabs 307 (zwR o):=zdR (o:=o) (η:=[]) (Γ:=⟨[],[],false,[]⟩) (ctok trivial trivial) Tryz.func307
def ybP(o:Ops)(v0:Bs)(v1:Bs):Option (Bool):=
 (zuH o v0).bind fun v2=>bif v2 then((zuH o v1).bind fun v3=>bif(!v3)then(some true)else(some (Op.bytesLess v0 v1)))else(some (Op.bytesLess v0 v1))
def zyW(o:Ops):PC:=⟨[hS,hS],[.b],fun x=>ybP o x.1 x.2,false⟩
theorem yhK:PCok Tryz.prog tabs 268 (zyW o):=zdR (o:=o) (η:=[]) (Γ:=⟨[(307,(zwR o))],[],false,[]⟩) (ctok ⟨ygD,trivial⟩ trivial) Tryz.func268
def zmM(_o:Ops)(v0:Bs):Option (Bool):=
 some (v0 != v0)
def zrQ(o:Ops):PC:=⟨[hS],[.b],fun x=>zmM o x,false⟩
theorem zyY:PCok Tryz.prog tabs 278 (zrQ o):=zdR (o:=o) (η:=[]) (Γ:=⟨[],[],false,[]⟩) (ctok trivial trivial) Tryz.func278
def zqC(o:Ops)(v0:List Bs)(v1:Bs)(v2:Int)(v3:Int):Option ((Int×Int)⊕Int):=
 bif decide (v2<v3)then((chk (decide ((0:Int)≤((1:UInt64).toNat:Int)))).bind fun _=>let v4:UInt64:=i64 (shrI .u64 ((i64 (w64 (v2+v3))).toNat:Int) ((1:UInt64).toNat:Int))
 (idx v0 (w64 (v4.toNat:Int))).bind fun v5=>(ybP o v5 v1).bind fun v6=>bif v6 then some (.inl (w64 ((w64 (v4.toNat:Int))+1),v3))else some (.inl (v2,w64 (v4.toNat:Int))))else some (.inr v2)
def zfC(o:Ops)(v0:List Bs)(v1:Bs):Option (Int×Bool):=
 (iter (fun x=>zqC o v0 v1 x.1 x.2) ((0:Int),(v0.length:Int))).bind fun v7=>bif decide (v7<(v0.length:Int))then((idx v0 v7).bind fun v8=>bif(v8==v1)then(some (v7,true))else((idx v0 v7).bind fun v9=>(zmM o v9).bind fun v10=>bif v10 then((zmM o v1).bind fun v11=>some (v7,v11))else(some (v7,false))))else(some (v7,false))
def zeI(o:Ops):PC:=⟨[(.h (.sl .s)),hS],[(.i .i64),.b],fun x=>zfC o x.1 x.2,false⟩
theorem ziG:PCok Tryz.prog tabs 213 (zeI o):=zdR (o:=o) (η:=[(200003,.loop [] ⟨[(7,hI),(8,hI)],[]⟩ [0,1,4,5,6] [(some 0,⟨[(7,hI)],[]⟩)])]) (Γ:=⟨[(268,(zyW o)),(278,(zrQ o))],[],false,[]⟩) (ctok ⟨yhK,⟨zyY,trivial⟩⟩ trivial) Tryz.func213
def zjZ(o:Ops)(v0:List Bs)(v1:Bs):Option (Bool):=
 (zfC o v0 v1).bind fun v2=>some v2.2
def zhD(o:Ops):PC:=⟨[(.h (.sl .s)),hS],[.b],fun x=>zjZ o x.1 x.2,false⟩
theorem zkX:PCok Tryz.prog tabs 131 (zhD o):=zdR (o:=o) (η:=[]) (Γ:=⟨[(213,(zeI o))],[],false,[]⟩) (ctok ⟨ziG,trivial⟩ trivial) Tryz.func131
def zmW(_o:Ops)(v17:ztI)(v18:Int)(v19:List zaJ)(v20:List zaG)(v21:List zaI)(v22:List zaK)(v23:List ((Bs×Bs)×Unit))(v24:List (Bs×Unit))(v25:List Bs):Option ((Int×(List zaJ)×(List zaG)×(List zaI)×(List zaK)×(List ((Bs×Bs)×Unit))×(List (Bs×Unit))×List Bs)⊕(((List zaJ)×(List zaG)×(List zaI)×(List zaK)×(List ((Bs×Bs)×Unit))×(List (Bs×Unit))×List Bs))):=
 bif decide (v18<(v17.1.2.1.length:Int))then((idx v17.1.2.1 v18).bind fun v26=>let _v27:Unit:=zgX keqS v24 v26 ()
 bif(!(mhas keqS v24 v26))then(let v28:List (Bs×Unit):=mset keqS kltS v24 v26 ()
 (app v25 ([v26]:List Bs)).bind fun v29=>some (.inl (w64 (v18+1),v19,v20,v21,v22,v23,v28,v29)))else some (.inl (w64 (v18+1),v19,v20,v21,v22,v23,v24,v25)))else some (.inr (v19,v20,v21,v22,v23,v24,v25))
def zoR(o:Ops)(v1:Bs)(v8:List zaJ)(v9:List zaG)(v10:List zaI)(v11:List zaK)(v12:List ((Bs×Bs)×Unit))(v13:List (Bs×Unit))(v14:List Bs):Option (((List zaJ)×(List zaG)×(List zaI)×(List zaK)×(List ((Bs×Bs)×Unit))×(List (Bs×Unit))×List Bs)⊕((Bool×zaS)⊕zaS)):=
 bif decide ((v14.length:Int)>0)then((chk (decide ((0:Int)≤0)&&decide ((0:Int)<(v14.length:Int)))).bind fun _=>(idx v14 (0:Int)).bind fun v15=>bif(v15==v1)then some (.inr (.inl (true,v8,v9,v10,v11,v12)))else((chk (decide ((0:Int)≤0)&&decide ((0:Int)<(v14.length:Int)))).bind fun _=>(idx v14 (0:Int)).bind fun v16=>let v17:ztI:=zgX keqS v9 v16 ((([]:List Bs),([]:List Bs),([]:List Bs)),(0:Int))
 (iter (fun x=>zmW o v17 x.1 x.2.1 x.2.2.1 x.2.2.2.1 x.2.2.2.2.1 x.2.2.2.2.2.1 x.2.2.2.2.2.2.1 x.2.2.2.2.2.2.2) ((0:Int),v8,v9,v10,v11,v12,v13,v14)).bind fun v30=>(subL v30.2.2.2.2.2.2 (1:Int)).bind fun v31=>some (.inl (v30.1,v30.2.1,v30.2.2.1,v30.2.2.2.1,v30.2.2.2.2.1,v30.2.2.2.2.2.1,v31))))else some (.inr (.inr (v8,v9,v10,v11,v12)))
def ziP(o:Ops)(v0:Bs)(v1:Bs)(v2:List zaJ)(v3:List zaG)(v4:List zaI)(v5:List zaK)(v6:List ((Bs×Bs)×Unit)):Option ((Bool×zaS)):=
 let v7:List (Bs×Unit):=mset keqS kltS ([]:List (Bs×Unit)) v0 ()
 (iter (fun x=>zoR o v1 x.1 x.2.1 x.2.2.1 x.2.2.2.1 x.2.2.2.2.1 x.2.2.2.2.2.1 x.2.2.2.2.2.2) (v2,v3,v4,v5,v6,v7,([v0]:List Bs))).bind fun v32=>match v32 with
 |.inl v33=>some v33
 |.inr v34=>some (false,v34)
def zhW(o:Ops):SC:=⟨⟨[(0,(.ptr 0 0)),(1,hS),(2,hS)],[zaO,zaC,zaE,zaD,zaB,.mp true (.pr .s .s) .un]⟩,1,[(none,⟨[(0,hB)],[zaO,zaC,zaE,zaD,zaB,.mp true (.pr .s .s) .un]⟩)],fun x=>ziP o x.1 x.2.1 x.2.2.1 x.2.2.2.1 x.2.2.2.2.1 x.2.2.2.2.2.1 x.2.2.2.2.2.2⟩
theorem zoG:SCok Tryz.prog tabs 200 (zhW o):=zaT (o:=o) (η:=[(200008,.loop [] ⟨[(0,(.ptr 0 0)),(7,(.mpr 6)),(8,(.own 7)),(40,hI)],[zaO,zaC,zaE,zaD,zaB,.mp true (.pr .s .s) .un,zhU,.qu .s 9]⟩ [2,38,39] [(some 2,⟨[(0,(.ptr 0 0)),(7,(.mpr 6)),(8,(.own 7))],[zaO,zaC,zaE,zaD,zaB,.mp true (.pr .s .s) .un,zhU,.qu .s 9]⟩)]),
 (200003,.loop [.qu 8] ⟨[(0,(.ptr 0 0)),(7,(.mpr 6)),(8,(.own 7))],[zaO,zaC,zaE,zaD,zaB,.mp true (.pr .s .s) .un,zhU,.qu .s 9]⟩ [2] [(some 1000000,⟨[(6,hB)],[zaO,zaC,zaE,zaD,zaB,.mp true (.pr .s .s) .un]⟩),(some 0,⟨[],[zaO,zaC,zaE,zaD,zaB,.mp true (.pr .s .s) .un]⟩)]),
 (4000007,.sch [(.pu,0,[]),(.pu,1,[]),(.pu,2,[]),(.pu,3,[]),(.pu,4,[]),(.pu,5,[]),(.pu,6,[]),(.pu,7,[]),(.pu,8,[]),(.pu,9,[]),(.pu,10,[]),(.pu,11,[])])]) (Γ:=⟨[],[],false,[]⟩) (ctok trivial trivial) Tryz.func200
def ztB:SC:=⟨⟨[(0,(.h (.sl .s)))],[]⟩,1,[(none,⟨[(0,(.own 0))],[.osl .s 9]⟩)],fun xs=>app [] xs⟩
theorem zuT:SCok Tryz.prog tabs 198 ztB:=wit (G:=tabs)<|ytK zxC τ_okWkF Tryz.func198 (isFn Tryz.func198) rfl (by kernel_rfl) (by kernel_rfl) (by kernel_rfl) (fun _=>by kernel_rfl)
def yfP:SC:=⟨⟨[(0,(.own 0)),(1,hI),(2,(.own 1))],[.osl .s 9,.osl .s 9]⟩,1,[(none,⟨[(0,(.own 2))],[.dead,.dead,.osl .s 9]⟩)],yyB⟩
theorem ysM:SCok Tryz.prog tabs 261 yfP:=wit (G:=tabs)<|insK
def zkR(o:Ops)(v0:List Bs)(v1:Bs):Option (List Bs):=
 (zfC o v0 v1).bind fun v2=>(app ([]:List Bs) v0).bind fun v3=>((fun i xs vs=>yyB (i,xs,vs)) v2.1 v3 ([v1]:List Bs)).bind fun v4=>some v4
def zjE(o:Ops):PC:=⟨[(.h (.sl .s)),hS],[(.sl .s)],fun x=>zkR o x.1 x.2,false⟩
theorem zmJ:PCok Tryz.prog tabs 201 (zjE o):=zdR (o:=o) (η:=[]) (Γ:=⟨[(213,(zeI o))],[(198,ztB),(261,yfP)],false,[]⟩) (ctok ⟨ziG,trivial⟩ ⟨zuT,⟨ysM,trivial⟩⟩) Tryz.func201
def zsA(o:Ops)(v0:Bs)(v1:Bs)(v2:List zaJ)(v3:List zaG)(v4:List zaI)(v5:List zaK)(v6:List ((Bs×Bs)×Unit)):Option ((Int×(List zaJ)×(List zaG)×(List zaI)×(List zaK)×(List ((Bs×Bs)×Unit))×(List Bs)×(List Bs)×(List Bs)×Int)):=
 (zcA o v2 v3 v4 v5 v6).bind fun v7=>(zkO o v0 v1 v7.1 v7.2.1 v7.2.2.1 v7.2.2.2.1 v7.2.2.2.2).bind fun v8=>some (v8.2.1,v8.2.2.1,v8.2.2.2.1,v8.2.2.2.2.1,v8.2.2.2.2.2.1,v8.2.2.2.2.2.2,v8.1.1.1,v8.1.1.2.1,v8.1.1.2.2,v8.1.2)
def zqV(o:Ops)(v1:Bs)(v9:Int×(List zaJ)×(List zaG)×(List zaI)×(List zaK)×(List ((Bs×Bs)×Unit))×(List Bs)×(List Bs)×(List Bs)×Int):Option ((Bool×(List zaJ)×(List zaG)×(List zaI)×(List zaK)×(List ((Bs×Bs)×Unit))×(List Bs)×(List Bs)×(List Bs)×Int)):=
 (zjZ o v9.2.2.2.2.2.2.2.1 v1).bind fun v10=>some (v10,v9.2)
def zrY(o:Ops)(v0:Bs)(v1:Bs)(v9:Int×(List zaJ)×(List zaG)×(List zaI)×(List zaK)×(List ((Bs×Bs)×Unit))×(List Bs)×(List Bs)×(List Bs)×Int):Option ((Int×zaS)⊕((List zaJ)×(List zaG)×(List zaI)×(List zaK)×(List ((Bs×Bs)×Unit))×(List Bs)×(List Bs)×(List Bs)×Int)):=
 bif(v9.1 != 0)then some (.inl (v9.1,v9.2.1,v9.2.2.1,v9.2.2.2.1,v9.2.2.2.2.1,v9.2.2.2.2.2.1))else((zqV o v1 v9).bind fun v11=>bif v11.1 then some (.inl ((121:Int),v11.2.1,v11.2.2.1,v11.2.2.2.1,v11.2.2.2.2.1,v11.2.2.2.2.2.1))else((ziP o v1 v0 v11.2.1 v11.2.2.1 v11.2.2.2.1 v11.2.2.2.2.1 v11.2.2.2.2.2.1).bind fun v12=>bif v12.1 then some (.inl ((123:Int),v12.2))else some (.inr (v12.2.1,v12.2.2.1,v12.2.2.2.1,v12.2.2.2.2.1,v12.2.2.2.2.2,v11.2.2.2.2.2.2))))
def zrE(o:Ops)(v1:Bs)(v15:(List zaJ)×(List zaG)×(List zaI)×(List zaK)×(List ((Bs×Bs)×Unit))×(List Bs)×(List Bs)×(List Bs)×Int):Option (((List zaJ)×(List zaG)×(List zaI)×(List zaK)×(List ((Bs×Bs)×Unit))×(List Bs)×(List Bs)×(List Bs)×Int)):=
 (zkR o v15.2.2.2.2.2.2.1 v1).bind fun v16=>some (v15.1,v15.2.1,v15.2.2.1,v15.2.2.2.1,v15.2.2.2.2.1,v15.2.2.2.2.2.1,v16,v15.2.2.2.2.2.2.2)
def zkH(o:Ops)(v0:Bs)(v1:Bs)(v2:List zaJ)(v3:List zaG)(v4:List zaI)(v5:List zaK)(v6:List ((Bs×Bs)×Unit)):Option ((Int×zaS)):=
 (zsA o v0 v1 v2 v3 v4 v5 v6).bind fun v9=>(zrY o v0 v1 v9).bind fun v13=>match v13 with
 |.inl v14=>some v14
 |.inr v15=>((zrE o v1 v15).bind fun v17=>let v18:List zaG:=mset keqS kltS v17.2.1 v0 ((v17.2.2.2.2.2.1,v17.2.2.2.2.2.2.1,v17.2.2.2.2.2.2.2.1),w64 (v17.2.2.2.2.2.2.2.2+1))
 some ((0:Int),v17.1,v18,v17.2.2.1,v17.2.2.2.1,v17.2.2.2.2.1))
def zjH(o:Ops):SC:=⟨⟨[(0,(.ptr 0 0)),(1,hS),(2,(.kn .i64 1)),(3,hS)],[zaO,zaC,zaE,zaD,zaB,.mp true (.pr .s .s) .un]⟩,1,[(none,⟨[(0,hI)],[zaO,zaC,zvC,zaD,zaB,.mp true (.pr .s .s) .un]⟩)],fun x=>zkH o x.1 x.2.1 x.2.2.1 x.2.2.2.1 x.2.2.2.2.1 x.2.2.2.2.2.1 x.2.2.2.2.2.2⟩
theorem zsK:SCok Tryz.prog tabs 101 (zjH o):=zaT (o:=o) (η:=[(2100000,.join [] [1,2,3] [(none,⟨[(0,(.ptr 0 0)),(9,(.ptr 6 0)),(10,hI)],[zaO,zaC,zaE,zaD,zaB,.mp true (.pr .s .s) .un,zqA]⟩)]),
 (2300005,.join [] [1,2,3] [(none,⟨[(0,(.ptr 0 0)),(9,(.ptr 6 0)),(26,hB)],[zaO,zaC,zaE,zaD,zaB,.mp true (.pr .s .s) .un,zqA]⟩)]),
 (2000008,.join [] [1,2,3] [(some 1000000,⟨[(8,hI)],[zaO,zaC,zaE,zaD,zaB,.mp true (.pr .s .s) .un]⟩),(none,⟨[(0,(.ptr 0 0)),(9,(.ptr 6 0))],[zaO,zaC,zaE,zaD,zaB,.mp true (.pr .s .s) .un,zqA]⟩)]),
 (2000009,.join [] [1] [(none,⟨[(0,(.ptr 0 0)),(9,(.ptr 6 0))],[zaO,zaC,zaE,zaD,zaB,.mp true (.pr .s .s) .un,zqA]⟩)]),
 (4000010,.sch [(.pu,0,[]),(.pu,1,[]),(.pu,2,[]),(.pu,3,[]),(.pu,4,[]),(.pu,5,[]),(.mn,6,[0,1,2,3,4,5,6])])]) (Γ:=⟨[(131,(zhD o)),(201,(zjE o))],[(173,(zbR o)),(199,(zjP o)),(200,(zhW o))],false,[]⟩) (ctok ⟨zkX,⟨zmJ,trivial⟩⟩ ⟨zcU,⟨zrH,⟨zoG,trivial⟩⟩⟩) Tryz.func101
def zfL(o:Ops)(v0:Bs)(v1:Bs)(v2:List zaJ)(v3:List zaG)(v4:List zaI)(v5:List zaK)(v6:List ((Bs×Bs)×Unit)):Option ((Int×zaS)):=
 (zkH o v0 v1 v2 v3 v4 v5 v6).bind fun v7=>some v7
def zjI(o:Ops):SC:=⟨⟨[(0,(.ptr 0 0)),(1,hS),(2,hS)],[zaO,zaC,zaE,zaD,zaB,.mp true (.pr .s .s) .un]⟩,1,[(none,⟨[(0,hI)],[zaO,zaC,zvC,zaD,zaB,.mp true (.pr .s .s) .un]⟩)],fun x=>zfL o x.1 x.2.1 x.2.2.1 x.2.2.2.1 x.2.2.2.2.1 x.2.2.2.2.2.1 x.2.2.2.2.2.2⟩
theorem zrI:SCok Tryz.prog tabs 33 (zjI o):=zaT (o:=o) (η:=[]) (Γ:=⟨[],[(101,(zjH o))],false,[]⟩) (ctok trivial ⟨zsK,trivial⟩) Tryz.func33
def zdS(_o:Ops)(v0:Bs)(v1:List zaJ)(v2:List zaG)(v3:List zaI)(v4:List zaK)(v5:List ((Bs×Bs)×Unit)):Option ((Bool×zaS)):=
 let _v6:zqP:=zgX keqS v1 v0 (([]:Bs),([]:Bs),false,(0:Int))
 some (mhas keqS v1 v0,v1,v2,v3,v4,v5)
def zdN(o:Ops):SC:=⟨⟨[(0,hS),(1,(.ptr 0 0))],[zmD,zfK,zaC,zaE,zaD,zaB,.mp true (.pr .s .s) .un]⟩,1,[(none,⟨[(0,hB)],[zmD,zfK,zaC,zaE,zaD,zaB,.mp true (.pr .s .s) .un]⟩)],fun x=>zdS o x.1 x.2.1 x.2.2.1 x.2.2.2.1 x.2.2.2.2.1 x.2.2.2.2.2⟩
theorem zgH:SCok Tryz.prog tabs 244 (zdN o):=zaT (o:=o) (η:=[]) (Γ:=⟨[],[],false,[]⟩) (ctok trivial trivial) Tryz.func244
def zpQ(o:Ops)(v0:Bs)(v1:Bs)(v2:List zaJ)(v3:List zaG)(v4:List zaI)(v5:List zaK)(v6:List ((Bs×Bs)×Unit)):Option ((Int×(List zaJ)×(List zaG)×(List zaI)×(List zaK)×(List ((Bs×Bs)×Unit))×Int)⊕((List zaJ)×(List zaG)×(List zaI)×(List zaK)×(List ((Bs×Bs)×Unit))×Int)):=
 (zaP o v0).bind fun v7=>bif(!v7)then some (.inl ((120:Int),v2,v3,v4,v5,v6,(0:Int)))else((zaP o v1).bind fun v8=>bif(!v8)then some (.inl ((120:Int),v2,v3,v4,v5,v6,(0:Int)))else some (.inr (v2,v3,v4,v5,v6,(0:Int))))
def zjK(o:Ops)(v0:Bs)(v1:Bs)(v2:List zaJ)(v3:List zaG)(v4:List zaI)(v5:List zaK)(v6:List ((Bs×Bs)×Unit)):Option ((ztI×Int×zaS)):=
 (zpQ o v0 v1 v2 v3 v4 v5 v6).bind fun v9=>match v9 with
 |.inl v10=>some (((([]:List Bs),([]:List Bs),([]:List Bs)),v10.2.2.2.2.2.2),v10.1,v10.2.1,v10.2.2.1,v10.2.2.2.1,v10.2.2.2.2.1,v10.2.2.2.2.2.1)
 |.inr v11=>(let v12:ztI:=zgX keqS v11.2.1 v0 ((([]:List Bs),([]:List Bs),([]:List Bs)),(0:Int))
 bif(!(mhas keqS v11.2.1 v0))then some (((([]:List Bs),([]:List Bs),([]:List Bs)),(0:Int)),(122:Int),v11.1,v11.2.1,v11.2.2.1,v11.2.2.2.1,v11.2.2.2.2.1)else((zdS o v1 v11.1 v11.2.1 v11.2.2.1 v11.2.2.2.1 v11.2.2.2.2.1).bind fun v13=>bif(!v13.1)then some (((([]:List Bs),([]:List Bs),([]:List Bs)),(0:Int)),(122:Int),v13.2)else some (v12,(0:Int),v13.2)))
def ziM(o:Ops):SC:=⟨⟨[(0,(.ptr 0 0)),(1,hS),(2,(.ag [(.kn .i64 0),(.fn 244 [] [(.ptr 1 0)])])),(3,hS)],[zfK,zsG,zaC,zaE,zaD,zaB,.mp true (.pr .s .s) .un]⟩,2,[(none,⟨[(0,(.h ymC)),(1,hI)],[zfK,zsG,zaC,zaE,zaD,zaB,.mp true (.pr .s .s) .un]⟩)],fun x=>zjK o x.1 x.2.1 x.2.2.1 x.2.2.2.1 x.2.2.2.2.1 x.2.2.2.2.2.1 x.2.2.2.2.2.2⟩
theorem zpY:SCok Tryz.prog tabs 199 (ziM o):=zaT (o:=o) (η:=[(2000003,.join [] [1,3] [(some 1000000,⟨[(8,(.ptr 7 0)),(9,hI)],[zfK,zsG,zaC,zaE,zaD,zaB,.mp true (.pr .s .s) .un,ylG]⟩),(none,⟨[(0,(.ptr 0 0)),(6,(.ptr 7 0)),(8,(.ptr 8 0))],[zfK,zsG,zaC,zaE,zaD,zaB,.mp true (.pr .s .s) .un,.blk 187 [(.kn .i64 0),(.fn 244 [] [(.ptr 1 0)])],ylG]⟩)])]) (Γ:=⟨[(13,(zbD o))],[(244,(zdN o))],false,[]⟩) (ctok ⟨zbH,trivial⟩ ⟨zgH,trivial⟩) Tryz.func199
def zpP(o:Ops)(v0:Bs)(v1:Bs)(v2:List zaJ)(v3:List zaG)(v4:List zaI)(v5:List zaK)(v6:List ((Bs×Bs)×Unit)):Option ((Int×(List zaJ)×(List zaG)×(List zaI)×(List zaK)×(List ((Bs×Bs)×Unit))×(List Bs)×(List Bs)×(List Bs)×Int)):=
 (zcA o v2 v3 v4 v5 v6).bind fun v7=>(zjK o v0 v1 v7.1 v7.2.1 v7.2.2.1 v7.2.2.2.1 v7.2.2.2.2).bind fun v8=>some (v8.2.1,v8.2.2.1,v8.2.2.2.1,v8.2.2.2.2.1,v8.2.2.2.2.2.1,v8.2.2.2.2.2.2,v8.1.1.1,v8.1.1.2.1,v8.1.1.2.2,v8.1.2)
def zpV(o:Ops)(v1:Bs)(v9:Int×(List zaJ)×(List zaG)×(List zaI)×(List zaK)×(List ((Bs×Bs)×Unit))×(List Bs)×(List Bs)×(List Bs)×Int):Option ((Bool×(List zaJ)×(List zaG)×(List zaI)×(List zaK)×(List ((Bs×Bs)×Unit))×(List Bs)×(List Bs)×(List Bs)×Int)):=
 (zjZ o v9.2.2.2.2.2.2.1 v1).bind fun v10=>some (v10,v9.2)
def zqI(o:Ops)(v1:Bs)(v9:Int×(List zaJ)×(List zaG)×(List zaI)×(List zaK)×(List ((Bs×Bs)×Unit))×(List Bs)×(List Bs)×(List Bs)×Int):Option ((Int×zaS)⊕((List zaJ)×(List zaG)×(List zaI)×(List zaK)×(List ((Bs×Bs)×Unit))×(List Bs)×(List Bs)×(List Bs)×Int)):=
 bif(v9.1 != 0)then some (.inl (v9.1,v9.2.1,v9.2.2.1,v9.2.2.2.1,v9.2.2.2.2.1,v9.2.2.2.2.2.1))else((zpV o v1 v9).bind fun v11=>bif v11.1 then some (.inl ((121:Int),v11.2.1,v11.2.2.1,v11.2.2.2.1,v11.2.2.2.2.1,v11.2.2.2.2.2.1))else some (.inr v11.2))
def zqM(o:Ops)(v1:Bs)(v14:(List zaJ)×(List zaG)×(List zaI)×(List zaK)×(List ((Bs×Bs)×Unit))×(List Bs)×(List Bs)×(List Bs)×Int):Option (((List zaJ)×(List zaG)×(List zaI)×(List zaK)×(List ((Bs×Bs)×Unit))×(List Bs)×(List Bs)×(List Bs)×Int)):=
 (zkR o v14.2.2.2.2.2.1 v1).bind fun v15=>some (v14.1,v14.2.1,v14.2.2.1,v14.2.2.2.1,v14.2.2.2.2.1,v15,v14.2.2.2.2.2.2)
def zjS(o:Ops)(v0:Bs)(v1:Bs)(v2:List zaJ)(v3:List zaG)(v4:List zaI)(v5:List zaK)(v6:List ((Bs×Bs)×Unit)):Option ((Int×zaS)):=
 (zpP o v0 v1 v2 v3 v4 v5 v6).bind fun v9=>(zqI o v1 v9).bind fun v12=>match v12 with
 |.inl v13=>some v13
 |.inr v14=>((zqM o v1 v14).bind fun v16=>let v17:List zaG:=mset keqS kltS v16.2.1 v0 ((v16.2.2.2.2.2.1,v16.2.2.2.2.2.2.1,v16.2.2.2.2.2.2.2.1),w64 (v16.2.2.2.2.2.2.2.2+1))
 some ((0:Int),v16.1,v17,v16.2.2.1,v16.2.2.2.1,v16.2.2.2.2.1))
def ziD(o:Ops):SC:=⟨⟨[(0,(.ptr 0 0)),(1,hS),(2,(.kn .i64 0)),(3,hS)],[zaO,zaC,zaE,zaD,zaB,.mp true (.pr .s .s) .un]⟩,1,[(none,⟨[(0,hI)],[zaO,zaC,zvC,zaD,zaB,.mp true (.pr .s .s) .un]⟩)],fun x=>zjS o x.1 x.2.1 x.2.2.1 x.2.2.2.1 x.2.2.2.2.1 x.2.2.2.2.2.1 x.2.2.2.2.2.2⟩
theorem zqO:SCok Tryz.prog tabs 101 (ziD o):=zaT (o:=o) (η:=[(2100000,.join [] [1,2,3] [(none,⟨[(0,(.ptr 0 0)),(9,(.ptr 6 0)),(10,hI)],[zaO,zaC,zaE,zaD,zaB,.mp true (.pr .s .s) .un,zqA]⟩)]),
 (2300005,.join [] [1,2,3] [(none,⟨[(0,(.ptr 0 0)),(9,(.ptr 6 0)),(26,hB)],[zaO,zaC,zaE,zaD,zaB,.mp true (.pr .s .s) .un,zqA]⟩)]),
 (2000008,.join [] [1,2,3] [(some 1000000,⟨[(8,hI)],[zaO,zaC,zaE,zaD,zaB,.mp true (.pr .s .s) .un]⟩),(none,⟨[(0,(.ptr 0 0)),(9,(.ptr 6 0))],[zaO,zaC,zaE,zaD,zaB,.mp true (.pr .s .s) .un,zqA]⟩)]),
 (2000009,.join [] [1] [(none,⟨[(0,(.ptr 0 0)),(9,(.ptr 6 0))],[zaO,zaC,zaE,zaD,zaB,.mp true (.pr .s .s) .un,zqA]⟩)]),
 (4000010,.sch [(.pu,0,[]),(.pu,1,[]),(.pu,2,[]),(.pu,3,[]),(.pu,4,[]),(.pu,5,[]),(.mn,6,[0,1,2,3,4,5,6])])]) (Γ:=⟨[(131,(zhD o)),(201,(zjE o))],[(173,(zbR o)),(199,(ziM o))],false,[]⟩) (ctok ⟨zkX,⟨zmJ,trivial⟩⟩ ⟨zcU,⟨zpY,trivial⟩⟩) Tryz.func101
def zkI(o:Ops)(v0:Bs)(v1:Bs)(v2:List zaJ)(v3:List zaG)(v4:List zaI)(v5:List zaK)(v6:List ((Bs×Bs)×Unit)):Option ((Int×zaS)):=
 (zjS o v0 v1 v2 v3 v4 v5 v6).bind fun v7=>some v7
def zkC(o:Ops):SC:=⟨⟨[(0,(.ptr 0 0)),(1,hS),(2,hS)],[zaO,zaC,zaE,zaD,zaB,.mp true (.pr .s .s) .un]⟩,1,[(none,⟨[(0,hI)],[zaO,zaC,zvC,zaD,zaB,.mp true (.pr .s .s) .un]⟩)],fun x=>zkI o x.1 x.2.1 x.2.2.1 x.2.2.2.1 x.2.2.2.2.1 x.2.2.2.2.2.1 x.2.2.2.2.2.2⟩
theorem zsS:SCok Tryz.prog tabs 73 (zkC o):=zaT (o:=o) (η:=[]) (Γ:=⟨[],[(101,(ziD o))],false,[]⟩) (ctok trivial ⟨zqO,trivial⟩) Tryz.func73
def zbU(o:Ops)(v0:Bs):Option (Bool):=
 (zgE o v0 (32:Int) ([97,98,99,100,101,102,103,104,105,106,107,108,109,110,111,112,113,114,115,116,117,118,119,120,121,122,48,49,50,51,52,53,54,55,56,57,46,95,45,58]:Bs)).bind fun v1=>some v1
def zlN(o:Ops):PC:=⟨[hS],[.b],fun x=>zbU o x,false⟩
theorem zrF:PCok Tryz.prog tabs 17 (zlN o):=zdR (o:=o) (η:=[]) (Γ:=⟨[(63,(zsN o))],[],false,[]⟩) (ctok ⟨zxE,trivial⟩ trivial) Tryz.func17
def zzF(o:Ops)(v0:List Bs)(v2:Int):Option (Int⊕(Bool⊕Unit)):=
 bif decide (v2<(v0.length:Int))then((idx v0 v2).bind fun v3=>(zbU o v3).bind fun v4=>bif(!v4)then some (.inr (.inl false))else(bif decide (v2>0)then((idx v0 (w64 (v2-1))).bind fun v5=>bif(Op.bytesLess v3 v5||v3==v5)then some (.inr (.inl false))else some (.inl (w64 (v2+1))))else some (.inl (w64 (v2+1)))))else some (.inr (.inr ()))
def zmL(o:Ops)(v0:List Bs)(v1:Int):Option (Bool):=
 (iter (zzF o v0) (0:Int)).bind fun v6=>match v6 with
 |.inl v7=>some v7
 |.inr _v8=>some (decide ((v0.length:Int)≤v1))
def zlR(o:Ops):SC:=⟨⟨[(0,(.h (.sl .s))),(1,hI),(2,(.fn 17 [] []))],[]⟩,1,[(none,⟨[(0,hB)],[]⟩)],fun x=>zmL o x.1 x.2⟩
theorem zqX:SCok Tryz.prog tabs 174 (zlR o):=zaT (o:=o) (η:=[(200002,.loop [] ⟨[(2,(.fn 17 [] [])),(11,hI)],[]⟩ [0,1,9,10] [(some 1000000,⟨[(6,hB)],[]⟩),(some 0,⟨[],[]⟩)])]) (Γ:=⟨[(17,(zlN o))],[],false,[]⟩) (ctok ⟨zrF,trivial⟩ trivial) Tryz.func174
def zoV(o:Ops)(v0:zbW):Option (Bool):=
 (zaP o v0.1).bind fun v1=>bif v1 then((zmL o v0.2 (16:Int)).bind fun v2=>some v2)else(some false)
def zmE(o:Ops):PC:=⟨[(.h zvX)],[.b],fun x=>zoV o x,false⟩
theorem ztR:PCok Tryz.prog tabs 104 (zmE o):=zdR (o:=o) (η:=[]) (Γ:=⟨[(13,(zbD o))],[(174,(zlR o))],false,[]⟩) (ctok ⟨zbH,trivial⟩ ⟨zqX,trivial⟩) Tryz.func104
def zrM:PC:=⟨[.h (.sl .s)],[(.sl .s)],fun xs=>some xs,true⟩
theorem zuE:PCok Tryz.prog tabs 61 zrM:=wit (G:=tabs)<|yiH zxC τ_okWkF Tryz.func61 (isFn Tryz.func61) rfl (by kernel_rfl) (fun _=>by kernel_rfl)
def zfY(_o:Ops)(v0:zbW):Option zbW:=
 (app ([]:List Bs) v0.2).bind fun v1=>some (v0.1,v1)
def zfJ(o:Ops):PC:=⟨[(.h zvX)],[zvX],fun x=>zfY o x,false⟩
theorem zkL:PCok Tryz.prog tabs 105 (zfJ o):=zdR (o:=o) (η:=[]) (Γ:=⟨[(61,zrM)],[(198,ztB)],false,[]⟩) (ctok ⟨zuE,trivial⟩ ⟨zuT,trivial⟩) Tryz.func105
def zmS(_o:Ops)(v0:zbW)(v1:List zaJ)(v2:List zaG)(v3:List zaI)(v4:List zaK)(v5:List ((Bs×Bs)×Unit)):Option ((Int×zaS)⊕((List zaJ)×(List zaG)×(List zaI)×(List zaK)×(List ((Bs×Bs)×Unit))×zbW)):=
 let _v7:zbW:=zgX keqS v3 v0.1 (([]:Bs),([]:List Bs))
 bif(!(mhas keqS v3 v0.1))then(bif decide ((v3.length:Int)≥32)then some (.inl ((124:Int),v1,v2,v3,v4,v5))else some (.inr (v1,v2,v3,v4,v5,v0)))else some (.inr (v1,v2,v3,v4,v5,v0))
def zhO(o:Ops)(v0:zbW)(v1:List zaJ)(v2:List zaG)(v3:List zaI)(v4:List zaK)(v5:List ((Bs×Bs)×Unit)):Option ((Int×zaS)):=
 (zoV o v0).bind fun v6=>bif(!v6)then some ((120:Int),v1,v2,v3,v4,v5)else((zmS o v0 v1 v2 v3 v4 v5).bind fun v8=>match v8 with
 |.inl v9=>some v9
 |.inr v10=>((zfY o v10.2.2.2.2.2).bind fun v11=>let v12:List zaI:=mset keqS kltS v10.2.2.1 v10.2.2.2.2.2.1 v11
 some ((0:Int),v10.1,v10.2.1,v12,v10.2.2.2.1,v10.2.2.2.2.1)))
def zgU(o:Ops):SC:=⟨⟨[(0,(.ptr 0 0)),(1,(.h zvX))],[zaO,zaC,zaE,zaD,zaB,.mp true (.pr .s .s) .un]⟩,1,[(none,⟨[(0,hI)],[zaO,zaC,zaE,yoD,zaB,.mp true (.pr .s .s) .un]⟩)],fun x=>zhO o x.1 x.2.1 x.2.2.1 x.2.2.2.1 x.2.2.2.2.1 x.2.2.2.2.2⟩
theorem zmR:SCok Tryz.prog tabs 36 (zgU o):=zaT (o:=o) (η:=[(2000006,.join [] [] [(some 1000000,⟨[(4,hI)],[zaO,zaC,zaE,zaD,zaB,.mp true (.pr .s .s) .un]⟩),(none,⟨[(0,(.ptr 0 0)),(3,(.ptr 6 0))],[zaO,zaC,zaE,zaD,zaB,.mp true (.pr .s .s) .un,.blk 49 [hS,(.h (.sl .s))]]⟩)]),
 (4000003,.sch [(.pu,0,[]),(.pu,1,[]),(.pu,2,[]),(.pu,3,[]),(.pu,4,[]),(.pu,5,[]),(.pu,6,[]),(.pu,7,[]),(.pu,8,[]),(.pu,9,[7]),(.mn,10,[]),(.mn,11,[7]),(.pu,12,[])]),
 (4000006,.sch [(.pu,0,[]),(.pu,1,[]),(.pu,2,[]),(.pu,3,[]),(.pu,4,[]),(.pu,5,[]),(.pu,6,[]),(.mn,7,[]),(.mn,8,[0,1,2,3,4,5,6])])]) (Γ:=⟨[(104,(zmE o)),(105,(zfJ o))],[],false,[]⟩) (ctok ⟨ztR,⟨zkL,trivial⟩⟩ trivial) Tryz.func36
def zdW(_o:Ops)(v0:Bs)(v1:List zaJ)(v2:List zaG)(v3:List zaI)(v4:List zaK)(v5:List ((Bs×Bs)×Unit)):Option ((Bool×zaS)):=
 let _v6:zbW:=zgX keqS v3 v0 (([]:Bs),([]:List Bs))
 some (mhas keqS v3 v0,v1,v2,v3,v4,v5)
def zdP(o:Ops):SC:=⟨⟨[(0,hS),(1,(.ptr 0 0))],[zmD,zfK,zaC,zaE,zaD,zaB,.mp true (.pr .s .s) .un]⟩,1,[(none,⟨[(0,hB)],[zmD,zfK,zaC,zaE,zaD,zaB,.mp true (.pr .s .s) .un]⟩)],fun x=>zdW o x.1 x.2.1 x.2.2.1 x.2.2.2.1 x.2.2.2.2.1 x.2.2.2.2.2⟩
theorem zgS:SCok Tryz.prog tabs 246 (zdP o):=zaT (o:=o) (η:=[]) (Γ:=⟨[],[],false,[]⟩) (ctok trivial trivial) Tryz.func246
def zqK(o:Ops)(v0:Bs)(v1:Bs)(v2:List zaJ)(v3:List zaG)(v4:List zaI)(v5:List zaK)(v6:List ((Bs×Bs)×Unit)):Option ((Int×(List zaJ)×(List zaG)×(List zaI)×(List zaK)×(List ((Bs×Bs)×Unit))×Int)⊕((List zaJ)×(List zaG)×(List zaI)×(List zaK)×(List ((Bs×Bs)×Unit))×Int)):=
 (zaP o v0).bind fun v7=>bif(!v7)then some (.inl ((120:Int),v2,v3,v4,v5,v6,(0:Int)))else((zaP o v1).bind fun v8=>bif(!v8)then some (.inl ((120:Int),v2,v3,v4,v5,v6,(0:Int)))else some (.inr (v2,v3,v4,v5,v6,(0:Int))))
def zjL(o:Ops)(v0:Bs)(v1:Bs)(v2:List zaJ)(v3:List zaG)(v4:List zaI)(v5:List zaK)(v6:List ((Bs×Bs)×Unit)):Option ((ztI×Int×zaS)):=
 (zqK o v0 v1 v2 v3 v4 v5 v6).bind fun v9=>match v9 with
 |.inl v10=>some (((([]:List Bs),([]:List Bs),([]:List Bs)),v10.2.2.2.2.2.2),v10.1,v10.2.1,v10.2.2.1,v10.2.2.2.1,v10.2.2.2.2.1,v10.2.2.2.2.2.1)
 |.inr v11=>(let v12:ztI:=zgX keqS v11.2.1 v0 ((([]:List Bs),([]:List Bs),([]:List Bs)),(0:Int))
 bif(!(mhas keqS v11.2.1 v0))then some (((([]:List Bs),([]:List Bs),([]:List Bs)),(0:Int)),(122:Int),v11.1,v11.2.1,v11.2.2.1,v11.2.2.2.1,v11.2.2.2.2.1)else((zdW o v1 v11.1 v11.2.1 v11.2.2.1 v11.2.2.2.1 v11.2.2.2.2.1).bind fun v13=>bif(!v13.1)then some (((([]:List Bs),([]:List Bs),([]:List Bs)),(0:Int)),(122:Int),v13.2)else some (v12,(0:Int),v13.2)))
def ziU(o:Ops):SC:=⟨⟨[(0,(.ptr 0 0)),(1,hS),(2,(.ag [(.kn .i64 2),(.fn 246 [] [(.ptr 1 0)])])),(3,hS)],[zfK,zsG,zaC,zaE,zaD,zaB,.mp true (.pr .s .s) .un]⟩,2,[(none,⟨[(0,(.h ymC)),(1,hI)],[zfK,zsG,zaC,zaE,zaD,zaB,.mp true (.pr .s .s) .un]⟩)],fun x=>zjL o x.1 x.2.1 x.2.2.1 x.2.2.2.1 x.2.2.2.2.1 x.2.2.2.2.2.1 x.2.2.2.2.2.2⟩
theorem zqL:SCok Tryz.prog tabs 199 (ziU o):=zaT (o:=o) (η:=[(2000003,.join [] [1,3] [(some 1000000,⟨[(8,(.ptr 7 0)),(9,hI)],[zfK,zsG,zaC,zaE,zaD,zaB,.mp true (.pr .s .s) .un,ylG]⟩),(none,⟨[(0,(.ptr 0 0)),(6,(.ptr 7 0)),(8,(.ptr 8 0))],[zfK,zsG,zaC,zaE,zaD,zaB,.mp true (.pr .s .s) .un,.blk 187 [(.kn .i64 2),(.fn 246 [] [(.ptr 1 0)])],ylG]⟩)])]) (Γ:=⟨[(13,(zbD o))],[(246,(zdP o))],false,[]⟩) (ctok ⟨zbH,trivial⟩ ⟨zgS,trivial⟩) Tryz.func199
def zpN(o:Ops)(v0:Bs)(v1:Bs)(v2:List zaJ)(v3:List zaG)(v4:List zaI)(v5:List zaK)(v6:List ((Bs×Bs)×Unit)):Option ((Int×(List zaJ)×(List zaG)×(List zaI)×(List zaK)×(List ((Bs×Bs)×Unit))×(List Bs)×(List Bs)×(List Bs)×Int)):=
 (zcA o v2 v3 v4 v5 v6).bind fun v7=>(zjL o v0 v1 v7.1 v7.2.1 v7.2.2.1 v7.2.2.2.1 v7.2.2.2.2).bind fun v8=>some (v8.2.1,v8.2.2.1,v8.2.2.2.1,v8.2.2.2.2.1,v8.2.2.2.2.2.1,v8.2.2.2.2.2.2,v8.1.1.1,v8.1.1.2.1,v8.1.1.2.2,v8.1.2)
def zqJ(o:Ops)(v1:Bs)(v9:Int×(List zaJ)×(List zaG)×(List zaI)×(List zaK)×(List ((Bs×Bs)×Unit))×(List Bs)×(List Bs)×(List Bs)×Int):Option ((Bool×(List zaJ)×(List zaG)×(List zaI)×(List zaK)×(List ((Bs×Bs)×Unit))×(List Bs)×(List Bs)×(List Bs)×Int)):=
 (zjZ o v9.2.2.2.2.2.2.2.2.1 v1).bind fun v10=>some (v10,v9.2)
def zpX(o:Ops)(v1:Bs)(v9:Int×(List zaJ)×(List zaG)×(List zaI)×(List zaK)×(List ((Bs×Bs)×Unit))×(List Bs)×(List Bs)×(List Bs)×Int):Option ((Int×zaS)⊕((List zaJ)×(List zaG)×(List zaI)×(List zaK)×(List ((Bs×Bs)×Unit))×(List Bs)×(List Bs)×(List Bs)×Int)):=
 bif(v9.1 != 0)then some (.inl (v9.1,v9.2.1,v9.2.2.1,v9.2.2.2.1,v9.2.2.2.2.1,v9.2.2.2.2.2.1))else((zqJ o v1 v9).bind fun v11=>bif v11.1 then some (.inl ((121:Int),v11.2.1,v11.2.2.1,v11.2.2.2.1,v11.2.2.2.2.1,v11.2.2.2.2.2.1))else some (.inr v11.2))
def zpO(o:Ops)(v1:Bs)(v14:(List zaJ)×(List zaG)×(List zaI)×(List zaK)×(List ((Bs×Bs)×Unit))×(List Bs)×(List Bs)×(List Bs)×Int):Option (((List zaJ)×(List zaG)×(List zaI)×(List zaK)×(List ((Bs×Bs)×Unit))×(List Bs)×(List Bs)×(List Bs)×Int)):=
 (zkR o v14.2.2.2.2.2.2.2.1 v1).bind fun v15=>some (v14.1,v14.2.1,v14.2.2.1,v14.2.2.2.1,v14.2.2.2.2.1,v14.2.2.2.2.2.1,v14.2.2.2.2.2.2.1,v15,v14.2.2.2.2.2.2.2.2)
def zjR(o:Ops)(v0:Bs)(v1:Bs)(v2:List zaJ)(v3:List zaG)(v4:List zaI)(v5:List zaK)(v6:List ((Bs×Bs)×Unit)):Option ((Int×zaS)):=
 (zpN o v0 v1 v2 v3 v4 v5 v6).bind fun v9=>(zpX o v1 v9).bind fun v12=>match v12 with
 |.inl v13=>some v13
 |.inr v14=>((zpO o v1 v14).bind fun v16=>let v17:List zaG:=mset keqS kltS v16.2.1 v0 ((v16.2.2.2.2.2.1,v16.2.2.2.2.2.2.1,v16.2.2.2.2.2.2.2.1),w64 (v16.2.2.2.2.2.2.2.2+1))
 some ((0:Int),v16.1,v17,v16.2.2.1,v16.2.2.2.1,v16.2.2.2.2.1))
def ziL(o:Ops):SC:=⟨⟨[(0,(.ptr 0 0)),(1,hS),(2,(.kn .i64 2)),(3,hS)],[zaO,zaC,zaE,zaD,zaB,.mp true (.pr .s .s) .un]⟩,1,[(none,⟨[(0,hI)],[zaO,zaC,zvC,zaD,zaB,.mp true (.pr .s .s) .un]⟩)],fun x=>zjR o x.1 x.2.1 x.2.2.1 x.2.2.2.1 x.2.2.2.2.1 x.2.2.2.2.2.1 x.2.2.2.2.2.2⟩
theorem zpT:SCok Tryz.prog tabs 101 (ziL o):=zaT (o:=o) (η:=[(2100000,.join [] [1,2,3] [(none,⟨[(0,(.ptr 0 0)),(9,(.ptr 6 0)),(10,hI)],[zaO,zaC,zaE,zaD,zaB,.mp true (.pr .s .s) .un,zqA]⟩)]),
 (2300005,.join [] [1,2,3] [(none,⟨[(0,(.ptr 0 0)),(9,(.ptr 6 0)),(26,hB)],[zaO,zaC,zaE,zaD,zaB,.mp true (.pr .s .s) .un,zqA]⟩)]),
 (2000008,.join [] [1,2,3] [(some 1000000,⟨[(8,hI)],[zaO,zaC,zaE,zaD,zaB,.mp true (.pr .s .s) .un]⟩),(none,⟨[(0,(.ptr 0 0)),(9,(.ptr 6 0))],[zaO,zaC,zaE,zaD,zaB,.mp true (.pr .s .s) .un,zqA]⟩)]),
 (2000009,.join [] [1] [(none,⟨[(0,(.ptr 0 0)),(9,(.ptr 6 0))],[zaO,zaC,zaE,zaD,zaB,.mp true (.pr .s .s) .un,zqA]⟩)]),
 (4000010,.sch [(.pu,0,[]),(.pu,1,[]),(.pu,2,[]),(.pu,3,[]),(.pu,4,[]),(.pu,5,[]),(.mn,6,[0,1,2,3,4,5,6])])]) (Γ:=⟨[(131,(zhD o)),(201,(zjE o))],[(173,(zbR o)),(199,(ziU o))],false,[]⟩) (ctok ⟨zkX,⟨zmJ,trivial⟩⟩ ⟨zcU,⟨zqL,trivial⟩⟩) Tryz.func101
def zkK(o:Ops)(v0:Bs)(v1:Bs)(v2:List zaJ)(v3:List zaG)(v4:List zaI)(v5:List zaK)(v6:List ((Bs×Bs)×Unit)):Option ((Int×zaS)):=
 (zjR o v0 v1 v2 v3 v4 v5 v6).bind fun v7=>some v7
def zjY(o:Ops):SC:=⟨⟨[(0,(.ptr 0 0)),(1,hS),(2,hS)],[zaO,zaC,zaE,zaD,zaB,.mp true (.pr .s .s) .un]⟩,1,[(none,⟨[(0,hI)],[zaO,zaC,zvC,zaD,zaB,.mp true (.pr .s .s) .un]⟩)],fun x=>zkK o x.1 x.2.1 x.2.2.1 x.2.2.2.1 x.2.2.2.2.1 x.2.2.2.2.2.1 x.2.2.2.2.2.2⟩
theorem zsD:SCok Tryz.prog tabs 74 (zjY o):=zaT (o:=o) (η:=[]) (Γ:=⟨[],[(101,(ziL o))],false,[]⟩) (ctok trivial ⟨zpT,trivial⟩) Tryz.func74
def zaV(o:Ops)(v0:Bs):Option (Bool):=
 bif decide ((v0.length:Int)>2)then((subH v0 (2:Int)).bind fun v1=>bif(v1==([117,58]:Bs))then((subL v0 (2:Int)).bind fun v2=>(zaP o v2).bind fun v3=>some v3)else((subH v0 (2:Int)).bind fun v4=>bif(v4==([99,58]:Bs))then((subL v0 (2:Int)).bind fun v5=>(zaP o v5).bind fun v6=>some v6)else(some false)))else(some false)
def zeC(o:Ops):PC:=⟨[hS],[.b],fun x=>zaV o x,false⟩
theorem zgA:PCok Tryz.prog tabs 19 (zeC o):=zdR (o:=o) (η:=[]) (Γ:=⟨[(13,(zbD o))],[],false,[]⟩) (ctok ⟨zbH,trivial⟩ trivial) Tryz.func19
def zdC(_o:Ops)(v0:Bs)(v1:List zaJ)(v2:List zaG)(v3:List zaI)(v4:List zaK)(v5:List ((Bs×Bs)×Unit)):Option ((Bool×zaS)):=
 (idx v0 (0:Int)).bind fun v6=>bif((v6.toNat:Int)==((99:UInt8).toNat:Int))then((subL v0 (2:Int)).bind fun v7=>let _v8:zmZ:=zgX keqS v4 v7 (([]:Bs),([]:Bs),([]:List Bs),([]:List Bs),false,false,false,false)
 some (mhas keqS v4 v7,v1,v2,v3,v4,v5))else((subL v0 (2:Int)).bind fun v9=>let _v10:zqP:=zgX keqS v1 v9 (([]:Bs),([]:Bs),false,(0:Int))
 some (mhas keqS v1 v9,v1,v2,v3,v4,v5))
def zeR(o:Ops):SC:=⟨⟨[(0,(.ptr 0 0)),(1,hS)],[zaO,zaC,zaE,zaD,zaB,.mp true (.pr .s .s) .un]⟩,1,[(none,⟨[(0,hB)],[zaO,zaC,zaE,zaD,zaB,.mp true (.pr .s .s) .un]⟩)],fun x=>zdC o x.1 x.2.1 x.2.2.1 x.2.2.2.1 x.2.2.2.2.1 x.2.2.2.2.2⟩
theorem ziJ:SCok Tryz.prog tabs 128 (zeR o):=zaT (o:=o) (η:=[(4000002,.sch [(.pu,0,[]),(.pu,1,[]),(.pu,2,[]),(.pu,3,[]),(.pu,4,[]),(.pu,5,[]),(.pu,6,[]),(.pu,7,[]),(.pu,8,[]),(.pu,9,[6]),(.mn,10,[]),(.mn,11,[6]),(.pu,12,[])]),
 (4000004,.sch [(.pu,0,[]),(.pu,1,[]),(.pu,2,[]),(.pu,3,[]),(.pu,4,[]),(.pu,5,[]),(.pu,6,[]),(.pu,7,[]),(.pu,8,[]),(.pu,9,[6]),(.mn,10,[]),(.mn,11,[6]),(.pu,12,[])])]) (Γ:=⟨[],[],false,[]⟩) (ctok trivial trivial) Tryz.func128
def ziK(o:Ops)(v0:Bs)(v1:List zaJ)(v2:List zaG)(v3:List zaI)(v4:List zaK)(v5:List ((Bs×Bs)×Unit)):Option ((Bool×zaS)):=
 (zaV o v0).bind fun v6=>bif(!v6)then some (false,v1,v2,v3,v4,v5)else((idx v0 (0:Int)).bind fun v7=>bif((v7.toNat:Int)==((99:UInt8).toNat:Int))then((zdC o v0 v1 v2 v3 v4 v5).bind fun v8=>some v8)else((subL v0 (2:Int)).bind fun v9=>let v10:zqP:=zgX keqS v1 v9 (([]:Bs),([]:Bs),false,(0:Int))
 some (v10.2.2.1,v1,v2,v3,v4,v5)))
def zhQ(o:Ops):SC:=⟨⟨[(0,(.ptr 0 0)),(1,hS)],[zaO,zaC,zaE,zaD,zaB,.mp true (.pr .s .s) .un]⟩,1,[(none,⟨[(0,hB)],[zaO,zaC,zaE,zaD,zaB,.mp true (.pr .s .s) .un]⟩)],fun x=>ziK o x.1 x.2.1 x.2.2.1 x.2.2.2.1 x.2.2.2.2.1 x.2.2.2.2.2⟩
theorem zoM:SCok Tryz.prog tabs 49 (zhQ o):=zaT (o:=o) (η:=[(4000005,.sch [(.pu,0,[]),(.pu,1,[]),(.pu,2,[]),(.pu,3,[]),(.pu,4,[]),(.pu,5,[]),(.pu,6,[]),(.pu,7,[]),(.pu,8,[])])]) (Γ:=⟨[(19,(zeC o))],[(128,(zeR o))],false,[]⟩) (ctok ⟨zgA,trivial⟩ ⟨ziJ,trivial⟩) Tryz.func49
def zkQ(_o:Ops)(v0:Bs)(v1:List (Bs×Unit)):Option ((Bool×List (Bs×Unit))):=
 let _v2:Unit:=zgX keqS v1 v0 ()
 some (mhas keqS v1 v0,v1)
def zjG(o:Ops):SC:=⟨⟨[(0,hS),(1,(.ptr 0 0))],[zyT,zhU]⟩,1,[(none,⟨[(0,hB)],[zyT,zhU]⟩)],fun x=>zkQ o x.1 x.2⟩
theorem zsQ:SCok Tryz.prog tabs 130 (zjG o):=zaT (o:=o) (η:=[]) (Γ:=⟨[],[],false,[]⟩) (ctok trivial trivial) Tryz.func130
def zuK(o:Ops)(v0:List Bs)(v2:Int)(v3:List (Bs×Unit)):Option ((Int×List (Bs×Unit))⊕((Int×List (Bs×Unit))⊕(List (Bs×Unit)))):=
 bif decide (v2<(v0.length:Int))then((idx v0 v2).bind fun v4=>(zkQ o v4 v3).bind fun v5=>bif v5.1 then some (.inr (.inl (v2,v5.2)))else some (.inl (w64 (v2+1),v5.2)))else some (.inr (.inr v3))
def zlX(o:Ops)(v0:List Bs)(v1:List (Bs×Unit)):Option ((Int×List (Bs×Unit))):=
 (iter (fun x=>zuK o v0 x.1 x.2) ((0:Int),v1)).bind fun v6=>match v6 with
 |.inl v7=>some v7
 |.inr v8=>some ((-1:Int),v8)
def zlJ(o:Ops):SC:=⟨⟨[(0,(.h (.sl .s))),(1,(.fn 130 [] [(.ptr 0 0)]))],[zyT,zhU]⟩,1,[(none,⟨[(0,hI)],[zyT,zhU]⟩)],fun x=>zlX o x.1 x.2⟩
theorem ztY:SCok Tryz.prog tabs 212 (zlJ o):=zaT (o:=o) (η:=[(200002,.loop [] ⟨[(1,(.fn 130 [] [(.ptr 0 0)])),(8,hI)],[zyT,zhU]⟩ [0,7] [(some 1000000,⟨[(4,hI)],[zyT,zhU]⟩),(some 0,⟨[],[zyT,zhU]⟩)])]) (Γ:=⟨[],[(130,(zjG o))],false,[]⟩) (ctok trivial ⟨zsQ,trivial⟩) Tryz.func212
def zkB(o:Ops)(v0:List Bs)(v1:List (Bs×Unit)):Option ((Bool×List (Bs×Unit))):=
 (zlX o v0 v1).bind fun v2=>some (decide (v2.1≥0),v2.2)
def ziT(o:Ops):SC:=⟨⟨[(0,(.h (.sl .s))),(1,(.fn 130 [] [(.ptr 0 0)]))],[zyT,zhU]⟩,1,[(none,⟨[(0,hB)],[zyT,zhU]⟩)],fun x=>zkB o x.1 x.2⟩
theorem zpW:SCok Tryz.prog tabs 129 (ziT o):=zaT (o:=o) (η:=[]) (Γ:=⟨[],[(212,(zlJ o))],false,[]⟩) (ctok trivial ⟨ztY,trivial⟩) Tryz.func129
def zzM(_o:Ops)(v0:List (Bs×Unit)):Option ((List (Bs×Unit))):=
 some v0
def zwW(o:Ops):SC:=⟨⟨[(0,(.mpr 0))],[zhU]⟩,1,[(none,⟨[(0,(.fn 215 [] [(.ptr 1 0)]))],[zhU,.blk 160 [(.mpr 0)]]⟩)],fun x=>zzM o x⟩
theorem yfT:SCok Tryz.prog tabs 133 (zwW o):=zaT (o:=o) (η:=[]) (Γ:=⟨[],[],false,[]⟩) (ctok trivial trivial) Tryz.func133
def yfQ:SC:=⟨⟨[(0,(.fn 215 [] [(.ptr 0 0)]))],[zyT,zhU]⟩,1,[(none,⟨[(0,(.h (.sl .s)))],[zyT,zhU]⟩)],fun es=>zlT es⟩
theorem ysO:SCok Tryz.prog tabs 132 yfQ:=wit (G:=tabs)<|zqW (kT:=9) (isFn Tryz.func132) (by kernel_rfl) YtopanhneegpgcaaGreatDoor.sorted215K
noncomputable def ztZ(_o:Ops)(v6:Bool)(v7:List zaJ)(v8:List zaG)(v9:List zaI)(v10:List zaK)(v11:List ((Bs×Bs)×Unit))(v12:List (Bs×Unit)):Option (((Bool×(List zaJ)×(List zaG)×(List zaI)×(List zaK)×(List ((Bs×Bs)×Unit))×List (Bs×Unit))⊕(Bool×(List zaJ)×(List zaG)×(List zaI)×(List zaK)×(List ((Bs×Bs)×Unit))×(List Bs)×List (Bs×Unit)))⊕(((List zaJ)×(List zaG)×(List zaI)×(List zaK)×(List ((Bs×Bs)×Unit))×List (Bs×Unit)))):=
 bif v6 then some (.inl (.inr (false,v7,v8,v9,v10,v11,List.map Prod.fst v8,v12)))else some (.inr (v7,v8,v9,v10,v11,v12))
noncomputable def zuA(o:Ops)(v0:Bs)(v13:Bool)(v14:List zaJ)(v15:List zaG)(v16:List zaI)(v17:List zaK)(v18:List ((Bs×Bs)×Unit))(v19:List Bs)(v20:List (Bs×Unit)):List (Option (((Bool×(List zaJ)×(List zaG)×(List zaI)×(List zaK)×(List ((Bs×Bs)×Unit))×List (Bs×Unit))⊕(Bool×(List zaJ)×(List zaG)×(List zaI)×(List zaK)×(List ((Bs×Bs)×Unit))×(List Bs)×List (Bs×Unit)))⊕(((List zaJ)×(List zaG)×(List zaI)×(List zaK)×(List ((Bs×Bs)×Unit))×List (Bs×Unit))))):=
 rngL (rngC keqS v15 v19) (some (.inl (.inl (v13,v14,v15,v16,v17,v18,v20)))) fun v21=>(mget keqS v15 v21.1).bind fun v22=>let _v23:Unit:=zgX keqS v20 v21.1 ()
 bif mhas keqS v20 v21.1 then some (.inl (.inr (v13,v14,v15,v16,v17,v18,rngD keqS v19 v21.1,v20)))else((zkB o v22.1.2.1 v20).bind fun v24=>bif v24.1 then(let v25:List (Bs×Unit):=mset keqS kltS v24.2 v21.1 ()
 some (.inl (.inr (true,v14,v15,v16,v17,v18,rngD keqS v19 v21.1,v25))))else((zjZ o v22.1.1 v0).bind fun v26=>bif v26 then(let v27:List (Bs×Unit):=mset keqS kltS v24.2 v21.1 ()
 some (.inl (.inr (true,v14,v15,v16,v17,v18,rngD keqS v19 v21.1,v27))))else some (.inl (.inr (v13,v14,v15,v16,v17,v18,rngD keqS v19 v21.1,v24.2)))))
noncomputable def zuF(o:Ops)(v0:Bs):(Bool×(List zaJ)×(List zaG)×(List zaI)×(List zaK)×(List ((Bs×Bs)×Unit))×List (Bs×Unit))⊕(Bool×(List zaJ)×(List zaG)×(List zaI)×(List zaK)×(List ((Bs×Bs)×Unit))×(List Bs)×List (Bs×Unit))→List (Option (((Bool×(List zaJ)×(List zaG)×(List zaI)×(List zaK)×(List ((Bs×Bs)×Unit))×List (Bs×Unit))⊕(Bool×(List zaJ)×(List zaG)×(List zaI)×(List zaK)×(List ((Bs×Bs)×Unit))×(List Bs)×List (Bs×Unit)))⊕(((List zaJ)×(List zaG)×(List zaI)×(List zaK)×(List ((Bs×Bs)×Unit))×List (Bs×Unit)))))
 |.inl x=>[ztZ o x.1 x.2.1 x.2.2.1 x.2.2.2.1 x.2.2.2.2.1 x.2.2.2.2.2.1 x.2.2.2.2.2.2]
 |.inr x=>zuA o v0 x.1 x.2.1 x.2.2.1 x.2.2.2.1 x.2.2.2.2.1 x.2.2.2.2.2.1 x.2.2.2.2.2.2.1 x.2.2.2.2.2.2.2
noncomputable def zcE(o:Ops)(v0:Bs)(v1:List zaJ)(v2:List zaG)(v3:List zaI)(v4:List zaK)(v5:List ((Bs×Bs)×Unit)):Option (((List Bs)×zaS)):=
 (rngA (zuF o v0) (Sum.inl (true,v1,v2,v3,v4,v5,([]:List (Bs×Unit))))).bind fun v28=>(zzM o v28.2.2.2.2.2).bind fun v29=>(zlT v29).bind fun v30=>some (v30.1,v28.1,v28.2.1,v28.2.2.1,v28.2.2.2.1,v28.2.2.2.2.1)
noncomputable def zgD(o:Ops):SC:=⟨⟨[(0,(.ptr 0 0)),(1,hS)],[zaO,zaC,zaE,zaD,zaB,.mp true (.pr .s .s) .un]⟩,1,[(none,⟨[(0,(.hc .s))],[zaO,zaC,zaE,zaD,zaB,.mp true (.pr .s .s) .un]⟩)],fun x=>zcE o x.1 x.2.1 x.2.2.1 x.2.2.2.1 x.2.2.2.2.1 x.2.2.2.2.2⟩
theorem zlF:SCok Tryz.prog tabs 50 (zgD o):=witO (G:=tabs) (o:=o)<|xcF (H:=⟨[false,false,true,false],[],⟨[(0,(.ptr 0 0)),(5,(.ptr 6 0)),(6,hB)],[zaO,zaC,zaE,zaD,zaB,.mp true (.pr .s .s) .un,.blk 160 [(.mpr 7)],zhU]⟩,[1,4],[(some 0,⟨[(5,(.ptr 6 0))],[zaO,zaC,zaE,zaD,zaB,.mp true (.pr .s .s) .un,.blk 160 [(.mpr 7)],zhU]⟩)],[false,false,false],⟨[(0,(.ptr 0 0)),(5,(.ptr 6 0)),(6,hB),(18,(.ptr 7 0))],[zaO,zaC,zaE,zaD,zaB,.mp true (.pr .s .s) .un,.blk 160 [(.mpr 8)],.it 2 true .s,zhU]⟩,[1,4]⟩) (η:=[]) (Γ:=⟨[(131,(zhD o)),(61,zrM)],[(129,(ziT o)),(133,(zwW o)),(132,yfQ)],false,[]⟩) zxC τ_okWkF (ctok ⟨zkX,⟨zuE,trivial⟩⟩ ⟨zpW,⟨yfT,⟨ysO,trivial⟩⟩⟩) Tryz.func50 (isFn Tryz.func50) (by kernel_rfl) (by kernel_rfl) (by kernel_rfl)
def yoW:SC:=⟨⟨[(0,(.own 0))],[.osl .s 9]⟩,0,[(none,⟨[],[.osl .s 9]⟩)],yqF⟩
theorem yxZ:SCok Tryz.prog tabs 102 yoW:=wit (G:=tabs)<|sortK
def ybY:SC:=⟨⟨[(0,(.own 0))],[.osl .s 9]⟩,1,[(none,⟨[(0,(.h (.sl .s)))],[.dead]⟩)],zzO⟩
theorem ylU:SCok Tryz.prog tabs 103 ybY:=wit (G:=tabs)<|yuX
noncomputable def znV(_o:Ops)(v15:ztI)(v16:Int)(v17:List zaJ)(v18:List zaG)(v19:List zaI)(v20:List zaK)(v21:List ((Bs×Bs)×Unit))(v22:List Bs):Option ((Int×(List zaJ)×(List zaG)×(List zaI)×(List zaK)×(List ((Bs×Bs)×Unit))×List Bs)⊕(((List zaJ)×(List zaG)×(List zaI)×(List zaK)×(List ((Bs×Bs)×Unit))×List Bs))):=
 bif decide (v16<(v15.1.2.2.length:Int))then((idx v15.1.2.2 v16).bind fun v23=>let v24:zbW:=zgX keqS v19 v23 (([]:Bs),([]:List Bs))
 (app v22 v24.2).bind fun v25=>some (.inl (w64 (v16+1),v17,v18,v19,v20,v21,v25)))else some (.inr (v17,v18,v19,v20,v21,v22))
noncomputable def zqB(o:Ops)(v6:((List Bs)×zaS))(v7:Int)(v8:List zaJ)(v9:List zaG)(v10:List zaI)(v11:List zaK)(v12:List ((Bs×Bs)×Unit))(v13:List Bs):Option ((Int×(List zaJ)×(List zaG)×(List zaI)×(List zaK)×(List ((Bs×Bs)×Unit))×List Bs)⊕(((List zaJ)×(List zaG)×(List zaI)×(List zaK)×(List ((Bs×Bs)×Unit))×List Bs))):=
 bif decide (v7<(v6.1.length:Int))then((idx v6.1 v7).bind fun v14=>let v15:ztI:=zgX keqS v9 v14 ((([]:List Bs),([]:List Bs),([]:List Bs)),(0:Int))
 (iter (fun x=>znV o v15 x.1 x.2.1 x.2.2.1 x.2.2.2.1 x.2.2.2.2.1 x.2.2.2.2.2.1 x.2.2.2.2.2.2) ((0:Int),v8,v9,v10,v11,v12,v13)).bind fun v26=>some (.inl (w64 (v7+1),v26)))else some (.inr (v8,v9,v10,v11,v12,v13))
noncomputable def zcB(o:Ops)(v0:Bs)(v1:List zaJ)(v2:List zaG)(v3:List zaI)(v4:List zaK)(v5:List ((Bs×Bs)×Unit)):Option (((List Bs)×zaS)):=
 (zcE o v0 v1 v2 v3 v4 v5).bind fun v6=>(iter (fun x=>zqB o v6 x.1 x.2.1 x.2.2.1 x.2.2.2.1 x.2.2.2.2.1 x.2.2.2.2.2.1 x.2.2.2.2.2.2) ((0:Int),v6.2.1,v6.2.2.1,v6.2.2.2.1,v6.2.2.2.2.1,v6.2.2.2.2.2,([]:List Bs))).bind fun v27=>(yqF v27.2.2.2.2.2).bind fun v28=>(zzO v28).bind fun v29=>some (v29,v27.1,v27.2.1,v27.2.2.1,v27.2.2.2.1,v27.2.2.2.2.1)
noncomputable def ziE(o:Ops):SC:=⟨⟨[(0,(.ptr 0 0)),(1,hS)],[zaO,zaC,zaE,zaD,zaB,.mp true (.pr .s .s) .un]⟩,1,[(none,⟨[(0,(.hc .s))],[zaO,zaC,zaE,zaD,zaB,.mp true (.pr .s .s) .un]⟩)],fun x=>zcB o x.1 x.2.1 x.2.2.1 x.2.2.2.1 x.2.2.2.2.1 x.2.2.2.2.2⟩
theorem zqE:SCok Tryz.prog tabs 34 (ziE o):=zaT (o:=o) (η:=[(200006,.loop [] ⟨[(0,(.ptr 0 0)),(5,(.own 6)),(27,hI)],[zaO,zaC,zaE,zaD,zaB,.mp true (.pr .s .s) .un,.osl .s 9]⟩ [4,12,13,14,25,26] [(some 2,⟨[(0,(.ptr 0 0)),(5,(.own 6))],[zaO,zaC,zaE,zaD,zaB,.mp true (.pr .s .s) .un,.osl .s 9]⟩)]),
 (200003,.loop [.sl 5 .s 9] ⟨[(0,(.ptr 0 0)),(5,(.own 6)),(14,hI)],[zaO,zaC,zaE,zaD,zaB,.mp true (.pr .s .s) .un,.osl .s 9]⟩ [4,12,13] [(some 0,⟨[(5,(.own 6))],[zaO,zaC,zaE,zaD,zaB,.mp true (.pr .s .s) .un,.osl .s 9]⟩)])]) (Γ:=⟨[(61,zrM)],[(50,(zgD o)),(102,yoW),(103,ybY)],false,[]⟩) (ctok ⟨zuE,trivial⟩ ⟨zlF,⟨yxZ,⟨ylU,trivial⟩⟩⟩) Tryz.func34
def zwY(_o:Ops)(v0:List zaK):Option ((List zaK)):=
 some v0
def zuZ(o:Ops):SC:=⟨⟨[(0,(.mpr 0))],[zaB]⟩,1,[(none,⟨[(0,(.fn 271 [] [(.ptr 1 0)]))],[zaB,.blk 125 [(.mpr 0)]]⟩)],fun x=>zwY o x⟩
theorem ydO:SCok Tryz.prog tabs 203 (zuZ o):=zaT (o:=o) (η:=[]) (Γ:=⟨[],[],false,[]⟩) (ctok trivial trivial) Tryz.func203
def ybO:SC:=⟨⟨[(0,(.fn 271 [] [(.ptr 0 0)]))],[.blk 125 [(.mpr 1)],zaB]⟩,1,[(none,⟨[(0,(.h (.sl .s)))],[.blk 125 [(.mpr 1)],zaB]⟩)],fun es=>zlT es⟩
theorem ylC:SCok Tryz.prog tabs 132 ybO:=wit (G:=tabs)<|zqW (kT:=9) (isFn Tryz.func132) (by kernel_rfl) YtopanhneegpgcaaGreatDoor.sorted271K
def zsM(_o:Ops)(v0:zmZ):Option zmZ:=
 (app ([]:List Bs) v0.2.2.1).bind fun v1=>(app ([]:List Bs) v0.2.2.2.1).bind fun v2=>some (v0.1,v0.2.1,v1,v2,v0.2.2.2.2)
def zpB(o:Ops):PC:=⟨[(.h zvW)],[zvW],fun x=>zsM o x,false⟩
theorem zxL:PCok Tryz.prog tabs 107 (zpB o):=zdR (o:=o) (η:=[(4000001,.sch [(.pu,0,[]),(.pu,1,[]),(.pu,4,[3]),(.pu,5,[3]),(.mn,2,[]),(.mn,3,[3]),(.pu,8,[5]),(.mn,6,[]),(.mn,7,[5]),(.mn,9,[0]),(.pu,10,[]),(.mn,11,[0])])]) (Γ:=⟨[(61,zrM)],[(198,ztB)],false,[]⟩) (ctok ⟨zuE,trivial⟩ ⟨zuT,trivial⟩) Tryz.func107
def zfQ(o:Ops)(_v0:Bs)(v1:zmZ):Option zmZ:=
 (zsM o v1).bind fun v2=>some v2
def zfI(o:Ops):PC:=⟨[hS,(.h zvW)],[zvW],fun x=>zfQ o x.1 x.2,false⟩
theorem zlU:PCok Tryz.prog tabs 109 (zfI o):=zdR (o:=o) (η:=[]) (Γ:=⟨[(107,(zpB o))],[],false,[]⟩) (ctok ⟨zxL,trivial⟩ trivial) Tryz.func109
def zyA(o:Ops)(v3:((List Bs)×List zaK))(v4:Int)(v5:List zaK)(v6:List zmZ):Option ((Int×(List zaK)×List zmZ)⊕(((List zaK)×List zmZ))):=
 bif decide (v4<(v3.1.length:Int))then((idx v3.1 v4).bind fun v7=>let v8:zmZ:=zgX keqS v5 v7 (([]:Bs),([]:Bs),([]:List Bs),([]:List Bs),false,false,false,false)
 (zfQ o v7 v8).bind fun v9=>(app v6 ([v9]:List zmZ)).bind fun v10=>some (.inl (w64 (v4+1),v5,v10)))else some (.inr (v5,v6))
def zrU(o:Ops)(v0:List zaK):Option (((List zaK)×List zmZ)):=
 (chk (decide ((0:Int)≤(v0.length:Int))&&decide ((v0.length:Int)≤(LIM:Int)))).bind fun _=>(mkL (0:Int) (([]:Bs),([]:Bs),([]:List Bs),([]:List Bs),false,false,false,false)).bind fun v1=>(zwY o v0).bind fun v2=>(zlT v2).bind fun v3=>(iter (fun x=>zyA o v3 x.1 x.2.1 x.2.2) ((0:Int),v3.2,v1)).bind fun v11=>some v11
def zpD(o:Ops):SC:=⟨⟨[(0,(.mpr 0)),(1,(.fn 109 [] []))],[zaB]⟩,1,[(none,⟨[(0,(.own 1))],[zaB,.osl zvW 51]⟩)],fun x=>zrU o x⟩
theorem zxV:SCok Tryz.prog tabs 108 (zpD o):=zaT (o:=o) (η:=[(200003,.loop [] ⟨[(0,(.mpr 0)),(1,(.fn 109 [] [])),(5,(.own 1)),(15,hI)],[zaB,.osl zvW 51]⟩ [4,13,14] [(some 0,⟨[(5,(.own 1))],[zaB,.osl zvW 51]⟩)])]) (Γ:=⟨[(109,(zfI o))],[(203,(zuZ o)),(132,ybO)],false,[]⟩) (ctok ⟨zlU,trivial⟩ ⟨ydO,⟨ylC,trivial⟩⟩) Tryz.func108
def zhJ(o:Ops)(v0:List zaJ)(v1:List zaG)(v2:List zaI)(v3:List zaK)(v4:List ((Bs×Bs)×Unit)):Option (((List zaJ)×(List zaG)×(List zaI)×(List zaK)×(List ((Bs×Bs)×Unit))×List zmZ)):=
 (zrU o v3).bind fun v5=>some (v0,v1,v2,v5.1,v4,v5.2)
def zgJ(o:Ops):SC:=⟨⟨[(0,(.ptr 0 0))],[zaO,zaC,zaE,zaD,zaB,.mp true (.pr .s .s) .un]⟩,1,[(none,⟨[(0,(.own 6))],[zaO,zaC,zaE,zaD,zaB,.mp true (.pr .s .s) .un,.osl zvW 51]⟩)],fun x=>zhJ o x.1 x.2.1 x.2.2.1 x.2.2.2.1 x.2.2.2.2⟩
theorem znR:SCok Tryz.prog tabs 38 (zgJ o):=zaT (o:=o) (η:=[]) (Γ:=⟨[],[(108,(zpD o))],false,[]⟩) (ctok trivial ⟨zxV,trivial⟩) Tryz.func38
def zeH(_o:Ops)(v0:Bool):Option Bs:=
 bif v0 then(some ([49]:Bs))else(some ([48]:Bs))
def zsH(o:Ops):PC:=⟨[hB],[.s],fun x=>zeH o x,false⟩
theorem zyU:PCok Tryz.prog tabs 86 (zsH o):=zdR (o:=o) (η:=[]) (Γ:=⟨[],[],false,[]⟩) (ctok trivial trivial) Tryz.func86
def zcP(o:Ops)(v0:List Bs):Option (List Bs):=
 (o.itoa (v0.length:Int)).bind fun v1=>(app ([v1]:List Bs) v0).bind fun v2=>some v2
def zpE(o:Ops):PC:=⟨[(.h (.sl .s))],[(.sl .s)],fun x=>zcP o x,false⟩
theorem zxX:PCok Tryz.prog tabs 87 (zpE o):=zdR (o:=o) (η:=[]) (Γ:=⟨[(68,(yhV o))],[],false,[]⟩) (ctok ⟨(zlH.itoa (G:=tabs)),trivial⟩ trivial) Tryz.func87
def yqY:SC:=⟨⟨[(0,.nils),(1,hI)],[]⟩,1,[(none,⟨[(0,(.own 0))],[.osl .s 9]⟩)],fun n=>ypN .s n⟩
theorem xbD:SCok Tryz.prog tabs 187 yqY:=wit (G:=tabs)<|ytA (isFn Tryz.func187) growK
def zxM(_o:Ops)(v0:List (List Bs))(v1:Int)(v2:Int):Option ((Int×Int)⊕Int):=
 bif decide (v2<(v0.length:Int))then((idx v0 v2).bind fun v3=>bif decide ((w64 (v1+(v3.length:Int)))<0)then none else some (.inl (w64 (v1+(v3.length:Int)),w64 (v2+1))))else some (.inr v1)
def zxQ(_o:Ops)(v0:List (List Bs))(v6:Int)(v7:List Bs):Option ((Int×List Bs)⊕List Bs):=
 bif decide (v6<(v0.length:Int))then((idx v0 v6).bind fun v8=>(app v7 v8).bind fun v9=>some (.inl (w64 (v6+1),v9)))else some (.inr v7)
def zlQ(o:Ops)(v0:List (List Bs)):Option (List Bs):=
 (iter (fun x=>zxM o v0 x.1 x.2) ((0:Int),(0:Int))).bind fun v4=>(ypN .s v4).bind fun v5=>(iter (fun x=>zxQ o v0 x.1 x.2) ((0:Int),v5)).bind fun v10=>some v10
def zpH(o:Ops):PC:=⟨[(.h (.sl (.sl .s)))],[(.sl .s)],fun x=>zlQ o x,false⟩
theorem zyD:PCok Tryz.prog tabs 85 (zpH o):=zdR (o:=o) (η:=[(200003,.loop [] ⟨[(3,hI),(11,hI)],[]⟩ [0,2,9,10] [(some 0,⟨[(3,hI)],[]⟩)]),
 (200011,.loop [] ⟨[(6,(.own 0)),(27,hI)],[.osl .s 9]⟩ [2,25,26] [(some 2,⟨[(6,(.own 0))],[.osl .s 9]⟩)])]) (Γ:=⟨[],[(187,yqY)],false,[]⟩) (ctok trivial ⟨xbD,trivial⟩) Tryz.func85
def zcO(o:Ops)(v0:Bs)(v1:List Bs)(v2:List (Bs×Bs)):Option ((List (Bs×Bs))):=
 (o.form v1).bind fun v3=>(app v2 ([(v0,v3)]:List (Bs×Bs))).bind fun v4=>some v4
def zgG(o:Ops):SC:=⟨⟨[(0,hS),(1,(.h (.sl .s))),(2,(.ptr 0 0))],[yvS,.osl (.pr .s .s) 33]⟩,0,[(none,⟨[],[yqQ,.dead,.osl (.pr .s .s) 33]⟩)],fun x=>zcO o x.1 x.2.1 x.2.2⟩
theorem zmU:SCok Tryz.prog tabs 84 (zgG o):=zaT (o:=o) (η:=[(4000000,.sch [(.pu,0,[]),(.pu,1,[]),(.pu,2,[]),(.mn,3,[]),(.pu,4,[]),(.mn,5,[]),(.mn,6,[1]),(.mn,7,[0])])]) (Γ:=⟨[(22,(zvQ o))],[],false,[]⟩) (ctok ⟨(zlH.form (G:=tabs)),trivial⟩ trivial) Tryz.func84
def zwV(_o:Ops)(v0:List zaG):Option ((List zaG)):=
 some v0
def zuO(o:Ops):SC:=⟨⟨[(0,(.mpr 0))],[zaE]⟩,1,[(none,⟨[(0,(.fn 260 [] [(.ptr 1 0)]))],[zaE,.blk 123 [(.mpr 0)]]⟩)],fun x=>zwV o x⟩
theorem yeL:SCok Tryz.prog tabs 196 (zuO o):=zaT (o:=o) (η:=[]) (Γ:=⟨[],[],false,[]⟩) (ctok trivial trivial) Tryz.func196
def ycB:SC:=⟨⟨[(0,(.fn 260 [] [(.ptr 0 0)]))],[.blk 123 [(.mpr 1)],zaE]⟩,1,[(none,⟨[(0,(.h (.sl .s)))],[.blk 123 [(.mpr 1)],zaE]⟩)],fun es=>zlT es⟩
theorem ymD:SCok Tryz.prog tabs 132 ycB:=wit (G:=tabs)<|zqW (kT:=9) (isFn Tryz.func132) (by kernel_rfl) YtopanhneegpgcaaGreatDoor.sorted260K
def zhV(_o:Ops)(v0:List Bs):Option (List Bs):=
 (app ([]:List Bs) v0).bind fun v1=>some v1
def zoX(o:Ops):SC:=⟨⟨[(0,(.h (.sl .s)))],[]⟩,1,[(none,⟨[(0,(.hc .s))],[]⟩)],fun x=>zhV o x⟩
theorem zxI:SCok Tryz.prog tabs 197 (zoX o):=zaT (o:=o) (η:=[]) (Γ:=⟨[(61,zrM)],[(198,ztB)],false,[]⟩) (ctok ⟨zuE,trivial⟩ ⟨zuT,trivial⟩) Tryz.func197
def zvL(o:Ops)(v0:Bs)(v1:ztI):Option ybB:=
 (zhV o v1.1.1).bind fun v2=>(zhV o v1.1.2.1).bind fun v3=>(zhV o v1.1.2.2).bind fun v4=>some (v0,v2,v3,v4,v1.2)
def ztS(o:Ops):PC:=⟨[hS,(.h ymC)],[ylE],fun x=>zvL o x.1 x.2,false⟩
theorem ybG:PCok Tryz.prog tabs 100 (ztS o):=zdR (o:=o) (η:=[(4000002,.sch [(.pu,0,[]),(.pu,1,[]),(.pu,2,[]),(.pu,3,[]),(.pu,4,[]),(.pu,6,[]),(.pu,7,[]),(.pu,8,[]),(.pu,9,[]),(.pu,11,[]),(.pu,12,[]),(.pu,13,[]),(.pu,14,[]),(.pu,16,[]),(.pu,17,[]),(.mn,5,[]),(.mn,10,[]),(.mn,15,[]),(.pu,18,[]),(.mn,19,[1])])]) (Γ:=⟨[],[(197,(zoX o))],false,[]⟩) (ctok trivial ⟨zxI,trivial⟩) Tryz.func100
def zwD(o:Ops)(v3:((List Bs)×List zaG))(v4:Int)(v5:List zaG)(v6:List ybB):Option ((Int×(List zaG)×List ybB)⊕(((List zaG)×List ybB))):=
 bif decide (v4<(v3.1.length:Int))then((idx v3.1 v4).bind fun v7=>let v8:ztI:=zgX keqS v5 v7 ((([]:List Bs),([]:List Bs),([]:List Bs)),(0:Int))
 (zvL o v7 v8).bind fun v9=>(app v6 ([v9]:List ybB)).bind fun v10=>some (.inl (w64 (v4+1),v5,v10)))else some (.inr (v5,v6))
def zoZ(o:Ops)(v0:List zaG):Option (((List zaG)×List ybB)):=
 (chk (decide ((0:Int)≤(v0.length:Int))&&decide ((v0.length:Int)≤(LIM:Int)))).bind fun _=>(mkL (0:Int) (([]:Bs),([]:List Bs),([]:List Bs),([]:List Bs),(0:Int))).bind fun v1=>(zwV o v0).bind fun v2=>(zlT v2).bind fun v3=>(iter (fun x=>zwD o v3 x.1 x.2.1 x.2.2) ((0:Int),v3.2,v1)).bind fun v11=>some v11
def znD(o:Ops):SC:=⟨⟨[(0,(.mpr 0)),(1,(.fn 100 [] []))],[zaE]⟩,1,[(none,⟨[(0,(.own 1))],[zaE,.osl ylE 57]⟩)],fun x=>zoZ o x⟩
theorem zwC:SCok Tryz.prog tabs 99 (znD o):=zaT (o:=o) (η:=[(200003,.loop [] ⟨[(0,(.mpr 0)),(1,(.fn 100 [] [])),(5,(.own 1)),(15,hI)],[zaE,.osl ylE 57]⟩ [4,13,14] [(some 0,⟨[(5,(.own 1))],[zaE,.osl ylE 57]⟩)])]) (Γ:=⟨[(100,(ztS o))],[(196,(zuO o)),(132,ycB)],false,[]⟩) (ctok ⟨ybG,trivial⟩ ⟨yeL,⟨ymD,trivial⟩⟩) Tryz.func99
def ziC(o:Ops)(v0:List zaJ)(v1:List zaG)(v2:List zaI)(v3:List zaK)(v4:List ((Bs×Bs)×Unit)):Option (((List zaJ)×(List zaG)×(List zaI)×(List zaK)×(List ((Bs×Bs)×Unit))×List ybB)):=
 (zoZ o v1).bind fun v5=>some (v0,v5.1,v2,v3,v4,v5.2)
def zhS(o:Ops):SC:=⟨⟨[(0,(.ptr 0 0))],[zaO,zaC,zaE,zaD,zaB,.mp true (.pr .s .s) .un]⟩,1,[(none,⟨[(0,(.own 6))],[zaO,zaC,zaE,zaD,zaB,.mp true (.pr .s .s) .un,.osl ylE 57]⟩)],fun x=>ziC o x.1 x.2.1 x.2.2.1 x.2.2.2.1 x.2.2.2.2⟩
theorem znU:SCok Tryz.prog tabs 32 (zhS o):=zaT (o:=o) (η:=[]) (Γ:=⟨[],[(99,(znD o))],false,[]⟩) (ctok trivial ⟨zwC,trivial⟩) Tryz.func32
def zwS(_o:Ops)(v0:List ((Bs×Bs)×Unit)):Option ((List ((Bs×Bs)×Unit))):=
 some v0
def zvD(o:Ops):SC:=⟨⟨[(0,(.mpr 0))],[.mp true (.pr .s .s) .un]⟩,1,[(none,⟨[(0,(.fn 211 [] [(.ptr 1 0)]))],[.mp true (.pr .s .s) .un,.blk 126 [(.mpr 0)]]⟩)],fun x=>zwS o x⟩
theorem ydD:SCok Tryz.prog tabs 125 (zvD o):=zaT (o:=o) (η:=[]) (Γ:=⟨[],[],false,[]⟩) (ctok trivial trivial) Tryz.func125
def ybU:SC:=⟨⟨[(0,(.fn 211 [] [(.ptr 0 0)])),(1,(.fn 126 [] []))],[.blk 126 [(.mpr 1)],.mp true (.pr .s .s) .un]⟩,1,[(none,⟨[(0,(.h (.sl (.pr .s .s))))],[.blk 126 [(.mpr 1)],.mp true (.pr .s .s) .un]⟩)],fun(es:List ((Bs×Bs)×Unit))=>zyN es⟩
theorem ylQ:SCok Tryz.prog tabs 124 ybU:=wit (G:=tabs)<|yhA
def ykA:PC:=⟨[.h (.sl (.pr .s .s))],[(.sl (.pr .s .s))],fun xs=>some xs,true⟩
theorem ytP:PCok Tryz.prog tabs 127 ykA:=wit (G:=tabs)<|yiH zxC τ_okWkF Tryz.func127 (isFn Tryz.func127) rfl (by kernel_rfl) (fun _=>by kernel_rfl)
def zkJ(o:Ops)(v0:List zaJ)(v1:List zaG)(v2:List zaI)(v3:List zaK)(v4:List ((Bs×Bs)×Unit)):Option (((List (Bs×Bs))×zaS)):=
 (zwS o v4).bind fun v5=>(zyN v5).bind fun v6=>some (v6.1,v0,v1,v2,v3,v6.2)
def zkA(o:Ops):SC:=⟨⟨[(0,(.ptr 0 0))],[zaO,zaC,zaE,zaD,zaB,.mp true (.pr .s .s) .un]⟩,1,[(none,⟨[(0,(.hc (.pr .s .s)))],[zaO,zaC,zaE,zaD,zaB,.mp true (.pr .s .s) .un]⟩)],fun x=>zkJ o x.1 x.2.1 x.2.2.1 x.2.2.2.1 x.2.2.2.2⟩
theorem zrA:SCok Tryz.prog tabs 45 (zkA o):=zaT (o:=o) (η:=[]) (Γ:=⟨[(127,ykA)],[(125,(zvD o)),(124,ybU)],false,[]⟩) (ctok ⟨ytP,trivial⟩ ⟨ydD,⟨ylQ,trivial⟩⟩) Tryz.func45
def zhT(o:Ops)(v0:Bs)(v1:List (Bs×Bs)):Option ((List (Bs×Bs))):=
 (o.form ([]:List Bs)).bind fun v2=>(app v1 ([(v0,v2)]:List (Bs×Bs))).bind fun v3=>some v3
def zgQ(o:Ops):SC:=⟨⟨[(0,hS),(1,.nils),(2,(.ptr 0 0))],[yvS,.osl (.pr .s .s) 33]⟩,0,[(none,⟨[],[yqQ,.dead,.osl (.pr .s .s) 33]⟩)],fun x=>zhT o x.1 x.2⟩
theorem znA:SCok Tryz.prog tabs 84 (zgQ o):=zaT (o:=o) (η:=[(4000000,.sch [(.pu,0,[]),(.pu,1,[]),(.pu,2,[]),(.mn,3,[]),(.pu,4,[]),(.mn,5,[]),(.mn,6,[1]),(.mn,7,[0])])]) (Γ:=⟨[(22,(zvQ o))],[],false,[]⟩) (ctok ⟨(zlH.form (G:=tabs)),trivial⟩ trivial) Tryz.func84
def zwU(_o:Ops)(v0:List zaI):Option ((List zaI)):=
 some v0
def zuN(o:Ops):SC:=⟨⟨[(0,(.mpr 0))],[zaD]⟩,1,[(none,⟨[(0,(.fn 273 [] [(.ptr 1 0)]))],[zaD,.blk 124 [(.mpr 0)]]⟩)],fun x=>zwU o x⟩
theorem ydX:SCok Tryz.prog tabs 205 (zuN o):=zaT (o:=o) (η:=[]) (Γ:=⟨[],[],false,[]⟩) (ctok trivial trivial) Tryz.func205
def ybR:SC:=⟨⟨[(0,(.fn 273 [] [(.ptr 0 0)]))],[.blk 124 [(.mpr 1)],zaD]⟩,1,[(none,⟨[(0,(.h (.sl .s)))],[.blk 124 [(.mpr 1)],zaD]⟩)],fun es=>zlT es⟩
theorem ylV:SCok Tryz.prog tabs 132 ybR:=wit (G:=tabs)<|zqW (kT:=9) (isFn Tryz.func132) (by kernel_rfl) YtopanhneegpgcaaGreatDoor.sorted273K
def zhI(o:Ops)(_v0:Bs)(v1:zbW):Option zbW:=
 (zfY o v1).bind fun v2=>some v2
def zgV(o:Ops):PC:=⟨[hS,(.h zvX)],[zvX],fun x=>zhI o x.1 x.2,false⟩
theorem znQ:PCok Tryz.prog tabs 113 (zgV o):=zdR (o:=o) (η:=[]) (Γ:=⟨[(105,(zfJ o))],[],false,[]⟩) (ctok ⟨zkL,trivial⟩ trivial) Tryz.func113
def zvR(o:Ops)(v3:((List Bs)×List zaI))(v4:Int)(v5:List zaI)(v6:List zbW):Option ((Int×(List zaI)×List zbW)⊕(((List zaI)×List zbW))):=
 bif decide (v4<(v3.1.length:Int))then((idx v3.1 v4).bind fun v7=>let v8:zbW:=zgX keqS v5 v7 (([]:Bs),([]:List Bs))
 (zhI o v7 v8).bind fun v9=>(app v6 ([v9]:List zbW)).bind fun v10=>some (.inl (w64 (v4+1),v5,v10)))else some (.inr (v5,v6))
def zpC(o:Ops)(v0:List zaI):Option (((List zaI)×List zbW)):=
 (chk (decide ((0:Int)≤(v0.length:Int))&&decide ((v0.length:Int)≤(LIM:Int)))).bind fun _=>(mkL (0:Int) (([]:Bs),([]:List Bs))).bind fun v1=>(zwU o v0).bind fun v2=>(zlT v2).bind fun v3=>(iter (fun x=>zvR o v3 x.1 x.2.1 x.2.2) ((0:Int),v3.2,v1)).bind fun v11=>some v11
def znI(o:Ops):SC:=⟨⟨[(0,(.mpr 0)),(1,(.fn 113 [] []))],[zaD]⟩,1,[(none,⟨[(0,(.own 1))],[zaD,.osl zvX 49]⟩)],fun x=>zpC o x⟩
theorem zwA:SCok Tryz.prog tabs 112 (znI o):=zaT (o:=o) (η:=[(200003,.loop [] ⟨[(0,(.mpr 0)),(1,(.fn 113 [] [])),(5,(.own 1)),(15,hI)],[zaD,.osl zvX 49]⟩ [4,13,14] [(some 0,⟨[(5,(.own 1))],[zaD,.osl zvX 49]⟩)])]) (Γ:=⟨[(113,(zgV o))],[(205,(zuN o)),(132,ybR)],false,[]⟩) (ctok ⟨znQ,trivial⟩ ⟨ydX,⟨ylV,trivial⟩⟩) Tryz.func112
def zjX(o:Ops)(v0:List zaJ)(v1:List zaG)(v2:List zaI)(v3:List zaK)(v4:List ((Bs×Bs)×Unit)):Option (((List zaJ)×(List zaG)×(List zaI)×(List zaK)×(List ((Bs×Bs)×Unit))×List zbW)):=
 (zpC o v2).bind fun v5=>some (v0,v1,v5.1,v3,v4,v5.2)
def ziN(o:Ops):SC:=⟨⟨[(0,(.ptr 0 0))],[zaO,zaC,zaE,zaD,zaB,.mp true (.pr .s .s) .un]⟩,1,[(none,⟨[(0,(.own 6))],[zaO,zaC,zaE,zaD,zaB,.mp true (.pr .s .s) .un,.osl zvX 49]⟩)],fun x=>zjX o x.1 x.2.1 x.2.2.1 x.2.2.2.1 x.2.2.2.2⟩
theorem zqR:SCok Tryz.prog tabs 40 (ziN o):=zaT (o:=o) (η:=[]) (Γ:=⟨[],[(112,(znI o))],false,[]⟩) (ctok trivial ⟨zwA,trivial⟩) Tryz.func40
def zwQ(_o:Ops)(v0:List zaJ):Option ((List zaJ)):=
 some v0
def zvE(o:Ops):SC:=⟨⟨[(0,(.mpr 0))],[zaC]⟩,1,[(none,⟨[(0,(.fn 272 [] [(.ptr 1 0)]))],[zaC,.blk 122 [(.mpr 0)]]⟩)],fun x=>zwQ o x⟩
theorem yeC:SCok Tryz.prog tabs 204 (zvE o):=zaT (o:=o) (η:=[]) (Γ:=⟨[],[],false,[]⟩) (ctok trivial trivial) Tryz.func204
def ybX:SC:=⟨⟨[(0,(.fn 272 [] [(.ptr 0 0)]))],[.blk 122 [(.mpr 1)],zaC]⟩,1,[(none,⟨[(0,(.h (.sl .s)))],[.blk 122 [(.mpr 1)],zaC]⟩)],fun es=>zlT es⟩
theorem ykU:SCok Tryz.prog tabs 132 ybX:=wit (G:=tabs)<|zqW (kT:=9) (isFn Tryz.func132) (by kernel_rfl) YtopanhneegpgcaaGreatDoor.sorted272K
def zgY(_o:Ops)(_v0:Bs)(v1:zqP):Option zqP:=
 some v1
def zgK(o:Ops):PC:=⟨[hS,(.h yeD)],[yeD],fun x=>zgY o x.1 x.2,false⟩
theorem znC:PCok Tryz.prog tabs 111 (zgK o):=zdR (o:=o) (η:=[]) (Γ:=⟨[],[],false,[]⟩) (ctok trivial trivial) Tryz.func111
def zwB(o:Ops)(v3:((List Bs)×List zaJ))(v4:Int)(v5:List zaJ)(v6:List zqP):Option ((Int×(List zaJ)×List zqP)⊕(((List zaJ)×List zqP))):=
 bif decide (v4<(v3.1.length:Int))then((idx v3.1 v4).bind fun v7=>let v8:zqP:=zgX keqS v5 v7 (([]:Bs),([]:Bs),false,(0:Int))
 (zgY o v7 v8).bind fun v9=>(app v6 ([v9]:List zqP)).bind fun v10=>some (.inl (w64 (v4+1),v5,v10)))else some (.inr (v5,v6))
def zpI(o:Ops)(v0:List zaJ):Option (((List zaJ)×List zqP)):=
 (chk (decide ((0:Int)≤(v0.length:Int))&&decide ((v0.length:Int)≤(LIM:Int)))).bind fun _=>(mkL (0:Int) (([]:Bs),([]:Bs),false,(0:Int))).bind fun v1=>(zwQ o v0).bind fun v2=>(zlT v2).bind fun v3=>(iter (fun x=>zwB o v3 x.1 x.2.1 x.2.2) ((0:Int),v3.2,v1)).bind fun v11=>some v11
def znB(o:Ops):SC:=⟨⟨[(0,(.mpr 0)),(1,(.fn 111 [] []))],[zaC]⟩,1,[(none,⟨[(0,(.own 1))],[zaC,.osl yeD 77]⟩)],fun x=>zpI o x⟩
theorem zvV:SCok Tryz.prog tabs 110 (znB o):=zaT (o:=o) (η:=[(200003,.loop [] ⟨[(0,(.mpr 0)),(1,(.fn 111 [] [])),(5,(.own 1)),(15,hI)],[zaC,.osl yeD 77]⟩ [4,13,14] [(some 0,⟨[(5,(.own 1))],[zaC,.osl yeD 77]⟩)])]) (Γ:=⟨[(111,(zgK o))],[(204,(zvE o)),(132,ybX)],false,[]⟩) (ctok ⟨znC,trivial⟩ ⟨yeC,⟨ykU,trivial⟩⟩) Tryz.func110
def zjJ(o:Ops)(v0:List zaJ)(v1:List zaG)(v2:List zaI)(v3:List zaK)(v4:List ((Bs×Bs)×Unit)):Option (((List zaJ)×(List zaG)×(List zaI)×(List zaK)×(List ((Bs×Bs)×Unit))×List zqP)):=
 (zpI o v0).bind fun v5=>some (v5.1,v1,v2,v3,v4,v5.2)
def ziS(o:Ops):SC:=⟨⟨[(0,(.ptr 0 0))],[zaO,zaC,zaE,zaD,zaB,.mp true (.pr .s .s) .un]⟩,1,[(none,⟨[(0,(.own 6))],[zaO,zaC,zaE,zaD,zaB,.mp true (.pr .s .s) .un,.osl yeD 77]⟩)],fun x=>zjJ o x.1 x.2.1 x.2.2.1 x.2.2.2.1 x.2.2.2.2⟩
theorem zqQ:SCok Tryz.prog tabs 39 (ziS o):=zaT (o:=o) (η:=[]) (Γ:=⟨[],[(110,(znB o))],false,[]⟩) (ctok trivial ⟨zvV,trivial⟩) Tryz.func39
def zhL(o:Ops)(v0:Bs)(v1:List Bs)(v2:List (Bs×Bs)):Option (((List Bs)×List (Bs×Bs))):=
 (o.form v1).bind fun v3=>(app v2 ([(v0,v3)]:List (Bs×Bs))).bind fun v4=>some (v1,v4)
def zgL(o:Ops):SC:=⟨⟨[(0,hS),(1,(.own 0)),(2,(.ptr 1 0))],[.osl .s 9,yqQ,.osl (.pr .s .s) 33]⟩,0,[(none,⟨[],[.osl .s 9,.blk 31 [(.own 3)],.dead,.osl (.pr .s .s) 33]⟩)],fun x=>zhL o x.1 x.2.1 x.2.2⟩
theorem zmX:SCok Tryz.prog tabs 84 (zgL o):=zaT (o:=o) (η:=[(4000000,.sch [(.pu,0,[]),(.pu,1,[]),(.pu,2,[]),(.mn,3,[]),(.pu,4,[]),(.mn,5,[]),(.mn,6,[2]),(.mn,7,[1])])]) (Γ:=⟨[(22,(zvQ o))],[],false,[]⟩) (ctok ⟨(zlH.form (G:=tabs)),trivial⟩ trivial) Tryz.func84
def yiI:SC:=⟨⟨[(0,(.own 0)),(1,(.fn 89 [] []))],[.osl (.pr .s .s) 33]⟩,0,[(none,⟨[],[.osl (.pr .s .s) 33]⟩)],fun(xs:List (Bs×Bs))=>ycK xs⟩
theorem yuE:SCok Tryz.prog tabs 88 yiI:=wit (G:=tabs)<|yvN
def ykI:PC:=⟨[.h (.sl (.pr .s .s))],[(.sl (.pr .s .s))],fun xs=>some xs,true⟩
theorem yuA:PCok Tryz.prog tabs 91 ykI:=wit (G:=tabs)<|yiH zxC τ_okWkF Tryz.func91 (isFn Tryz.func91) rfl (by kernel_rfl) (fun _=>by kernel_rfl)
def zrR(o:Ops)(v5:((List zaJ)×(List zaG)×(List zaI)×(List zaK)×(List ((Bs×Bs)×Unit))×List zmZ))(v6:Int)(v7:List zaJ)(v8:List zaG)(v9:List zaI)(v10:List zaK)(v11:List ((Bs×Bs)×Unit))(v12:List zmZ)(v13:List (Bs×Bs)):Option ((Int×(List zaJ)×(List zaG)×(List zaI)×(List zaK)×(List ((Bs×Bs)×Unit))×(List zmZ)×List (Bs×Bs))⊕(((List zaJ)×(List zaG)×(List zaI)×(List zaK)×(List ((Bs×Bs)×Unit))×List (Bs×Bs)))):=
 bif decide (v6<(v5.2.2.2.2.2.length:Int))then((chk (decide ((0:Int)≤v6)&&decide (v6<(v12.length:Int)))).bind fun _=>(idx v12 v6).bind fun v14=>(app ([99,108,105,101,110,116,47]:Bs) v14.1).bind fun v15=>(zeH o v14.2.2.2.2.1).bind fun v16=>(zeH o v14.2.2.2.2.2.1).bind fun v17=>(app v16 v17).bind fun v18=>(zeH o v14.2.2.2.2.2.2.1).bind fun v19=>(app v18 v19).bind fun v20=>(zeH o v14.2.2.2.2.2.2.2).bind fun v21=>(app v20 v21).bind fun v22=>(zcP o v14.2.2.1).bind fun v23=>(zcP o v14.2.2.2.1).bind fun v24=>(zlQ o ([([v14.2.1,v22]:List Bs),v23,v24]:List (List Bs))).bind fun v25=>(zcO o v15 v25 v13).bind fun v26=>some (.inl (w64 (v6+1),v7,v8,v9,v10,v11,v12,v26)))else some (.inr (v7,v8,v9,v10,v11,v13))
def zrO(o:Ops)(v28:((List zaJ)×(List zaG)×(List zaI)×(List zaK)×(List ((Bs×Bs)×Unit))×List ybB))(v29:Int)(v30:List zaJ)(v31:List zaG)(v32:List zaI)(v33:List zaK)(v34:List ((Bs×Bs)×Unit))(v35:List ybB)(v36:List (Bs×Bs)):Option ((Int×(List zaJ)×(List zaG)×(List zaI)×(List zaK)×(List ((Bs×Bs)×Unit))×(List ybB)×List (Bs×Bs))⊕(((List zaJ)×(List zaG)×(List zaI)×(List zaK)×(List ((Bs×Bs)×Unit))×List (Bs×Bs)))):=
 bif decide (v29<(v28.2.2.2.2.2.length:Int))then((chk (decide ((0:Int)≤v29)&&decide (v29<(v35.length:Int)))).bind fun _=>(idx v35 v29).bind fun v37=>(app ([103,114,111,117,112,47]:Bs) v37.1).bind fun v38=>(o.itoa v37.2.2.2.2).bind fun v39=>(zcP o v37.2.1).bind fun v40=>(zcP o v37.2.2.1).bind fun v41=>(zcP o v37.2.2.2.1).bind fun v42=>(zlQ o ([([v39]:List Bs),v40,v41,v42]:List (List Bs))).bind fun v43=>(zcO o v38 v43 v36).bind fun v44=>some (.inl (w64 (v29+1),v30,v31,v32,v33,v34,v35,v44)))else some (.inr (v30,v31,v32,v33,v34,v36))
def zrP(o:Ops)(v46:((List (Bs×Bs))×zaS))(v47:Int)(v48:List zaJ)(v49:List zaG)(v50:List zaI)(v51:List zaK)(v52:List ((Bs×Bs)×Unit))(v53:List (Bs×Bs)):Option ((Int×(List zaJ)×(List zaG)×(List zaI)×(List zaK)×(List ((Bs×Bs)×Unit))×List (Bs×Bs))⊕(((List zaJ)×(List zaG)×(List zaI)×(List zaK)×(List ((Bs×Bs)×Unit))×List (Bs×Bs)))):=
 bif decide (v47<(v46.1.length:Int))then((idx v46.1 v47).bind fun v54=>(app ([109,97,121,47]:Bs) v54.1).bind fun v55=>(app v55 ([124]:Bs)).bind fun v56=>(app v56 v54.2).bind fun v57=>(zhT o v57 v53).bind fun v58=>some (.inl (w64 (v47+1),v48,v49,v50,v51,v52,v58)))else some (.inr (v48,v49,v50,v51,v52,v53))
def zrS(o:Ops)(v60:((List zaJ)×(List zaG)×(List zaI)×(List zaK)×(List ((Bs×Bs)×Unit))×List zbW))(v61:Int)(v62:List zaJ)(v63:List zaG)(v64:List zaI)(v65:List zaK)(v66:List ((Bs×Bs)×Unit))(v67:List zbW)(v68:List (Bs×Bs)):Option ((Int×(List zaJ)×(List zaG)×(List zaI)×(List zaK)×(List ((Bs×Bs)×Unit))×(List zbW)×List (Bs×Bs))⊕(((List zaJ)×(List zaG)×(List zaI)×(List zaK)×(List ((Bs×Bs)×Unit))×List (Bs×Bs)))):=
 bif decide (v61<(v60.2.2.2.2.2.length:Int))then((chk (decide ((0:Int)≤v61)&&decide (v61<(v67.length:Int)))).bind fun _=>(idx v67 v61).bind fun v69=>(app ([114,111,108,101,47]:Bs) v69.1).bind fun v70=>(zcP o v69.2).bind fun v71=>(zcO o v70 v71 v68).bind fun v72=>some (.inl (w64 (v61+1),v62,v63,v64,v65,v66,v67,v72)))else some (.inr (v62,v63,v64,v65,v66,v68))
def zsB(o:Ops)(v74:((List zaJ)×(List zaG)×(List zaI)×(List zaK)×(List ((Bs×Bs)×Unit))×List zqP))(v75:Int)(v76:List zaJ)(v77:List zaG)(v78:List zaI)(v79:List zaK)(v80:List ((Bs×Bs)×Unit))(v81:List zqP)(v82:List (Bs×Bs)):Option ((Int×(List zaJ)×(List zaG)×(List zaI)×(List zaK)×(List ((Bs×Bs)×Unit))×(List zqP)×List (Bs×Bs))⊕(((List zaJ)×(List zaG)×(List zaI)×(List zaK)×(List ((Bs×Bs)×Unit))×List (Bs×Bs)))):=
 bif decide (v75<(v74.2.2.2.2.2.length:Int))then((chk (decide ((0:Int)≤v75)&&decide (v75<(v81.length:Int)))).bind fun _=>(idx v81 v75).bind fun v83=>(app ([117,115,101,114,47]:Bs) v83.1).bind fun v84=>(zeH o v83.2.2.1).bind fun v85=>(o.itoa v83.2.2.2).bind fun v86=>(zhL o v84 ([v83.2.1,v85,v86]:List Bs) v82).bind fun v87=>some (.inl (w64 (v75+1),v76,v77,v78,v79,v80,v81,v87.2)))else some (.inr (v76,v77,v78,v79,v80,v82))
def zdI(o:Ops)(v0:List zaJ)(v1:List zaG)(v2:List zaI)(v3:List zaK)(v4:List ((Bs×Bs)×Unit)):Option (((List (Bs×Bs))×zaS)):=
 (zhJ o v0 v1 v2 v3 v4).bind fun v5=>(iter (fun x=>zrR o v5 x.1 x.2.1 x.2.2.1 x.2.2.2.1 x.2.2.2.2.1 x.2.2.2.2.2.1 x.2.2.2.2.2.2.1 x.2.2.2.2.2.2.2) ((0:Int),v5.1,v5.2.1,v5.2.2.1,v5.2.2.2.1,v5.2.2.2.2.1,v5.2.2.2.2.2,([]:List (Bs×Bs)))).bind fun v27=>(ziC o v27.1 v27.2.1 v27.2.2.1 v27.2.2.2.1 v27.2.2.2.2.1).bind fun v28=>(iter (fun x=>zrO o v28 x.1 x.2.1 x.2.2.1 x.2.2.2.1 x.2.2.2.2.1 x.2.2.2.2.2.1 x.2.2.2.2.2.2.1 x.2.2.2.2.2.2.2) ((0:Int),v28.1,v28.2.1,v28.2.2.1,v28.2.2.2.1,v28.2.2.2.2.1,v28.2.2.2.2.2,v27.2.2.2.2.2)).bind fun v45=>(zkJ o v45.1 v45.2.1 v45.2.2.1 v45.2.2.2.1 v45.2.2.2.2.1).bind fun v46=>(iter (fun x=>zrP o v46 x.1 x.2.1 x.2.2.1 x.2.2.2.1 x.2.2.2.2.1 x.2.2.2.2.2.1 x.2.2.2.2.2.2) ((0:Int),v46.2.1,v46.2.2.1,v46.2.2.2.1,v46.2.2.2.2.1,v46.2.2.2.2.2,v45.2.2.2.2.2)).bind fun v59=>(zjX o v59.1 v59.2.1 v59.2.2.1 v59.2.2.2.1 v59.2.2.2.2.1).bind fun v60=>(iter (fun x=>zrS o v60 x.1 x.2.1 x.2.2.1 x.2.2.2.1 x.2.2.2.2.1 x.2.2.2.2.2.1 x.2.2.2.2.2.2.1 x.2.2.2.2.2.2.2) ((0:Int),v60.1,v60.2.1,v60.2.2.1,v60.2.2.2.1,v60.2.2.2.2.1,v60.2.2.2.2.2,v59.2.2.2.2.2)).bind fun v73=>(zjJ o v73.1 v73.2.1 v73.2.2.1 v73.2.2.2.1 v73.2.2.2.2.1).bind fun v74=>(iter (fun x=>zsB o v74 x.1 x.2.1 x.2.2.1 x.2.2.2.1 x.2.2.2.2.1 x.2.2.2.2.2.1 x.2.2.2.2.2.2.1 x.2.2.2.2.2.2.2) ((0:Int),v74.1,v74.2.1,v74.2.2.1,v74.2.2.2.1,v74.2.2.2.2.1,v74.2.2.2.2.2,v73.2.2.2.2.2)).bind fun v88=>(ycK v88.2.2.2.2.2).bind fun v89=>some (v89,v88.1,v88.2.1,v88.2.2.1,v88.2.2.2.1,v88.2.2.2.2.1)
def zjN(o:Ops):SC:=⟨⟨[(0,(.ptr 0 0))],[zaO,zaC,zaE,zaD,zaB,.mp true (.pr .s .s) .un]⟩,1,[(none,⟨[(0,(.hc (.pr .s .s)))],[zaO,zaC,zaE,zaD,zaB,.mp true (.pr .s .s) .un]⟩)],fun x=>zdI o x.1 x.2.1 x.2.2.1 x.2.2.2.1 x.2.2.2.2⟩
theorem zrL:SCok Tryz.prog tabs 29 (zjN o):=zaT (o:=o) (η:=[(200004,.loop [.cell 3 0 (.pr .s .s) 33] ⟨[(0,(.ptr 0 0)),(3,(.ptr 6 0)),(4,(.fn 84 [] [(.ptr 6 0)])),(17,(.own 7)),(19,hI)],[zaO,zaC,zaE,zaD,zaB,.mp true (.pr .s .s) .un,yjI,.osl zvW 51,.osl (.pr .s .s) 33]⟩ [2,18] [(some 0,⟨[(0,(.ptr 0 0)),(3,(.ptr 6 0)),(4,(.fn 84 [] [(.ptr 6 0)]))],[zaO,zaC,zaE,zaD,zaB,.mp true (.pr .s .s) .un,ycE,.osl (.pr .s .s) 33]⟩)]),
 (200009,.loop [] ⟨[(0,(.ptr 0 0)),(3,(.ptr 6 0)),(4,(.fn 84 [] [(.ptr 6 0)])),(56,(.own 7)),(58,hI)],[zaO,zaC,zaE,zaD,zaB,.mp true (.pr .s .s) .un,yjI,.osl ylE 57,.osl (.pr .s .s) 33]⟩ [2,57] [(some 2,⟨[(0,(.ptr 0 0)),(3,(.ptr 6 0)),(4,(.fn 84 [] [(.ptr 6 0)]))],[zaO,zaC,zaE,zaD,zaB,.mp true (.pr .s .s) .un,ycE,.osl (.pr .s .s) 33]⟩)]),
 (200014,.loop [] ⟨[(0,(.ptr 0 0)),(3,(.ptr 6 0)),(4,(.fn 84 [] [(.ptr 6 0)])),(86,hI)],[zaO,zaC,zaE,zaD,zaB,.mp true (.pr .s .s) .un,ycE,.osl (.pr .s .s) 33]⟩ [2,84,85] [(some 4,⟨[(0,(.ptr 0 0)),(3,(.ptr 6 0)),(4,(.fn 84 [] [(.ptr 6 0)]))],[zaO,zaC,zaE,zaD,zaB,.mp true (.pr .s .s) .un,ycE,.osl (.pr .s .s) 33]⟩)]),
 (200019,.loop [] ⟨[(0,(.ptr 0 0)),(3,(.ptr 6 0)),(4,(.fn 84 [] [(.ptr 6 0)])),(101,(.own 7)),(103,hI)],[zaO,zaC,zaE,zaD,zaB,.mp true (.pr .s .s) .un,yjI,.osl zvX 49,.osl (.pr .s .s) 33]⟩ [2,102] [(some 6,⟨[(0,(.ptr 0 0)),(3,(.ptr 6 0)),(4,(.fn 84 [] [(.ptr 6 0)]))],[zaO,zaC,zaE,zaD,zaB,.mp true (.pr .s .s) .un,ycE,.osl (.pr .s .s) 33]⟩)]),
 (200024,.loop [] ⟨[(3,(.ptr 6 0)),(4,(.fn 84 [] [(.ptr 6 0)])),(117,(.own 7)),(119,hI)],[zaO,zaC,zaE,zaD,zaB,.mp true (.pr .s .s) .un,yjI,.osl yeD 77,.osl (.pr .s .s) 33]⟩ [2,118] [(some 8,⟨[(3,(.ptr 6 0))],[zaO,zaC,zaE,zaD,zaB,.mp true (.pr .s .s) .un,ycE,.osl (.pr .s .s) 33]⟩)]),
 (4000006,.sch [(.pu,0,[10,11]),(.pu,1,[10,11]),(.pu,2,[10,11]),(.pu,3,[10,11]),(.pu,4,[]),(.pu,5,[]),(.pu,6,[]),(.pu,7,[]),(.pu,9,[]),(.pu,10,[]),(.pu,13,[]),(.pu,14,[]),(.pu,17,[]),(.pu,18,[]),(.pu,22,[]),(.pu,23,[]),(.pu,25,[]),(.pu,26,[]),(.mn,8,[]),(.mn,11,[]),(.pu,12,[]),(.mn,15,[]),(.pu,16,[]),(.mn,19,[]),(.pu,20,[]),(.la,21,[]),(.mn,24,[]),(.mn,27,[]),(.rv,21,[]),(.mn,28,[10]),(.mn,29,[11]),(.mn,30,[6,8])]),
 (4000011,.sch [(.pu,0,[10,11]),(.pu,1,[10,11]),(.pu,2,[10,11]),(.pu,3,[10,11]),(.pu,4,[]),(.pu,5,[]),(.pu,8,[]),(.pu,9,[]),(.pu,11,[]),(.pu,12,[]),(.pu,14,[]),(.pu,15,[]),(.mn,6,[]),(.la,7,[]),(.mn,10,[]),(.mn,13,[]),(.mn,16,[]),(.rv,7,[]),(.mn,17,[10]),(.mn,18,[11]),(.mn,19,[6,8])]),
 (4000021,.sch [(.pu,0,[]),(.pu,1,[]),(.pu,2,[]),(.pu,3,[]),(.pu,4,[]),(.pu,5,[]),(.mn,6,[]),(.mn,7,[6,8])]),
 (4000026,.sch [(.pu,0,[]),(.pu,1,[]),(.pu,2,[]),(.pu,3,[]),(.pu,4,[]),(.pu,5,[]),(.pu,6,[]),(.pu,7,[]),(.pu,9,[]),(.pu,10,[]),(.mn,8,[]),(.mn,11,[]),(.mn,12,[]),(.mn,13,[6,8,10])])]) (Γ:=⟨[(86,(zsH o)),(87,(zpE o)),(85,(zpH o)),(68,(yhV o)),(91,ykI)],[(84,(zgQ o)),(38,(zgJ o)),(84,(zgG o)),(32,(zhS o)),(45,(zkA o)),(40,(ziN o)),(39,(ziS o)),(84,(zgL o)),(88,yiI)],false,[]⟩) (ctok ⟨zyU,⟨zxX,⟨zyD,⟨(zlH.itoa (G:=tabs)),⟨yuA,trivial⟩⟩⟩⟩⟩ ⟨znA,⟨znR,⟨zmU,⟨znU,⟨zrA,⟨zqR,⟨zqQ,⟨zmX,⟨yuE,trivial⟩⟩⟩⟩⟩⟩⟩⟩⟩) Tryz.func29
def zeF(o:Ops)(v0:Bs):Option ((Int×Bool)⊕Unit):=
 bif(v0==([]:Bs))then some (.inl ((0:Int),false))else(bif decide ((v0.length:Int)>15)then some (.inl ((0:Int),false))else((idx v0 (0:Int)).bind fun v1=>bif((v1.toNat:Int)==((48:UInt8).toNat:Int))then(bif(v0 != ([48]:Bs))then some (.inl ((0:Int),false))else((o.trim v0 ([48,49,50,51,52,53,54,55,56,57]:Bs)).bind fun v2=>bif(v2 != ([]:Bs))then some (.inl ((0:Int),false))else some (.inr ())))else((o.trim v0 ([48,49,50,51,52,53,54,55,56,57]:Bs)).bind fun v3=>bif(v3 != ([]:Bs))then some (.inl ((0:Int),false))else some (.inr ()))))
def zbZ(o:Ops)(v0:Bs):Option (Int×Bool):=
 (zeF o v0).bind fun v4=>match v4 with
 |.inl v5=>(some v5)
 |.inr _v6=>((o.atoi v0).bind fun v7=>some (v7.1,(!v7.2)))
def zfU(o:Ops):PC:=⟨[hS],[(.i .i64),.b],fun x=>zbZ o x,false⟩
theorem zkE:PCok Tryz.prog tabs 60 (zfU o):=zdR (o:=o) (η:=[(2000003,.join [] [0] [(some 1000000,⟨[(2,hI),(3,hB)],[]⟩),(none,⟨[],[]⟩)]),
 (4000004,.sch [(.pu,0,[]),(.pu,1,[]),(.pu,2,[]),(.pu,3,[]),(.pu,4,[])])]) (Γ:=⟨[(164,(ycT o)),(165,(yrO o))],[],false,[]⟩) (ctok ⟨(zlH.trim (G:=tabs)),⟨(zlH.atoi (G:=tabs)),trivial⟩⟩ trivial) Tryz.func60
def zoY(_o:Ops)(v2:List Bs)(v3:Bs×Bs×Bool)(v4:Int×Bool):Option (Bool⊕List Bs):=
 bif(!v3.2.2)then some (.inl false)else(bif(!v4.2)then some (.inl false)else(bif decide (v4.1>(v3.2.1.length:Int))then some (.inl false)else some (.inr v2)))
def zhR(o:Ops)(v1:Bs)(v2:List Bs):Option (zbW⊕(Bool⊕List Bs)):=
 bif(v1 != ([]:Bs))then((o.cut v1 ([58]:Bs)).bind fun v3=>(zbZ o v3.1).bind fun v4=>(zoY o v2 v3 v4).bind fun v5=>match v5 with
 |.inl v6=>some (.inr (.inl v6))
 |.inr v7=>((subH v3.2.1 v4.1).bind fun v8=>(app v7 ([v8]:List Bs)).bind fun v9=>(subL v3.2.1 v4.1).bind fun v10=>some (.inl (v10,v9))))else some (.inr (.inr v2))
def zjD(o:Ops)(v0:Bs):Option zvS:=
 (iter (fun x=>zhR o x.1 x.2) (v0,([]:List Bs))).bind fun v11=>match v11 with
 |.inl v12=>(some (([]:List Bs),v12))
 |.inr v13=>(some (v13,true))
def zsO(o:Ops):PC:=⟨[hS],[(.sl .s),.b],fun x=>zjD o x,false⟩
theorem yaT:PCok Tryz.prog tabs 11 (zsO o):=zdR (o:=o) (η:=[(2000007,.join [] [6,8] [(some 1000000,⟨[(2,.nils),(3,hB)],[]⟩),(none,⟨[(4,(.own 0))],[.osl .s 9]⟩)]),
 (200002,.loop [.sl 4 .s 9] ⟨[(0,hS),(4,(.own 0))],[.osl .s 9]⟩ [] [(some 1000000,⟨[(2,.nils),(3,hB)],[]⟩),(some 0,⟨[(4,(.own 0))],[.osl .s 9]⟩)])]) (Γ:=⟨[(59,(yjM o)),(60,(zfU o)),(61,zrM)],[],false,[]⟩) (ctok ⟨(zlH.cut (G:=tabs)),⟨zkE,⟨zuE,trivial⟩⟩⟩ trivial) Tryz.func11
def zxF(_o:Ops)(v2:List Bs)(v3:Bs×Bs×Bool)(v4:Int×Bool):Option (Bool⊕List Bs):=
 bif(!v3.2.2)then some (.inl false)else(bif(!v4.2)then some (.inl false)else(bif decide (v4.1>(v3.2.1.length:Int))then some (.inl false)else some (.inr v2)))
def zxW(o:Ops)(v1:Bs)(v2:List Bs):Option (zbW⊕(Bool⊕List Bs)):=
 bif(v1 != ([]:Bs))then((o.cut v1 ([58]:Bs)).bind fun v3=>(zbZ o v3.1).bind fun v4=>(zxF o v2 v3 v4).bind fun v5=>match v5 with
 |.inl v6=>some (.inr (.inl v6))
 |.inr v7=>((subH v3.2.1 v4.1).bind fun v8=>(app v7 ([v8]:List Bs)).bind fun v9=>(subL v3.2.1 v4.1).bind fun v10=>some (.inl (v10,v9))))else some (.inr (.inr v2))
def ztQ(o:Ops)(v0:Bs):Option (zvS):=
 (iter (fun x=>zxW o x.1 x.2) (v0,([]:List Bs))).bind fun v11=>match v11 with
 |.inl v12=>some (([]:List Bs),v12)
 |.inr v13=>some (v13,true)
def zsP(o:Ops):SC:=⟨⟨[(0,hS)],[]⟩,2,[(none,⟨[(0,(.h (.sl .s))),(1,hB)],[]⟩)],fun x=>ztQ o x⟩
theorem zzY:SCok Tryz.prog tabs 11 (zsP o):=zaT (o:=o) (η:=[(2000007,.join [] [6,8] [(some 1000000,⟨[(2,.nils),(3,hB)],[]⟩),(none,⟨[(4,(.own 0))],[.osl .s 9]⟩)]),
 (200002,.loop [.sl 4 .s 9] ⟨[(0,hS),(4,(.own 0))],[.osl .s 9]⟩ [] [(some 1000000,⟨[(2,.nils),(3,hB)],[]⟩),(some 0,⟨[(4,(.own 0))],[.osl .s 9]⟩)])]) (Γ:=⟨[(59,(yjM o)),(60,(zfU o)),(61,zrM)],[],false,[]⟩) (ctok ⟨(zlH.cut (G:=tabs)),⟨zkE,⟨zuE,trivial⟩⟩⟩ trivial) Tryz.func11
def zbL(_o:Ops)(v0:List Bs)(v1:Bool):Option ((Bs×zvS)):=
 bif((v0.length:Int)==0)then some (([]:Bs),v0,true)else((idx v0 (0:Int)).bind fun v2=>(subL v0 (1:Int)).bind fun v3=>some (v2,v3,v1))
def zfA(o:Ops):SC:=⟨⟨[(0,(.ptr 0 0))],[ztU]⟩,1,[(none,⟨[(0,hS)],[ztU]⟩)],fun x=>zbL o x.1 x.2⟩
theorem zjQ:SCok Tryz.prog tabs 169 (zfA o):=zaT (o:=o) (η:=[]) (Γ:=⟨[],[],false,[]⟩) (ctok trivial trivial) Tryz.func169
def zbM(_o:Ops)(v0:Bs)(v1:List Bs)(v2:Bool):Option ((Bool×zvS)):=
 bif v2 then some ((v0==([49]:Bs)),v1,true)else(bif(v0 != ([48]:Bs))then some ((v0==([49]:Bs)),v1,(v0 != ([49]:Bs)))else some ((v0==([49]:Bs)),v1,false))
def zjW(o:Ops):SC:=⟨⟨[(0,(.ptr 0 0)),(1,hS)],[ztU]⟩,1,[(none,⟨[(0,hB)],[ztU]⟩)],fun x=>zbM o x.1 x.2.1 x.2.2⟩
theorem zsF:SCok Tryz.prog tabs 170 (zjW o):=zaT (o:=o) (η:=[]) (Γ:=⟨[],[],false,[]⟩) (ctok trivial trivial) Tryz.func170
def zeL(o:Ops)(v0:List Bs)(v1:Bool):Option ((Int×zvS)):=
 (zbL o v0 v1).bind fun v2=>(zbZ o v2.1).bind fun v3=>bif v2.2.2 then some (v3.1,v2.2.1,true)else some (v3.1,v2.2.1,(!v3.2))
def zdT(o:Ops):SC:=⟨⟨[(0,(.ptr 0 0))],[ztU]⟩,1,[(none,⟨[(0,hI)],[ztU]⟩)],fun x=>zeL o x.1 x.2⟩
theorem zhA:SCok Tryz.prog tabs 243 (zdT o):=zaT (o:=o) (η:=[]) (Γ:=⟨[(60,(zfU o))],[(169,(zfA o))],false,[]⟩) (ctok ⟨zkE,trivial⟩ ⟨zjQ,trivial⟩) Tryz.func243
def zsL(_o:Ops)(v2:(Int×zvS)):Option (zvS⊕zvS):=
 bif v2.2.2 then some (.inl (v2.2.1,true))else(bif decide (v2.1>(v2.2.1.length:Int))then some (.inl (v2.2.1,true))else some (.inr v2.2))
def zcI(o:Ops)(v0:List Bs)(v1:Bool):Option (((List Bs)×zvS)):=
 (zeL o v0 v1).bind fun v2=>(zsL o v2).bind fun v3=>match v3 with
 |.inl v4=>some (([]:List Bs),v4)
 |.inr v5=>((subH v5.1 v2.1).bind fun v6=>(app ([]:List Bs) v6).bind fun v7=>(subL v5.1 v2.1).bind fun v8=>some (v7,v8,v5.2))
def zjO(o:Ops):SC:=⟨⟨[(0,(.ptr 0 0))],[ztU]⟩,1,[(none,⟨[(0,(.h (.sl .s)))],[ztU]⟩)],fun x=>zcI o x.1 x.2⟩
theorem zrN:SCok Tryz.prog tabs 171 (zjO o):=zaT (o:=o) (η:=[(2000005,.join [] [3] [(some 1000000,⟨[(2,.nils)],[ztU]⟩),(none,⟨[(0,(.ptr 0 0))],[ztU]⟩)])]) (Γ:=⟨[],[(243,(zdT o)),(198,ztB)],false,[]⟩) (ctok trivial ⟨zhA,⟨zuT,trivial⟩⟩) Tryz.func171
def zxS(o:Ops)(v0:List Bs)(v2:Int):Option (Int⊕(Bool⊕Unit)):=
 bif decide (v2<(v0.length:Int))then((idx v0 v2).bind fun v3=>(zbJ o v3).bind fun v4=>bif(!v4)then some (.inr (.inl false))else(bif decide (v2>0)then((idx v0 (w64 (v2-1))).bind fun v5=>bif(Op.bytesLess v3 v5||v3==v5)then some (.inr (.inl false))else some (.inl (w64 (v2+1))))else some (.inl (w64 (v2+1)))))else some (.inr (.inr ()))
def zsR(o:Ops)(v0:List Bs)(v1:Int):Option (Bool):=
 (iter (zxS o v0) (0:Int)).bind fun v6=>match v6 with
 |.inl v7=>some v7
 |.inr _v8=>some (decide ((v0.length:Int)≤v1))
def zpG(o:Ops):SC:=⟨⟨[(0,(.h (.sl .s))),(1,hI),(2,(.fn 15 [] []))],[]⟩,1,[(none,⟨[(0,hB)],[]⟩)],fun x=>zsR o x.1 x.2⟩
theorem zxZ:SCok Tryz.prog tabs 174 (zpG o):=zaT (o:=o) (η:=[(200002,.loop [] ⟨[(2,(.fn 15 [] [])),(11,hI)],[]⟩ [0,1,9,10] [(some 1000000,⟨[(6,hB)],[]⟩),(some 0,⟨[],[]⟩)])]) (Γ:=⟨[(15,(zfS o))],[],false,[]⟩) (ctok ⟨zjB,trivial⟩ trivial) Tryz.func174
def zxJ(o:Ops)(v0:zmZ):Option ((Bool×zmZ)):=
 bif(v0.2.1==([]:Bs))then some (true,v0)else(bif((v0.2.1.length:Int)==64)then((o.trim v0.2.1 ([48,49,50,51,52,53,54,55,56,57,97,98,99,100,101,102]:Bs)).bind fun v1=>some ((v1==([]:Bs)),v0))else some (false,v0))
def zrK(o:Ops)(v0:zmZ):Option (Bool):=
 (zxJ o v0).bind fun v2=>(zaP o v2.2.1).bind fun v3=>bif v3 then(bif v2.1 then((zsR o v2.2.2.2.1 (16:Int)).bind fun v4=>bif v4 then((zmL o v2.2.2.2.2.1 (16:Int)).bind fun v5=>some v5)else(some false))else(some false))else(some false)
def zpF(o:Ops):PC:=⟨[(.h zvW)],[.b],fun x=>zrK o x,false⟩
theorem zxG:PCok Tryz.prog tabs 106 (zpF o):=zdR (o:=o) (η:=[(2000002,.join [] [] [(none,⟨[(1,(.ptr 0 0)),(3,hB)],[.blk 51 [hS,hS,(.h (.sl .s)),(.h (.sl .s)),hB,hB,hB,hB]]⟩)])]) (Γ:=⟨[(164,(ycT o)),(13,(zbD o))],[(174,(zpG o)),(174,(zlR o))],false,[]⟩) (ctok ⟨(zlH.trim (G:=tabs)),⟨zbH,trivial⟩⟩ ⟨zxZ,⟨zqX,trivial⟩⟩) Tryz.func106
def zeD(o:Ops)(v0:List Bs)(v1:Bool):Option ((Int×zvS)):=
 (zeL o v0 v1).bind fun v2=>bif v2.2.2 then some (v2.1,v2.2.1,true)else(bif decide (v2.1<1)then some (v2.1,v2.2.1,true)else some (v2.1,v2.2.1,decide (v2.1>1099511627776)))
def zgM(o:Ops):SC:=⟨⟨[(0,(.ptr 0 0))],[ztU]⟩,1,[(none,⟨[(0,hI)],[ztU]⟩)],fun x=>zeD o x.1 x.2⟩
theorem zmY:SCok Tryz.prog tabs 172 (zgM o):=zaT (o:=o) (η:=[]) (Γ:=⟨[],[(243,(zdT o))],false,[]⟩) (ctok trivial ⟨zhA,trivial⟩) Tryz.func172
def zmP(_o:Ops)(v1:List zaJ)(v2:List zaG)(v3:List zaI)(v4:List zaK)(v5:List ((Bs×Bs)×Unit))(v6:zvS)(v7:Bs×Bs×Bool):Option ((Bool×zaS)⊕zaS):=
 bif(!v6.2)then some (.inl (false,v1,v2,v3,v4,v5))else(bif(!v7.2.2)then some (.inl (false,v1,v2,v3,v4,v5))else some (.inr (v1,v2,v3,v4,v5)))
def zmQ(o:Ops)(v26:Int)(v27:List zaJ)(v28:List zaG)(v29:List zaI)(v30:List zaK)(v31:List ((Bs×Bs)×Unit))(v32:List Bs)(v33:Bool)(v34:List Bs)(v35:List Bs)(v36:List Bs)(v37:Int):Option ((Int×(List zaJ)×(List zaG)×(List zaI)×(List zaK)×(List ((Bs×Bs)×Unit))×(List Bs)×Bool×(List Bs)×(List Bs)×(List Bs)×Int)⊕(((List zaJ)×(List zaG)×(List zaI)×(List zaK)×(List ((Bs×Bs)×Unit))×(List Bs)×Bool×(List Bs)×(List Bs)×(List Bs)×Int))):=
 bif decide (v26<3)then((zcI o v32 v33).bind fun v38=>bif decide (v26=(0:Int))then some (.inl (w64 (v26+1),v27,v28,v29,v30,v31,v38.2.1,v38.2.2,v38.1,v35,v36,v37))else(bif decide (v26=(1:Int))then some (.inl (w64 (v26+1),v27,v28,v29,v30,v31,v38.2.1,v38.2.2,v34,v38.1,v36,v37))else(bif decide (v26=(2:Int))then some (.inl (w64 (v26+1),v27,v28,v29,v30,v31,v38.2.1,v38.2.2,v34,v35,v38.1,v37))else none)))else some (.inr (v27,v28,v29,v30,v31,v32,v33,v34,v35,v36,v37))
def zmN(o:Ops)(v6:zvS)(v7:Bs×Bs×Bool)(v10:zaS):Option ((Bool×zaS)⊕(Bool×(List zaJ)×(List zaG)×(List zaI)×(List zaK)×(List ((Bs×Bs)×Unit))×zvS)):=
 bif(v7.1==([99,108,105,101,110,116]:Bs))then((zbL o v6.1 false).bind fun v11=>(zbL o v11.2.1 v11.2.2).bind fun v12=>bif((v12.1.length:Int) != 4)then some (.inl (false,v10))else((subH v12.1 (1:Int)).bind fun v13=>(sub3 v12.1 (1:Int) (2:Int)).bind fun v14=>(sub3 v12.1 (2:Int) (3:Int)).bind fun v15=>(subL v12.1 (3:Int)).bind fun v16=>(zbM o v13 v12.2.1 v12.2.2).bind fun v17=>(zbM o v14 v17.2.1 v17.2.2).bind fun v18=>(zbM o v15 v18.2.1 v18.2.2).bind fun v19=>(zbM o v16 v19.2.1 v19.2.2).bind fun v20=>(zcI o v20.2.1 v20.2.2).bind fun v21=>(zcI o v21.2.1 v21.2.2).bind fun v22=>let v23:List zaK:=mset keqS kltS v10.2.2.2.1 v7.2.1 (v7.2.1,v11.1,v21.1,v22.1,v17.1,v18.1,v19.1,v20.1)
 (zrK o (v7.2.1,v11.1,v21.1,v22.1,v17.1,v18.1,v19.1,v20.1)).bind fun v24=>some (.inr (v24,v10.1,v10.2.1,v10.2.2.1,v23,v10.2.2.2.2,v22.2))))else(bif(v7.1==([103,114,111,117,112]:Bs))then((zeD o v6.1 false).bind fun v25=>(iter (fun x=>zmQ o x.1 x.2.1 x.2.2.1 x.2.2.2.1 x.2.2.2.2.1 x.2.2.2.2.2.1 x.2.2.2.2.2.2.1 x.2.2.2.2.2.2.2.1 x.2.2.2.2.2.2.2.2.1 x.2.2.2.2.2.2.2.2.2.1 x.2.2.2.2.2.2.2.2.2.2.1 x.2.2.2.2.2.2.2.2.2.2.2) ((0:Int),v10.1,v10.2.1,v10.2.2.1,v10.2.2.2.1,v10.2.2.2.2,v25.2.1,v25.2.2,([]:List Bs),([]:List Bs),([]:List Bs),v25.1)).bind fun v39=>let v40:List zaG:=mset keqS kltS v39.2.1 v7.2.1 ((v39.2.2.2.2.2.2.2.1,v39.2.2.2.2.2.2.2.2.1,v39.2.2.2.2.2.2.2.2.2.1),v39.2.2.2.2.2.2.2.2.2.2)
 (zaP o v7.2.1).bind fun v41=>some (.inr (v41,v39.1,v40,v39.2.2.1,v39.2.2.2.1,v39.2.2.2.2.1,v39.2.2.2.2.2.1,v39.2.2.2.2.2.2.1)))else(bif(v7.1==([109,97,121]:Bs))then((o.cut v7.2.1 ([124]:Bs)).bind fun v42=>let v43:List ((Bs×Bs)×Unit):=mset (keq (.pr .s .s)) (klt (.pr .s .s)) v10.2.2.2.2 (v42.1,v42.2.1) ()
 bif v42.2.2 then((zaV o v42.1).bind fun v44=>bif v44 then((zaV o v42.2.1).bind fun v45=>some (.inr (v45,v10.1,v10.2.1,v10.2.2.1,v10.2.2.2.1,v43,v6.1,false)))else some (.inr (false,v10.1,v10.2.1,v10.2.2.1,v10.2.2.2.1,v43,v6.1,false)))else some (.inr (false,v10.1,v10.2.1,v10.2.2.1,v10.2.2.2.1,v43,v6.1,false)))else(bif(v7.1==([114,111,108,101]:Bs))then((zcI o v6.1 false).bind fun v46=>let v47:List zaI:=mset keqS kltS v10.2.2.1 v7.2.1 (v7.2.1,v46.1)
 (zoV o (v7.2.1,v46.1)).bind fun v48=>some (.inr (v48,v10.1,v10.2.1,v47,v10.2.2.2.1,v10.2.2.2.2,v46.2)))else(bif(v7.1==([117,115,101,114]:Bs))then((zbL o v6.1 false).bind fun v49=>(zbL o v49.2.1 v49.2.2).bind fun v50=>(zbM o v50.1 v50.2.1 v50.2.2).bind fun v51=>(zeD o v51.2.1 v51.2.2).bind fun v52=>let v53:List zaJ:=mset keqS kltS v10.1 v7.2.1 (v7.2.1,v49.1,v51.1,v52.1)
 (zaP o v7.2.1).bind fun v54=>bif v54 then((zbJ o v49.1).bind fun v55=>some (.inr (v55,v53,v10.2.1,v10.2.2.1,v10.2.2.2.1,v10.2.2.2.2,v52.2)))else some (.inr (false,v53,v10.2.1,v10.2.2.1,v10.2.2.2.1,v10.2.2.2.2,v52.2)))else some (.inr (false,v10.1,v10.2.1,v10.2.2.1,v10.2.2.2.1,v10.2.2.2.2,v6.1,false))))))
def zdJ(o:Ops)(v0:Bs×Bs)(v1:List zaJ)(v2:List zaG)(v3:List zaI)(v4:List zaK)(v5:List ((Bs×Bs)×Unit)):Option ((Bool×zaS)):=
 (ztQ o v0.2).bind fun v6=>(o.cut v0.1 ([47]:Bs)).bind fun v7=>(zmP o v1 v2 v3 v4 v5 v6 v7).bind fun v8=>match v8 with
 |.inl v9=>some v9
 |.inr v10=>((zmN o v6 v7 v10).bind fun v56=>match v56 with
 |.inl v57=>some v57
 |.inr v58=>(bif v58.1 then(bif(!v58.2.2.2.2.2.2.2)then some (((v58.2.2.2.2.2.2.1.length:Int)==0),v58.2.1,v58.2.2.1,v58.2.2.2.1,v58.2.2.2.2.1,v58.2.2.2.2.2.1)else some (false,v58.2.1,v58.2.2.1,v58.2.2.2.1,v58.2.2.2.2.1,v58.2.2.2.2.2.1))else some (false,v58.2.1,v58.2.2.1,v58.2.2.2.1,v58.2.2.2.2.1,v58.2.2.2.2.2.1)))
def zfR(o:Ops):SC:=⟨⟨[(0,(.ptr 0 0)),(1,(.h (.pr .s .s)))],[zaO,zaC,zaE,zaD,zaB,.mp true (.pr .s .s) .un]⟩,1,[(none,⟨[(0,hB)],[zaO,ynD,zvC,yoD,.mp false .s zvW,.mp false (.pr .s .s) .un]⟩)],fun x=>zdJ o x.1 x.2.1 x.2.2.1 x.2.2.2.1 x.2.2.2.2.1 x.2.2.2.2.2⟩
theorem zmI:SCok Tryz.prog tabs 75 (zfR o):=zaT (o:=o) (η:=[(2000005,.join [] [5,7,8] [(some 1000000,⟨[(4,hB)],[zaO,zaC,zaE,zaD,zaB,.mp true (.pr .s .s) .un]⟩),(none,⟨[(0,(.ptr 0 0))],[zaO,zaC,zaE,zaD,zaB,.mp true (.pr .s .s) .un]⟩)]),
 (200020,.loop [] ⟨[(0,(.ptr 0 0)),(10,(.ptr 6 0)),(13,(.ptr 7 0)),(93,hI)],[zaO,zaC,zaE,zaD,zaB,.mp true (.pr .s .s) .un,ztU,zqA]⟩ [8] [(some 1,⟨[(0,(.ptr 0 0)),(10,(.ptr 6 0)),(13,(.ptr 7 0))],[zaO,zaC,zaE,zaD,zaB,.mp true (.pr .s .s) .un,ztU,zqA]⟩)]),
 (2000038,.join [] [] [(some 1000000,⟨[(4,hB)],[zaO,zaC,zaE,zaD,zaB,.mp true (.pr .s .s) .un]⟩),(none,⟨[(6,hB),(10,(.ptr 6 0))],[zaO,ynD,zvC,yoD,.mp false .s zvW,.mp false (.pr .s .s) .un,ztU]⟩)]),
 (4000013,.sch [(.pu,0,[]),(.pu,1,[]),(.pu,2,[]),(.pu,4,[6]),(.pu,5,[6]),(.pu,6,[6]),(.pu,8,[6]),(.pu,9,[6]),(.pu,10,[6]),(.pu,12,[6]),(.pu,13,[6]),(.pu,14,[6]),(.mn,3,[6]),(.pu,16,[6]),(.mn,7,[6]),(.mn,11,[6]),(.mn,15,[6]),(.mn,17,[8]),(.pu,18,[]),(.mn,19,[8]),(.pu,20,[]),(.mn,21,[8]),(.pu,22,[]),(.mn,23,[8])]),
 (4000015,.sch [(.pu,0,[]),(.pu,1,[]),(.pu,2,[]),(.pu,3,[]),(.pu,4,[]),(.pu,5,[]),(.mn,6,[0,1,2,3,4,5,6,7,8,9,10,11,12,13,14,15])]),
 (4000024,.sch [(.pu,0,[]),(.pu,1,[]),(.pu,2,[]),(.pu,3,[]),(.pu,4,[]),(.pu,5,[]),(.mn,6,[0,1,2,3,4,5,6,7])]),
 (4000032,.sch [(.pu,0,[]),(.pu,1,[]),(.pu,2,[]),(.pu,3,[]),(.pu,4,[]),(.pu,5,[]),(.mn,6,[0,1,2,3,4,5,6,7,8])]),
 (4000036,.sch [(.pu,0,[]),(.pu,1,[]),(.pu,2,[]),(.pu,3,[]),(.pu,4,[]),(.pu,5,[]),(.mn,6,[0,1,2,3,4,5,6,7,8,9,10,11])])]) (Γ:=⟨[(59,(yjM o)),(106,(zpF o)),(13,(zbD o)),(19,(zeC o)),(104,(zmE o)),(15,(zfS o))],[(11,(zsP o)),(169,(zfA o)),(170,(zjW o)),(171,(zjO o)),(172,(zgM o))],false,[]⟩) (ctok ⟨(zlH.cut (G:=tabs)),⟨zxG,⟨zbH,⟨zgA,⟨ztR,⟨zjB,trivial⟩⟩⟩⟩⟩⟩ ⟨zzY,⟨zjQ,⟨zsF,⟨zrN,⟨zmY,trivial⟩⟩⟩⟩⟩) Tryz.func75
def zxT(o:Ops)(v0:List Bs)(v7:Int)(v8:List zaJ)(v9:List zaG)(v10:List zaI)(v11:List zaK)(v12:List ((Bs×Bs)×Unit)):Option ((Int×zaS)⊕((Bool×zaS)⊕zaS)):=
 bif decide (v7<(v0.length:Int))then((idx v0 v7).bind fun v13=>(zdS o v13 v8 v9 v10 v11 v12).bind fun v14=>bif(!v14.1)then some (.inr (.inl (false,v14.2)))else(bif decide (v7>0)then((idx v0 (w64 (v7-1))).bind fun v15=>bif(Op.bytesLess v13 v15||v13==v15)then some (.inr (.inl (false,v14.2)))else some (.inl (w64 (v7+1),v14.2)))else some (.inl (w64 (v7+1),v14.2))))else some (.inr (.inr (v8,v9,v10,v11,v12)))
def zsJ(o:Ops)(v0:List Bs)(v1:Int)(v2:List zaJ)(v3:List zaG)(v4:List zaI)(v5:List zaK)(v6:List ((Bs×Bs)×Unit)):Option ((Bool×zaS)):=
 (iter (fun x=>zxT o v0 x.1 x.2.1 x.2.2.1 x.2.2.2.1 x.2.2.2.2.1 x.2.2.2.2.2) ((0:Int),v2,v3,v4,v5,v6)).bind fun v16=>match v16 with
 |.inl v17=>some v17
 |.inr v18=>some (decide ((v0.length:Int)≤v1),v18)
def zpK(o:Ops):SC:=⟨⟨[(0,(.h (.sl .s))),(1,hI),(2,(.fn 244 [] [(.ptr 0 0)]))],[zmD,zfK,zaC,zaE,zaD,zaB,.mp true (.pr .s .s) .un]⟩,1,[(none,⟨[(0,hB)],[zmD,zfK,zaC,zaE,zaD,zaB,.mp true (.pr .s .s) .un]⟩)],fun x=>zsJ o x.1 x.2.1 x.2.2.1 x.2.2.2.1 x.2.2.2.2.1 x.2.2.2.2.2.1 x.2.2.2.2.2.2⟩
theorem zxO:SCok Tryz.prog tabs 174 (zpK o):=zaT (o:=o) (η:=[(200002,.loop [] ⟨[(2,(.fn 244 [] [(.ptr 0 0)])),(11,hI)],[zmD,zfK,zaC,zaE,zaD,zaB,.mp true (.pr .s .s) .un]⟩ [0,1,9,10] [(some 1000000,⟨[(6,hB)],[zmD,zfK,zaC,zaE,zaD,zaB,.mp true (.pr .s .s) .un]⟩),(some 0,⟨[],[zmD,zfK,zaC,zaE,zaD,zaB,.mp true (.pr .s .s) .un]⟩)])]) (Γ:=⟨[],[(244,(zdN o))],false,[]⟩) (ctok trivial ⟨zgH,trivial⟩) Tryz.func174
def zxN(o:Ops)(v0:List Bs)(v7:Int)(v8:List zaJ)(v9:List zaG)(v10:List zaI)(v11:List zaK)(v12:List ((Bs×Bs)×Unit)):Option ((Int×zaS)⊕((Bool×zaS)⊕zaS)):=
 bif decide (v7<(v0.length:Int))then((idx v0 v7).bind fun v13=>(zeA o v13 v8 v9 v10 v11 v12).bind fun v14=>bif(!v14.1)then some (.inr (.inl (false,v14.2)))else(bif decide (v7>0)then((idx v0 (w64 (v7-1))).bind fun v15=>bif(Op.bytesLess v13 v15||v13==v15)then some (.inr (.inl (false,v14.2)))else some (.inl (w64 (v7+1),v14.2)))else some (.inl (w64 (v7+1),v14.2))))else some (.inr (.inr (v8,v9,v10,v11,v12)))
def zrV(o:Ops)(v0:List Bs)(v1:Int)(v2:List zaJ)(v3:List zaG)(v4:List zaI)(v5:List zaK)(v6:List ((Bs×Bs)×Unit)):Option ((Bool×zaS)):=
 (iter (fun x=>zxN o v0 x.1 x.2.1 x.2.2.1 x.2.2.2.1 x.2.2.2.2.1 x.2.2.2.2.2) ((0:Int),v2,v3,v4,v5,v6)).bind fun v16=>match v16 with
 |.inl v17=>some v17
 |.inr v18=>some (decide ((v0.length:Int)≤v1),v18)
def zoW(o:Ops):SC:=⟨⟨[(0,(.h (.sl .s))),(1,hI),(2,(.fn 245 [] [(.ptr 0 0)]))],[zmD,zfK,zaC,zaE,zaD,zaB,.mp true (.pr .s .s) .un]⟩,1,[(none,⟨[(0,hB)],[zmD,zfK,zaC,zaE,zaD,zaB,.mp true (.pr .s .s) .un]⟩)],fun x=>zrV o x.1 x.2.1 x.2.2.1 x.2.2.2.1 x.2.2.2.2.1 x.2.2.2.2.2.1 x.2.2.2.2.2.2⟩
theorem zxY:SCok Tryz.prog tabs 174 (zoW o):=zaT (o:=o) (η:=[(200002,.loop [] ⟨[(2,(.fn 245 [] [(.ptr 0 0)])),(11,hI)],[zmD,zfK,zaC,zaE,zaD,zaB,.mp true (.pr .s .s) .un]⟩ [0,1,9,10] [(some 1000000,⟨[(6,hB)],[zmD,zfK,zaC,zaE,zaD,zaB,.mp true (.pr .s .s) .un]⟩),(some 0,⟨[],[zmD,zfK,zaC,zaE,zaD,zaB,.mp true (.pr .s .s) .un]⟩)])]) (Γ:=⟨[],[(245,(zdQ o))],false,[]⟩) (ctok trivial ⟨zgN,trivial⟩) Tryz.func174
def zyB(o:Ops)(v0:List Bs)(v7:Int)(v8:List zaJ)(v9:List zaG)(v10:List zaI)(v11:List zaK)(v12:List ((Bs×Bs)×Unit)):Option ((Int×zaS)⊕((Bool×zaS)⊕zaS)):=
 bif decide (v7<(v0.length:Int))then((idx v0 v7).bind fun v13=>(zdW o v13 v8 v9 v10 v11 v12).bind fun v14=>bif(!v14.1)then some (.inr (.inl (false,v14.2)))else(bif decide (v7>0)then((idx v0 (w64 (v7-1))).bind fun v15=>bif(Op.bytesLess v13 v15||v13==v15)then some (.inr (.inl (false,v14.2)))else some (.inl (w64 (v7+1),v14.2)))else some (.inl (w64 (v7+1),v14.2))))else some (.inr (.inr (v8,v9,v10,v11,v12)))
def zrJ(o:Ops)(v0:List Bs)(v1:Int)(v2:List zaJ)(v3:List zaG)(v4:List zaI)(v5:List zaK)(v6:List ((Bs×Bs)×Unit)):Option ((Bool×zaS)):=
 (iter (fun x=>zyB o v0 x.1 x.2.1 x.2.2.1 x.2.2.2.1 x.2.2.2.2.1 x.2.2.2.2.2) ((0:Int),v2,v3,v4,v5,v6)).bind fun v16=>match v16 with
 |.inl v17=>some v17
 |.inr v18=>some (decide ((v0.length:Int)≤v1),v18)
def zpJ(o:Ops):SC:=⟨⟨[(0,(.h (.sl .s))),(1,hI),(2,(.fn 246 [] [(.ptr 0 0)]))],[zmD,zfK,zaC,zaE,zaD,zaB,.mp true (.pr .s .s) .un]⟩,1,[(none,⟨[(0,hB)],[zmD,zfK,zaC,zaE,zaD,zaB,.mp true (.pr .s .s) .un]⟩)],fun x=>zrJ o x.1 x.2.1 x.2.2.1 x.2.2.2.1 x.2.2.2.2.1 x.2.2.2.2.2.1 x.2.2.2.2.2.2⟩
theorem zxU:SCok Tryz.prog tabs 174 (zpJ o):=zaT (o:=o) (η:=[(200002,.loop [] ⟨[(2,(.fn 246 [] [(.ptr 0 0)])),(11,hI)],[zmD,zfK,zaC,zaE,zaD,zaB,.mp true (.pr .s .s) .un]⟩ [0,1,9,10] [(some 1000000,⟨[(6,hB)],[zmD,zfK,zaC,zaE,zaD,zaB,.mp true (.pr .s .s) .un]⟩),(some 0,⟨[],[zmD,zfK,zaC,zaE,zaD,zaB,.mp true (.pr .s .s) .un]⟩)])]) (Γ:=⟨[],[(246,(zdP o))],false,[]⟩) (ctok trivial ⟨zgS,trivial⟩) Tryz.func174
def zgP(_o:Ops)(v0:Bs)(v1:List zbW):Option ((Bool×List zbW)):=
 let _v2:List Bs:=zgX keqS v1 v0 ([]:List Bs)
 some (mhas keqS v1 v0,v1)
def zfT(o:Ops):SC:=⟨⟨[(0,hS),(1,(.ptr 0 0))],[ycZ,.mp true .s (.sl .s)]⟩,1,[(none,⟨[(0,hB)],[ycZ,.mp true .s (.sl .s)]⟩)],fun x=>zgP o x.1 x.2⟩
theorem zmG:SCok Tryz.prog tabs 247 (zfT o):=zaT (o:=o) (η:=[]) (Γ:=⟨[],[],false,[]⟩) (ctok trivial trivial) Tryz.func247
def ztG(o:Ops)(v0:List Bs)(v2:Int)(v3:List zbW):Option ((Int×List zbW)⊕((Int×List zbW)⊕(List zbW))):=
 bif decide (v2<(v0.length:Int))then((idx v0 v2).bind fun v4=>(zgP o v4 v3).bind fun v5=>bif v5.1 then some (.inr (.inl (v2,v5.2)))else some (.inl (w64 (v2+1),v5.2)))else some (.inr (.inr v3))
def zlO(o:Ops)(v0:List Bs)(v1:List zbW):Option ((Int×List zbW)):=
 (iter (fun x=>ztG o v0 x.1 x.2) ((0:Int),v1)).bind fun v6=>match v6 with
 |.inl v7=>some v7
 |.inr v8=>some ((-1:Int),v8)
def zkM(o:Ops):SC:=⟨⟨[(0,(.h (.sl .s))),(1,(.fn 247 [] [(.ptr 0 0)]))],[ycZ,.mp true .s (.sl .s)]⟩,1,[(none,⟨[(0,hI)],[ycZ,.mp true .s (.sl .s)]⟩)],fun x=>zlO o x.1 x.2⟩
theorem ztK:SCok Tryz.prog tabs 212 (zkM o):=zaT (o:=o) (η:=[(200002,.loop [] ⟨[(1,(.fn 247 [] [(.ptr 0 0)])),(8,hI)],[ycZ,.mp true .s (.sl .s)]⟩ [0,7] [(some 1000000,⟨[(4,hI)],[ycZ,.mp true .s (.sl .s)]⟩),(some 0,⟨[],[ycZ,.mp true .s (.sl .s)]⟩)])]) (Γ:=⟨[],[(247,(zfT o))],false,[]⟩) (ctok trivial ⟨zmG,trivial⟩) Tryz.func212
def ziF(o:Ops)(v0:List Bs)(v1:List zbW):Option ((Bool×List zbW)):=
 (zlO o v0 v1).bind fun v2=>some (decide (v2.1≥0),v2.2)
def ziA(o:Ops):SC:=⟨⟨[(0,(.h (.sl .s))),(1,(.fn 247 [] [(.ptr 0 0)]))],[ycZ,.mp true .s (.sl .s)]⟩,1,[(none,⟨[(0,hB)],[ycZ,.mp true .s (.sl .s)]⟩)],fun x=>ziF o x.1 x.2⟩
theorem znX:SCok Tryz.prog tabs 129 (ziA o):=zaT (o:=o) (η:=[]) (Γ:=⟨[],[(212,(zkM o))],false,[]⟩) (ctok trivial ⟨ztK,trivial⟩) Tryz.func129
noncomputable def zoP(_o:Ops)(v5:List zaJ)(v6:List zaG)(v7:List zaI)(v8:List zaK)(v9:List ((Bs×Bs)×Unit))(v10:List Bs)(v11:List zbW):List (Option (((List zaJ)×(List zaG)×(List zaI)×(List zaK)×(List ((Bs×Bs)×Unit))×(List Bs)×List zbW)⊕(((List zaJ)×(List zaG)×(List zaI)×(List zaK)×(List ((Bs×Bs)×Unit))×List zbW)))):=
 rngL (rngC keqS v6 v10) (some (.inr (v5,v6,v7,v8,v9,v11))) fun v12=>(mget keqS v6 v12.1).bind fun v13=>let v14:List zbW:=mset keqS kltS v11 v12.1 v13.1.2.1
 some (.inl (v5,v6,v7,v8,v9,rngD keqS v10 v12.1,v14))
noncomputable def zoH(_o:Ops)(v16:Bool)(v17:List zaJ)(v18:List zaG)(v19:List zaI)(v20:List zaK)(v21:List ((Bs×Bs)×Unit))(v22:List zbW):Option (((Bool×(List zaJ)×(List zaG)×(List zaI)×(List zaK)×(List ((Bs×Bs)×Unit))×List zbW)⊕(Bool×(List zaJ)×(List zaG)×(List zaI)×(List zaK)×(List ((Bs×Bs)×Unit))×(List Bs)×List zbW))⊕(((List zaJ)×(List zaG)×(List zaI)×(List zaK)×(List ((Bs×Bs)×Unit))×List zbW))):=
 bif v16 then some (.inl (.inr (false,v17,v18,v19,v20,v21,List.map Prod.fst v22,v22)))else some (.inr (v17,v18,v19,v20,v21,v22))
noncomputable def zoB(o:Ops)(v23:Bool)(v24:List zaJ)(v25:List zaG)(v26:List zaI)(v27:List zaK)(v28:List ((Bs×Bs)×Unit))(v29:List Bs)(v30:List zbW):List (Option (((Bool×(List zaJ)×(List zaG)×(List zaI)×(List zaK)×(List ((Bs×Bs)×Unit))×List zbW)⊕(Bool×(List zaJ)×(List zaG)×(List zaI)×(List zaK)×(List ((Bs×Bs)×Unit))×(List Bs)×List zbW))⊕(((List zaJ)×(List zaG)×(List zaI)×(List zaK)×(List ((Bs×Bs)×Unit))×List zbW)))):=
 rngL (rngC keqS v30 v29) (some (.inl (.inl (v23,v24,v25,v26,v27,v28,v30)))) fun v31=>(mget keqS v30 v31.1).bind fun v32=>(ziF o v32 v30).bind fun v33=>bif(!v33.1)then some (.inl (.inr (true,v24,v25,v26,v27,v28,rngD keqS v29 v31.1,mdel keqS v33.2 v31.1)))else some (.inl (.inr (v23,v24,v25,v26,v27,v28,rngD keqS v29 v31.1,v33.2)))
noncomputable def zoF(o:Ops):(Bool×(List zaJ)×(List zaG)×(List zaI)×(List zaK)×(List ((Bs×Bs)×Unit))×List zbW)⊕(Bool×(List zaJ)×(List zaG)×(List zaI)×(List zaK)×(List ((Bs×Bs)×Unit))×(List Bs)×List zbW)→List (Option (((Bool×(List zaJ)×(List zaG)×(List zaI)×(List zaK)×(List ((Bs×Bs)×Unit))×List zbW)⊕(Bool×(List zaJ)×(List zaG)×(List zaI)×(List zaK)×(List ((Bs×Bs)×Unit))×(List Bs)×List zbW))⊕(((List zaJ)×(List zaG)×(List zaI)×(List zaK)×(List ((Bs×Bs)×Unit))×List zbW))))
 |.inl x=>[zoH o x.1 x.2.1 x.2.2.1 x.2.2.2.1 x.2.2.2.2.1 x.2.2.2.2.2.1 x.2.2.2.2.2.2]
 |.inr x=>zoB o x.1 x.2.1 x.2.2.1 x.2.2.2.1 x.2.2.2.2.1 x.2.2.2.2.2.1 x.2.2.2.2.2.2.1 x.2.2.2.2.2.2.2
noncomputable def zbS(o:Ops)(v0:List zaJ)(v1:List zaG)(v2:List zaI)(v3:List zaK)(v4:List ((Bs×Bs)×Unit)):Option ((Bool×zaS)):=
 (rngA (fun x=>zoP o x.1 x.2.1 x.2.2.1 x.2.2.2.1 x.2.2.2.2.1 x.2.2.2.2.2.1 x.2.2.2.2.2.2) (v0,v1,v2,v3,v4,List.map Prod.fst v1,([]:List zbW))).bind fun v15=>(rngA (zoF o) (Sum.inl (true,v15))).bind fun v34=>some (((v34.2.2.2.2.2.length:Int)==0),v34.1,v34.2.1,v34.2.2.1,v34.2.2.2.1,v34.2.2.2.2.1)
noncomputable def zhM(o:Ops):SC:=⟨⟨[(0,(.ptr 0 0))],[zaO,zaC,zaE,zaD,zaB,.mp true (.pr .s .s) .un]⟩,1,[(none,⟨[(0,hB)],[zaO,zaC,zaE,zaD,zaB,.mp true (.pr .s .s) .un]⟩)],fun x=>zbS o x.1 x.2.1 x.2.2.1 x.2.2.2.1 x.2.2.2.2⟩
theorem zoU:SCok Tryz.prog tabs 175 (zhM o):=witO (G:=tabs) (o:=o)<|xcF (H:=⟨[false,false,false,true,false],[],⟨[(3,(.ptr 6 0)),(6,hB)],[zaO,zaC,zaE,zaD,zaB,.mp true (.pr .s .s) .un,yxT,.mp true .s (.sl .s)]⟩,[2],[(some 2,⟨[(3,(.ptr 6 0))],[zaO,zaC,zaE,zaD,zaB,.mp true (.pr .s .s) .un,yxT,.mp true .s (.sl .s)]⟩)],[false,false,false],⟨[(3,(.ptr 6 0)),(6,hB),(27,(.ptr 7 0))],[zaO,zaC,zaE,zaD,zaB,.mp true (.pr .s .s) .un,.blk 237 [(.mpr 8)],.it 8 true .s,.mp true .s (.sl .s)]⟩,[2]⟩) (η:=[(200003,.rng [] ⟨[(3,(.ptr 6 0)),(14,(.ptr 7 0))],[zaO,zaC,zaE,zaD,zaB,.mp true (.pr .s .s) .un,.blk 237 [(.mpr 8)],.it 2 true .s,.mp true .s (.sl .s)]⟩ [2] [(some 0,⟨[(3,(.ptr 6 0))],[zaO,zaC,zaE,zaD,zaB,.mp true (.pr .s .s) .un,yxT,.mp true .s (.sl .s)]⟩)])]) (Γ:=⟨[],[(129,(ziA o))],false,[]⟩) zxC τ_okWkF (ctok trivial ⟨znX,trivial⟩) Tryz.func175 (isFn Tryz.func175) (by kernel_rfl) (by kernel_rfl) (by kernel_rfl)
noncomputable def ziQ(_o:Ops)(v0:List zaJ)(v1:List zaG)(v2:List zaI)(v3:List zaK)(v4:List ((Bs×Bs)×Unit)):Option ((Bool×zaS)⊕zaS):=
 bif decide ((v0.length:Int)>64)then some (.inl (false,v0,v1,v2,v3,v4))else(bif decide ((v1.length:Int)>32)then some (.inl (false,v0,v1,v2,v3,v4))else(bif decide ((v2.length:Int)>32)then some (.inl (false,v0,v1,v2,v3,v4))else(bif decide ((v3.length:Int)>32)then some (.inl (false,v0,v1,v2,v3,v4))else(bif decide ((v4.length:Int)>64)then some (.inl (false,v0,v1,v2,v3,v4))else some (.inr (v0,v1,v2,v3,v4))))))
noncomputable def zpU(_o:Ops)(v17:Int)(v18:List zaJ)(v19:List zaG)(v20:List zaI)(v21:List zaK)(v22:List ((Bs×Bs)×Unit))(v23:List Bs)(v24:List Bs)(v25:List Bs)(v26:Int)(v27:List Bs):Option (((List zaJ)×(List zaG)×(List zaI)×(List zaK)×(List ((Bs×Bs)×Unit))×(List Bs)×(List Bs)×(List Bs)×Int×List Bs)⊕((List zaJ)×(List zaG)×(List zaI)×(List zaK)×(List ((Bs×Bs)×Unit))×(List Bs)×(List Bs)×(List Bs)×Int×List Bs)⊕((List zaJ)×(List zaG)×(List zaI)×(List zaK)×(List ((Bs×Bs)×Unit))×(List Bs)×(List Bs)×(List Bs)×Int×List Bs)):=
 bif decide (v17=(0:Int))then some (.inl (v18,v19,v20,v21,v22,v23,v24,v25,v26,v27))else(bif decide (v17=(1:Int))then some (.inr (.inl (v18,v19,v20,v21,v22,v23,v24,v25,v26,v27)))else(bif decide (v17=(2:Int))then some (.inr (.inr (v18,v19,v20,v21,v22,v23,v24,v25,v26,v27)))else none))
noncomputable def zpS(o:Ops)(v17:Int)(v18:List zaJ)(v19:List zaG)(v20:List zaI)(v21:List zaK)(v22:List ((Bs×Bs)×Unit))(v23:List Bs)(v24:List Bs)(v25:List Bs)(v26:Int)(v27:List Bs):Option ((Int×(List zaJ)×(List zaG)×(List zaI)×(List zaK)×(List ((Bs×Bs)×Unit))×(List Bs)×(List Bs)×(List Bs)×Int×List Bs)⊕((Bool×zaS)⊕((List zaJ)×(List zaG)×(List zaI)×(List zaK)×(List ((Bs×Bs)×Unit))×List Bs))):=
 bif decide (v17<3)then((zpU o v17 v18 v19 v20 v21 v22 v23 v24 v25 v26 v27).bind fun v28=>match v28 with
 |.inl v29=>((zsJ o v29.2.2.2.2.2.1 (v29.2.2.2.2.2.1.length:Int) v29.1 v29.2.1 v29.2.2.1 v29.2.2.2.1 v29.2.2.2.2.1).bind fun v31=>bif(!v31.1)then some (.inr (.inl (false,v31.2)))else some (.inl (w64 (v17+1),v31.2.1,v31.2.2.1,v31.2.2.2.1,v31.2.2.2.2.1,v31.2.2.2.2.2,v29.2.2.2.2.2)))
 |.inr v30=>(match v30 with
 |.inl v32=>((zrV o v32.2.2.2.2.2.2.1 (v32.2.2.2.2.2.2.1.length:Int) v32.1 v32.2.1 v32.2.2.1 v32.2.2.2.1 v32.2.2.2.2.1).bind fun v34=>bif(!v34.1)then some (.inr (.inl (false,v34.2)))else some (.inl (w64 (v17+1),v34.2.1,v34.2.2.1,v34.2.2.2.1,v34.2.2.2.2.1,v34.2.2.2.2.2,v32.2.2.2.2.2)))
 |.inr v33=>((zrJ o v33.2.2.2.2.2.2.2.1 (v33.2.2.2.2.2.2.2.1.length:Int) v33.1 v33.2.1 v33.2.2.1 v33.2.2.2.1 v33.2.2.2.2.1).bind fun v35=>bif(!v35.1)then some (.inr (.inl (false,v35.2)))else some (.inl (w64 (v17+1),v35.2.1,v35.2.2.1,v35.2.2.2.1,v35.2.2.2.2.1,v35.2.2.2.2.2,v33.2.2.2.2.2)))))else some (.inr (.inr (v18,v19,v20,v21,v22,v27)))
noncomputable def zpZ(o:Ops)(v8:List zaJ)(v9:List zaG)(v10:List zaI)(v11:List zaK)(v12:List ((Bs×Bs)×Unit))(v13:List Bs):List (Option (((List zaJ)×(List zaG)×(List zaI)×(List zaK)×(List ((Bs×Bs)×Unit))×List Bs)⊕(zaS⊕(Bool×zaS)))):=
 rngL (rngC keqS v9 v13) (some (.inr (.inl (v8,v9,v10,v11,v12)))) fun v14=>(mget keqS v9 v14.1).bind fun v15=>(zcA o v8 v9 v10 v11 v12).bind fun v16=>(iter (fun x=>zpS o x.1 x.2.1 x.2.2.1 x.2.2.2.1 x.2.2.2.2.1 x.2.2.2.2.2.1 x.2.2.2.2.2.2.1 x.2.2.2.2.2.2.2.1 x.2.2.2.2.2.2.2.2.1 x.2.2.2.2.2.2.2.2.2.1 x.2.2.2.2.2.2.2.2.2.2) ((0:Int),v16.1,v16.2.1,v16.2.2.1,v16.2.2.2.1,v16.2.2.2.2,v15.1.1,v15.1.2.1,v15.1.2.2,v15.2,rngD keqS v13 v14.1)).bind fun v36=>match v36 with
 |.inl v37=>some (.inr (.inr v37))
 |.inr v38=>some (.inl v38)
noncomputable def zqG(o:Ops)(v42:List zaJ)(v43:List zaG)(v44:List zaI)(v45:List zaK)(v46:List ((Bs×Bs)×Unit))(v47:List (Bs×Bs)):List (Option (((List zaJ)×(List zaG)×(List zaI)×(List zaK)×(List ((Bs×Bs)×Unit))×List (Bs×Bs))⊕(zaS⊕(Bool×zaS)))):=
 rngL (rngC (keq (.pr .s .s)) v46 v47) (some (.inr (.inl (v42,v43,v44,v45,v46)))) fun v48=>(mget (keq (.pr .s .s)) v46 v48.1).bind fun _v49=>(zdC o v48.1.1 v42 v43 v44 v45 v46).bind fun v50=>bif(!v50.1)then some (.inr (.inr (false,v50.2)))else((zdC o v48.1.2 v50.2.1 v50.2.2.1 v50.2.2.2.1 v50.2.2.2.2.1 v50.2.2.2.2.2).bind fun v51=>bif(!v51.1)then some (.inr (.inr (false,v51.2)))else some (.inl (v51.2.1,v51.2.2.1,v51.2.2.2.1,v51.2.2.2.2.1,v51.2.2.2.2.2,rngD (keq (.pr .s .s)) v47 v48.1)))
noncomputable def zbY(o:Ops)(v0:List zaJ)(v1:List zaG)(v2:List zaI)(v3:List zaK)(v4:List ((Bs×Bs)×Unit)):Option ((Bool×zaS)):=
 (ziQ o v0 v1 v2 v3 v4).bind fun v5=>match v5 with
 |.inl v6=>some v6
 |.inr v7=>((rngA (fun x=>zpZ o x.1 x.2.1 x.2.2.1 x.2.2.2.1 x.2.2.2.2.1 x.2.2.2.2.2) (v7.1,v7.2.1,v7.2.2.1,v7.2.2.2.1,v7.2.2.2.2,List.map Prod.fst v7.2.1)).bind fun v39=>match v39 with
 |.inl v40=>((rngA (fun x=>zqG o x.1 x.2.1 x.2.2.1 x.2.2.2.1 x.2.2.2.2.1 x.2.2.2.2.2) (v40.1,v40.2.1,v40.2.2.1,v40.2.2.2.1,v40.2.2.2.2,List.map Prod.fst v40.2.2.2.2)).bind fun v52=>match v52 with
 |.inl v53=>((zbS o v53.1 v53.2.1 v53.2.2.1 v53.2.2.2.1 v53.2.2.2.2).bind fun v55=>some v55)
 |.inr v54=>some v54)
 |.inr v41=>some v41)
noncomputable def ziV(o:Ops):SC:=⟨⟨[(0,(.ptr 0 0))],[zaO,zaC,zaE,zaD,zaB,.mp true (.pr .s .s) .un]⟩,1,[(none,⟨[(0,hB)],[zaO,zaC,zaE,zaD,zaB,.mp true (.pr .s .s) .un]⟩)],fun x=>zbY o x.1 x.2.1 x.2.2.1 x.2.2.2.1 x.2.2.2.2⟩
theorem zqD:SCok Tryz.prog tabs 76 (ziV o):=zaT (o:=o) (η:=[(2000003,.join [] [] [(some 1000000,⟨[(2,hB)],[zaO,zaC,zaE,zaD,zaB,.mp true (.pr .s .s) .un]⟩),(none,⟨[(0,(.ptr 0 0))],[zaO,zaC,zaE,zaD,zaB,.mp true (.pr .s .s) .un]⟩)]),
 (2000009,.join [] [57] [(none,⟨[(0,(.ptr 0 0)),(4,(.ptr 6 0)),(6,(.ptr 7 0)),(50,(.ptr 8 0)),(56,(.ag [(.kn .i64 0),(.fn 244 [] [(.ptr 9 0)]),(.kn .i64 1),(.fn 245 [] [(.ptr 9 0)]),(.kn .i64 2),(.fn 246 [] [(.ptr 9 0)])]))],[zaO,zaC,zaE,zaD,zaB,.mp true (.pr .s .s) .un,zqA,.blk 187 [(.kn .i64 0),(.fn 244 [] [(.ptr 9 0)])],.it 2 true .s,zsG]⟩),(none,⟨[(0,(.ptr 0 0)),(4,(.ptr 6 0)),(6,(.ptr 7 0)),(50,(.ptr 8 0)),(56,(.ag [(.kn .i64 0),(.fn 244 [] [(.ptr 9 0)]),(.kn .i64 1),(.fn 245 [] [(.ptr 9 0)]),(.kn .i64 2),(.fn 246 [] [(.ptr 9 0)])]))],[zaO,zaC,zaE,zaD,zaB,.mp true (.pr .s .s) .un,zqA,.blk 187 [(.kn .i64 1),(.fn 245 [] [(.ptr 9 0)])],.it 2 true .s,zsG]⟩),(none,⟨[(0,(.ptr 0 0)),(4,(.ptr 6 0)),(6,(.ptr 7 0)),(50,(.ptr 8 0)),(56,(.ag [(.kn .i64 0),(.fn 244 [] [(.ptr 9 0)]),(.kn .i64 1),(.fn 245 [] [(.ptr 9 0)]),(.kn .i64 2),(.fn 246 [] [(.ptr 9 0)])]))],[zaO,zaC,zaE,zaD,zaB,.mp true (.pr .s .s) .un,zqA,.blk 187 [(.kn .i64 2),(.fn 246 [] [(.ptr 9 0)])],.it 2 true .s,zsG]⟩)]),
 (200007,.loop [] ⟨[(0,(.ptr 0 0)),(4,(.ptr 6 0)),(50,(.ptr 7 0)),(56,(.ag [(.kn .i64 0),(.fn 244 [] [(.ptr 8 0)]),(.kn .i64 1),(.fn 245 [] [(.ptr 8 0)]),(.kn .i64 2),(.fn 246 [] [(.ptr 8 0)])])),(57,hI)],[zaO,zaC,zaE,zaD,zaB,.mp true (.pr .s .s) .un,zqA,.it 2 true .s,zsG]⟩ [] [(some 1000000,⟨[(2,hB)],[zaO,zaC,zaE,zaD,zaB,.mp true (.pr .s .s) .un]⟩),(some 2,⟨[(0,(.ptr 0 0)),(50,(.ptr 6 0))],[zaO,zaC,zaE,zaD,zaB,.mp true (.pr .s .s) .un,.it 2 true .s]⟩)]),
 (200004,.rng [] ⟨[(0,(.ptr 0 0)),(50,(.ptr 6 0))],[zaO,zaC,zaE,zaD,zaB,.mp true (.pr .s .s) .un,.it 2 true .s]⟩ [] [(some 0,⟨[(0,(.ptr 0 0))],[zaO,zaC,zaE,zaD,zaB,.mp true (.pr .s .s) .un]⟩),(some 1000000,⟨[(2,hB)],[zaO,zaC,zaE,zaD,zaB,.mp true (.pr .s .s) .un]⟩)]),
 (200013,.rng [] ⟨[(0,(.ptr 0 0)),(80,(.ptr 6 0))],[zaO,zaC,zaE,zaD,zaB,.mp true (.pr .s .s) .un,.it 5 true (.pr .s .s)]⟩ [] [(some 4,⟨[(0,(.ptr 0 0))],[zaO,zaC,zaE,zaD,zaB,.mp true (.pr .s .s) .un]⟩),(some 1000000,⟨[(2,hB)],[zaO,zaC,zaE,zaD,zaB,.mp true (.pr .s .s) .un]⟩)]),
 (4000009,.sch [(.pu,0,[]),(.pu,1,[]),(.pu,2,[]),(.pu,3,[]),(.pu,4,[]),(.pu,5,[]),(.pu,6,[]),(.pu,7,[]),(.pu,8,[]),(.pu,9,[]),(.pu,10,[]),(.pu,11,[]),(.pu,12,[]),(.mn,13,[0,1,2,3,4,5,9]),(.pu,14,[])])]) (Γ:=⟨[],[(173,(zbR o)),(174,(zpK o)),(174,(zoW o)),(174,(zpJ o)),(128,(zeR o)),(175,(zhM o))],false,[]⟩) (ctok trivial ⟨zcU,⟨zxO,⟨zxY,⟨zxU,⟨ziJ,⟨zoU,trivial⟩⟩⟩⟩⟩⟩) Tryz.func76
noncomputable def ztM(o:Ops)(v0:List (Bs×Bs))(v2:Int)(v3:List zaJ)(v4:List zaG)(v5:List zaI)(v6:List zaK)(v7:List ((Bs×Bs)×Unit)):Option ((Int×zaS)⊕(Int⊕zaS)):=
 bif decide (v2<(v0.length:Int))then((idx v0 v2).bind fun v8=>bif decide (v2>0)then((idx v0 (w64 (v2-1))).bind fun v9=>bif(Op.bytesLess v8.1 v9.1||v8.1==v9.1)then some (.inr (.inl (125:Int)))else((zdJ o v8 v3 v4 v5 v6 v7).bind fun v10=>bif(!v10.1)then some (.inr (.inl (125:Int)))else some (.inl (w64 (v2+1),v10.2))))else((zdJ o v8 v3 v4 v5 v6 v7).bind fun v11=>bif(!v11.1)then some (.inr (.inl (125:Int)))else some (.inl (w64 (v2+1),v11.2))))else some (.inr (.inr (v3,v4,v5,v6,v7)))
noncomputable def zhE(o:Ops)(v0:List (Bs×Bs)):Option (Int⊕(Int×zaS)):=
 (zjM o).bind fun v1=>(iter (fun x=>ztM o v0 x.1 x.2.1 x.2.2.1 x.2.2.2.1 x.2.2.2.2.1 x.2.2.2.2.2) ((0:Int),v1)).bind fun v12=>match v12 with
 |.inl v13=>some (.inl v13)
 |.inr v14=>((zbY o v14.1 v14.2.1 v14.2.2.1 v14.2.2.2.1 v14.2.2.2.2).bind fun v15=>bif(!v15.1)then some (.inl (125:Int))else some (.inr ((0:Int),v15.2)))
noncomputable def ztT(o:Ops):SC:=⟨⟨[(0,(.h (.sl (.pr .s .s))))],[]⟩,2,[(none,⟨[(0,.nilp),(1,hI)],[]⟩),(none,⟨[(0,(.ptr 0 0)),(1,hI)],[zaO,zaC,zaE,zaD,zaB,.mp true (.pr .s .s) .un]⟩)],fun x=>zhE o x⟩
theorem ybD:SCok Tryz.prog tabs 25 (ztT o):=zaT (o:=o) (η:=[(200003,.loop [] ⟨[(4,(.ptr 0 0)),(10,hI)],[zaO,zaC,zaE,zaD,zaB,.mp true (.pr .s .s) .un]⟩ [0,8,9] [(some 1000000,⟨[(2,.nilp),(3,hI)],[]⟩),(some 0,⟨[(4,(.ptr 0 0))],[zaO,zaC,zaE,zaD,zaB,.mp true (.pr .s .s) .un]⟩)]),
 (4000005,.sch [(.pu,0,[]),(.pu,1,[]),(.pu,2,[]),(.pu,3,[]),(.pu,4,[]),(.pu,5,[]),(.pu,6,[]),(.pu,7,[]),(.pu,8,[]),(.pu,9,[]),(.pu,10,[]),(.pu,11,[]),(.pu,12,[]),(.pu,13,[]),(.pu,14,[]),(.pu,15,[]),(.mn,16,[0,1,2,3,4,5]),(.pu,17,[]),(.pu,18,[])])]) (Γ:=⟨[],[(30,(zoC o)),(75,(zfR o)),(76,(ziV o))],false,[]⟩) (ctok trivial ⟨zuM,⟨zmI,⟨zqD,trivial⟩⟩⟩) Tryz.func25
noncomputable def zhB(o:Ops)(v0:zaS):Option (Bool⊕zaS):=
 (zeB o ([97,110,110]:Bs) ([97,64,120]:Bs) v0.1 v0.2.1 v0.2.2.1 v0.2.2.2.1 v0.2.2.2.2).bind fun v1=>bif(v1.1 != 0)then some (.inl false)else((zeB o ([97,110,110]:Bs) ([97,64,120]:Bs) v1.2.1 v1.2.2.1 v1.2.2.2.1 v1.2.2.2.2.1 v1.2.2.2.2.2).bind fun v2=>bif(v2.1 != 121)then some (.inl false)else((zdO o ([103]:Bs) v2.2.1 v2.2.2.1 v2.2.2.2.1 v2.2.2.2.2.1 v2.2.2.2.2.2).bind fun v3=>bif(v3.1 != 0)then some (.inl false)else((zdO o ([104]:Bs) v3.2.1 v3.2.2.1 v3.2.2.2.1 v3.2.2.2.2.1 v3.2.2.2.2.2).bind fun v4=>bif(v4.1 != 0)then some (.inl false)else((zfL o ([103]:Bs) ([104]:Bs) v4.2.1 v4.2.2.1 v4.2.2.2.1 v4.2.2.2.2.1 v4.2.2.2.2.2).bind fun v5=>bif(v5.1 != 0)then some (.inl false)else((zfL o ([104]:Bs) ([103]:Bs) v5.2.1 v5.2.2.1 v5.2.2.2.1 v5.2.2.2.2.1 v5.2.2.2.2.2).bind fun v6=>bif(v6.1 != 123)then some (.inl false)else((zkI o ([104]:Bs) ([97,110,110]:Bs) v6.2.1 v6.2.2.1 v6.2.2.2.1 v6.2.2.2.2.1 v6.2.2.2.2.2).bind fun v7=>bif(v7.1 != 0)then some (.inl false)else some (.inr v7.2)))))))
noncomputable def zdV(o:Ops)(v10:zaS):Option (Bool⊕zaS):=
 (zhO o (([114]:Bs),([([114,101,97,100]:Bs)]:List Bs)) v10.1 v10.2.1 v10.2.2.1 v10.2.2.2.1 v10.2.2.2.2).bind fun v11=>bif(v11.1 != 0)then some (.inl false)else((zkK o ([103]:Bs) ([114]:Bs) v11.2.1 v11.2.2.1 v11.2.2.2.1 v11.2.2.2.2.1 v11.2.2.2.2.2).bind fun v12=>bif(v12.1 != 0)then some (.inl false)else((ziK o ([117,58,97,110,110]:Bs) v12.2.1 v12.2.2.1 v12.2.2.2.1 v12.2.2.2.2.1 v12.2.2.2.2.2).bind fun v13=>bif(!v13.1)then some (.inl false)else some (.inr v13.2)))
noncomputable def zeQ(o:Ops):Option (Bool):=
 (zjM o).bind fun v0=>(zhB o v0).bind fun v8=>match v8 with
 |.inl v9=>(some v9)
 |.inr v10=>((zdV o v10).bind fun v14=>match v14 with
 |.inl v15=>(some v15)
 |.inr v16=>((zcE o ([97,110,110]:Bs) v16.1 v16.2.1 v16.2.2.1 v16.2.2.2.1 v16.2.2.2.2).bind fun v17=>(zcB o ([97,110,110]:Bs) v17.2.1 v17.2.2.1 v17.2.2.2.1 v17.2.2.2.2.1 v17.2.2.2.2.2).bind fun v18=>(zdI o v18.2.1 v18.2.2.1 v18.2.2.2.1 v18.2.2.2.2.1 v18.2.2.2.2.2).bind fun v19=>(zhE o v19.1).bind fun v20=>match v20 with
 |.inl _v21=>(bif((v17.1.length:Int)==2)then((idx v17.1 (0:Int)).bind fun v23=>bif(v23==([103]:Bs))then(bif((v18.1.length:Int)==1)then((idx v18.1 (0:Int)).bind fun v24=>bif(v24==([114,101,97,100]:Bs))then(bif((v19.1.length:Int)==4)then((idx v19.1 (1:Int)).bind fun v25=>let v26:Bool:=((v25.1==([103,114,111,117,112,47,104]:Bs))&&(v25.2==([49,58,50,49,58,49,51,58,97,110,110,49,58,48,49,58,48]:Bs)))
 bif v26 then(some false)else(some false))else(some false))else(some false))else(some false))else(some false))else(some false))
 |.inr v22=>(bif((v17.1.length:Int)==2)then((idx v17.1 (0:Int)).bind fun v27=>bif(v27==([103]:Bs))then(bif((v18.1.length:Int)==1)then((idx v18.1 (0:Int)).bind fun v28=>bif(v28==([114,101,97,100]:Bs))then(bif((v19.1.length:Int)==4)then((idx v19.1 (1:Int)).bind fun v29=>let v30:Bool:=((v29.1==([103,114,111,117,112,47,104]:Bs))&&(v29.2==([49,58,50,49,58,49,51,58,97,110,110,49,58,48,49,58,48]:Bs)))
 bif v30 then(bif(v22.1==0)then((o.form ([([97,98]:Bs),([]:Bs)]:List Bs)).bind fun v31=>some (v31==([50,58,97,98,48,58]:Bs)))else(some false))else(some false))else(some false))else(some false))else(some false))else(some false))else(some false))))
noncomputable def zhF(o:Ops):PC:=⟨[],[.b],fun _=>zeQ o,false⟩
theorem zoS:PCok Tryz.prog tabs 24 (zhF o):=zdR (o:=o) (η:=[(2000004,.join [] [] [(some 1000000,⟨[(0,hB)],[]⟩),(none,⟨[(1,(.ptr 0 0))],[zaO,zaC,zaE,zaD,zaB,.mp true (.pr .s .s) .un]⟩)]),
 (2000006,.join [] [] [(some 1000000,⟨[(0,hB)],[]⟩),(none,⟨[(1,(.ptr 0 0))],[zaO,zaC,zaE,zaD,zaB,.mp true (.pr .s .s) .un]⟩)])]) (Γ:=⟨[(22,(zvQ o))],[(30,(zoC o)),(71,(zgR o)),(72,(zfO o)),(33,(zjI o)),(73,(zkC o)),(36,(zgU o)),(74,(zjY o)),(49,(zhQ o)),(50,(zgD o)),(34,(ziE o)),(29,(zjN o)),(25,(ztT o))],false,[]⟩) (ctok ⟨(zlH.form (G:=tabs)),trivial⟩ ⟨zuM,⟨znK,⟨zmH,⟨zrI,⟨zsS,⟨zmR,⟨zsD,⟨zoM,⟨zlF,⟨zqE,⟨zrL,⟨ybD,trivial⟩⟩⟩⟩⟩⟩⟩⟩⟩⟩⟩⟩) Tryz.func24
end
end Go.Proofs.YtopanhneegpgcaaGreatDoor.Am
