/- What some functions compute, over plain values, and that they do. Conditions: as each theorem says. -/
import Derived.KernelRfl
import Derived.Test.YtopanhneegpgcaaGreatDoorQdK
namespace Go.Proofs.YtopanhneegpgcaaGreatDoor.Am
open Go Go.RowKit
def τWkF:TE:=[(3,⟨.int .i64,1,[.v (.i .i64) (show Int from 0)],(.i .i64),8⟩),
 (4,⟨.b,1,[.v .b (show Bool from false)],.b,1⟩),
 (9,⟨.s,1,[.v .s (show Bs from [])],.s,16⟩),
 (22,⟨.sl 9,1,[.nils],(.sl .s),24⟩),
 (25,⟨.fn,1,[.nilf],.un,8⟩),
 (31,⟨.sl 33,1,[.nils],(.sl (.pr .s .s)),24⟩),
 (33,⟨.st [(9,0),(9,1)],2,[.v .s (show Bs from []),.v .s (show Bs from [])],(.pr .s .s),32⟩),
 (34,⟨.pt 128,1,[.nilp],.un,8⟩),
 (49,⟨.st [(9,0),(22,1)],2,[.v .s (show Bs from []),.nils],(.pr .s (.sl .s)),40⟩),
 (51,⟨.st [(9,0),(9,1),(22,2),(22,3),(4,4),(4,5),(4,6),(4,7)],8,[.v .s (show Bs from []),.v .s (show Bs from []),.nils,.nils,.v .b (show Bool from false),.v .b (show Bool from false),.v .b (show Bool from false),.v .b (show Bool from false)],(.pr .s (.pr .s (.pr (.sl .s) (.pr (.sl .s) (.pr .b (.pr .b (.pr .b .b))))))),88⟩),
 (54,⟨.sl 57,1,[.nils],(.sl (.pr .s (.pr (.sl .s) (.pr (.sl .s) (.pr (.sl .s) (.i .i64)))))),24⟩),
 (57,⟨.st [(9,0),(22,1),(22,2),(22,3),(3,4)],5,[.v .s (show Bs from []),.nils,.nils,.nils,.v (.i .i64) (show Int from 0)],(.pr .s (.pr (.sl .s) (.pr (.sl .s) (.pr (.sl .s) (.i .i64))))),96⟩),
 (64,⟨.sl 51,1,[.nils],(.sl (.pr .s (.pr .s (.pr (.sl .s) (.pr (.sl .s) (.pr .b (.pr .b (.pr .b .b)))))))),24⟩),
 (67,⟨.sl 77,1,[.nils],(.sl (.pr .s (.pr .s (.pr .b (.i .i64))))),24⟩),
 (69,⟨.sl 49,1,[.nils],(.sl (.pr .s (.sl .s))),24⟩),
 (72,⟨.sl 75,1,[.nils],(.sl (.pr .s .s)),24⟩),
 (75,⟨.st [(9,0),(9,1)],2,[.v .s (show Bs from []),.v .s (show Bs from [])],(.pr .s .s),32⟩),
 (77,⟨.st [(9,0),(9,1),(4,2),(3,3)],4,[.v .s (show Bs from []),.v .s (show Bs from []),.v .b (show Bool from false),.v (.i .i64) (show Int from 0)],(.pr .s (.pr .s (.pr .b (.i .i64)))),48⟩),
 (106,⟨.ifc,1,[.v .er (show Bool from false)],.er,16⟩),
 (122,⟨.map 9 77,1,[.nilm],(.mp .s (.pr .s (.pr .s (.pr .b (.i .i64))))),8⟩),
 (123,⟨.map 9 133,1,[.nilm],(.mp .s (.pr (.pr (.sl .s) (.pr (.sl .s) (.sl .s))) (.i .i64))),8⟩),
 (124,⟨.map 9 49,1,[.nilm],(.mp .s (.pr .s (.sl .s))),8⟩),
 (125,⟨.map 9 51,1,[.nilm],(.mp .s (.pr .s (.pr .s (.pr (.sl .s) (.pr (.sl .s) (.pr .b (.pr .b (.pr .b .b)))))))),8⟩),
 (126,⟨.map 75 157,1,[.nilm],(.mp (.pr .s .s) .un),8⟩),
 (128,⟨.st [(122,0),(123,1),(124,2),(125,3),(126,4)],5,[.nilm,.nilm,.nilm,.nilm,.nilm],(.pr (.mp .s (.pr .s (.pr .s (.pr .b (.i .i64))))) (.pr (.mp .s (.pr (.pr (.sl .s) (.pr (.sl .s) (.sl .s))) (.i .i64))) (.pr (.mp .s (.pr .s (.sl .s))) (.pr (.mp .s (.pr .s (.pr .s (.pr (.sl .s) (.pr (.sl .s) (.pr .b (.pr .b (.pr .b .b)))))))) (.mp (.pr .s .s) .un))))),40⟩),
 (131,⟨.ar 3 22,3,[.nils,.nils,.nils],(.pr (.sl .s) (.pr (.sl .s) (.sl .s))),72⟩),
 (133,⟨.st [(131,0),(3,3)],4,[.nils,.nils,.nils,.v (.i .i64) (show Int from 0)],(.pr (.pr (.sl .s) (.pr (.sl .s) (.sl .s))) (.i .i64)),80⟩),
 (157,⟨.st [],0,[],.un,0⟩),
 (160,⟨.map 9 157,1,[.nilm],(.mp .s .un),8⟩),
 (183,⟨.st [(22,0),(4,1)],2,[.nils,.v .b (show Bool from false)],(.pr (.sl .s) .b),32⟩),
 (187,⟨.st [(3,0),(25,1)],2,[.v (.i .i64) (show Int from 0),.nilf],.un,16⟩),
 (188,⟨.ar 3 187,6,[.v (.i .i64) (show Int from 0),.nilf,.v (.i .i64) (show Int from 0),.nilf,.v (.i .i64) (show Int from 0),.nilf],.un,48⟩),
 (197,⟨.sl 22,1,[.nils],(.sl (.sl .s)),24⟩),
 (201,⟨.int .u64,1,[.v (.i .u64) (show UInt64 from 0)],(.i .u64),8⟩),
 (237,⟨.map 9 22,1,[.nilm],(.mp .s (.sl .s)),8⟩)]
theorem τ_okWkF:TEok Tryz.prog τWkF:=xcG (by kernel_rfl) (by kernel_rfl)
theorem ycS:Tryz.prog.follows .mixedOrders=true:=by kernel_rfl
theorem zbA {G : List (Nat × Obj)} {o : Ops} [zwC G] [zsQ G o] {Γ : CT} {η : HT} {f : FuncId} {fn : Func} {c : SC} (hΓ : ∀ B, GB G B → CTok Tryz.prog Γ B) (hf : Tryz.prog.funcs[f]? = some fn) (i : (fn.name == "runtime.NumGoroutine") = false := by kernel_rfl) (j : fn.body.isNone = false := by kernel_rfl) (l : Nat.ble c.I.sl.length fn.ntmps = true := by kernel_rfl) (r : Nat.beq fn.results.toList.length c.nr = true := by kernel_rfl) (e : fnS τWkF Γ η fn c.I c.outs = c.p := by kernel_rfl) : SCok Tryz.prog G f c := witO (G := G) (o := o) <| fn_sc ycS τ_okWkF hΓ hf (isFn hf i j) l r e
theorem zhB {G : List (Nat × Obj)} {o : Ops} [zwC G] [zsQ G o] {Γ : CT} {η : HT} {f : FuncId} {fn : Func} {c : PC} (hΓ : ∀ B, GB G B → CTok Tryz.prog Γ B) (hf : Tryz.prog.funcs[f]? = some fn) (i : (fn.name == "runtime.NumGoroutine") = false := by kernel_rfl) (j : fn.body.isNone = false := by kernel_rfl) (l : Nat.ble c.ash.length fn.ntmps = true := by kernel_rfl) (r : c.cl = false := by kernel_rfl) (e : fnP τWkF Γ η fn c.ash c.rts = c.p := by kernel_rfl) : PCok Tryz.prog G f c := witO (G := G) (o := o) <| fn_pc ycS τ_okWkF hΓ hf (isFn hf i j) l r e
abbrev ydE:Type:=(List Bs)×Bool
abbrev zdL:Type:=Bs×List Bs
abbrev ybU:Ty:=.pr .s (.sl .s)
abbrev zwQ:Type:=Bs×Bs×Bool×Int
abbrev ykM:Ty:=.pr .s (.pr .s (.pr .b (.i .i64)))
abbrev zaJ:Type:=Bs×zdL
abbrev zaI:Type:=Bs×zwQ
abbrev zzC:Type:=((List Bs)×(List Bs)×List Bs)×Int
abbrev ytP:Ty:=.pr (.pr (.sl .s) (.pr (.sl .s) (.sl .s))) (.i .i64)
abbrev zaH:Type:=Bs×zzC
abbrev ygZ:Type:=Bs×(List Bs)×(List Bs)×(List Bs)×Int
abbrev yuE:Ty:=.pr .s (.pr (.sl .s) (.pr (.sl .s) (.pr (.sl .s) (.i .i64))))
abbrev zsY:Type:=Bs×Bs×(List Bs)×(List Bs)×Bool×Bool×Bool×Bool
abbrev ybX:Ty:=.pr .s (.pr .s (.pr (.sl .s) (.pr (.sl .s) (.pr .b (.pr .b (.pr .b .b))))))
abbrev zaK:Type:=Bs×zsY
abbrev zaZ:Type:=(List (Bs×zwQ))×(List (Bs×zzC))×(List (Bs×zdL))×(List (Bs×zsY))×List ((Bs×Bs)×Unit)
abbrev zaU:OSh:=.blk 128 [(.mpr 1),(.mpr 2),(.mpr 3),(.mpr 4),(.mpr 5)]
abbrev zjE:OSh:=.blk 128 [(.mpr 2),(.mpr 3),(.mpr 4),(.mpr 5),(.mpr 6)]
abbrev zwL:OSh:=.blk 133 [(.h (.sl .s)),(.h (.sl .s)),(.h (.sl .s)),hI]
abbrev yuB:OSh:=.blk 133 [.nils,.nils,.nils,hI]
abbrev yaI:OSh:=.blk 183 [(.h (.sl .s)),hB]
abbrev zxI:OSh:=.blk 34 [(.ptr 0 0)]
abbrev zsH:OSh:=.blk 34 [(.ptr 1 0)]
abbrev ygE:OSh:=.blk 160 [(.mpr 1)]
abbrev ykX:OSh:=.blk 237 [(.mpr 1)]
abbrev QWkF9:OSh:=.blk 237 [(.mpr 7)]
abbrev ywC:OSh:=.mp false .s ykM
abbrev ybA:OSh:=.mp false .s ytP
abbrev yyP:OSh:=.mp false .s ybU
abbrev xfR:OSh:=.blk 31 [(.own 1)]
abbrev ywQ:OSh:=.blk 31 [(.own 2)]
abbrev ysD:OSh:=.blk 31 [(.own 8)]
abbrev yiK:OSh:=.blk 31 [(.own 7)]
abbrev zaD:OSh:=.mp true .s ykM
abbrev zaF:OSh:=.mp true .s ytP
abbrev zaE:OSh:=.mp true .s ybU
abbrev zaC:OSh:=.mp true .s ybX
abbrev zlZ:OSh:=.mp true .s .un
section
variable {tabs:List (Nat×Obj)}[zwC tabs]{o:Ops}[zsQ tabs o]
def ziA(_o:Ops):Option (zaZ):=
 some (([]:List zaI),([]:List zaH),([]:List zaJ),([]:List zaK),([]:List ((Bs×Bs)×Unit)))
def zqQ(o:Ops):SC:=⟨⟨[],[]⟩,1,[(none,⟨[(0,(.ptr 0 0))],[zaU,zaD,zaF,zaE,zaC,.mp true (.pr .s .s) .un]⟩)],fun _=>ziA o⟩
theorem zuU:SCok Tryz.prog tabs 30 (zqQ o):=zbA (o:=o) (η:=[]) (Γ:=⟨[],[],false,[]⟩) (ctok trivial trivial) Tryz.func30
def zkE(o:Ops)(v0:Bs)(v1:Int)(v2:Bs):Option (Bool):=
 bif(v0 != ([]:Bs))then(bif decide ((v0.length:Int)≤v1)then((o.trim v0 v2).bind fun v3=>some (v3==([]:Bs)))else(some false))else(some false)
def zxM(o:Ops):PC:=⟨[hS,hI,hS],[.b],fun x=>zkE o x.1 x.2.1 x.2.2,false⟩
theorem ycV:PCok Tryz.prog tabs 63 (zxM o):=zhB (o:=o) (η:=[]) (Γ:=⟨[(164,(yjY o))],[],false,[]⟩) (ctok ⟨(zsQ.trim (G:=tabs)),trivial⟩ trivial) Tryz.func63
def zaQ(o:Ops)(v0:Bs):Option (Bool):=
 (zkE o v0 (24:Int) ([97,98,99,100,101,102,103,104,105,106,107,108,109,110,111,112,113,114,115,116,117,118,119,120,121,122,48,49,50,51,52,53,54,55,56,57,46,95,45]:Bs)).bind fun v1=>some v1
def zbD(o:Ops):PC:=⟨[hS],[.b],fun x=>zaQ o x,false⟩
theorem zbH:PCok Tryz.prog tabs 13 (zbD o):=zhB (o:=o) (η:=[]) (Γ:=⟨[(63,(zxM o))],[],false,[]⟩) (ctok ⟨ycV,trivial⟩ trivial) Tryz.func13
def zrR(_o:Ops)(v0:Int):Option (Bool):=
 bif decide (v0<33)then(some true)else(some (decide (v0>126)))
def zvN(o:Ops):PC:=⟨[(.h (.i .i32))],[.b],fun x=>zrR o x,false⟩
theorem ydK:PCok Tryz.prog tabs 66 (zvN o):=zhB (o:=o) (η:=[]) (Γ:=⟨[],[],false,[]⟩) (ctok trivial trivial) Tryz.func66
def zqC(o:Ops)(v1:Bool)(v2:Bs)(v3:Int):Option ((Bs×Int)⊕(Int⊕Unit)):=
 bif decide (v3.toNat<v2.length)then((zrR o (nxR v2 v3.toNat)).bind fun v4=>bif(v4==v1)then some (.inr (.inl (v3.toNat:Int)))else some (.inl (v2,(nxP v2 v3.toNat:Int))))else some (.inr (.inr ()))
def zjZ(o:Ops)(v0:Bs)(v1:Bool):Option (Int):=
 (iter (fun x=>zqC o v1 x.1 x.2) (v0,(0:Int))).bind fun v5=>match v5 with
 |.inl v6=>some v6
 |.inr _v7=>some (-1:Int)
def zqE(o:Ops):SC:=⟨⟨[(0,hS),(1,(.fn 66 [] [])),(2,hB)],[]⟩,1,[(none,⟨[(0,hI)],[]⟩)],fun x=>zjZ o x.1 x.2⟩
theorem zzA:SCok Tryz.prog tabs 240 (zqE o):=zbA (o:=o) (η:=[(200002,.loop [] ⟨[(1,(.fn 66 [] [])),(10,(.ptr 0 0))],[.is]⟩ [2] [(some 1000000,⟨[(6,hI)],[]⟩),(some 0,⟨[],[]⟩)])]) (Γ:=⟨[(66,(zvN o))],[],false,[]⟩) (ctok ⟨ydK,trivial⟩ trivial) Tryz.func240
def zjW(o:Ops)(v0:Bs):Option (Int):=
 (zjZ o v0 true).bind fun v1=>some v1
def zqH(o:Ops):SC:=⟨⟨[(0,hS),(1,(.fn 66 [] []))],[]⟩,1,[(none,⟨[(0,hI)],[]⟩)],fun x=>zjW o x⟩
theorem zzD:SCok Tryz.prog tabs 166 (zqH o):=zbA (o:=o) (η:=[]) (Γ:=⟨[],[(240,(zqE o))],false,[]⟩) (ctok trivial ⟨zzA,trivial⟩) Tryz.func166
def zhO(o:Ops)(v0:Bs):Option (Bool):=
 (zjW o v0).bind fun v1=>some (decide (v1≥0))
def zmE(o:Ops):SC:=⟨⟨[(0,hS),(1,(.fn 66 [] []))],[]⟩,1,[(none,⟨[(0,hB)],[]⟩)],fun x=>zhO o x⟩
theorem zuN:SCok Tryz.prog tabs 65 (zmE o):=zbA (o:=o) (η:=[]) (Γ:=⟨[],[(166,(zqH o))],false,[]⟩) (ctok trivial ⟨zzD,trivial⟩) Tryz.func65
def zeG(o:Ops)(v0:Bs):Option (Bool):=
 bif(v0 != ([]:Bs))then(bif decide ((v0.length:Int)≤128)then((zhO o v0).bind fun v1=>some (!v1))else(some false))else(some false)
def zjK(o:Ops):PC:=⟨[hS],[.b],fun x=>zeG o x,false⟩
theorem zoK:PCok Tryz.prog tabs 15 (zjK o):=zhB (o:=o) (η:=[]) (Γ:=⟨[],[(65,(zmE o))],false,[]⟩) (ctok trivial ⟨zuN,trivial⟩) Tryz.func15
def zkM(o:Ops)(v0:Bs)(v1:Bs)(v2:List zaI)(v3:List zaH)(v4:List zaJ)(v5:List zaK)(v6:List ((Bs×Bs)×Unit)):Option ((Int×zaZ)⊕zaZ):=
 (zaQ o v0).bind fun v7=>bif(!v7)then some (.inl ((120:Int),v2,v3,v4,v5,v6))else((zeG o v1).bind fun v8=>bif(!v8)then some (.inl ((120:Int),v2,v3,v4,v5,v6))else some (.inr (v2,v3,v4,v5,v6)))
def zbV(o:Ops)(v0:Bs)(v1:Bs)(v2:List zaI)(v3:List zaH)(v4:List zaJ)(v5:List zaK)(v6:List ((Bs×Bs)×Unit)):Option ((Int×zaZ)):=
 (zkM o v0 v1 v2 v3 v4 v5 v6).bind fun v9=>match v9 with
 |.inl v10=>some v10
 |.inr v11=>(let _v12:zwQ:=zdY keqS v11.1 v0 (([]:Bs),([]:Bs),false,(0:Int))
 bif mhas keqS v11.1 v0 then some ((121:Int),v11)else(bif decide ((v11.1.length:Int)≥64)then some ((124:Int),v11)else(let v13:List zaI:=mset keqS kltS v11.1 v0 (v0,v1,true,(1:Int))
 some ((0:Int),v13,v11.2))))
def zgD(o:Ops):SC:=⟨⟨[(0,(.ptr 0 0)),(1,hS),(2,hS)],[zaU,zaD,zaF,zaE,zaC,.mp true (.pr .s .s) .un]⟩,1,[(none,⟨[(0,hI)],[zaU,ywC,zaF,zaE,zaC,.mp true (.pr .s .s) .un]⟩)],fun x=>zbV o x.1 x.2.1 x.2.2.1 x.2.2.2.1 x.2.2.2.2.1 x.2.2.2.2.2.1 x.2.2.2.2.2.2⟩
theorem zkL:SCok Tryz.prog tabs 71 (zgD o):=zbA (o:=o) (η:=[(2000003,.join [] [1,2] [(some 1000000,⟨[(6,hI)],[zaU,zaD,zaF,zaE,zaC,.mp true (.pr .s .s) .un]⟩),(none,⟨[(0,(.ptr 0 0))],[zaU,zaD,zaF,zaE,zaC,.mp true (.pr .s .s) .un]⟩)])]) (Γ:=⟨[(13,(zbD o)),(15,(zjK o))],[],false,[]⟩) (ctok ⟨zbH,⟨zoK,trivial⟩⟩ trivial) Tryz.func71
def zbT(o:Ops)(v0:Bs)(v1:List zaI)(v2:List zaH)(v3:List zaJ)(v4:List zaK)(v5:List ((Bs×Bs)×Unit)):Option ((Int×zaZ)):=
 (zaQ o v0).bind fun v6=>bif(!v6)then some ((120:Int),v1,v2,v3,v4,v5)else(let _v7:zzC:=zdY keqS v2 v0 ((([]:List Bs),([]:List Bs),([]:List Bs)),(0:Int))
 bif mhas keqS v2 v0 then some ((121:Int),v1,v2,v3,v4,v5)else(bif decide ((v2.length:Int)≥32)then some ((124:Int),v1,v2,v3,v4,v5)else(let v8:List zaH:=mset keqS kltS v2 v0 ((([]:List Bs),([]:List Bs),([]:List Bs)),(1:Int))
 some ((0:Int),v1,v8,v3,v4,v5))))
def zfR(o:Ops):SC:=⟨⟨[(0,(.ptr 0 0)),(1,hS)],[zaU,zaD,zaF,zaE,zaC,.mp true (.pr .s .s) .un]⟩,1,[(none,⟨[(0,hI)],[zaU,zaD,ybA,zaE,zaC,.mp true (.pr .s .s) .un]⟩)],fun x=>zbT o x.1 x.2.1 x.2.2.1 x.2.2.2.1 x.2.2.2.2.1 x.2.2.2.2.2⟩
theorem zjP:SCok Tryz.prog tabs 72 (zfR o):=zbA (o:=o) (η:=[]) (Γ:=⟨[(13,(zbD o))],[],false,[]⟩) (ctok ⟨zbH,trivial⟩ trivial) Tryz.func72
def zaR(_o:Ops)(v0:List zaI)(v1:List zaH)(v2:List zaJ)(v3:List zaK)(v4:List ((Bs×Bs)×Unit)):Option (zaZ):=
 some (v0,v1,v2,v3,v4)
def zbK(o:Ops):SC:=⟨⟨[(0,(.ptr 0 0))],[zaU,zaD,zaF,zaE,zaC,.mp true (.pr .s .s) .un]⟩,1,[(none,⟨[(0,(.ag [(.kn .i64 0),(.fn 244 [] [(.ptr 6 0)]),(.kn .i64 1),(.fn 245 [] [(.ptr 6 0)]),(.kn .i64 2),(.fn 246 [] [(.ptr 6 0)])]))],[zaU,zaD,zaF,zaE,zaC,.mp true (.pr .s .s) .un,zxI]⟩)],fun x=>zaR o x.1 x.2.1 x.2.2.1 x.2.2.2.1 x.2.2.2.2⟩
theorem zbR:SCok Tryz.prog tabs 173 (zbK o):=zbA (o:=o) (η:=[]) (Γ:=⟨[],[],false,[]⟩) (ctok trivial trivial) Tryz.func173
def zeB(_o:Ops)(v0:Bs)(v1:List zaI)(v2:List zaH)(v3:List zaJ)(v4:List zaK)(v5:List ((Bs×Bs)×Unit)):Option ((Bool×zaZ)):=
 let _v6:zzC:=zdY keqS v2 v0 ((([]:List Bs),([]:List Bs),([]:List Bs)),(0:Int))
 some (mhas keqS v2 v0,v1,v2,v3,v4,v5)
def zgG(o:Ops):SC:=⟨⟨[(0,hS),(1,(.ptr 0 0))],[zsH,zjE,zaD,zaF,zaE,zaC,.mp true (.pr .s .s) .un]⟩,1,[(none,⟨[(0,hB)],[zsH,zjE,zaD,zaF,zaE,zaC,.mp true (.pr .s .s) .un]⟩)],fun x=>zeB o x.1 x.2.1 x.2.2.1 x.2.2.2.1 x.2.2.2.2.1 x.2.2.2.2.2⟩
theorem zkX:SCok Tryz.prog tabs 245 (zgG o):=zbA (o:=o) (η:=[]) (Γ:=⟨[],[],false,[]⟩) (ctok trivial trivial) Tryz.func245
def zoY(o:Ops)(v0:Bs)(v1:Bs)(v2:List zaI)(v3:List zaH)(v4:List zaJ)(v5:List zaK)(v6:List ((Bs×Bs)×Unit)):Option ((Int×(List zaI)×(List zaH)×(List zaJ)×(List zaK)×(List ((Bs×Bs)×Unit))×Int)⊕((List zaI)×(List zaH)×(List zaJ)×(List zaK)×(List ((Bs×Bs)×Unit))×Int)):=
 (zaQ o v0).bind fun v7=>bif(!v7)then some (.inl ((120:Int),v2,v3,v4,v5,v6,(0:Int)))else((zaQ o v1).bind fun v8=>bif(!v8)then some (.inl ((120:Int),v2,v3,v4,v5,v6,(0:Int)))else some (.inr (v2,v3,v4,v5,v6,(0:Int))))
def zdV(o:Ops)(v0:Bs)(v1:Bs)(v2:List zaI)(v3:List zaH)(v4:List zaJ)(v5:List zaK)(v6:List ((Bs×Bs)×Unit)):Option ((zzC×Int×zaZ)):=
 (zoY o v0 v1 v2 v3 v4 v5 v6).bind fun v9=>match v9 with
 |.inl v10=>some (((([]:List Bs),([]:List Bs),([]:List Bs)),v10.2.2.2.2.2.2),v10.1,v10.2.1,v10.2.2.1,v10.2.2.2.1,v10.2.2.2.2.1,v10.2.2.2.2.2.1)
 |.inr v11=>(let v12:zzC:=zdY keqS v11.2.1 v0 ((([]:List Bs),([]:List Bs),([]:List Bs)),(0:Int))
 bif(!(mhas keqS v11.2.1 v0))then some (((([]:List Bs),([]:List Bs),([]:List Bs)),(0:Int)),(122:Int),v11.1,v11.2.1,v11.2.2.1,v11.2.2.2.1,v11.2.2.2.2.1)else((zeB o v1 v11.1 v11.2.1 v11.2.2.1 v11.2.2.2.1 v11.2.2.2.2.1).bind fun v13=>bif(!v13.1)then some (((([]:List Bs),([]:List Bs),([]:List Bs)),(0:Int)),(122:Int),v13.2)else some (v12,(0:Int),v13.2)))
def ziQ(o:Ops):SC:=⟨⟨[(0,(.ptr 0 0)),(1,hS),(2,(.ag [(.kn .i64 1),(.fn 245 [] [(.ptr 1 0)])])),(3,hS)],[zjE,zxI,zaD,zaF,zaE,zaC,.mp true (.pr .s .s) .un]⟩,2,[(none,⟨[(0,(.h ytP)),(1,hI)],[zjE,zxI,zaD,zaF,zaE,zaC,.mp true (.pr .s .s) .un]⟩)],fun x=>zdV o x.1 x.2.1 x.2.2.1 x.2.2.2.1 x.2.2.2.2.1 x.2.2.2.2.2.1 x.2.2.2.2.2.2⟩
theorem zoV:SCok Tryz.prog tabs 199 (ziQ o):=zbA (o:=o) (η:=[(2000003,.join [] [1,3] [(some 1000000,⟨[(8,(.ptr 7 0)),(9,hI)],[zjE,zxI,zaD,zaF,zaE,zaC,.mp true (.pr .s .s) .un,yuB]⟩),(none,⟨[(0,(.ptr 0 0)),(6,(.ptr 7 0)),(8,(.ptr 8 0))],[zjE,zxI,zaD,zaF,zaE,zaC,.mp true (.pr .s .s) .un,.blk 187 [(.kn .i64 1),(.fn 245 [] [(.ptr 1 0)])],yuB]⟩)])]) (Γ:=⟨[(13,(zbD o))],[(245,(zgG o))],false,[]⟩) (ctok ⟨zbH,trivial⟩ ⟨zkX,trivial⟩) Tryz.func199
def zuK(_o:Ops)(v0:Bs):Option (Bool):=
 some (v0 != v0)
def ycU(o:Ops):PC:=⟨[hS],[.b],fun x=>zuK o x,false⟩
theorem ynJ:PCok Tryz.prog tabs 307 (ycU o):=zhB (o:=o) (η:=[]) (Γ:=⟨[],[],false,[]⟩) (ctok trivial trivial) Tryz.func307
def zyS(o:Ops)(v0:Bs)(v1:Bs):Option (Bool):=
 (zuK o v0).bind fun v2=>bif v2 then((zuK o v1).bind fun v3=>bif(!v3)then(some true)else(some (Op.bytesLess v0 v1)))else(some (Op.bytesLess v0 v1))
def yeY(o:Ops):PC:=⟨[hS,hS],[.b],fun x=>zyS o x.1 x.2,false⟩
theorem ynY:PCok Tryz.prog tabs 268 (yeY o):=zhB (o:=o) (η:=[]) (Γ:=⟨[(307,(ycU o))],[],false,[]⟩) (ctok ⟨ynJ,trivial⟩ trivial) Tryz.func268
def zoL(_o:Ops)(v0:Bs):Option (Bool):=
 some (v0 != v0)
def zyI(o:Ops):PC:=⟨[hS],[.b],fun x=>zoL o x,false⟩
theorem yfX:PCok Tryz.prog tabs 278 (zyI o):=zhB (o:=o) (η:=[]) (Γ:=⟨[],[],false,[]⟩) (ctok trivial trivial) Tryz.func278
def zfC(o:Ops)(v0:List Bs)(v1:Bs)(v2:Int)(v3:Int):Option ((Int×Int)⊕Int):=
 bif decide (v2<v3)then((chk (decide ((0:Int)≤((1:UInt64).toNat:Int)))).bind fun _=>let v4:UInt64:=i64 (shrI .u64 ((i64 (w64 (v2+v3))).toNat:Int) ((1:UInt64).toNat:Int))
 (idx v0 (w64 (v4.toNat:Int))).bind fun v5=>(zyS o v5 v1).bind fun v6=>bif v6 then some (.inl (w64 ((w64 (v4.toNat:Int))+1),v3))else some (.inl (v2,w64 (v4.toNat:Int))))else some (.inr v2)
def zdH(o:Ops)(v0:List Bs)(v1:Bs):Option (Int×Bool):=
 (iter (fun x=>zfC o v0 v1 x.1 x.2) ((0:Int),(v0.length:Int))).bind fun v7=>bif decide (v7<(v0.length:Int))then((idx v0 v7).bind fun v8=>bif(v8==v1)then(some (v7,true))else((idx v0 v7).bind fun v9=>(zoL o v9).bind fun v10=>bif v10 then((zoL o v1).bind fun v11=>some (v7,v11))else(some (v7,false))))else(some (v7,false))
def zhJ(o:Ops):PC:=⟨[(.h (.sl .s)),hS],[(.i .i64),.b],fun x=>zdH o x.1 x.2,false⟩
theorem znP:PCok Tryz.prog tabs 213 (zhJ o):=zhB (o:=o) (η:=[(200003,.loop [] ⟨[(7,hI),(8,hI)],[]⟩ [0,1,4,5,6] [(some 0,⟨[(7,hI)],[]⟩)])]) (Γ:=⟨[(268,(yeY o)),(278,(zyI o))],[],false,[]⟩) (ctok ⟨ynY,⟨yfX,trivial⟩⟩ trivial) Tryz.func213
def zaV(o:Ops)(v0:List Bs)(v1:Bs):Option (Bool):=
 (zdH o v0 v1).bind fun v2=>some v2.2
def zcK(o:Ops):PC:=⟨[(.h (.sl .s)),hS],[.b],fun x=>zaV o x.1 x.2,false⟩
theorem zdC:PCok Tryz.prog tabs 131 (zcK o):=zhB (o:=o) (η:=[]) (Γ:=⟨[(213,(zhJ o))],[],false,[]⟩) (ctok ⟨znP,trivial⟩ trivial) Tryz.func131
def zdN(_o:Ops)(v17:zzC)(v18:Int)(v19:List zaI)(v20:List zaH)(v21:List zaJ)(v22:List zaK)(v23:List ((Bs×Bs)×Unit))(v24:List (Bs×Unit))(v25:List Bs):Option ((Int×(List zaI)×(List zaH)×(List zaJ)×(List zaK)×(List ((Bs×Bs)×Unit))×(List (Bs×Unit))×List Bs)⊕(((List zaI)×(List zaH)×(List zaJ)×(List zaK)×(List ((Bs×Bs)×Unit))×(List (Bs×Unit))×List Bs))):=
 bif decide (v18<(v17.1.2.1.length:Int))then((idx v17.1.2.1 v18).bind fun v26=>let _v27:Unit:=zdY keqS v24 v26 ()
 bif(!(mhas keqS v24 v26))then(let v28:List (Bs×Unit):=mset keqS kltS v24 v26 ()
 (app v25 ([v26]:List Bs)).bind fun v29=>some (.inl (w64 (v18+1),v19,v20,v21,v22,v23,v28,v29)))else some (.inl (w64 (v18+1),v19,v20,v21,v22,v23,v24,v25)))else some (.inr (v19,v20,v21,v22,v23,v24,v25))
def zeM(o:Ops)(v1:Bs)(v8:List zaI)(v9:List zaH)(v10:List zaJ)(v11:List zaK)(v12:List ((Bs×Bs)×Unit))(v13:List (Bs×Unit))(v14:List Bs):Option (((List zaI)×(List zaH)×(List zaJ)×(List zaK)×(List ((Bs×Bs)×Unit))×(List (Bs×Unit))×List Bs)⊕((Bool×zaZ)⊕zaZ)):=
 bif decide ((v14.length:Int)>0)then((chk (decide ((0:Int)≤0)&&decide ((0:Int)<(v14.length:Int)))).bind fun _=>(idx v14 (0:Int)).bind fun v15=>bif(v15==v1)then some (.inr (.inl (true,v8,v9,v10,v11,v12)))else((chk (decide ((0:Int)≤0)&&decide ((0:Int)<(v14.length:Int)))).bind fun _=>(idx v14 (0:Int)).bind fun v16=>let v17:zzC:=zdY keqS v9 v16 ((([]:List Bs),([]:List Bs),([]:List Bs)),(0:Int))
 (iter (fun x=>zdN o v17 x.1 x.2.1 x.2.2.1 x.2.2.2.1 x.2.2.2.2.1 x.2.2.2.2.2.1 x.2.2.2.2.2.2.1 x.2.2.2.2.2.2.2) ((0:Int),v8,v9,v10,v11,v12,v13,v14)).bind fun v30=>(subL v30.2.2.2.2.2.2 (1:Int)).bind fun v31=>some (.inl (v30.1,v30.2.1,v30.2.2.1,v30.2.2.2.1,v30.2.2.2.2.1,v30.2.2.2.2.2.1,v31))))else some (.inr (.inr (v8,v9,v10,v11,v12)))
def zeW(o:Ops)(v0:Bs)(v1:Bs)(v2:List zaI)(v3:List zaH)(v4:List zaJ)(v5:List zaK)(v6:List ((Bs×Bs)×Unit)):Option ((Bool×zaZ)):=
 let v7:List (Bs×Unit):=mset keqS kltS ([]:List (Bs×Unit)) v0 ()
 (iter (fun x=>zeM o v1 x.1 x.2.1 x.2.2.1 x.2.2.2.1 x.2.2.2.2.1 x.2.2.2.2.2.1 x.2.2.2.2.2.2) (v2,v3,v4,v5,v6,v7,([v0]:List Bs))).bind fun v32=>match v32 with
 |.inl v33=>some v33
 |.inr v34=>some (false,v34)
def zlH(o:Ops):SC:=⟨⟨[(0,(.ptr 0 0)),(1,hS),(2,hS)],[zaU,zaD,zaF,zaE,zaC,.mp true (.pr .s .s) .un]⟩,1,[(none,⟨[(0,hB)],[zaU,zaD,zaF,zaE,zaC,.mp true (.pr .s .s) .un]⟩)],fun x=>zeW o x.1 x.2.1 x.2.2.1 x.2.2.2.1 x.2.2.2.2.1 x.2.2.2.2.2.1 x.2.2.2.2.2.2⟩
theorem zuI:SCok Tryz.prog tabs 200 (zlH o):=zbA (o:=o) (η:=[(200008,.loop [] ⟨[(0,(.ptr 0 0)),(7,(.mpr 6)),(8,(.own 7)),(40,hI)],[zaU,zaD,zaF,zaE,zaC,.mp true (.pr .s .s) .un,zlZ,.qu .s 9]⟩ [2,38,39] [(some 2,⟨[(0,(.ptr 0 0)),(7,(.mpr 6)),(8,(.own 7))],[zaU,zaD,zaF,zaE,zaC,.mp true (.pr .s .s) .un,zlZ,.qu .s 9]⟩)]),
 (200003,.loop [.qu 8] ⟨[(0,(.ptr 0 0)),(7,(.mpr 6)),(8,(.own 7))],[zaU,zaD,zaF,zaE,zaC,.mp true (.pr .s .s) .un,zlZ,.qu .s 9]⟩ [2] [(some 1000000,⟨[(6,hB)],[zaU,zaD,zaF,zaE,zaC,.mp true (.pr .s .s) .un]⟩),(some 0,⟨[],[zaU,zaD,zaF,zaE,zaC,.mp true (.pr .s .s) .un]⟩)]),
 (4000007,.sch [(.pu,0,[]),(.pu,1,[]),(.pu,2,[]),(.pu,3,[]),(.pu,4,[]),(.pu,5,[]),(.pu,6,[]),(.pu,7,[]),(.pu,8,[]),(.pu,9,[]),(.pu,10,[]),(.pu,11,[])])]) (Γ:=⟨[],[],false,[]⟩) (ctok trivial trivial) Tryz.func200
def zvF:SC:=⟨⟨[(0,(.h (.sl .s)))],[]⟩,1,[(none,⟨[(0,(.own 0))],[.osl .s 9]⟩)],fun xs=>app [] xs⟩
theorem zyT:SCok Tryz.prog tabs 198 zvF:=wit (G:=tabs)<|xcX ycS τ_okWkF Tryz.func198 (isFn Tryz.func198) rfl (by kernel_rfl) (by kernel_rfl) (by kernel_rfl) (fun _=>by kernel_rfl)
def ynO:SC:=⟨⟨[(0,(.own 0)),(1,hI),(2,(.own 1))],[.osl .s 9,.osl .s 9]⟩,1,[(none,⟨[(0,(.own 2))],[.dead,.dead,.osl .s 9]⟩)],xeJ⟩
theorem yvE:SCok Tryz.prog tabs 261 ynO:=wit (G:=tabs)<|insK
def zeC(o:Ops)(v0:List Bs)(v1:Bs):Option (List Bs):=
 (zdH o v0 v1).bind fun v2=>(app ([]:List Bs) v0).bind fun v3=>((fun i xs vs=>xeJ (i,xs,vs)) v2.1 v3 ([v1]:List Bs)).bind fun v4=>some v4
def zoM(o:Ops):PC:=⟨[(.h (.sl .s)),hS],[(.sl .s)],fun x=>zeC o x.1 x.2,false⟩
theorem zsO:PCok Tryz.prog tabs 201 (zoM o):=zhB (o:=o) (η:=[]) (Γ:=⟨[(213,(zhJ o))],[(198,zvF),(261,ynO)],false,[]⟩) (ctok ⟨znP,trivial⟩ ⟨zyT,⟨yvE,trivial⟩⟩) Tryz.func201
def zoZ(o:Ops)(v0:Bs)(v1:Bs)(v2:List zaI)(v3:List zaH)(v4:List zaJ)(v5:List zaK)(v6:List ((Bs×Bs)×Unit)):Option ((Int×(List zaI)×(List zaH)×(List zaJ)×(List zaK)×(List ((Bs×Bs)×Unit))×(List Bs)×(List Bs)×(List Bs)×Int)):=
 (zaR o v2 v3 v4 v5 v6).bind fun v7=>(zdV o v0 v1 v7.1 v7.2.1 v7.2.2.1 v7.2.2.2.1 v7.2.2.2.2).bind fun v8=>some (v8.2.1,v8.2.2.1,v8.2.2.2.1,v8.2.2.2.2.1,v8.2.2.2.2.2.1,v8.2.2.2.2.2.2,v8.1.1.1,v8.1.1.2.1,v8.1.1.2.2,v8.1.2)
def zpF(o:Ops)(v1:Bs)(v9:Int×(List zaI)×(List zaH)×(List zaJ)×(List zaK)×(List ((Bs×Bs)×Unit))×(List Bs)×(List Bs)×(List Bs)×Int):Option ((Bool×(List zaI)×(List zaH)×(List zaJ)×(List zaK)×(List ((Bs×Bs)×Unit))×(List Bs)×(List Bs)×(List Bs)×Int)):=
 (zaV o v9.2.2.2.2.2.2.2.1 v1).bind fun v10=>some (v10,v9.2)
def zoQ(o:Ops)(v0:Bs)(v1:Bs)(v9:Int×(List zaI)×(List zaH)×(List zaJ)×(List zaK)×(List ((Bs×Bs)×Unit))×(List Bs)×(List Bs)×(List Bs)×Int):Option ((Int×zaZ)⊕((List zaI)×(List zaH)×(List zaJ)×(List zaK)×(List ((Bs×Bs)×Unit))×(List Bs)×(List Bs)×(List Bs)×Int)):=
 bif(v9.1 != 0)then some (.inl (v9.1,v9.2.1,v9.2.2.1,v9.2.2.2.1,v9.2.2.2.2.1,v9.2.2.2.2.2.1))else((zpF o v1 v9).bind fun v11=>bif v11.1 then some (.inl ((121:Int),v11.2.1,v11.2.2.1,v11.2.2.2.1,v11.2.2.2.2.1,v11.2.2.2.2.2.1))else((zeW o v1 v0 v11.2.1 v11.2.2.1 v11.2.2.2.1 v11.2.2.2.2.1 v11.2.2.2.2.2.1).bind fun v12=>bif v12.1 then some (.inl ((123:Int),v12.2))else some (.inr (v12.2.1,v12.2.2.1,v12.2.2.2.1,v12.2.2.2.2.1,v12.2.2.2.2.2,v11.2.2.2.2.2.2))))
def zpG(o:Ops)(v1:Bs)(v15:(List zaI)×(List zaH)×(List zaJ)×(List zaK)×(List ((Bs×Bs)×Unit))×(List Bs)×(List Bs)×(List Bs)×Int):Option (((List zaI)×(List zaH)×(List zaJ)×(List zaK)×(List ((Bs×Bs)×Unit))×(List Bs)×(List Bs)×(List Bs)×Int)):=
 (zeC o v15.2.2.2.2.2.2.1 v1).bind fun v16=>some (v15.1,v15.2.1,v15.2.2.1,v15.2.2.2.1,v15.2.2.2.2.1,v15.2.2.2.2.2.1,v16,v15.2.2.2.2.2.2.2)
def zfV(o:Ops)(v0:Bs)(v1:Bs)(v2:List zaI)(v3:List zaH)(v4:List zaJ)(v5:List zaK)(v6:List ((Bs×Bs)×Unit)):Option ((Int×zaZ)):=
 (zoZ o v0 v1 v2 v3 v4 v5 v6).bind fun v9=>(zoQ o v0 v1 v9).bind fun v13=>match v13 with
 |.inl v14=>some v14
 |.inr v15=>((zpG o v1 v15).bind fun v17=>let v18:List zaH:=mset keqS kltS v17.2.1 v0 ((v17.2.2.2.2.2.1,v17.2.2.2.2.2.2.1,v17.2.2.2.2.2.2.2.1),w64 (v17.2.2.2.2.2.2.2.2+1))
 some ((0:Int),v17.1,v18,v17.2.2.1,v17.2.2.2.1,v17.2.2.2.2.1))
def zpN(o:Ops):SC:=⟨⟨[(0,(.ptr 0 0)),(1,hS),(2,(.kn .i64 1)),(3,hS)],[zaU,zaD,zaF,zaE,zaC,.mp true (.pr .s .s) .un]⟩,1,[(none,⟨[(0,hI)],[zaU,zaD,ybA,zaE,zaC,.mp true (.pr .s .s) .un]⟩)],fun x=>zfV o x.1 x.2.1 x.2.2.1 x.2.2.2.1 x.2.2.2.2.1 x.2.2.2.2.2.1 x.2.2.2.2.2.2⟩
theorem zwX:SCok Tryz.prog tabs 101 (zpN o):=zbA (o:=o) (η:=[(2100000,.join [] [1,2,3] [(none,⟨[(0,(.ptr 0 0)),(9,(.ptr 6 0)),(10,hI)],[zaU,zaD,zaF,zaE,zaC,.mp true (.pr .s .s) .un,zwL]⟩)]),
 (2300005,.join [] [1,2,3] [(none,⟨[(0,(.ptr 0 0)),(9,(.ptr 6 0)),(26,hB)],[zaU,zaD,zaF,zaE,zaC,.mp true (.pr .s .s) .un,zwL]⟩)]),
 (2000008,.join [] [1,2,3] [(some 1000000,⟨[(8,hI)],[zaU,zaD,zaF,zaE,zaC,.mp true (.pr .s .s) .un]⟩),(none,⟨[(0,(.ptr 0 0)),(9,(.ptr 6 0))],[zaU,zaD,zaF,zaE,zaC,.mp true (.pr .s .s) .un,zwL]⟩)]),
 (2000009,.join [] [1] [(none,⟨[(0,(.ptr 0 0)),(9,(.ptr 6 0))],[zaU,zaD,zaF,zaE,zaC,.mp true (.pr .s .s) .un,zwL]⟩)]),
 (4000010,.sch [(.pu,0,[]),(.pu,1,[]),(.pu,2,[]),(.pu,3,[]),(.pu,4,[]),(.pu,5,[]),(.mn,6,[0,1,2,3,4,5,6])])]) (Γ:=⟨[(131,(zcK o)),(201,(zoM o))],[(173,(zbK o)),(199,(ziQ o)),(200,(zlH o))],false,[]⟩) (ctok ⟨zdC,⟨zsO,trivial⟩⟩ ⟨zbR,⟨zoV,⟨zuI,trivial⟩⟩⟩) Tryz.func101
def zdS(o:Ops)(v0:Bs)(v1:Bs)(v2:List zaI)(v3:List zaH)(v4:List zaJ)(v5:List zaK)(v6:List ((Bs×Bs)×Unit)):Option ((Int×zaZ)):=
 (zfV o v0 v1 v2 v3 v4 v5 v6).bind fun v7=>some v7
def ziK(o:Ops):SC:=⟨⟨[(0,(.ptr 0 0)),(1,hS),(2,hS)],[zaU,zaD,zaF,zaE,zaC,.mp true (.pr .s .s) .un]⟩,1,[(none,⟨[(0,hI)],[zaU,zaD,ybA,zaE,zaC,.mp true (.pr .s .s) .un]⟩)],fun x=>zdS o x.1 x.2.1 x.2.2.1 x.2.2.2.1 x.2.2.2.2.1 x.2.2.2.2.2.1 x.2.2.2.2.2.2⟩
theorem zoR:SCok Tryz.prog tabs 33 (ziK o):=zbA (o:=o) (η:=[]) (Γ:=⟨[],[(101,(zpN o))],false,[]⟩) (ctok trivial ⟨zwX,trivial⟩) Tryz.func33
def zeH(_o:Ops)(v0:Bs)(v1:List zaI)(v2:List zaH)(v3:List zaJ)(v4:List zaK)(v5:List ((Bs×Bs)×Unit)):Option ((Bool×zaZ)):=
 let _v6:zwQ:=zdY keqS v1 v0 (([]:Bs),([]:Bs),false,(0:Int))
 some (mhas keqS v1 v0,v1,v2,v3,v4,v5)
def zgL(o:Ops):SC:=⟨⟨[(0,hS),(1,(.ptr 0 0))],[zsH,zjE,zaD,zaF,zaE,zaC,.mp true (.pr .s .s) .un]⟩,1,[(none,⟨[(0,hB)],[zsH,zjE,zaD,zaF,zaE,zaC,.mp true (.pr .s .s) .un]⟩)],fun x=>zeH o x.1 x.2.1 x.2.2.1 x.2.2.2.1 x.2.2.2.2.1 x.2.2.2.2.2⟩
theorem zkY:SCok Tryz.prog tabs 244 (zgL o):=zbA (o:=o) (η:=[]) (Γ:=⟨[],[],false,[]⟩) (ctok trivial trivial) Tryz.func244
def znL(o:Ops)(v0:Bs)(v1:Bs)(v2:List zaI)(v3:List zaH)(v4:List zaJ)(v5:List zaK)(v6:List ((Bs×Bs)×Unit)):Option ((Int×(List zaI)×(List zaH)×(List zaJ)×(List zaK)×(List ((Bs×Bs)×Unit))×Int)⊕((List zaI)×(List zaH)×(List zaJ)×(List zaK)×(List ((Bs×Bs)×Unit))×Int)):=
 (zaQ o v0).bind fun v7=>bif(!v7)then some (.inl ((120:Int),v2,v3,v4,v5,v6,(0:Int)))else((zaQ o v1).bind fun v8=>bif(!v8)then some (.inl ((120:Int),v2,v3,v4,v5,v6,(0:Int)))else some (.inr (v2,v3,v4,v5,v6,(0:Int))))
def zdD(o:Ops)(v0:Bs)(v1:Bs)(v2:List zaI)(v3:List zaH)(v4:List zaJ)(v5:List zaK)(v6:List ((Bs×Bs)×Unit)):Option ((zzC×Int×zaZ)):=
 (znL o v0 v1 v2 v3 v4 v5 v6).bind fun v9=>match v9 with
 |.inl v10=>some (((([]:List Bs),([]:List Bs),([]:List Bs)),v10.2.2.2.2.2.2),v10.1,v10.2.1,v10.2.2.1,v10.2.2.2.1,v10.2.2.2.2.1,v10.2.2.2.2.2.1)
 |.inr v11=>(let v12:zzC:=zdY keqS v11.2.1 v0 ((([]:List Bs),([]:List Bs),([]:List Bs)),(0:Int))
 bif(!(mhas keqS v11.2.1 v0))then some (((([]:List Bs),([]:List Bs),([]:List Bs)),(0:Int)),(122:Int),v11.1,v11.2.1,v11.2.2.1,v11.2.2.2.1,v11.2.2.2.2.1)else((zeH o v1 v11.1 v11.2.1 v11.2.2.1 v11.2.2.2.1 v11.2.2.2.2.1).bind fun v13=>bif(!v13.1)then some (((([]:List Bs),([]:List Bs),([]:List Bs)),(0:Int)),(122:Int),v13.2)else some (v12,(0:Int),v13.2)))
def zhK(o:Ops):SC:=⟨⟨[(0,(.ptr 0 0)),(1,hS),(2,(.ag [(.kn .i64 0),(.fn 244 [] [(.ptr 1 0)])])),(3,hS)],[zjE,zxI,zaD,zaF,zaE,zaC,.mp true (.pr .s .s) .un]⟩,2,[(none,⟨[(0,(.h ytP)),(1,hI)],[zjE,zxI,zaD,zaF,zaE,zaC,.mp true (.pr .s .s) .un]⟩)],fun x=>zdD o x.1 x.2.1 x.2.2.1 x.2.2.2.1 x.2.2.2.2.1 x.2.2.2.2.2.1 x.2.2.2.2.2.2⟩
theorem znJ:SCok Tryz.prog tabs 199 (zhK o):=zbA (o:=o) (η:=[(2000003,.join [] [1,3] [(some 1000000,⟨[(8,(.ptr 7 0)),(9,hI)],[zjE,zxI,zaD,zaF,zaE,zaC,.mp true (.pr .s .s) .un,yuB]⟩),(none,⟨[(0,(.ptr 0 0)),(6,(.ptr 7 0)),(8,(.ptr 8 0))],[zjE,zxI,zaD,zaF,zaE,zaC,.mp true (.pr .s .s) .un,.blk 187 [(.kn .i64 0),(.fn 244 [] [(.ptr 1 0)])],yuB]⟩)])]) (Γ:=⟨[(13,(zbD o))],[(244,(zgL o))],false,[]⟩) (ctok ⟨zbH,trivial⟩ ⟨zkY,trivial⟩) Tryz.func199
def znH(o:Ops)(v0:Bs)(v1:Bs)(v2:List zaI)(v3:List zaH)(v4:List zaJ)(v5:List zaK)(v6:List ((Bs×Bs)×Unit)):Option ((Int×(List zaI)×(List zaH)×(List zaJ)×(List zaK)×(List ((Bs×Bs)×Unit))×(List Bs)×(List Bs)×(List Bs)×Int)):=
 (zaR o v2 v3 v4 v5 v6).bind fun v7=>(zdD o v0 v1 v7.1 v7.2.1 v7.2.2.1 v7.2.2.2.1 v7.2.2.2.2).bind fun v8=>some (v8.2.1,v8.2.2.1,v8.2.2.2.1,v8.2.2.2.2.1,v8.2.2.2.2.2.1,v8.2.2.2.2.2.2,v8.1.1.1,v8.1.1.2.1,v8.1.1.2.2,v8.1.2)
def znG(o:Ops)(v1:Bs)(v9:Int×(List zaI)×(List zaH)×(List zaJ)×(List zaK)×(List ((Bs×Bs)×Unit))×(List Bs)×(List Bs)×(List Bs)×Int):Option ((Bool×(List zaI)×(List zaH)×(List zaJ)×(List zaK)×(List ((Bs×Bs)×Unit))×(List Bs)×(List Bs)×(List Bs)×Int)):=
 (zaV o v9.2.2.2.2.2.2.1 v1).bind fun v10=>some (v10,v9.2)
def znB(o:Ops)(v1:Bs)(v9:Int×(List zaI)×(List zaH)×(List zaJ)×(List zaK)×(List ((Bs×Bs)×Unit))×(List Bs)×(List Bs)×(List Bs)×Int):Option ((Int×zaZ)⊕((List zaI)×(List zaH)×(List zaJ)×(List zaK)×(List ((Bs×Bs)×Unit))×(List Bs)×(List Bs)×(List Bs)×Int)):=
 bif(v9.1 != 0)then some (.inl (v9.1,v9.2.1,v9.2.2.1,v9.2.2.2.1,v9.2.2.2.2.1,v9.2.2.2.2.2.1))else((znG o v1 v9).bind fun v11=>bif v11.1 then some (.inl ((121:Int),v11.2.1,v11.2.2.1,v11.2.2.2.1,v11.2.2.2.2.1,v11.2.2.2.2.2.1))else some (.inr v11.2))
def znS(o:Ops)(v1:Bs)(v14:(List zaI)×(List zaH)×(List zaJ)×(List zaK)×(List ((Bs×Bs)×Unit))×(List Bs)×(List Bs)×(List Bs)×Int):Option (((List zaI)×(List zaH)×(List zaJ)×(List zaK)×(List ((Bs×Bs)×Unit))×(List Bs)×(List Bs)×(List Bs)×Int)):=
 (zeC o v14.2.2.2.2.2.1 v1).bind fun v15=>some (v14.1,v14.2.1,v14.2.2.1,v14.2.2.2.1,v14.2.2.2.2.1,v15,v14.2.2.2.2.2.2)
def zfJ(o:Ops)(v0:Bs)(v1:Bs)(v2:List zaI)(v3:List zaH)(v4:List zaJ)(v5:List zaK)(v6:List ((Bs×Bs)×Unit)):Option ((Int×zaZ)):=
 (znH o v0 v1 v2 v3 v4 v5 v6).bind fun v9=>(znB o v1 v9).bind fun v12=>match v12 with
 |.inl v13=>some v13
 |.inr v14=>((znS o v1 v14).bind fun v16=>let v17:List zaH:=mset keqS kltS v16.2.1 v0 ((v16.2.2.2.2.2.1,v16.2.2.2.2.2.2.1,v16.2.2.2.2.2.2.2.1),w64 (v16.2.2.2.2.2.2.2.2+1))
 some ((0:Int),v16.1,v17,v16.2.2.1,v16.2.2.2.1,v16.2.2.2.2.1))
def znO(o:Ops):SC:=⟨⟨[(0,(.ptr 0 0)),(1,hS),(2,(.kn .i64 0)),(3,hS)],[zaU,zaD,zaF,zaE,zaC,.mp true (.pr .s .s) .un]⟩,1,[(none,⟨[(0,hI)],[zaU,zaD,ybA,zaE,zaC,.mp true (.pr .s .s) .un]⟩)],fun x=>zfJ o x.1 x.2.1 x.2.2.1 x.2.2.2.1 x.2.2.2.2.1 x.2.2.2.2.2.1 x.2.2.2.2.2.2⟩
theorem zwF:SCok Tryz.prog tabs 101 (znO o):=zbA (o:=o) (η:=[(2100000,.join [] [1,2,3] [(none,⟨[(0,(.ptr 0 0)),(9,(.ptr 6 0)),(10,hI)],[zaU,zaD,zaF,zaE,zaC,.mp true (.pr .s .s) .un,zwL]⟩)]),
 (2300005,.join [] [1,2,3] [(none,⟨[(0,(.ptr 0 0)),(9,(.ptr 6 0)),(26,hB)],[zaU,zaD,zaF,zaE,zaC,.mp true (.pr .s .s) .un,zwL]⟩)]),
 (2000008,.join [] [1,2,3] [(some 1000000,⟨[(8,hI)],[zaU,zaD,zaF,zaE,zaC,.mp true (.pr .s .s) .un]⟩),(none,⟨[(0,(.ptr 0 0)),(9,(.ptr 6 0))],[zaU,zaD,zaF,zaE,zaC,.mp true (.pr .s .s) .un,zwL]⟩)]),
 (2000009,.join [] [1] [(none,⟨[(0,(.ptr 0 0)),(9,(.ptr 6 0))],[zaU,zaD,zaF,zaE,zaC,.mp true (.pr .s .s) .un,zwL]⟩)]),
 (4000010,.sch [(.pu,0,[]),(.pu,1,[]),(.pu,2,[]),(.pu,3,[]),(.pu,4,[]),(.pu,5,[]),(.mn,6,[0,1,2,3,4,5,6])])]) (Γ:=⟨[(131,(zcK o)),(201,(zoM o))],[(173,(zbK o)),(199,(zhK o))],false,[]⟩) (ctok ⟨zdC,⟨zsO,trivial⟩⟩ ⟨zbR,⟨znJ,trivial⟩⟩) Tryz.func101
def zgA(o:Ops)(v0:Bs)(v1:Bs)(v2:List zaI)(v3:List zaH)(v4:List zaJ)(v5:List zaK)(v6:List ((Bs×Bs)×Unit)):Option ((Int×zaZ)):=
 (zfJ o v0 v1 v2 v3 v4 v5 v6).bind fun v7=>some v7
def zhZ(o:Ops):SC:=⟨⟨[(0,(.ptr 0 0)),(1,hS),(2,hS)],[zaU,zaD,zaF,zaE,zaC,.mp true (.pr .s .s) .un]⟩,1,[(none,⟨[(0,hI)],[zaU,zaD,ybA,zaE,zaC,.mp true (.pr .s .s) .un]⟩)],fun x=>zgA o x.1 x.2.1 x.2.2.1 x.2.2.2.1 x.2.2.2.2.1 x.2.2.2.2.2.1 x.2.2.2.2.2.2⟩
theorem zoS:SCok Tryz.prog tabs 73 (zhZ o):=zbA (o:=o) (η:=[]) (Γ:=⟨[],[(101,(znO o))],false,[]⟩) (ctok trivial ⟨zwF,trivial⟩) Tryz.func73
def zhD(o:Ops)(v0:Bs):Option (Bool):=
 (zkE o v0 (32:Int) ([97,98,99,100,101,102,103,104,105,106,107,108,109,110,111,112,113,114,115,116,117,118,119,120,121,122,48,49,50,51,52,53,54,55,56,57,46,95,45,58]:Bs)).bind fun v1=>some v1
def zyO(o:Ops):PC:=⟨[hS],[.b],fun x=>zhD o x,false⟩
theorem yeJ:PCok Tryz.prog tabs 17 (zyO o):=zhB (o:=o) (η:=[]) (Γ:=⟨[(63,(zxM o))],[],false,[]⟩) (ctok ⟨ycV,trivial⟩ trivial) Tryz.func17
def zrI(o:Ops)(v0:List Bs)(v2:Int):Option (Int⊕(Bool⊕Unit)):=
 bif decide (v2<(v0.length:Int))then((idx v0 v2).bind fun v3=>(zhD o v3).bind fun v4=>bif(!v4)then some (.inr (.inl false))else(bif decide (v2>0)then((idx v0 (w64 (v2-1))).bind fun v5=>bif(Op.bytesLess v3 v5||v3==v5)then some (.inr (.inl false))else some (.inl (w64 (v2+1))))else some (.inl (w64 (v2+1)))))else some (.inr (.inr ()))
def zjT(o:Ops)(v0:List Bs)(v1:Int):Option (Bool):=
 (iter (zrI o v0) (0:Int)).bind fun v6=>match v6 with
 |.inl v7=>some v7
 |.inr _v8=>some (decide ((v0.length:Int)≤v1))
def zrC(o:Ops):SC:=⟨⟨[(0,(.h (.sl .s))),(1,hI),(2,(.fn 17 [] []))],[]⟩,1,[(none,⟨[(0,hB)],[]⟩)],fun x=>zjT o x.1 x.2⟩
theorem zxT:SCok Tryz.prog tabs 174 (zrC o):=zbA (o:=o) (η:=[(200002,.loop [] ⟨[(2,(.fn 17 [] [])),(11,hI)],[]⟩ [0,1,9,10] [(some 1000000,⟨[(6,hB)],[]⟩),(some 0,⟨[],[]⟩)])]) (Γ:=⟨[(17,(zyO o))],[],false,[]⟩) (ctok ⟨yeJ,trivial⟩ trivial) Tryz.func174
def zmQ(o:Ops)(v0:zdL):Option (Bool):=
 (zaQ o v0.1).bind fun v1=>bif v1 then((zjT o v0.2 (16:Int)).bind fun v2=>some v2)else(some false)
def zsL(o:Ops):PC:=⟨[(.h ybU)],[.b],fun x=>zmQ o x,false⟩
theorem zzJ:PCok Tryz.prog tabs 104 (zsL o):=zhB (o:=o) (η:=[]) (Γ:=⟨[(13,(zbD o))],[(174,(zrC o))],false,[]⟩) (ctok ⟨zbH,trivial⟩ ⟨zxT,trivial⟩) Tryz.func104
def yaA:PC:=⟨[.h (.sl .s)],[(.sl .s)],fun xs=>some xs,true⟩
theorem ycF:PCok Tryz.prog tabs 61 yaA:=wit (G:=tabs)<|yoJ ycS τ_okWkF Tryz.func61 (isFn Tryz.func61) rfl (by kernel_rfl) (fun _=>by kernel_rfl)
def zcY(_o:Ops)(v0:zdL):Option zdL:=
 (app ([]:List Bs) v0.2).bind fun v1=>some (v0.1,v1)
def zfW(o:Ops):PC:=⟨[(.h ybU)],[ybU],fun x=>zcY o x,false⟩
theorem zjF:PCok Tryz.prog tabs 105 (zfW o):=zhB (o:=o) (η:=[]) (Γ:=⟨[(61,yaA)],[(198,zvF)],false,[]⟩) (ctok ⟨ycF,trivial⟩ ⟨zyT,trivial⟩) Tryz.func105
def zkP(_o:Ops)(v0:zdL)(v1:List zaI)(v2:List zaH)(v3:List zaJ)(v4:List zaK)(v5:List ((Bs×Bs)×Unit)):Option ((Int×zaZ)⊕((List zaI)×(List zaH)×(List zaJ)×(List zaK)×(List ((Bs×Bs)×Unit))×zdL)):=
 let _v7:zdL:=zdY keqS v3 v0.1 (([]:Bs),([]:List Bs))
 bif(!(mhas keqS v3 v0.1))then(bif decide ((v3.length:Int)≥32)then some (.inl ((124:Int),v1,v2,v3,v4,v5))else some (.inr (v1,v2,v3,v4,v5,v0)))else some (.inr (v1,v2,v3,v4,v5,v0))
def zcJ(o:Ops)(v0:zdL)(v1:List zaI)(v2:List zaH)(v3:List zaJ)(v4:List zaK)(v5:List ((Bs×Bs)×Unit)):Option ((Int×zaZ)):=
 (zmQ o v0).bind fun v6=>bif(!v6)then some ((120:Int),v1,v2,v3,v4,v5)else((zkP o v0 v1 v2 v3 v4 v5).bind fun v8=>match v8 with
 |.inl v9=>some v9
 |.inr v10=>((zcY o v10.2.2.2.2.2).bind fun v11=>let v12:List zaJ:=mset keqS kltS v10.2.2.1 v10.2.2.2.2.2.1 v11
 some ((0:Int),v10.1,v10.2.1,v12,v10.2.2.2.1,v10.2.2.2.2.1)))
def zgC(o:Ops):SC:=⟨⟨[(0,(.ptr 0 0)),(1,(.h ybU))],[zaU,zaD,zaF,zaE,zaC,.mp true (.pr .s .s) .un]⟩,1,[(none,⟨[(0,hI)],[zaU,zaD,zaF,yyP,zaC,.mp true (.pr .s .s) .un]⟩)],fun x=>zcJ o x.1 x.2.1 x.2.2.1 x.2.2.2.1 x.2.2.2.2.1 x.2.2.2.2.2⟩
theorem zkI:SCok Tryz.prog tabs 36 (zgC o):=zbA (o:=o) (η:=[(2000006,.join [] [] [(some 1000000,⟨[(4,hI)],[zaU,zaD,zaF,zaE,zaC,.mp true (.pr .s .s) .un]⟩),(none,⟨[(0,(.ptr 0 0)),(3,(.ptr 6 0))],[zaU,zaD,zaF,zaE,zaC,.mp true (.pr .s .s) .un,.blk 49 [hS,(.h (.sl .s))]]⟩)]),
 (4000003,.sch [(.pu,0,[]),(.pu,1,[]),(.pu,2,[]),(.pu,3,[]),(.pu,4,[]),(.pu,5,[]),(.pu,6,[]),(.pu,7,[]),(.pu,8,[]),(.pu,9,[7]),(.mn,10,[]),(.mn,11,[7]),(.pu,12,[])]),
 (4000006,.sch [(.pu,0,[]),(.pu,1,[]),(.pu,2,[]),(.pu,3,[]),(.pu,4,[]),(.pu,5,[]),(.pu,6,[]),(.mn,7,[]),(.mn,8,[0,1,2,3,4,5,6])])]) (Γ:=⟨[(104,(zsL o)),(105,(zfW o))],[],false,[]⟩) (ctok ⟨zzJ,⟨zjF,trivial⟩⟩ trivial) Tryz.func36
def zeJ(_o:Ops)(v0:Bs)(v1:List zaI)(v2:List zaH)(v3:List zaJ)(v4:List zaK)(v5:List ((Bs×Bs)×Unit)):Option ((Bool×zaZ)):=
 let _v6:zdL:=zdY keqS v3 v0 (([]:Bs),([]:List Bs))
 some (mhas keqS v3 v0,v1,v2,v3,v4,v5)
def zgO(o:Ops):SC:=⟨⟨[(0,hS),(1,(.ptr 0 0))],[zsH,zjE,zaD,zaF,zaE,zaC,.mp true (.pr .s .s) .un]⟩,1,[(none,⟨[(0,hB)],[zsH,zjE,zaD,zaF,zaE,zaC,.mp true (.pr .s .s) .un]⟩)],fun x=>zeJ o x.1 x.2.1 x.2.2.1 x.2.2.2.1 x.2.2.2.2.1 x.2.2.2.2.2⟩
theorem zkQ:SCok Tryz.prog tabs 246 (zgO o):=zbA (o:=o) (η:=[]) (Γ:=⟨[],[],false,[]⟩) (ctok trivial trivial) Tryz.func246
def znQ(o:Ops)(v0:Bs)(v1:Bs)(v2:List zaI)(v3:List zaH)(v4:List zaJ)(v5:List zaK)(v6:List ((Bs×Bs)×Unit)):Option ((Int×(List zaI)×(List zaH)×(List zaJ)×(List zaK)×(List ((Bs×Bs)×Unit))×Int)⊕((List zaI)×(List zaH)×(List zaJ)×(List zaK)×(List ((Bs×Bs)×Unit))×Int)):=
 (zaQ o v0).bind fun v7=>bif(!v7)then some (.inl ((120:Int),v2,v3,v4,v5,v6,(0:Int)))else((zaQ o v1).bind fun v8=>bif(!v8)then some (.inl ((120:Int),v2,v3,v4,v5,v6,(0:Int)))else some (.inr (v2,v3,v4,v5,v6,(0:Int))))
def zdF(o:Ops)(v0:Bs)(v1:Bs)(v2:List zaI)(v3:List zaH)(v4:List zaJ)(v5:List zaK)(v6:List ((Bs×Bs)×Unit)):Option ((zzC×Int×zaZ)):=
 (znQ o v0 v1 v2 v3 v4 v5 v6).bind fun v9=>match v9 with
 |.inl v10=>some (((([]:List Bs),([]:List Bs),([]:List Bs)),v10.2.2.2.2.2.2),v10.1,v10.2.1,v10.2.2.1,v10.2.2.2.1,v10.2.2.2.2.1,v10.2.2.2.2.2.1)
 |.inr v11=>(let v12:zzC:=zdY keqS v11.2.1 v0 ((([]:List Bs),([]:List Bs),([]:List Bs)),(0:Int))
 bif(!(mhas keqS v11.2.1 v0))then some (((([]:List Bs),([]:List Bs),([]:List Bs)),(0:Int)),(122:Int),v11.1,v11.2.1,v11.2.2.1,v11.2.2.2.1,v11.2.2.2.2.1)else((zeJ o v1 v11.1 v11.2.1 v11.2.2.1 v11.2.2.2.1 v11.2.2.2.2.1).bind fun v13=>bif(!v13.1)then some (((([]:List Bs),([]:List Bs),([]:List Bs)),(0:Int)),(122:Int),v13.2)else some (v12,(0:Int),v13.2)))
def zhS(o:Ops):SC:=⟨⟨[(0,(.ptr 0 0)),(1,hS),(2,(.ag [(.kn .i64 2),(.fn 246 [] [(.ptr 1 0)])])),(3,hS)],[zjE,zxI,zaD,zaF,zaE,zaC,.mp true (.pr .s .s) .un]⟩,2,[(none,⟨[(0,(.h ytP)),(1,hI)],[zjE,zxI,zaD,zaF,zaE,zaC,.mp true (.pr .s .s) .un]⟩)],fun x=>zdF o x.1 x.2.1 x.2.2.1 x.2.2.2.1 x.2.2.2.2.1 x.2.2.2.2.2.1 x.2.2.2.2.2.2⟩
theorem znV:SCok Tryz.prog tabs 199 (zhS o):=zbA (o:=o) (η:=[(2000003,.join [] [1,3] [(some 1000000,⟨[(8,(.ptr 7 0)),(9,hI)],[zjE,zxI,zaD,zaF,zaE,zaC,.mp true (.pr .s .s) .un,yuB]⟩),(none,⟨[(0,(.ptr 0 0)),(6,(.ptr 7 0)),(8,(.ptr 8 0))],[zjE,zxI,zaD,zaF,zaE,zaC,.mp true (.pr .s .s) .un,.blk 187 [(.kn .i64 2),(.fn 246 [] [(.ptr 1 0)])],yuB]⟩)])]) (Γ:=⟨[(13,(zbD o))],[(246,(zgO o))],false,[]⟩) (ctok ⟨zbH,trivial⟩ ⟨zkQ,trivial⟩) Tryz.func199
def zmU(o:Ops)(v0:Bs)(v1:Bs)(v2:List zaI)(v3:List zaH)(v4:List zaJ)(v5:List zaK)(v6:List ((Bs×Bs)×Unit)):Option ((Int×(List zaI)×(List zaH)×(List zaJ)×(List zaK)×(List ((Bs×Bs)×Unit))×(List Bs)×(List Bs)×(List Bs)×Int)):=
 (zaR o v2 v3 v4 v5 v6).bind fun v7=>(zdF o v0 v1 v7.1 v7.2.1 v7.2.2.1 v7.2.2.2.1 v7.2.2.2.2).bind fun v8=>some (v8.2.1,v8.2.2.1,v8.2.2.2.1,v8.2.2.2.2.1,v8.2.2.2.2.2.1,v8.2.2.2.2.2.2,v8.1.1.1,v8.1.1.2.1,v8.1.1.2.2,v8.1.2)
def zmZ(o:Ops)(v1:Bs)(v9:Int×(List zaI)×(List zaH)×(List zaJ)×(List zaK)×(List ((Bs×Bs)×Unit))×(List Bs)×(List Bs)×(List Bs)×Int):Option ((Bool×(List zaI)×(List zaH)×(List zaJ)×(List zaK)×(List ((Bs×Bs)×Unit))×(List Bs)×(List Bs)×(List Bs)×Int)):=
 (zaV o v9.2.2.2.2.2.2.2.2.1 v1).bind fun v10=>some (v10,v9.2)
def znF(o:Ops)(v1:Bs)(v9:Int×(List zaI)×(List zaH)×(List zaJ)×(List zaK)×(List ((Bs×Bs)×Unit))×(List Bs)×(List Bs)×(List Bs)×Int):Option ((Int×zaZ)⊕((List zaI)×(List zaH)×(List zaJ)×(List zaK)×(List ((Bs×Bs)×Unit))×(List Bs)×(List Bs)×(List Bs)×Int)):=
 bif(v9.1 != 0)then some (.inl (v9.1,v9.2.1,v9.2.2.1,v9.2.2.2.1,v9.2.2.2.2.1,v9.2.2.2.2.2.1))else((zmZ o v1 v9).bind fun v11=>bif v11.1 then some (.inl ((121:Int),v11.2.1,v11.2.2.1,v11.2.2.2.1,v11.2.2.2.2.1,v11.2.2.2.2.2.1))else some (.inr v11.2))
def zmW(o:Ops)(v1:Bs)(v14:(List zaI)×(List zaH)×(List zaJ)×(List zaK)×(List ((Bs×Bs)×Unit))×(List Bs)×(List Bs)×(List Bs)×Int):Option (((List zaI)×(List zaH)×(List zaJ)×(List zaK)×(List ((Bs×Bs)×Unit))×(List Bs)×(List Bs)×(List Bs)×Int)):=
 (zeC o v14.2.2.2.2.2.2.2.1 v1).bind fun v15=>some (v14.1,v14.2.1,v14.2.2.1,v14.2.2.2.1,v14.2.2.2.2.1,v14.2.2.2.2.2.1,v14.2.2.2.2.2.2.1,v15,v14.2.2.2.2.2.2.2.2)
def zfM(o:Ops)(v0:Bs)(v1:Bs)(v2:List zaI)(v3:List zaH)(v4:List zaJ)(v5:List zaK)(v6:List ((Bs×Bs)×Unit)):Option ((Int×zaZ)):=
 (zmU o v0 v1 v2 v3 v4 v5 v6).bind fun v9=>(znF o v1 v9).bind fun v12=>match v12 with
 |.inl v13=>some v13
 |.inr v14=>((zmW o v1 v14).bind fun v16=>let v17:List zaH:=mset keqS kltS v16.2.1 v0 ((v16.2.2.2.2.2.1,v16.2.2.2.2.2.2.1,v16.2.2.2.2.2.2.2.1),w64 (v16.2.2.2.2.2.2.2.2+1))
 some ((0:Int),v16.1,v17,v16.2.2.1,v16.2.2.2.1,v16.2.2.2.2.1))
def znD(o:Ops):SC:=⟨⟨[(0,(.ptr 0 0)),(1,hS),(2,(.kn .i64 2)),(3,hS)],[zaU,zaD,zaF,zaE,zaC,.mp true (.pr .s .s) .un]⟩,1,[(none,⟨[(0,hI)],[zaU,zaD,ybA,zaE,zaC,.mp true (.pr .s .s) .un]⟩)],fun x=>zfM o x.1 x.2.1 x.2.2.1 x.2.2.2.1 x.2.2.2.2.1 x.2.2.2.2.2.1 x.2.2.2.2.2.2⟩
theorem zwH:SCok Tryz.prog tabs 101 (znD o):=zbA (o:=o) (η:=[(2100000,.join [] [1,2,3] [(none,⟨[(0,(.ptr 0 0)),(9,(.ptr 6 0)),(10,hI)],[zaU,zaD,zaF,zaE,zaC,.mp true (.pr .s .s) .un,zwL]⟩)]),
 (2300005,.join [] [1,2,3] [(none,⟨[(0,(.ptr 0 0)),(9,(.ptr 6 0)),(26,hB)],[zaU,zaD,zaF,zaE,zaC,.mp true (.pr .s .s) .un,zwL]⟩)]),
 (2000008,.join [] [1,2,3] [(some 1000000,⟨[(8,hI)],[zaU,zaD,zaF,zaE,zaC,.mp true (.pr .s .s) .un]⟩),(none,⟨[(0,(.ptr 0 0)),(9,(.ptr 6 0))],[zaU,zaD,zaF,zaE,zaC,.mp true (.pr .s .s) .un,zwL]⟩)]),
 (2000009,.join [] [1] [(none,⟨[(0,(.ptr 0 0)),(9,(.ptr 6 0))],[zaU,zaD,zaF,zaE,zaC,.mp true (.pr .s .s) .un,zwL]⟩)]),
 (4000010,.sch [(.pu,0,[]),(.pu,1,[]),(.pu,2,[]),(.pu,3,[]),(.pu,4,[]),(.pu,5,[]),(.mn,6,[0,1,2,3,4,5,6])])]) (Γ:=⟨[(131,(zcK o)),(201,(zoM o))],[(173,(zbK o)),(199,(zhS o))],false,[]⟩) (ctok ⟨zdC,⟨zsO,trivial⟩⟩ ⟨zbR,⟨znV,trivial⟩⟩) Tryz.func101
def zfY(o:Ops)(v0:Bs)(v1:Bs)(v2:List zaI)(v3:List zaH)(v4:List zaJ)(v5:List zaK)(v6:List ((Bs×Bs)×Unit)):Option ((Int×zaZ)):=
 (zfM o v0 v1 v2 v3 v4 v5 v6).bind fun v7=>some v7
def ziM(o:Ops):SC:=⟨⟨[(0,(.ptr 0 0)),(1,hS),(2,hS)],[zaU,zaD,zaF,zaE,zaC,.mp true (.pr .s .s) .un]⟩,1,[(none,⟨[(0,hI)],[zaU,zaD,ybA,zaE,zaC,.mp true (.pr .s .s) .un]⟩)],fun x=>zfY o x.1 x.2.1 x.2.2.1 x.2.2.2.1 x.2.2.2.2.1 x.2.2.2.2.2.1 x.2.2.2.2.2.2⟩
theorem zpE:SCok Tryz.prog tabs 74 (ziM o):=zbA (o:=o) (η:=[]) (Γ:=⟨[],[(101,(znD o))],false,[]⟩) (ctok trivial ⟨zwH,trivial⟩) Tryz.func74
def zbF(o:Ops)(v0:Bs):Option (Bool):=
 bif decide ((v0.length:Int)>2)then((subH v0 (2:Int)).bind fun v1=>bif(v1==([117,58]:Bs))then((subL v0 (2:Int)).bind fun v2=>(zaQ o v2).bind fun v3=>some v3)else((subH v0 (2:Int)).bind fun v4=>bif(v4==([99,58]:Bs))then((subL v0 (2:Int)).bind fun v5=>(zaQ o v5).bind fun v6=>some v6)else(some false)))else(some false)
def zgP(o:Ops):PC:=⟨[hS],[.b],fun x=>zbF o x,false⟩
theorem zkB:PCok Tryz.prog tabs 19 (zgP o):=zhB (o:=o) (η:=[]) (Γ:=⟨[(13,(zbD o))],[],false,[]⟩) (ctok ⟨zbH,trivial⟩ trivial) Tryz.func19
def zbM(_o:Ops)(v0:Bs)(v1:List zaI)(v2:List zaH)(v3:List zaJ)(v4:List zaK)(v5:List ((Bs×Bs)×Unit)):Option ((Bool×zaZ)):=
 (idx v0 (0:Int)).bind fun v6=>bif((v6.toNat:Int)==((99:UInt8).toNat:Int))then((subL v0 (2:Int)).bind fun v7=>let _v8:zsY:=zdY keqS v4 v7 (([]:Bs),([]:Bs),([]:List Bs),([]:List Bs),false,false,false,false)
 some (mhas keqS v4 v7,v1,v2,v3,v4,v5))else((subL v0 (2:Int)).bind fun v9=>let _v10:zwQ:=zdY keqS v1 v9 (([]:Bs),([]:Bs),false,(0:Int))
 some (mhas keqS v1 v9,v1,v2,v3,v4,v5))
def zeU(o:Ops):SC:=⟨⟨[(0,(.ptr 0 0)),(1,hS)],[zaU,zaD,zaF,zaE,zaC,.mp true (.pr .s .s) .un]⟩,1,[(none,⟨[(0,hB)],[zaU,zaD,zaF,zaE,zaC,.mp true (.pr .s .s) .un]⟩)],fun x=>zbM o x.1 x.2.1 x.2.2.1 x.2.2.2.1 x.2.2.2.2.1 x.2.2.2.2.2⟩
theorem zhI:SCok Tryz.prog tabs 128 (zeU o):=zbA (o:=o) (η:=[(4000002,.sch [(.pu,0,[]),(.pu,1,[]),(.pu,2,[]),(.pu,3,[]),(.pu,4,[]),(.pu,5,[]),(.pu,6,[]),(.pu,7,[]),(.pu,8,[]),(.pu,9,[6]),(.mn,10,[]),(.mn,11,[6]),(.pu,12,[])]),
 (4000004,.sch [(.pu,0,[]),(.pu,1,[]),(.pu,2,[]),(.pu,3,[]),(.pu,4,[]),(.pu,5,[]),(.pu,6,[]),(.pu,7,[]),(.pu,8,[]),(.pu,9,[6]),(.mn,10,[]),(.mn,11,[6]),(.pu,12,[])])]) (Γ:=⟨[],[],false,[]⟩) (ctok trivial trivial) Tryz.func128
def zcU(o:Ops)(v0:Bs)(v1:List zaI)(v2:List zaH)(v3:List zaJ)(v4:List zaK)(v5:List ((Bs×Bs)×Unit)):Option ((Bool×zaZ)):=
 (zbF o v0).bind fun v6=>bif(!v6)then some (false,v1,v2,v3,v4,v5)else((idx v0 (0:Int)).bind fun v7=>bif((v7.toNat:Int)==((99:UInt8).toNat:Int))then((zbM o v0 v1 v2 v3 v4 v5).bind fun v8=>some v8)else((subL v0 (2:Int)).bind fun v9=>let v10:zwQ:=zdY keqS v1 v9 (([]:Bs),([]:Bs),false,(0:Int))
 some (v10.2.2.1,v1,v2,v3,v4,v5)))
def zgX(o:Ops):SC:=⟨⟨[(0,(.ptr 0 0)),(1,hS)],[zaU,zaD,zaF,zaE,zaC,.mp true (.pr .s .s) .un]⟩,1,[(none,⟨[(0,hB)],[zaU,zaD,zaF,zaE,zaC,.mp true (.pr .s .s) .un]⟩)],fun x=>zcU o x.1 x.2.1 x.2.2.1 x.2.2.2.1 x.2.2.2.2.1 x.2.2.2.2.2⟩
theorem zlG:SCok Tryz.prog tabs 49 (zgX o):=zbA (o:=o) (η:=[(4000005,.sch [(.pu,0,[]),(.pu,1,[]),(.pu,2,[]),(.pu,3,[]),(.pu,4,[]),(.pu,5,[]),(.pu,6,[]),(.pu,7,[]),(.pu,8,[])])]) (Γ:=⟨[(19,(zgP o))],[(128,(zeU o))],false,[]⟩) (ctok ⟨zkB,trivial⟩ ⟨zhI,trivial⟩) Tryz.func49
def zjI(_o:Ops)(v0:Bs)(v1:List (Bs×Unit)):Option ((Bool×List (Bs×Unit))):=
 let _v2:Unit:=zdY keqS v1 v0 ()
 some (mhas keqS v1 v0,v1)
def zpM(o:Ops):SC:=⟨⟨[(0,hS),(1,(.ptr 0 0))],[ygE,zlZ]⟩,1,[(none,⟨[(0,hB)],[ygE,zlZ]⟩)],fun x=>zjI o x.1 x.2⟩
theorem zxN:SCok Tryz.prog tabs 130 (zpM o):=zbA (o:=o) (η:=[]) (Γ:=⟨[],[],false,[]⟩) (ctok trivial trivial) Tryz.func130
def zcX(o:Ops)(v0:List Bs)(v2:Int)(v3:List (Bs×Unit)):Option ((Int×List (Bs×Unit))⊕((Int×List (Bs×Unit))⊕(List (Bs×Unit)))):=
 bif decide (v2<(v0.length:Int))then((idx v0 v2).bind fun v4=>(zjI o v4 v3).bind fun v5=>bif v5.1 then some (.inr (.inl (v2,v5.2)))else some (.inl (w64 (v2+1),v5.2)))else some (.inr (.inr v3))
def zmF(o:Ops)(v0:List Bs)(v1:List (Bs×Unit)):Option ((Int×List (Bs×Unit))):=
 (iter (fun x=>zcX o v0 x.1 x.2) ((0:Int),v1)).bind fun v6=>match v6 with
 |.inl v7=>some v7
 |.inr v8=>some ((-1:Int),v8)
def zrK(o:Ops):SC:=⟨⟨[(0,(.h (.sl .s))),(1,(.fn 130 [] [(.ptr 0 0)]))],[ygE,zlZ]⟩,1,[(none,⟨[(0,hI)],[ygE,zlZ]⟩)],fun x=>zmF o x.1 x.2⟩
theorem yaH:SCok Tryz.prog tabs 212 (zrK o):=zbA (o:=o) (η:=[(200002,.loop [] ⟨[(1,(.fn 130 [] [(.ptr 0 0)])),(8,hI)],[ygE,zlZ]⟩ [0,7] [(some 1000000,⟨[(4,hI)],[ygE,zlZ]⟩),(some 0,⟨[],[ygE,zlZ]⟩)])]) (Γ:=⟨[],[(130,(zpM o))],false,[]⟩) (ctok trivial ⟨zxN,trivial⟩) Tryz.func212
def zdE(o:Ops)(v0:List Bs)(v1:List (Bs×Unit)):Option ((Bool×List (Bs×Unit))):=
 (zmF o v0 v1).bind fun v2=>some (decide (v2.1≥0),v2.2)
def znI(o:Ops):SC:=⟨⟨[(0,(.h (.sl .s))),(1,(.fn 130 [] [(.ptr 0 0)]))],[ygE,zlZ]⟩,1,[(none,⟨[(0,hB)],[ygE,zlZ]⟩)],fun x=>zdE o x.1 x.2⟩
theorem zwO:SCok Tryz.prog tabs 129 (znI o):=zbA (o:=o) (η:=[]) (Γ:=⟨[],[(212,(zrK o))],false,[]⟩) (ctok trivial ⟨yaH,trivial⟩) Tryz.func129
def yaB(_o:Ops)(v0:List (Bs×Unit)):Option ((List (Bs×Unit))):=
 some v0
def ycW(o:Ops):SC:=⟨⟨[(0,(.mpr 0))],[zlZ]⟩,1,[(none,⟨[(0,(.fn 215 [] [(.ptr 1 0)]))],[zlZ,.blk 160 [(.mpr 0)]]⟩)],fun x=>yaB o x⟩
theorem ylP:SCok Tryz.prog tabs 133 (ycW o):=zbA (o:=o) (η:=[]) (Γ:=⟨[],[],false,[]⟩) (ctok trivial trivial) Tryz.func133
def ymU:SC:=⟨⟨[(0,(.fn 215 [] [(.ptr 0 0)]))],[ygE,zlZ]⟩,1,[(none,⟨[(0,(.h (.sl .s)))],[ygE,zlZ]⟩)],fun es=>zoD es⟩
theorem yzY:SCok Tryz.prog tabs 132 ymU:=wit (G:=tabs)<|zwS (kT:=9) (isFn Tryz.func132) (by kernel_rfl) YtopanhneegpgcaaGreatDoor.sorted215K
noncomputable def zkF(_o:Ops)(v6:Bool)(v7:List zaI)(v8:List zaH)(v9:List zaJ)(v10:List zaK)(v11:List ((Bs×Bs)×Unit))(v12:List (Bs×Unit)):Option (((Bool×(List zaI)×(List zaH)×(List zaJ)×(List zaK)×(List ((Bs×Bs)×Unit))×List (Bs×Unit))⊕(Bool×(List zaI)×(List zaH)×(List zaJ)×(List zaK)×(List ((Bs×Bs)×Unit))×(List Bs)×List (Bs×Unit)))⊕(((List zaI)×(List zaH)×(List zaJ)×(List zaK)×(List ((Bs×Bs)×Unit))×List (Bs×Unit)))):=
 bif v6 then some (.inl (.inr (false,v7,v8,v9,v10,v11,List.map Prod.fst v8,v12)))else some (.inr (v7,v8,v9,v10,v11,v12))
noncomputable def zkA(o:Ops)(v0:Bs)(v13:Bool)(v14:List zaI)(v15:List zaH)(v16:List zaJ)(v17:List zaK)(v18:List ((Bs×Bs)×Unit))(v19:List Bs)(v20:List (Bs×Unit)):List (Option (((Bool×(List zaI)×(List zaH)×(List zaJ)×(List zaK)×(List ((Bs×Bs)×Unit))×List (Bs×Unit))⊕(Bool×(List zaI)×(List zaH)×(List zaJ)×(List zaK)×(List ((Bs×Bs)×Unit))×(List Bs)×List (Bs×Unit)))⊕(((List zaI)×(List zaH)×(List zaJ)×(List zaK)×(List ((Bs×Bs)×Unit))×List (Bs×Unit))))):=
 rngL (rngC keqS v15 v19) (some (.inl (.inl (v13,v14,v15,v16,v17,v18,v20)))) fun v21=>(mget keqS v15 v21.1).bind fun v22=>let _v23:Unit:=zdY keqS v20 v21.1 ()
 bif mhas keqS v20 v21.1 then some (.inl (.inr (v13,v14,v15,v16,v17,v18,rngD keqS v19 v21.1,v20)))else((zdE o v22.1.2.1 v20).bind fun v24=>bif v24.1 then(let v25:List (Bs×Unit):=mset keqS kltS v24.2 v21.1 ()
 some (.inl (.inr (true,v14,v15,v16,v17,v18,rngD keqS v19 v21.1,v25))))else((zaV o v22.1.1 v0).bind fun v26=>bif v26 then(let v27:List (Bs×Unit):=mset keqS kltS v24.2 v21.1 ()
 some (.inl (.inr (true,v14,v15,v16,v17,v18,rngD keqS v19 v21.1,v27))))else some (.inl (.inr (v13,v14,v15,v16,v17,v18,rngD keqS v19 v21.1,v24.2)))))
noncomputable def zqW(o:Ops)(v0:Bs):(Bool×(List zaI)×(List zaH)×(List zaJ)×(List zaK)×(List ((Bs×Bs)×Unit))×List (Bs×Unit))⊕(Bool×(List zaI)×(List zaH)×(List zaJ)×(List zaK)×(List ((Bs×Bs)×Unit))×(List Bs)×List (Bs×Unit))→List (Option (((Bool×(List zaI)×(List zaH)×(List zaJ)×(List zaK)×(List ((Bs×Bs)×Unit))×List (Bs×Unit))⊕(Bool×(List zaI)×(List zaH)×(List zaJ)×(List zaK)×(List ((Bs×Bs)×Unit))×(List Bs)×List (Bs×Unit)))⊕(((List zaI)×(List zaH)×(List zaJ)×(List zaK)×(List ((Bs×Bs)×Unit))×List (Bs×Unit)))))
 |.inl x=>[zkF o x.1 x.2.1 x.2.2.1 x.2.2.2.1 x.2.2.2.2.1 x.2.2.2.2.2.1 x.2.2.2.2.2.2]
 |.inr x=>zkA o v0 x.1 x.2.1 x.2.2.1 x.2.2.2.1 x.2.2.2.2.1 x.2.2.2.2.2.1 x.2.2.2.2.2.2.1 x.2.2.2.2.2.2.2
noncomputable def zbS(o:Ops)(v0:Bs)(v1:List zaI)(v2:List zaH)(v3:List zaJ)(v4:List zaK)(v5:List ((Bs×Bs)×Unit)):Option (((List Bs)×zaZ)):=
 (rngA (zqW o v0) (Sum.inl (true,v1,v2,v3,v4,v5,([]:List (Bs×Unit))))).bind fun v28=>(yaB o v28.2.2.2.2.2).bind fun v29=>(zoD v29).bind fun v30=>some (v30.1,v28.1,v28.2.1,v28.2.2.1,v28.2.2.2.1,v28.2.2.2.2.1)
noncomputable def zgZ(o:Ops):SC:=⟨⟨[(0,(.ptr 0 0)),(1,hS)],[zaU,zaD,zaF,zaE,zaC,.mp true (.pr .s .s) .un]⟩,1,[(none,⟨[(0,(.hc .s))],[zaU,zaD,zaF,zaE,zaC,.mp true (.pr .s .s) .un]⟩)],fun x=>zbS o x.1 x.2.1 x.2.2.1 x.2.2.2.1 x.2.2.2.2.1 x.2.2.2.2.2⟩
theorem zkD:SCok Tryz.prog tabs 50 (zgZ o):=witO (G:=tabs) (o:=o)<|fn_nc (H:=⟨[false,false,true,false],[],⟨[(0,(.ptr 0 0)),(5,(.ptr 6 0)),(6,hB)],[zaU,zaD,zaF,zaE,zaC,.mp true (.pr .s .s) .un,.blk 160 [(.mpr 7)],zlZ]⟩,[1,4],[(some 0,⟨[(5,(.ptr 6 0))],[zaU,zaD,zaF,zaE,zaC,.mp true (.pr .s .s) .un,.blk 160 [(.mpr 7)],zlZ]⟩)],[false,false,false],⟨[(0,(.ptr 0 0)),(5,(.ptr 6 0)),(6,hB),(18,(.ptr 7 0))],[zaU,zaD,zaF,zaE,zaC,.mp true (.pr .s .s) .un,.blk 160 [(.mpr 8)],.it 2 true .s,zlZ]⟩,[1,4]⟩) (η:=[]) (Γ:=⟨[(131,(zcK o)),(61,yaA)],[(129,(znI o)),(133,(ycW o)),(132,ymU)],false,[]⟩) ycS τ_okWkF (ctok ⟨zdC,⟨ycF,trivial⟩⟩ ⟨zwO,⟨ylP,⟨yzY,trivial⟩⟩⟩) Tryz.func50 (isFn Tryz.func50) (by kernel_rfl) (by kernel_rfl) (by kernel_rfl)
def yvD:SC:=⟨⟨[(0,(.own 0))],[.osl .s 9]⟩,0,[(none,⟨[],[.osl .s 9]⟩)],yyL⟩
theorem Sort_sk:SCok Tryz.prog tabs 102 yvD:=wit (G:=tabs)<|sortK
def yhM:SC:=⟨⟨[(0,(.own 0))],[.osl .s 9]⟩,1,[(none,⟨[(0,(.h (.sl .s)))],[.dead]⟩)],yeM⟩
theorem ytA:SCok Tryz.prog tabs 103 yhM:=wit (G:=tabs)<|xdZ
noncomputable def zvG(_o:Ops)(v15:zzC)(v16:Int)(v17:List zaI)(v18:List zaH)(v19:List zaJ)(v20:List zaK)(v21:List ((Bs×Bs)×Unit))(v22:List Bs):Option ((Int×(List zaI)×(List zaH)×(List zaJ)×(List zaK)×(List ((Bs×Bs)×Unit))×List Bs)⊕(((List zaI)×(List zaH)×(List zaJ)×(List zaK)×(List ((Bs×Bs)×Unit))×List Bs))):=
 bif decide (v16<(v15.1.2.2.length:Int))then((idx v15.1.2.2 v16).bind fun v23=>let v24:zdL:=zdY keqS v19 v23 (([]:Bs),([]:List Bs))
 (app v22 v24.2).bind fun v25=>some (.inl (w64 (v16+1),v17,v18,v19,v20,v21,v25)))else some (.inr (v17,v18,v19,v20,v21,v22))
noncomputable def zwG(o:Ops)(v6:((List Bs)×zaZ))(v7:Int)(v8:List zaI)(v9:List zaH)(v10:List zaJ)(v11:List zaK)(v12:List ((Bs×Bs)×Unit))(v13:List Bs):Option ((Int×(List zaI)×(List zaH)×(List zaJ)×(List zaK)×(List ((Bs×Bs)×Unit))×List Bs)⊕(((List zaI)×(List zaH)×(List zaJ)×(List zaK)×(List ((Bs×Bs)×Unit))×List Bs))):=
 bif decide (v7<(v6.1.length:Int))then((idx v6.1 v7).bind fun v14=>let v15:zzC:=zdY keqS v9 v14 ((([]:List Bs),([]:List Bs),([]:List Bs)),(0:Int))
 (iter (fun x=>zvG o v15 x.1 x.2.1 x.2.2.1 x.2.2.2.1 x.2.2.2.2.1 x.2.2.2.2.2.1 x.2.2.2.2.2.2) ((0:Int),v8,v9,v10,v11,v12,v13)).bind fun v26=>some (.inl (w64 (v7+1),v26)))else some (.inr (v8,v9,v10,v11,v12,v13))
noncomputable def zdJ(o:Ops)(v0:Bs)(v1:List zaI)(v2:List zaH)(v3:List zaJ)(v4:List zaK)(v5:List ((Bs×Bs)×Unit)):Option (((List Bs)×zaZ)):=
 (zbS o v0 v1 v2 v3 v4 v5).bind fun v6=>(iter (fun x=>zwG o v6 x.1 x.2.1 x.2.2.1 x.2.2.2.1 x.2.2.2.2.1 x.2.2.2.2.2.1 x.2.2.2.2.2.2) ((0:Int),v6.2.1,v6.2.2.1,v6.2.2.2.1,v6.2.2.2.2.1,v6.2.2.2.2.2,([]:List Bs))).bind fun v27=>(yyL v27.2.2.2.2.2).bind fun v28=>(yeM v28).bind fun v29=>some (v29,v27.1,v27.2.1,v27.2.2.1,v27.2.2.2.1,v27.2.2.2.2.1)
noncomputable def znE(o:Ops):SC:=⟨⟨[(0,(.ptr 0 0)),(1,hS)],[zaU,zaD,zaF,zaE,zaC,.mp true (.pr .s .s) .un]⟩,1,[(none,⟨[(0,(.hc .s))],[zaU,zaD,zaF,zaE,zaC,.mp true (.pr .s .s) .un]⟩)],fun x=>zdJ o x.1 x.2.1 x.2.2.1 x.2.2.2.1 x.2.2.2.2.1 x.2.2.2.2.2⟩
theorem zwA:SCok Tryz.prog tabs 34 (znE o):=zbA (o:=o) (η:=[(200006,.loop [] ⟨[(0,(.ptr 0 0)),(5,(.own 6)),(27,hI)],[zaU,zaD,zaF,zaE,zaC,.mp true (.pr .s .s) .un,.osl .s 9]⟩ [4,12,13,14,25,26] [(some 2,⟨[(0,(.ptr 0 0)),(5,(.own 6))],[zaU,zaD,zaF,zaE,zaC,.mp true (.pr .s .s) .un,.osl .s 9]⟩)]),
 (200003,.loop [.sl 5 .s 9] ⟨[(0,(.ptr 0 0)),(5,(.own 6)),(14,hI)],[zaU,zaD,zaF,zaE,zaC,.mp true (.pr .s .s) .un,.osl .s 9]⟩ [4,12,13] [(some 0,⟨[(5,(.own 6))],[zaU,zaD,zaF,zaE,zaC,.mp true (.pr .s .s) .un,.osl .s 9]⟩)])]) (Γ:=⟨[(61,yaA)],[(50,(zgZ o)),(102,yvD),(103,yhM)],false,[]⟩) (ctok ⟨ycF,trivial⟩ ⟨zkD,⟨Sort_sk,⟨ytA,trivial⟩⟩⟩) Tryz.func34
def zwV(_o:Ops)(v0:List zaK):Option ((List zaK)):=
 some v0
def ybC(o:Ops):SC:=⟨⟨[(0,(.mpr 0))],[zaC]⟩,1,[(none,⟨[(0,(.fn 271 [] [(.ptr 1 0)]))],[zaC,.blk 125 [(.mpr 0)]]⟩)],fun x=>zwV o x⟩
theorem ykU:SCok Tryz.prog tabs 203 (ybC o):=zbA (o:=o) (η:=[]) (Γ:=⟨[],[],false,[]⟩) (ctok trivial trivial) Tryz.func203
def yiF:SC:=⟨⟨[(0,(.fn 271 [] [(.ptr 0 0)]))],[.blk 125 [(.mpr 1)],zaC]⟩,1,[(none,⟨[(0,(.h (.sl .s)))],[.blk 125 [(.mpr 1)],zaC]⟩)],fun es=>zoD es⟩
theorem ytZ:SCok Tryz.prog tabs 132 yiF:=wit (G:=tabs)<|zwS (kT:=9) (isFn Tryz.func132) (by kernel_rfl) YtopanhneegpgcaaGreatDoor.sorted271K
def zgN(_o:Ops)(v0:zsY):Option zsY:=
 (app ([]:List Bs) v0.2.2.1).bind fun v1=>(app ([]:List Bs) v0.2.2.2.1).bind fun v2=>some (v0.1,v0.2.1,v1,v2,v0.2.2.2.2)
def zjU(o:Ops):PC:=⟨[(.h ybX)],[ybX],fun x=>zgN o x,false⟩
theorem zpU:PCok Tryz.prog tabs 107 (zjU o):=zhB (o:=o) (η:=[(4000001,.sch [(.pu,0,[]),(.pu,1,[]),(.pu,4,[3]),(.pu,5,[3]),(.mn,2,[]),(.mn,3,[3]),(.pu,8,[5]),(.mn,6,[]),(.mn,7,[5]),(.mn,9,[0]),(.pu,10,[]),(.mn,11,[0])])]) (Γ:=⟨[(61,yaA)],[(198,zvF)],false,[]⟩) (ctok ⟨ycF,trivial⟩ ⟨zyT,trivial⟩) Tryz.func107
def zfT(o:Ops)(_v0:Bs)(v1:zsY):Option zsY:=
 (zgN o v1).bind fun v2=>some v2
def zjD(o:Ops):PC:=⟨[hS,(.h ybX)],[ybX],fun x=>zfT o x.1 x.2,false⟩
theorem zrS:PCok Tryz.prog tabs 109 (zjD o):=zhB (o:=o) (η:=[]) (Γ:=⟨[(107,(zjU o))],[],false,[]⟩) (ctok ⟨zpU,trivial⟩ trivial) Tryz.func109
def zpR(o:Ops)(v3:((List Bs)×List zaK))(v4:Int)(v5:List zaK)(v6:List zsY):Option ((Int×(List zaK)×List zsY)⊕(((List zaK)×List zsY))):=
 bif decide (v4<(v3.1.length:Int))then((idx v3.1 v4).bind fun v7=>let v8:zsY:=zdY keqS v5 v7 (([]:Bs),([]:Bs),([]:List Bs),([]:List Bs),false,false,false,false)
 (zfT o v7 v8).bind fun v9=>(app v6 ([v9]:List zsY)).bind fun v10=>some (.inl (w64 (v4+1),v5,v10)))else some (.inr (v5,v6))
def zrQ(o:Ops)(v0:List zaK):Option (((List zaK)×List zsY)):=
 (chk (decide ((0:Int)≤(v0.length:Int))&&decide ((v0.length:Int)≤(LIM:Int)))).bind fun _=>(mkL (0:Int) (([]:Bs),([]:Bs),([]:List Bs),([]:List Bs),false,false,false,false)).bind fun v1=>(zwV o v0).bind fun v2=>(zoD v2).bind fun v3=>(iter (fun x=>zpR o v3 x.1 x.2.1 x.2.2) ((0:Int),v3.2,v1)).bind fun v11=>some v11
def zvU(o:Ops):SC:=⟨⟨[(0,(.mpr 0)),(1,(.fn 109 [] []))],[zaC]⟩,1,[(none,⟨[(0,(.own 1))],[zaC,.osl ybX 51]⟩)],fun x=>zrQ o x⟩
theorem ydD:SCok Tryz.prog tabs 108 (zvU o):=zbA (o:=o) (η:=[(200003,.loop [] ⟨[(0,(.mpr 0)),(1,(.fn 109 [] [])),(5,(.own 1)),(15,hI)],[zaC,.osl ybX 51]⟩ [4,13,14] [(some 0,⟨[(5,(.own 1))],[zaC,.osl ybX 51]⟩)])]) (Γ:=⟨[(109,(zjD o))],[(203,(ybC o)),(132,yiF)],false,[]⟩) (ctok ⟨zrS,trivial⟩ ⟨ykU,⟨ytZ,trivial⟩⟩) Tryz.func108
def zbW(o:Ops)(v0:List zaI)(v1:List zaH)(v2:List zaJ)(v3:List zaK)(v4:List ((Bs×Bs)×Unit)):Option (((List zaI)×(List zaH)×(List zaJ)×(List zaK)×(List ((Bs×Bs)×Unit))×List zsY)):=
 (zrQ o v3).bind fun v5=>some (v0,v1,v2,v5.1,v4,v5.2)
def zgF(o:Ops):SC:=⟨⟨[(0,(.ptr 0 0))],[zaU,zaD,zaF,zaE,zaC,.mp true (.pr .s .s) .un]⟩,1,[(none,⟨[(0,(.own 6))],[zaU,zaD,zaF,zaE,zaC,.mp true (.pr .s .s) .un,.osl ybX 51]⟩)],fun x=>zbW o x.1 x.2.1 x.2.2.1 x.2.2.2.1 x.2.2.2.2⟩
theorem zkS:SCok Tryz.prog tabs 38 (zgF o):=zbA (o:=o) (η:=[]) (Γ:=⟨[],[(108,(zvU o))],false,[]⟩) (ctok trivial ⟨ydD,trivial⟩) Tryz.func38
def zhF(_o:Ops)(v0:Bool):Option Bs:=
 bif v0 then(some ([49]:Bs))else(some ([48]:Bs))
def zxS(o:Ops):PC:=⟨[hB],[.s],fun x=>zhF o x,false⟩
theorem ygJ:PCok Tryz.prog tabs 86 (zxS o):=zhB (o:=o) (η:=[]) (Γ:=⟨[],[],false,[]⟩) (ctok trivial trivial) Tryz.func86
def zeR(o:Ops)(v0:List Bs):Option (List Bs):=
 (o.itoa (v0.length:Int)).bind fun v1=>(app ([v1]:List Bs) v0).bind fun v2=>some v2
def zvL(o:Ops):PC:=⟨[(.h (.sl .s))],[(.sl .s)],fun x=>zeR o x,false⟩
theorem ydT:PCok Tryz.prog tabs 87 (zvL o):=zhB (o:=o) (η:=[]) (Γ:=⟨[(68,(ypB o))],[],false,[]⟩) (ctok ⟨(zsQ.itoa (G:=tabs)),trivial⟩ trivial) Tryz.func87
def yvR:SC:=⟨⟨[(0,.nils),(1,hI)],[]⟩,1,[(none,⟨[(0,(.own 0))],[.osl .s 9]⟩)],fun n=>ywU .s n⟩
theorem Grow_sk:SCok Tryz.prog tabs 187 yvR:=wit (G:=tabs)<|xbS (isFn Tryz.func187) growK
def ydS(_o:Ops)(v0:List (List Bs))(v1:Int)(v2:Int):Option ((Int×Int)⊕Int):=
 bif decide (v2<(v0.length:Int))then((idx v0 v2).bind fun v3=>bif decide ((w64 (v1+(v3.length:Int)))<0)then none else some (.inl (w64 (v1+(v3.length:Int)),w64 (v2+1))))else some (.inr v1)
def ydR(_o:Ops)(v0:List (List Bs))(v6:Int)(v7:List Bs):Option ((Int×List Bs)⊕List Bs):=
 bif decide (v6<(v0.length:Int))then((idx v0 v6).bind fun v8=>(app v7 v8).bind fun v9=>some (.inl (w64 (v6+1),v9)))else some (.inr v7)
def zrB(o:Ops)(v0:List (List Bs)):Option (List Bs):=
 (iter (fun x=>ydS o v0 x.1 x.2) ((0:Int),(0:Int))).bind fun v4=>(ywU .s v4).bind fun v5=>(iter (fun x=>ydR o v0 x.1 x.2) ((0:Int),v5)).bind fun v10=>some v10
def zvQ(o:Ops):PC:=⟨[(.h (.sl (.sl .s)))],[(.sl .s)],fun x=>zrB o x,false⟩
theorem ydO:PCok Tryz.prog tabs 85 (zvQ o):=zhB (o:=o) (η:=[(200003,.loop [] ⟨[(3,hI),(11,hI)],[]⟩ [0,2,9,10] [(some 0,⟨[(3,hI)],[]⟩)]),
 (200011,.loop [] ⟨[(6,(.own 0)),(27,hI)],[.osl .s 9]⟩ [2,25,26] [(some 2,⟨[(6,(.own 0))],[.osl .s 9]⟩)])]) (Γ:=⟨[],[(187,yvR)],false,[]⟩) (ctok trivial ⟨Grow_sk,trivial⟩) Tryz.func85
def zeF(o:Ops)(v0:Bs)(v1:List Bs)(v2:List (Bs×Bs)):Option ((List (Bs×Bs))):=
 (o.form v1).bind fun v3=>(app v2 ([(v0,v3)]:List (Bs×Bs))).bind fun v4=>some v4
def zkK(o:Ops):SC:=⟨⟨[(0,hS),(1,(.h (.sl .s))),(2,(.ptr 0 0))],[xfR,.osl (.pr .s .s) 33]⟩,0,[(none,⟨[],[ywQ,.dead,.osl (.pr .s .s) 33]⟩)],fun x=>zeF o x.1 x.2.1 x.2.2⟩
theorem ztV:SCok Tryz.prog tabs 84 (zkK o):=zbA (o:=o) (η:=[(4000000,.sch [(.pu,0,[]),(.pu,1,[]),(.pu,2,[]),(.mn,3,[]),(.pu,4,[]),(.mn,5,[]),(.mn,6,[1]),(.mn,7,[0])])]) (Γ:=⟨[(22,(yeO o))],[],false,[]⟩) (ctok ⟨(zsQ.form (G:=tabs)),trivial⟩ trivial) Tryz.func84
def zyN(_o:Ops)(v0:List zaH):Option ((List zaH)):=
 some v0
def yaQ(o:Ops):SC:=⟨⟨[(0,(.mpr 0))],[zaF]⟩,1,[(none,⟨[(0,(.fn 260 [] [(.ptr 1 0)]))],[zaF,.blk 123 [(.mpr 0)]]⟩)],fun x=>zyN o x⟩
theorem yiY:SCok Tryz.prog tabs 196 (yaQ o):=zbA (o:=o) (η:=[]) (Γ:=⟨[],[],false,[]⟩) (ctok trivial trivial) Tryz.func196
def yhY:SC:=⟨⟨[(0,(.fn 260 [] [(.ptr 0 0)]))],[.blk 123 [(.mpr 1)],zaF]⟩,1,[(none,⟨[(0,(.h (.sl .s)))],[.blk 123 [(.mpr 1)],zaF]⟩)],fun es=>zoD es⟩
theorem ysV:SCok Tryz.prog tabs 132 yhY:=wit (G:=tabs)<|zwS (kT:=9) (isFn Tryz.func132) (by kernel_rfl) YtopanhneegpgcaaGreatDoor.sorted260K
def zgE(_o:Ops)(v0:List Bs):Option (List Bs):=
 (app ([]:List Bs) v0).bind fun v1=>some v1
def zvV(o:Ops):SC:=⟨⟨[(0,(.h (.sl .s)))],[]⟩,1,[(none,⟨[(0,(.hc .s))],[]⟩)],fun x=>zgE o x⟩
theorem ydJ:SCok Tryz.prog tabs 197 (zvV o):=zbA (o:=o) (η:=[]) (Γ:=⟨[(61,yaA)],[(198,zvF)],false,[]⟩) (ctok ⟨ycF,trivial⟩ ⟨zyT,trivial⟩) Tryz.func197
def zuW(o:Ops)(v0:Bs)(v1:zzC):Option ygZ:=
 (zgE o v1.1.1).bind fun v2=>(zgE o v1.1.2.1).bind fun v3=>(zgE o v1.1.2.2).bind fun v4=>some (v0,v2,v3,v4,v1.2)
def zzK(o:Ops):PC:=⟨[hS,(.h ytP)],[yuE],fun x=>zuW o x.1 x.2,false⟩
theorem yhI:PCok Tryz.prog tabs 100 (zzK o):=zhB (o:=o) (η:=[(4000002,.sch [(.pu,0,[]),(.pu,1,[]),(.pu,2,[]),(.pu,3,[]),(.pu,4,[]),(.pu,6,[]),(.pu,7,[]),(.pu,8,[]),(.pu,9,[]),(.pu,11,[]),(.pu,12,[]),(.pu,13,[]),(.pu,14,[]),(.pu,16,[]),(.pu,17,[]),(.mn,5,[]),(.mn,10,[]),(.mn,15,[]),(.pu,18,[]),(.mn,19,[1])])]) (Γ:=⟨[],[(197,(zvV o))],false,[]⟩) (ctok trivial ⟨ydJ,trivial⟩) Tryz.func100
def zoB(o:Ops)(v3:((List Bs)×List zaH))(v4:Int)(v5:List zaH)(v6:List ygZ):Option ((Int×(List zaH)×List ygZ)⊕(((List zaH)×List ygZ))):=
 bif decide (v4<(v3.1.length:Int))then((idx v3.1 v4).bind fun v7=>let v8:zzC:=zdY keqS v5 v7 ((([]:List Bs),([]:List Bs),([]:List Bs)),(0:Int))
 (zuW o v7 v8).bind fun v9=>(app v6 ([v9]:List ygZ)).bind fun v10=>some (.inl (w64 (v4+1),v5,v10)))else some (.inr (v5,v6))
def zpV(o:Ops)(v0:List zaH):Option (((List zaH)×List ygZ)):=
 (chk (decide ((0:Int)≤(v0.length:Int))&&decide ((v0.length:Int)≤(LIM:Int)))).bind fun _=>(mkL (0:Int) (([]:Bs),([]:List Bs),([]:List Bs),([]:List Bs),(0:Int))).bind fun v1=>(zyN o v0).bind fun v2=>(zoD v2).bind fun v3=>(iter (fun x=>zoB o v3 x.1 x.2.1 x.2.2) ((0:Int),v3.2,v1)).bind fun v11=>some v11
def ztL(o:Ops):SC:=⟨⟨[(0,(.mpr 0)),(1,(.fn 100 [] []))],[zaF]⟩,1,[(none,⟨[(0,(.own 1))],[zaF,.osl yuE 57]⟩)],fun x=>zpV o x⟩
theorem ycL:SCok Tryz.prog tabs 99 (ztL o):=zbA (o:=o) (η:=[(200003,.loop [] ⟨[(0,(.mpr 0)),(1,(.fn 100 [] [])),(5,(.own 1)),(15,hI)],[zaF,.osl yuE 57]⟩ [4,13,14] [(some 0,⟨[(5,(.own 1))],[zaF,.osl yuE 57]⟩)])]) (Γ:=⟨[(100,(zzK o))],[(196,(yaQ o)),(132,yhY)],false,[]⟩) (ctok ⟨yhI,trivial⟩ ⟨yiY,⟨ysV,trivial⟩⟩) Tryz.func99
def zcS(o:Ops)(v0:List zaI)(v1:List zaH)(v2:List zaJ)(v3:List zaK)(v4:List ((Bs×Bs)×Unit)):Option (((List zaI)×(List zaH)×(List zaJ)×(List zaK)×(List ((Bs×Bs)×Unit))×List ygZ)):=
 (zpV o v1).bind fun v5=>some (v0,v5.1,v2,v3,v4,v5.2)
def zgY(o:Ops):SC:=⟨⟨[(0,(.ptr 0 0))],[zaU,zaD,zaF,zaE,zaC,.mp true (.pr .s .s) .un]⟩,1,[(none,⟨[(0,(.own 6))],[zaU,zaD,zaF,zaE,zaC,.mp true (.pr .s .s) .un,.osl yuE 57]⟩)],fun x=>zcS o x.1 x.2.1 x.2.2.1 x.2.2.2.1 x.2.2.2.2⟩
theorem zlO:SCok Tryz.prog tabs 32 (zgY o):=zbA (o:=o) (η:=[]) (Γ:=⟨[],[(99,(ztL o))],false,[]⟩) (ctok trivial ⟨ycL,trivial⟩) Tryz.func32
def zxU(_o:Ops)(v0:List ((Bs×Bs)×Unit)):Option ((List ((Bs×Bs)×Unit))):=
 some v0
def yaY(o:Ops):SC:=⟨⟨[(0,(.mpr 0))],[.mp true (.pr .s .s) .un]⟩,1,[(none,⟨[(0,(.fn 211 [] [(.ptr 1 0)]))],[.mp true (.pr .s .s) .un,.blk 126 [(.mpr 0)]]⟩)],fun x=>zxU o x⟩
theorem yjS:SCok Tryz.prog tabs 125 (yaY o):=zbA (o:=o) (η:=[]) (Γ:=⟨[],[],false,[]⟩) (ctok trivial trivial) Tryz.func125
def yiM:SC:=⟨⟨[(0,(.fn 211 [] [(.ptr 0 0)])),(1,(.fn 126 [] []))],[.blk 126 [(.mpr 1)],.mp true (.pr .s .s) .un]⟩,1,[(none,⟨[(0,(.h (.sl (.pr .s .s))))],[.blk 126 [(.mpr 1)],.mp true (.pr .s .s) .un]⟩)],fun(es:List ((Bs×Bs)×Unit))=>yaU es⟩
theorem yuG:SCok Tryz.prog tabs 124 yiM:=wit (G:=tabs)<|yoL
def yrM:PC:=⟨[.h (.sl (.pr .s .s))],[(.sl (.pr .s .s))],fun xs=>some xs,true⟩
theorem xcT:PCok Tryz.prog tabs 127 yrM:=wit (G:=tabs)<|yoJ ycS τ_okWkF Tryz.func127 (isFn Tryz.func127) rfl (by kernel_rfl) (fun _=>by kernel_rfl)
def zdT(o:Ops)(v0:List zaI)(v1:List zaH)(v2:List zaJ)(v3:List zaK)(v4:List ((Bs×Bs)×Unit)):Option (((List (Bs×Bs))×zaZ)):=
 (zxU o v4).bind fun v5=>(yaU v5).bind fun v6=>some (v6.1,v0,v1,v2,v3,v6.2)
def ziO(o:Ops):SC:=⟨⟨[(0,(.ptr 0 0))],[zaU,zaD,zaF,zaE,zaC,.mp true (.pr .s .s) .un]⟩,1,[(none,⟨[(0,(.hc (.pr .s .s)))],[zaU,zaD,zaF,zaE,zaC,.mp true (.pr .s .s) .un]⟩)],fun x=>zdT o x.1 x.2.1 x.2.2.1 x.2.2.2.1 x.2.2.2.2⟩
theorem zpK:SCok Tryz.prog tabs 45 (ziO o):=zbA (o:=o) (η:=[]) (Γ:=⟨[(127,yrM)],[(125,(yaY o)),(124,yiM)],false,[]⟩) (ctok ⟨xcT,trivial⟩ ⟨yjS,⟨yuG,trivial⟩⟩) Tryz.func45
def zmC(o:Ops)(v0:Bs)(v1:List (Bs×Bs)):Option ((List (Bs×Bs))):=
 (o.form ([]:List Bs)).bind fun v2=>(app v1 ([(v0,v2)]:List (Bs×Bs))).bind fun v3=>some v3
def zkO(o:Ops):SC:=⟨⟨[(0,hS),(1,.nils),(2,(.ptr 0 0))],[xfR,.osl (.pr .s .s) 33]⟩,0,[(none,⟨[],[ywQ,.dead,.osl (.pr .s .s) 33]⟩)],fun x=>zmC o x.1 x.2⟩
theorem ztG:SCok Tryz.prog tabs 84 (zkO o):=zbA (o:=o) (η:=[(4000000,.sch [(.pu,0,[]),(.pu,1,[]),(.pu,2,[]),(.mn,3,[]),(.pu,4,[]),(.mn,5,[]),(.mn,6,[1]),(.mn,7,[0])])]) (Γ:=⟨[(22,(yeO o))],[],false,[]⟩) (ctok ⟨(zsQ.form (G:=tabs)),trivial⟩ trivial) Tryz.func84
def zxY(_o:Ops)(v0:List zaJ):Option ((List zaJ)):=
 some v0
def yaL(o:Ops):SC:=⟨⟨[(0,(.mpr 0))],[zaE]⟩,1,[(none,⟨[(0,(.fn 273 [] [(.ptr 1 0)]))],[zaE,.blk 124 [(.mpr 0)]]⟩)],fun x=>zxY o x⟩
theorem yjQ:SCok Tryz.prog tabs 205 (yaL o):=zbA (o:=o) (η:=[]) (Γ:=⟨[],[],false,[]⟩) (ctok trivial trivial) Tryz.func205
def yhZ:SC:=⟨⟨[(0,(.fn 273 [] [(.ptr 0 0)]))],[.blk 124 [(.mpr 1)],zaE]⟩,1,[(none,⟨[(0,(.h (.sl .s)))],[.blk 124 [(.mpr 1)],zaE]⟩)],fun es=>zoD es⟩
theorem ytF:SCok Tryz.prog tabs 132 yhZ:=wit (G:=tabs)<|zwS (kT:=9) (isFn Tryz.func132) (by kernel_rfl) YtopanhneegpgcaaGreatDoor.sorted273K
def zgT(o:Ops)(_v0:Bs)(v1:zdL):Option zdL:=
 (zcY o v1).bind fun v2=>some v2
def zkJ(o:Ops):PC:=⟨[hS,(.h ybU)],[ybU],fun x=>zgT o x.1 x.2,false⟩
theorem ztC:PCok Tryz.prog tabs 113 (zkJ o):=zhB (o:=o) (η:=[]) (Γ:=⟨[(105,(zfW o))],[],false,[]⟩) (ctok ⟨zjF,trivial⟩ trivial) Tryz.func113
def zoH(o:Ops)(v3:((List Bs)×List zaJ))(v4:Int)(v5:List zaJ)(v6:List zdL):Option ((Int×(List zaJ)×List zdL)⊕(((List zaJ)×List zdL))):=
 bif decide (v4<(v3.1.length:Int))then((idx v3.1 v4).bind fun v7=>let v8:zdL:=zdY keqS v5 v7 (([]:Bs),([]:List Bs))
 (zgT o v7 v8).bind fun v9=>(app v6 ([v9]:List zdL)).bind fun v10=>some (.inl (w64 (v4+1),v5,v10)))else some (.inr (v5,v6))
def zpT(o:Ops)(v0:List zaJ):Option (((List zaJ)×List zdL)):=
 (chk (decide ((0:Int)≤(v0.length:Int))&&decide ((v0.length:Int)≤(LIM:Int)))).bind fun _=>(mkL (0:Int) (([]:Bs),([]:List Bs))).bind fun v1=>(zxY o v0).bind fun v2=>(zoD v2).bind fun v3=>(iter (fun x=>zoH o v3 x.1 x.2.1 x.2.2) ((0:Int),v3.2,v1)).bind fun v11=>some v11
def ztK(o:Ops):SC:=⟨⟨[(0,(.mpr 0)),(1,(.fn 113 [] []))],[zaE]⟩,1,[(none,⟨[(0,(.own 1))],[zaE,.osl ybU 49]⟩)],fun x=>zpT o x⟩
theorem ybW:SCok Tryz.prog tabs 112 (ztK o):=zbA (o:=o) (η:=[(200003,.loop [] ⟨[(0,(.mpr 0)),(1,(.fn 113 [] [])),(5,(.own 1)),(15,hI)],[zaE,.osl ybU 49]⟩ [4,13,14] [(some 0,⟨[(5,(.own 1))],[zaE,.osl ybU 49]⟩)])]) (Γ:=⟨[(113,(zkJ o))],[(205,(yaL o)),(132,yhZ)],false,[]⟩) (ctok ⟨ztC,trivial⟩ ⟨yjQ,⟨ytF,trivial⟩⟩) Tryz.func112
def zcD(o:Ops)(v0:List zaI)(v1:List zaH)(v2:List zaJ)(v3:List zaK)(v4:List ((Bs×Bs)×Unit)):Option (((List zaI)×(List zaH)×(List zaJ)×(List zaK)×(List ((Bs×Bs)×Unit))×List zdL)):=
 (zpT o v2).bind fun v5=>some (v0,v1,v5.1,v3,v4,v5.2)
def zhP(o:Ops):SC:=⟨⟨[(0,(.ptr 0 0))],[zaU,zaD,zaF,zaE,zaC,.mp true (.pr .s .s) .un]⟩,1,[(none,⟨[(0,(.own 6))],[zaU,zaD,zaF,zaE,zaC,.mp true (.pr .s .s) .un,.osl ybU 49]⟩)],fun x=>zcD o x.1 x.2.1 x.2.2.1 x.2.2.2.1 x.2.2.2.2⟩
theorem znM:SCok Tryz.prog tabs 40 (zhP o):=zbA (o:=o) (η:=[]) (Γ:=⟨[],[(112,(ztK o))],false,[]⟩) (ctok trivial ⟨ybW,trivial⟩) Tryz.func40
def zxW(_o:Ops)(v0:List zaI):Option ((List zaI)):=
 some v0
def yaP(o:Ops):SC:=⟨⟨[(0,(.mpr 0))],[zaD]⟩,1,[(none,⟨[(0,(.fn 272 [] [(.ptr 1 0)]))],[zaD,.blk 122 [(.mpr 0)]]⟩)],fun x=>zxW o x⟩
theorem ykY:SCok Tryz.prog tabs 204 (yaP o):=zbA (o:=o) (η:=[]) (Γ:=⟨[],[],false,[]⟩) (ctok trivial trivial) Tryz.func204
def yhV:SC:=⟨⟨[(0,(.fn 272 [] [(.ptr 0 0)]))],[.blk 122 [(.mpr 1)],zaD]⟩,1,[(none,⟨[(0,(.h (.sl .s)))],[.blk 122 [(.mpr 1)],zaD]⟩)],fun es=>zoD es⟩
theorem yuL:SCok Tryz.prog tabs 132 yhV:=wit (G:=tabs)<|zwS (kT:=9) (isFn Tryz.func132) (by kernel_rfl) YtopanhneegpgcaaGreatDoor.sorted272K
def zgV(_o:Ops)(_v0:Bs)(v1:zwQ):Option zwQ:=
 some v1
def zkZ(o:Ops):PC:=⟨[hS,(.h ykM)],[ykM],fun x=>zgV o x.1 x.2,false⟩
theorem ztI:PCok Tryz.prog tabs 111 (zkZ o):=zhB (o:=o) (η:=[]) (Γ:=⟨[],[],false,[]⟩) (ctok trivial trivial) Tryz.func111
def zoJ(o:Ops)(v3:((List Bs)×List zaI))(v4:Int)(v5:List zaI)(v6:List zwQ):Option ((Int×(List zaI)×List zwQ)⊕(((List zaI)×List zwQ))):=
 bif decide (v4<(v3.1.length:Int))then((idx v3.1 v4).bind fun v7=>let v8:zwQ:=zdY keqS v5 v7 (([]:Bs),([]:Bs),false,(0:Int))
 (zgV o v7 v8).bind fun v9=>(app v6 ([v9]:List zwQ)).bind fun v10=>some (.inl (w64 (v4+1),v5,v10)))else some (.inr (v5,v6))
def zpY(o:Ops)(v0:List zaI):Option (((List zaI)×List zwQ)):=
 (chk (decide ((0:Int)≤(v0.length:Int))&&decide ((v0.length:Int)≤(LIM:Int)))).bind fun _=>(mkL (0:Int) (([]:Bs),([]:Bs),false,(0:Int))).bind fun v1=>(zxW o v0).bind fun v2=>(zoD v2).bind fun v3=>(iter (fun x=>zoJ o v3 x.1 x.2.1 x.2.2) ((0:Int),v3.2,v1)).bind fun v11=>some v11
def zuA(o:Ops):SC:=⟨⟨[(0,(.mpr 0)),(1,(.fn 111 [] []))],[zaD]⟩,1,[(none,⟨[(0,(.own 1))],[zaD,.osl ykM 77]⟩)],fun x=>zpY o x⟩
theorem ycE:SCok Tryz.prog tabs 110 (zuA o):=zbA (o:=o) (η:=[(200003,.loop [] ⟨[(0,(.mpr 0)),(1,(.fn 111 [] [])),(5,(.own 1)),(15,hI)],[zaD,.osl ykM 77]⟩ [4,13,14] [(some 0,⟨[(5,(.own 1))],[zaD,.osl ykM 77]⟩)])]) (Γ:=⟨[(111,(zkZ o))],[(204,(yaP o)),(132,yhV)],false,[]⟩) (ctok ⟨ztI,trivial⟩ ⟨ykY,⟨yuL,trivial⟩⟩) Tryz.func110
def zcG(o:Ops)(v0:List zaI)(v1:List zaH)(v2:List zaJ)(v3:List zaK)(v4:List ((Bs×Bs)×Unit)):Option (((List zaI)×(List zaH)×(List zaJ)×(List zaK)×(List ((Bs×Bs)×Unit))×List zwQ)):=
 (zpY o v0).bind fun v5=>some (v5.1,v1,v2,v3,v4,v5.2)
def zhR(o:Ops):SC:=⟨⟨[(0,(.ptr 0 0))],[zaU,zaD,zaF,zaE,zaC,.mp true (.pr .s .s) .un]⟩,1,[(none,⟨[(0,(.own 6))],[zaU,zaD,zaF,zaE,zaC,.mp true (.pr .s .s) .un,.osl ykM 77]⟩)],fun x=>zcG o x.1 x.2.1 x.2.2.1 x.2.2.2.1 x.2.2.2.2⟩
theorem znR:SCok Tryz.prog tabs 39 (zhR o):=zbA (o:=o) (η:=[]) (Γ:=⟨[],[(110,(zuA o))],false,[]⟩) (ctok trivial ⟨ycE,trivial⟩) Tryz.func39
def zmA(o:Ops)(v0:Bs)(v1:List Bs)(v2:List (Bs×Bs)):Option (((List Bs)×List (Bs×Bs))):=
 (o.form v1).bind fun v3=>(app v2 ([(v0,v3)]:List (Bs×Bs))).bind fun v4=>some (v1,v4)
def zlD(o:Ops):SC:=⟨⟨[(0,hS),(1,(.own 0)),(2,(.ptr 1 0))],[.osl .s 9,ywQ,.osl (.pr .s .s) 33]⟩,0,[(none,⟨[],[.osl .s 9,.blk 31 [(.own 3)],.dead,.osl (.pr .s .s) 33]⟩)],fun x=>zmA o x.1 x.2.1 x.2.2⟩
theorem ztP:SCok Tryz.prog tabs 84 (zlD o):=zbA (o:=o) (η:=[(4000000,.sch [(.pu,0,[]),(.pu,1,[]),(.pu,2,[]),(.mn,3,[]),(.pu,4,[]),(.mn,5,[]),(.mn,6,[2]),(.mn,7,[1])])]) (Γ:=⟨[(22,(yeO o))],[],false,[]⟩) (ctok ⟨(zsQ.form (G:=tabs)),trivial⟩ trivial) Tryz.func84
def ysL:SC:=⟨⟨[(0,(.own 0)),(1,(.fn 89 [] []))],[.osl (.pr .s .s) 33]⟩,0,[(none,⟨[],[.osl (.pr .s .s) 33]⟩)],fun(xs:List (Bs×Bs))=>yiD xs⟩
theorem xcB:SCok Tryz.prog tabs 88 ysL:=wit (G:=tabs)<|xeR
def ysJ:PC:=⟨[.h (.sl (.pr .s .s))],[(.sl (.pr .s .s))],fun xs=>some xs,true⟩
theorem xcF:PCok Tryz.prog tabs 91 ysJ:=wit (G:=tabs)<|yoJ ycS τ_okWkF Tryz.func91 (isFn Tryz.func91) rfl (by kernel_rfl) (fun _=>by kernel_rfl)
def zxE(o:Ops)(v5:((List zaI)×(List zaH)×(List zaJ)×(List zaK)×(List ((Bs×Bs)×Unit))×List zsY))(v6:Int)(v7:List zaI)(v8:List zaH)(v9:List zaJ)(v10:List zaK)(v11:List ((Bs×Bs)×Unit))(v12:List zsY)(v13:List (Bs×Bs)):Option ((Int×(List zaI)×(List zaH)×(List zaJ)×(List zaK)×(List ((Bs×Bs)×Unit))×(List zsY)×List (Bs×Bs))⊕(((List zaI)×(List zaH)×(List zaJ)×(List zaK)×(List ((Bs×Bs)×Unit))×List (Bs×Bs)))):=
 bif decide (v6<(v5.2.2.2.2.2.length:Int))then((chk (decide ((0:Int)≤v6)&&decide (v6<(v12.length:Int)))).bind fun _=>(idx v12 v6).bind fun v14=>(app ([99,108,105,101,110,116,47]:Bs) v14.1).bind fun v15=>(zhF o v14.2.2.2.2.1).bind fun v16=>(zhF o v14.2.2.2.2.2.1).bind fun v17=>(app v16 v17).bind fun v18=>(zhF o v14.2.2.2.2.2.2.1).bind fun v19=>(app v18 v19).bind fun v20=>(zhF o v14.2.2.2.2.2.2.2).bind fun v21=>(app v20 v21).bind fun v22=>(zeR o v14.2.2.1).bind fun v23=>(zeR o v14.2.2.2.1).bind fun v24=>(zrB o ([([v14.2.1,v22]:List Bs),v23,v24]:List (List Bs))).bind fun v25=>(zeF o v15 v25 v13).bind fun v26=>some (.inl (w64 (v6+1),v7,v8,v9,v10,v11,v12,v26)))else some (.inr (v7,v8,v9,v10,v11,v13))
def zyB(o:Ops)(v28:((List zaI)×(List zaH)×(List zaJ)×(List zaK)×(List ((Bs×Bs)×Unit))×List ygZ))(v29:Int)(v30:List zaI)(v31:List zaH)(v32:List zaJ)(v33:List zaK)(v34:List ((Bs×Bs)×Unit))(v35:List ygZ)(v36:List (Bs×Bs)):Option ((Int×(List zaI)×(List zaH)×(List zaJ)×(List zaK)×(List ((Bs×Bs)×Unit))×(List ygZ)×List (Bs×Bs))⊕(((List zaI)×(List zaH)×(List zaJ)×(List zaK)×(List ((Bs×Bs)×Unit))×List (Bs×Bs)))):=
 bif decide (v29<(v28.2.2.2.2.2.length:Int))then((chk (decide ((0:Int)≤v29)&&decide (v29<(v35.length:Int)))).bind fun _=>(idx v35 v29).bind fun v37=>(app ([103,114,111,117,112,47]:Bs) v37.1).bind fun v38=>(o.itoa v37.2.2.2.2).bind fun v39=>(zeR o v37.2.1).bind fun v40=>(zeR o v37.2.2.1).bind fun v41=>(zeR o v37.2.2.2.1).bind fun v42=>(zrB o ([([v39]:List Bs),v40,v41,v42]:List (List Bs))).bind fun v43=>(zeF o v38 v43 v36).bind fun v44=>some (.inl (w64 (v29+1),v30,v31,v32,v33,v34,v35,v44)))else some (.inr (v30,v31,v32,v33,v34,v36))
def zyK(o:Ops)(v46:((List (Bs×Bs))×zaZ))(v47:Int)(v48:List zaI)(v49:List zaH)(v50:List zaJ)(v51:List zaK)(v52:List ((Bs×Bs)×Unit))(v53:List (Bs×Bs)):Option ((Int×(List zaI)×(List zaH)×(List zaJ)×(List zaK)×(List ((Bs×Bs)×Unit))×List (Bs×Bs))⊕(((List zaI)×(List zaH)×(List zaJ)×(List zaK)×(List ((Bs×Bs)×Unit))×List (Bs×Bs)))):=
 bif decide (v47<(v46.1.length:Int))then((idx v46.1 v47).bind fun v54=>(app ([109,97,121,47]:Bs) v54.1).bind fun v55=>(app v55 ([124]:Bs)).bind fun v56=>(app v56 v54.2).bind fun v57=>(zmC o v57 v53).bind fun v58=>some (.inl (w64 (v47+1),v48,v49,v50,v51,v52,v58)))else some (.inr (v48,v49,v50,v51,v52,v53))
def zwZ(o:Ops)(v60:((List zaI)×(List zaH)×(List zaJ)×(List zaK)×(List ((Bs×Bs)×Unit))×List zdL))(v61:Int)(v62:List zaI)(v63:List zaH)(v64:List zaJ)(v65:List zaK)(v66:List ((Bs×Bs)×Unit))(v67:List zdL)(v68:List (Bs×Bs)):Option ((Int×(List zaI)×(List zaH)×(List zaJ)×(List zaK)×(List ((Bs×Bs)×Unit))×(List zdL)×List (Bs×Bs))⊕(((List zaI)×(List zaH)×(List zaJ)×(List zaK)×(List ((Bs×Bs)×Unit))×List (Bs×Bs)))):=
 bif decide (v61<(v60.2.2.2.2.2.length:Int))then((chk (decide ((0:Int)≤v61)&&decide (v61<(v67.length:Int)))).bind fun _=>(idx v67 v61).bind fun v69=>(app ([114,111,108,101,47]:Bs) v69.1).bind fun v70=>(zeR o v69.2).bind fun v71=>(zeF o v70 v71 v68).bind fun v72=>some (.inl (w64 (v61+1),v62,v63,v64,v65,v66,v67,v72)))else some (.inr (v62,v63,v64,v65,v66,v68))
def zxB(o:Ops)(v74:((List zaI)×(List zaH)×(List zaJ)×(List zaK)×(List ((Bs×Bs)×Unit))×List zwQ))(v75:Int)(v76:List zaI)(v77:List zaH)(v78:List zaJ)(v79:List zaK)(v80:List ((Bs×Bs)×Unit))(v81:List zwQ)(v82:List (Bs×Bs)):Option ((Int×(List zaI)×(List zaH)×(List zaJ)×(List zaK)×(List ((Bs×Bs)×Unit))×(List zwQ)×List (Bs×Bs))⊕(((List zaI)×(List zaH)×(List zaJ)×(List zaK)×(List ((Bs×Bs)×Unit))×List (Bs×Bs)))):=
 bif decide (v75<(v74.2.2.2.2.2.length:Int))then((chk (decide ((0:Int)≤v75)&&decide (v75<(v81.length:Int)))).bind fun _=>(idx v81 v75).bind fun v83=>(app ([117,115,101,114,47]:Bs) v83.1).bind fun v84=>(zhF o v83.2.2.1).bind fun v85=>(o.itoa v83.2.2.2).bind fun v86=>(zmA o v84 ([v83.2.1,v85,v86]:List Bs) v82).bind fun v87=>some (.inl (w64 (v75+1),v76,v77,v78,v79,v80,v81,v87.2)))else some (.inr (v76,v77,v78,v79,v80,v82))
def zfZ(o:Ops)(v0:List zaI)(v1:List zaH)(v2:List zaJ)(v3:List zaK)(v4:List ((Bs×Bs)×Unit)):Option (((List (Bs×Bs))×zaZ)):=
 (zbW o v0 v1 v2 v3 v4).bind fun v5=>(iter (fun x=>zxE o v5 x.1 x.2.1 x.2.2.1 x.2.2.2.1 x.2.2.2.2.1 x.2.2.2.2.2.1 x.2.2.2.2.2.2.1 x.2.2.2.2.2.2.2) ((0:Int),v5.1,v5.2.1,v5.2.2.1,v5.2.2.2.1,v5.2.2.2.2.1,v5.2.2.2.2.2,([]:List (Bs×Bs)))).bind fun v27=>(zcS o v27.1 v27.2.1 v27.2.2.1 v27.2.2.2.1 v27.2.2.2.2.1).bind fun v28=>(iter (fun x=>zyB o v28 x.1 x.2.1 x.2.2.1 x.2.2.2.1 x.2.2.2.2.1 x.2.2.2.2.2.1 x.2.2.2.2.2.2.1 x.2.2.2.2.2.2.2) ((0:Int),v28.1,v28.2.1,v28.2.2.1,v28.2.2.2.1,v28.2.2.2.2.1,v28.2.2.2.2.2,v27.2.2.2.2.2)).bind fun v45=>(zdT o v45.1 v45.2.1 v45.2.2.1 v45.2.2.2.1 v45.2.2.2.2.1).bind fun v46=>(iter (fun x=>zyK o v46 x.1 x.2.1 x.2.2.1 x.2.2.2.1 x.2.2.2.2.1 x.2.2.2.2.2.1 x.2.2.2.2.2.2) ((0:Int),v46.2.1,v46.2.2.1,v46.2.2.2.1,v46.2.2.2.2.1,v46.2.2.2.2.2,v45.2.2.2.2.2)).bind fun v59=>(zcD o v59.1 v59.2.1 v59.2.2.1 v59.2.2.2.1 v59.2.2.2.2.1).bind fun v60=>(iter (fun x=>zwZ o v60 x.1 x.2.1 x.2.2.1 x.2.2.2.1 x.2.2.2.2.1 x.2.2.2.2.2.1 x.2.2.2.2.2.2.1 x.2.2.2.2.2.2.2) ((0:Int),v60.1,v60.2.1,v60.2.2.1,v60.2.2.2.1,v60.2.2.2.2.1,v60.2.2.2.2.2,v59.2.2.2.2.2)).bind fun v73=>(zcG o v73.1 v73.2.1 v73.2.2.1 v73.2.2.2.1 v73.2.2.2.2.1).bind fun v74=>(iter (fun x=>zxB o v74 x.1 x.2.1 x.2.2.1 x.2.2.2.1 x.2.2.2.2.1 x.2.2.2.2.2.1 x.2.2.2.2.2.2.1 x.2.2.2.2.2.2.2) ((0:Int),v74.1,v74.2.1,v74.2.2.1,v74.2.2.2.1,v74.2.2.2.2.1,v74.2.2.2.2.2,v73.2.2.2.2.2)).bind fun v88=>(yiD v88.2.2.2.2.2).bind fun v89=>some (v89,v88.1,v88.2.1,v88.2.2.1,v88.2.2.2.1,v88.2.2.2.2.1)
def zpC(o:Ops):SC:=⟨⟨[(0,(.ptr 0 0))],[zaU,zaD,zaF,zaE,zaC,.mp true (.pr .s .s) .un]⟩,1,[(none,⟨[(0,(.hc (.pr .s .s)))],[zaU,zaD,zaF,zaE,zaC,.mp true (.pr .s .s) .un]⟩)],fun x=>zfZ o x.1 x.2.1 x.2.2.1 x.2.2.2.1 x.2.2.2.2⟩
theorem zwW:SCok Tryz.prog tabs 29 (zpC o):=zbA (o:=o) (η:=[(200004,.loop [.cell 3 0 (.pr .s .s) 33] ⟨[(0,(.ptr 0 0)),(3,(.ptr 6 0)),(4,(.fn 84 [] [(.ptr 6 0)])),(17,(.own 7)),(19,hI)],[zaU,zaD,zaF,zaE,zaC,.mp true (.pr .s .s) .un,ysD,.osl ybX 51,.osl (.pr .s .s) 33]⟩ [2,18] [(some 0,⟨[(0,(.ptr 0 0)),(3,(.ptr 6 0)),(4,(.fn 84 [] [(.ptr 6 0)]))],[zaU,zaD,zaF,zaE,zaC,.mp true (.pr .s .s) .un,yiK,.osl (.pr .s .s) 33]⟩)]),
 (200009,.loop [] ⟨[(0,(.ptr 0 0)),(3,(.ptr 6 0)),(4,(.fn 84 [] [(.ptr 6 0)])),(56,(.own 7)),(58,hI)],[zaU,zaD,zaF,zaE,zaC,.mp true (.pr .s .s) .un,ysD,.osl yuE 57,.osl (.pr .s .s) 33]⟩ [2,57] [(some 2,⟨[(0,(.ptr 0 0)),(3,(.ptr 6 0)),(4,(.fn 84 [] [(.ptr 6 0)]))],[zaU,zaD,zaF,zaE,zaC,.mp true (.pr .s .s) .un,yiK,.osl (.pr .s .s) 33]⟩)]),
 (200014,.loop [] ⟨[(0,(.ptr 0 0)),(3,(.ptr 6 0)),(4,(.fn 84 [] [(.ptr 6 0)])),(86,hI)],[zaU,zaD,zaF,zaE,zaC,.mp true (.pr .s .s) .un,yiK,.osl (.pr .s .s) 33]⟩ [2,84,85] [(some 4,⟨[(0,(.ptr 0 0)),(3,(.ptr 6 0)),(4,(.fn 84 [] [(.ptr 6 0)]))],[zaU,zaD,zaF,zaE,zaC,.mp true (.pr .s .s) .un,yiK,.osl (.pr .s .s) 33]⟩)]),
 (200019,.loop [] ⟨[(0,(.ptr 0 0)),(3,(.ptr 6 0)),(4,(.fn 84 [] [(.ptr 6 0)])),(101,(.own 7)),(103,hI)],[zaU,zaD,zaF,zaE,zaC,.mp true (.pr .s .s) .un,ysD,.osl ybU 49,.osl (.pr .s .s) 33]⟩ [2,102] [(some 6,⟨[(0,(.ptr 0 0)),(3,(.ptr 6 0)),(4,(.fn 84 [] [(.ptr 6 0)]))],[zaU,zaD,zaF,zaE,zaC,.mp true (.pr .s .s) .un,yiK,.osl (.pr .s .s) 33]⟩)]),
 (200024,.loop [] ⟨[(3,(.ptr 6 0)),(4,(.fn 84 [] [(.ptr 6 0)])),(117,(.own 7)),(119,hI)],[zaU,zaD,zaF,zaE,zaC,.mp true (.pr .s .s) .un,ysD,.osl ykM 77,.osl (.pr .s .s) 33]⟩ [2,118] [(some 8,⟨[(3,(.ptr 6 0))],[zaU,zaD,zaF,zaE,zaC,.mp true (.pr .s .s) .un,yiK,.osl (.pr .s .s) 33]⟩)]),
 (4000006,.sch [(.pu,0,[10,11]),(.pu,1,[10,11]),(.pu,2,[10,11]),(.pu,3,[10,11]),(.pu,4,[]),(.pu,5,[]),(.pu,6,[]),(.pu,7,[]),(.pu,9,[]),(.pu,10,[]),(.pu,13,[]),(.pu,14,[]),(.pu,17,[]),(.pu,18,[]),(.pu,22,[]),(.pu,23,[]),(.pu,25,[]),(.pu,26,[]),(.mn,8,[]),(.mn,11,[]),(.pu,12,[]),(.mn,15,[]),(.pu,16,[]),(.mn,19,[]),(.pu,20,[]),(.la,21,[]),(.mn,24,[]),(.mn,27,[]),(.rv,21,[]),(.mn,28,[10]),(.mn,29,[11]),(.mn,30,[6,8])]),
 (4000011,.sch [(.pu,0,[10,11]),(.pu,1,[10,11]),(.pu,2,[10,11]),(.pu,3,[10,11]),(.pu,4,[]),(.pu,5,[]),(.pu,8,[]),(.pu,9,[]),(.pu,11,[]),(.pu,12,[]),(.pu,14,[]),(.pu,15,[]),(.mn,6,[]),(.la,7,[]),(.mn,10,[]),(.mn,13,[]),(.mn,16,[]),(.rv,7,[]),(.mn,17,[10]),(.mn,18,[11]),(.mn,19,[6,8])]),
 (4000021,.sch [(.pu,0,[]),(.pu,1,[]),(.pu,2,[]),(.pu,3,[]),(.pu,4,[]),(.pu,5,[]),(.mn,6,[]),(.mn,7,[6,8])]),
 (4000026,.sch [(.pu,0,[]),(.pu,1,[]),(.pu,2,[]),(.pu,3,[]),(.pu,4,[]),(.pu,5,[]),(.pu,6,[]),(.pu,7,[]),(.pu,9,[]),(.pu,10,[]),(.mn,8,[]),(.mn,11,[]),(.mn,12,[]),(.mn,13,[6,8,10])])]) (Γ:=⟨[(86,(zxS o)),(87,(zvL o)),(85,(zvQ o)),(68,(ypB o)),(91,ysJ)],[(84,(zkO o)),(38,(zgF o)),(84,(zkK o)),(32,(zgY o)),(45,(ziO o)),(40,(zhP o)),(39,(zhR o)),(84,(zlD o)),(88,ysL)],false,[]⟩) (ctok ⟨ygJ,⟨ydT,⟨ydO,⟨(zsQ.itoa (G:=tabs)),⟨xcF,trivial⟩⟩⟩⟩⟩ ⟨ztG,⟨zkS,⟨ztV,⟨zlO,⟨zpK,⟨znM,⟨znR,⟨ztP,⟨xcB,trivial⟩⟩⟩⟩⟩⟩⟩⟩⟩) Tryz.func29
def ydL(o:Ops)(v0:Bs):Option ((Int×Bool)⊕Unit):=
 bif(v0==([]:Bs))then some (.inl ((0:Int),false))else(bif decide ((v0.length:Int)>15)then some (.inl ((0:Int),false))else((idx v0 (0:Int)).bind fun v1=>bif((v1.toNat:Int)==((48:UInt8).toNat:Int))then(bif(v0 != ([48]:Bs))then some (.inl ((0:Int),false))else((o.trim v0 ([48,49,50,51,52,53,54,55,56,57]:Bs)).bind fun v2=>bif(v2 != ([]:Bs))then some (.inl ((0:Int),false))else some (.inr ())))else((o.trim v0 ([48,49,50,51,52,53,54,55,56,57]:Bs)).bind fun v3=>bif(v3 != ([]:Bs))then some (.inl ((0:Int),false))else some (.inr ()))))
def zrP(o:Ops)(v0:Bs):Option (Int×Bool):=
 (ydL o v0).bind fun v4=>match v4 with
 |.inl v5=>(some v5)
 |.inr _v6=>((o.atoi v0).bind fun v7=>some (v7.1,(!v7.2)))
def zpQ(o:Ops):PC:=⟨[hS],[(.i .i64),.b],fun x=>zrP o x,false⟩
theorem zvT:PCok Tryz.prog tabs 60 (zpQ o):=zhB (o:=o) (η:=[(2000003,.join [] [0] [(some 1000000,⟨[(2,hI),(3,hB)],[]⟩),(none,⟨[],[]⟩)]),
 (4000004,.sch [(.pu,0,[]),(.pu,1,[]),(.pu,2,[]),(.pu,3,[]),(.pu,4,[])])]) (Γ:=⟨[(164,(yjY o)),(165,(xbF o))],[],false,[]⟩) (ctok ⟨(zsQ.trim (G:=tabs)),⟨(zsQ.atoi (G:=tabs)),trivial⟩⟩ trivial) Tryz.func60
def ydU(_o:Ops)(v2:List Bs)(v3:Bs×Bs×Bool)(v4:Int×Bool):Option (Bool⊕List Bs):=
 bif(!v3.2.2)then some (.inl false)else(bif(!v4.2)then some (.inl false)else(bif decide (v4.1>(v3.2.1.length:Int))then some (.inl false)else some (.inr v2)))
def ydP(o:Ops)(v1:Bs)(v2:List Bs):Option (zdL⊕(Bool⊕List Bs)):=
 bif(v1 != ([]:Bs))then((o.cut v1 ([58]:Bs)).bind fun v3=>(zrP o v3.1).bind fun v4=>(ydU o v2 v3 v4).bind fun v5=>match v5 with
 |.inl v6=>some (.inr (.inl v6))
 |.inr v7=>((subH v3.2.1 v4.1).bind fun v8=>(app v7 ([v8]:List Bs)).bind fun v9=>(subL v3.2.1 v4.1).bind fun v10=>some (.inl (v10,v9))))else some (.inr (.inr v2))
def zzI(o:Ops)(v0:Bs):Option (ydE):=
 (iter (fun x=>ydP o x.1 x.2) (v0,([]:List Bs))).bind fun v11=>match v11 with
 |.inl v12=>some (([]:List Bs),v12)
 |.inr v13=>some (v13,true)
def zxX(o:Ops):SC:=⟨⟨[(0,hS)],[]⟩,2,[(none,⟨[(0,(.h (.sl .s))),(1,hB)],[]⟩)],fun x=>zzI o x⟩
theorem yfD:SCok Tryz.prog tabs 11 (zxX o):=zbA (o:=o) (η:=[(2000007,.join [] [6,8] [(some 1000000,⟨[(2,.nils),(3,hB)],[]⟩),(none,⟨[(4,(.own 0))],[.osl .s 9]⟩)]),
 (200002,.loop [.sl 4 .s 9] ⟨[(0,hS),(4,(.own 0))],[.osl .s 9]⟩ [] [(some 1000000,⟨[(2,.nils),(3,hB)],[]⟩),(some 0,⟨[(4,(.own 0))],[.osl .s 9]⟩)])]) (Γ:=⟨[(59,(yvA o)),(60,(zpQ o)),(61,yaA)],[],false,[]⟩) (ctok ⟨(zsQ.cut (G:=tabs)),⟨zvT,⟨ycF,trivial⟩⟩⟩ trivial) Tryz.func11
def zcN(_o:Ops)(v0:List Bs)(v1:Bool):Option ((Bs×ydE)):=
 bif((v0.length:Int)==0)then some (([]:Bs),v0,true)else((idx v0 (0:Int)).bind fun v2=>(subL v0 (1:Int)).bind fun v3=>some (v2,v3,v1))
def ziG(o:Ops):SC:=⟨⟨[(0,(.ptr 0 0))],[yaI]⟩,1,[(none,⟨[(0,hS)],[yaI]⟩)],fun x=>zcN o x.1 x.2⟩
theorem zoN:SCok Tryz.prog tabs 169 (ziG o):=zbA (o:=o) (η:=[]) (Γ:=⟨[],[],false,[]⟩) (ctok trivial trivial) Tryz.func169
def zcL(_o:Ops)(v0:Bs)(v1:List Bs)(v2:Bool):Option ((Bool×ydE)):=
 bif v2 then some ((v0==([49]:Bs)),v1,true)else(bif(v0 != ([48]:Bs))then some ((v0==([49]:Bs)),v1,(v0 != ([49]:Bs)))else some ((v0==([49]:Bs)),v1,false))
def zoW(o:Ops):SC:=⟨⟨[(0,(.ptr 0 0)),(1,hS)],[yaI]⟩,1,[(none,⟨[(0,hB)],[yaI]⟩)],fun x=>zcL o x.1 x.2.1 x.2.2⟩
theorem zxK:SCok Tryz.prog tabs 170 (zoW o):=zbA (o:=o) (η:=[]) (Γ:=⟨[],[],false,[]⟩) (ctok trivial trivial) Tryz.func170
def zhT(o:Ops)(v0:List Bs)(v1:Bool):Option ((Int×ydE)):=
 (zcN o v0 v1).bind fun v2=>(zrP o v2.1).bind fun v3=>bif v2.2.2 then some (v3.1,v2.2.1,true)else some (v3.1,v2.2.1,(!v3.2))
def zgR(o:Ops):SC:=⟨⟨[(0,(.ptr 0 0))],[yaI]⟩,1,[(none,⟨[(0,hI)],[yaI]⟩)],fun x=>zhT o x.1 x.2⟩
theorem zlS:SCok Tryz.prog tabs 243 (zgR o):=zbA (o:=o) (η:=[]) (Γ:=⟨[(60,(zpQ o))],[(169,(ziG o))],false,[]⟩) (ctok ⟨zvT,trivial⟩ ⟨zoN,trivial⟩) Tryz.func243
def zyJ(_o:Ops)(v2:(Int×ydE)):Option (ydE⊕ydE):=
 bif v2.2.2 then some (.inl (v2.2.1,true))else(bif decide (v2.1>(v2.2.1.length:Int))then some (.inl (v2.2.1,true))else some (.inr v2.2))
def zdX(o:Ops)(v0:List Bs)(v1:Bool):Option (((List Bs)×ydE)):=
 (zhT o v0 v1).bind fun v2=>(zyJ o v2).bind fun v3=>match v3 with
 |.inl v4=>some (([]:List Bs),v4)
 |.inr v5=>((subH v5.1 v2.1).bind fun v6=>(app ([]:List Bs) v6).bind fun v7=>(subL v5.1 v2.1).bind fun v8=>some (v7,v8,v5.2))
def zoX(o:Ops):SC:=⟨⟨[(0,(.ptr 0 0))],[yaI]⟩,1,[(none,⟨[(0,(.h (.sl .s)))],[yaI]⟩)],fun x=>zdX o x.1 x.2⟩
theorem zyF:SCok Tryz.prog tabs 171 (zoX o):=zbA (o:=o) (η:=[(2000005,.join [] [3] [(some 1000000,⟨[(2,.nils)],[yaI]⟩),(none,⟨[(0,(.ptr 0 0))],[yaI]⟩)])]) (Γ:=⟨[],[(243,(zgR o)),(198,zvF)],false,[]⟩) (ctok trivial ⟨zlS,⟨zyT,trivial⟩⟩) Tryz.func171
def zpS(o:Ops)(v0:List Bs)(v2:Int):Option (Int⊕(Bool⊕Unit)):=
 bif decide (v2<(v0.length:Int))then((idx v0 v2).bind fun v3=>(zeG o v3).bind fun v4=>bif(!v4)then some (.inr (.inl false))else(bif decide (v2>0)then((idx v0 (w64 (v2-1))).bind fun v5=>bif(Op.bytesLess v3 v5||v3==v5)then some (.inr (.inl false))else some (.inl (w64 (v2+1))))else some (.inl (w64 (v2+1)))))else some (.inr (.inr ()))
def zlY(o:Ops)(v0:List Bs)(v1:Int):Option (Bool):=
 (iter (zpS o v0) (0:Int)).bind fun v6=>match v6 with
 |.inl v7=>some v7
 |.inr _v8=>some (decide ((v0.length:Int)≤v1))
def zvO(o:Ops):SC:=⟨⟨[(0,(.h (.sl .s))),(1,hI),(2,(.fn 15 [] []))],[]⟩,1,[(none,⟨[(0,hB)],[]⟩)],fun x=>zlY o x.1 x.2⟩
theorem ydQ:SCok Tryz.prog tabs 174 (zvO o):=zbA (o:=o) (η:=[(200002,.loop [] ⟨[(2,(.fn 15 [] [])),(11,hI)],[]⟩ [0,1,9,10] [(some 1000000,⟨[(6,hB)],[]⟩),(some 0,⟨[],[]⟩)])]) (Γ:=⟨[(15,(zjK o))],[],false,[]⟩) (ctok ⟨zoK,trivial⟩ trivial) Tryz.func174
def zpZ(o:Ops)(v0:zsY):Option ((Bool×zsY)):=
 bif(v0.2.1==([]:Bs))then some (true,v0)else(bif((v0.2.1.length:Int)==64)then((o.trim v0.2.1 ([48,49,50,51,52,53,54,55,56,57,97,98,99,100,101,102]:Bs)).bind fun v1=>some ((v1==([]:Bs)),v0))else some (false,v0))
def ziH(o:Ops)(v0:zsY):Option (Bool):=
 (zpZ o v0).bind fun v2=>(zaQ o v2.2.1).bind fun v3=>bif v3 then(bif v2.1 then((zlY o v2.2.2.2.1 (16:Int)).bind fun v4=>bif v4 then((zjT o v2.2.2.2.2.1 (16:Int)).bind fun v5=>some v5)else(some false))else(some false))else(some false)
def zpO(o:Ops):PC:=⟨[(.h ybX)],[.b],fun x=>ziH o x,false⟩
theorem zvW:PCok Tryz.prog tabs 106 (zpO o):=zhB (o:=o) (η:=[(2000002,.join [] [] [(none,⟨[(1,(.ptr 0 0)),(3,hB)],[.blk 51 [hS,hS,(.h (.sl .s)),(.h (.sl .s)),hB,hB,hB,hB]]⟩)])]) (Γ:=⟨[(164,(yjY o)),(13,(zbD o))],[(174,(zvO o)),(174,(zrC o))],false,[]⟩) (ctok ⟨(zsQ.trim (G:=tabs)),⟨zbH,trivial⟩⟩ ⟨ydQ,⟨zxT,trivial⟩⟩) Tryz.func106
def zgQ(o:Ops)(v0:List Bs)(v1:Bool):Option ((Int×ydE)):=
 (zhT o v0 v1).bind fun v2=>bif v2.2.2 then some (v2.1,v2.2.1,true)else(bif decide (v2.1<1)then some (v2.1,v2.2.1,true)else some (v2.1,v2.2.1,decide (v2.1>1099511627776)))
def zkU(o:Ops):SC:=⟨⟨[(0,(.ptr 0 0))],[yaI]⟩,1,[(none,⟨[(0,hI)],[yaI]⟩)],fun x=>zgQ o x.1 x.2⟩
theorem ztA:SCok Tryz.prog tabs 172 (zkU o):=zbA (o:=o) (η:=[]) (Γ:=⟨[],[(243,(zgR o))],false,[]⟩) (ctok trivial ⟨zlS,trivial⟩) Tryz.func172
def zsU(_o:Ops)(v1:List zaI)(v2:List zaH)(v3:List zaJ)(v4:List zaK)(v5:List ((Bs×Bs)×Unit))(v6:ydE)(v7:Bs×Bs×Bool):Option ((Bool×zaZ)⊕zaZ):=
 bif(!v6.2)then some (.inl (false,v1,v2,v3,v4,v5))else(bif(!v7.2.2)then some (.inl (false,v1,v2,v3,v4,v5))else some (.inr (v1,v2,v3,v4,v5)))
def zsR(o:Ops)(v26:Int)(v27:List zaI)(v28:List zaH)(v29:List zaJ)(v30:List zaK)(v31:List ((Bs×Bs)×Unit))(v32:List Bs)(v33:Bool)(v34:List Bs)(v35:List Bs)(v36:List Bs)(v37:Int):Option ((Int×(List zaI)×(List zaH)×(List zaJ)×(List zaK)×(List ((Bs×Bs)×Unit))×(List Bs)×Bool×(List Bs)×(List Bs)×(List Bs)×Int)⊕(((List zaI)×(List zaH)×(List zaJ)×(List zaK)×(List ((Bs×Bs)×Unit))×(List Bs)×Bool×(List Bs)×(List Bs)×(List Bs)×Int))):=
 bif decide (v26<3)then((zdX o v32 v33).bind fun v38=>bif decide (v26=(0:Int))then some (.inl (w64 (v26+1),v27,v28,v29,v30,v31,v38.2.1,v38.2.2,v38.1,v35,v36,v37))else(bif decide (v26=(1:Int))then some (.inl (w64 (v26+1),v27,v28,v29,v30,v31,v38.2.1,v38.2.2,v34,v38.1,v36,v37))else(bif decide (v26=(2:Int))then some (.inl (w64 (v26+1),v27,v28,v29,v30,v31,v38.2.1,v38.2.2,v34,v35,v38.1,v37))else none)))else some (.inr (v27,v28,v29,v30,v31,v32,v33,v34,v35,v36,v37))
def zsN(o:Ops)(v6:ydE)(v7:Bs×Bs×Bool)(v10:zaZ):Option ((Bool×zaZ)⊕(Bool×(List zaI)×(List zaH)×(List zaJ)×(List zaK)×(List ((Bs×Bs)×Unit))×ydE)):=
 bif(v7.1==([99,108,105,101,110,116]:Bs))then((zcN o v6.1 false).bind fun v11=>(zcN o v11.2.1 v11.2.2).bind fun v12=>bif((v12.1.length:Int) != 4)then some (.inl (false,v10))else((subH v12.1 (1:Int)).bind fun v13=>(sub3 v12.1 (1:Int) (2:Int)).bind fun v14=>(sub3 v12.1 (2:Int) (3:Int)).bind fun v15=>(subL v12.1 (3:Int)).bind fun v16=>(zcL o v13 v12.2.1 v12.2.2).bind fun v17=>(zcL o v14 v17.2.1 v17.2.2).bind fun v18=>(zcL o v15 v18.2.1 v18.2.2).bind fun v19=>(zcL o v16 v19.2.1 v19.2.2).bind fun v20=>(zdX o v20.2.1 v20.2.2).bind fun v21=>(zdX o v21.2.1 v21.2.2).bind fun v22=>let v23:List zaK:=mset keqS kltS v10.2.2.2.1 v7.2.1 (v7.2.1,v11.1,v21.1,v22.1,v17.1,v18.1,v19.1,v20.1)
 (ziH o (v7.2.1,v11.1,v21.1,v22.1,v17.1,v18.1,v19.1,v20.1)).bind fun v24=>some (.inr (v24,v10.1,v10.2.1,v10.2.2.1,v23,v10.2.2.2.2,v22.2))))else(bif(v7.1==([103,114,111,117,112]:Bs))then((zgQ o v6.1 false).bind fun v25=>(iter (fun x=>zsR o x.1 x.2.1 x.2.2.1 x.2.2.2.1 x.2.2.2.2.1 x.2.2.2.2.2.1 x.2.2.2.2.2.2.1 x.2.2.2.2.2.2.2.1 x.2.2.2.2.2.2.2.2.1 x.2.2.2.2.2.2.2.2.2.1 x.2.2.2.2.2.2.2.2.2.2.1 x.2.2.2.2.2.2.2.2.2.2.2) ((0:Int),v10.1,v10.2.1,v10.2.2.1,v10.2.2.2.1,v10.2.2.2.2,v25.2.1,v25.2.2,([]:List Bs),([]:List Bs),([]:List Bs),v25.1)).bind fun v39=>let v40:List zaH:=mset keqS kltS v39.2.1 v7.2.1 ((v39.2.2.2.2.2.2.2.1,v39.2.2.2.2.2.2.2.2.1,v39.2.2.2.2.2.2.2.2.2.1),v39.2.2.2.2.2.2.2.2.2.2)
 (zaQ o v7.2.1).bind fun v41=>some (.inr (v41,v39.1,v40,v39.2.2.1,v39.2.2.2.1,v39.2.2.2.2.1,v39.2.2.2.2.2.1,v39.2.2.2.2.2.2.1)))else(bif(v7.1==([109,97,121]:Bs))then((o.cut v7.2.1 ([124]:Bs)).bind fun v42=>let v43:List ((Bs×Bs)×Unit):=mset (keq (.pr .s .s)) (klt (.pr .s .s)) v10.2.2.2.2 (v42.1,v42.2.1) ()
 bif v42.2.2 then((zbF o v42.1).bind fun v44=>bif v44 then((zbF o v42.2.1).bind fun v45=>some (.inr (v45,v10.1,v10.2.1,v10.2.2.1,v10.2.2.2.1,v43,v6.1,false)))else some (.inr (false,v10.1,v10.2.1,v10.2.2.1,v10.2.2.2.1,v43,v6.1,false)))else some (.inr (false,v10.1,v10.2.1,v10.2.2.1,v10.2.2.2.1,v43,v6.1,false)))else(bif(v7.1==([114,111,108,101]:Bs))then((zdX o v6.1 false).bind fun v46=>let v47:List zaJ:=mset keqS kltS v10.2.2.1 v7.2.1 (v7.2.1,v46.1)
 (zmQ o (v7.2.1,v46.1)).bind fun v48=>some (.inr (v48,v10.1,v10.2.1,v47,v10.2.2.2.1,v10.2.2.2.2,v46.2)))else(bif(v7.1==([117,115,101,114]:Bs))then((zcN o v6.1 false).bind fun v49=>(zcN o v49.2.1 v49.2.2).bind fun v50=>(zcL o v50.1 v50.2.1 v50.2.2).bind fun v51=>(zgQ o v51.2.1 v51.2.2).bind fun v52=>let v53:List zaI:=mset keqS kltS v10.1 v7.2.1 (v7.2.1,v49.1,v51.1,v52.1)
 (zaQ o v7.2.1).bind fun v54=>bif v54 then((zeG o v49.1).bind fun v55=>some (.inr (v55,v53,v10.2.1,v10.2.2.1,v10.2.2.2.1,v10.2.2.2.2,v52.2)))else some (.inr (false,v53,v10.2.1,v10.2.2.1,v10.2.2.2.1,v10.2.2.2.2,v52.2)))else some (.inr (false,v10.1,v10.2.1,v10.2.2.1,v10.2.2.2.1,v10.2.2.2.2,v6.1,false))))))
def zgM(o:Ops)(v0:Bs×Bs)(v1:List zaI)(v2:List zaH)(v3:List zaJ)(v4:List zaK)(v5:List ((Bs×Bs)×Unit)):Option ((Bool×zaZ)):=
 (zzI o v0.2).bind fun v6=>(o.cut v0.1 ([47]:Bs)).bind fun v7=>(zsU o v1 v2 v3 v4 v5 v6 v7).bind fun v8=>match v8 with
 |.inl v9=>some v9
 |.inr v10=>((zsN o v6 v7 v10).bind fun v56=>match v56 with
 |.inl v57=>some v57
 |.inr v58=>(bif v58.1 then(bif(!v58.2.2.2.2.2.2.2)then some (((v58.2.2.2.2.2.2.1.length:Int)==0),v58.2.1,v58.2.2.1,v58.2.2.2.1,v58.2.2.2.2.1,v58.2.2.2.2.2.1)else some (false,v58.2.1,v58.2.2.1,v58.2.2.2.1,v58.2.2.2.2.1,v58.2.2.2.2.2.1))else some (false,v58.2.1,v58.2.2.1,v58.2.2.2.1,v58.2.2.2.2.1,v58.2.2.2.2.2.1)))
def zjN(o:Ops):SC:=⟨⟨[(0,(.ptr 0 0)),(1,(.h (.pr .s .s)))],[zaU,zaD,zaF,zaE,zaC,.mp true (.pr .s .s) .un]⟩,1,[(none,⟨[(0,hB)],[zaU,ywC,ybA,yyP,.mp false .s ybX,.mp false (.pr .s .s) .un]⟩)],fun x=>zgM o x.1 x.2.1 x.2.2.1 x.2.2.2.1 x.2.2.2.2.1 x.2.2.2.2.2⟩
theorem zsI:SCok Tryz.prog tabs 75 (zjN o):=zbA (o:=o) (η:=[(2000005,.join [] [5,7,8] [(some 1000000,⟨[(4,hB)],[zaU,zaD,zaF,zaE,zaC,.mp true (.pr .s .s) .un]⟩),(none,⟨[(0,(.ptr 0 0))],[zaU,zaD,zaF,zaE,zaC,.mp true (.pr .s .s) .un]⟩)]),
 (200020,.loop [] ⟨[(0,(.ptr 0 0)),(10,(.ptr 6 0)),(13,(.ptr 7 0)),(93,hI)],[zaU,zaD,zaF,zaE,zaC,.mp true (.pr .s .s) .un,yaI,zwL]⟩ [8] [(some 1,⟨[(0,(.ptr 0 0)),(10,(.ptr 6 0)),(13,(.ptr 7 0))],[zaU,zaD,zaF,zaE,zaC,.mp true (.pr .s .s) .un,yaI,zwL]⟩)]),
 (2000038,.join [] [] [(some 1000000,⟨[(4,hB)],[zaU,zaD,zaF,zaE,zaC,.mp true (.pr .s .s) .un]⟩),(none,⟨[(6,hB),(10,(.ptr 6 0))],[zaU,ywC,ybA,yyP,.mp false .s ybX,.mp false (.pr .s .s) .un,yaI]⟩)]),
 (4000013,.sch [(.pu,0,[]),(.pu,1,[]),(.pu,2,[]),(.pu,4,[6]),(.pu,5,[6]),(.pu,6,[6]),(.pu,8,[6]),(.pu,9,[6]),(.pu,10,[6]),(.pu,12,[6]),(.pu,13,[6]),(.pu,14,[6]),(.mn,3,[6]),(.pu,16,[6]),(.mn,7,[6]),(.mn,11,[6]),(.mn,15,[6]),(.mn,17,[8]),(.pu,18,[]),(.mn,19,[8]),(.pu,20,[]),(.mn,21,[8]),(.pu,22,[]),(.mn,23,[8])]),
 (4000015,.sch [(.pu,0,[]),(.pu,1,[]),(.pu,2,[]),(.pu,3,[]),(.pu,4,[]),(.pu,5,[]),(.mn,6,[0,1,2,3,4,5,6,7,8,9,10,11,12,13,14,15])]),
 (4000024,.sch [(.pu,0,[]),(.pu,1,[]),(.pu,2,[]),(.pu,3,[]),(.pu,4,[]),(.pu,5,[]),(.mn,6,[0,1,2,3,4,5,6,7])]),
 (4000032,.sch [(.pu,0,[]),(.pu,1,[]),(.pu,2,[]),(.pu,3,[]),(.pu,4,[]),(.pu,5,[]),(.mn,6,[0,1,2,3,4,5,6,7,8])]),
 (4000036,.sch [(.pu,0,[]),(.pu,1,[]),(.pu,2,[]),(.pu,3,[]),(.pu,4,[]),(.pu,5,[]),(.mn,6,[0,1,2,3,4,5,6,7,8,9,10,11])])]) (Γ:=⟨[(59,(yvA o)),(106,(zpO o)),(13,(zbD o)),(19,(zgP o)),(104,(zsL o)),(15,(zjK o))],[(11,(zxX o)),(169,(ziG o)),(170,(zoW o)),(171,(zoX o)),(172,(zkU o))],false,[]⟩) (ctok ⟨(zsQ.cut (G:=tabs)),⟨zvW,⟨zbH,⟨zkB,⟨zzJ,⟨zoK,trivial⟩⟩⟩⟩⟩⟩ ⟨yfD,⟨zoN,⟨zxK,⟨zyF,⟨ztA,trivial⟩⟩⟩⟩⟩) Tryz.func75
def ydC(o:Ops)(v0:List Bs)(v7:Int)(v8:List zaI)(v9:List zaH)(v10:List zaJ)(v11:List zaK)(v12:List ((Bs×Bs)×Unit)):Option ((Int×zaZ)⊕((Bool×zaZ)⊕zaZ)):=
 bif decide (v7<(v0.length:Int))then((idx v0 v7).bind fun v13=>(zeH o v13 v8 v9 v10 v11 v12).bind fun v14=>bif(!v14.1)then some (.inr (.inl (false,v14.2)))else(bif decide (v7>0)then((idx v0 (w64 (v7-1))).bind fun v15=>bif(Op.bytesLess v13 v15||v13==v15)then some (.inr (.inl (false,v14.2)))else some (.inl (w64 (v7+1),v14.2)))else some (.inl (w64 (v7+1),v14.2))))else some (.inr (.inr (v8,v9,v10,v11,v12)))
def zyC(o:Ops)(v0:List Bs)(v1:Int)(v2:List zaI)(v3:List zaH)(v4:List zaJ)(v5:List zaK)(v6:List ((Bs×Bs)×Unit)):Option ((Bool×zaZ)):=
 (iter (fun x=>ydC o v0 x.1 x.2.1 x.2.2.1 x.2.2.2.1 x.2.2.2.2.1 x.2.2.2.2.2) ((0:Int),v2,v3,v4,v5,v6)).bind fun v16=>match v16 with
 |.inl v17=>some v17
 |.inr v18=>some (decide ((v0.length:Int)≤v1),v18)
def zvR(o:Ops):SC:=⟨⟨[(0,(.h (.sl .s))),(1,hI),(2,(.fn 244 [] [(.ptr 0 0)]))],[zsH,zjE,zaD,zaF,zaE,zaC,.mp true (.pr .s .s) .un]⟩,1,[(none,⟨[(0,hB)],[zsH,zjE,zaD,zaF,zaE,zaC,.mp true (.pr .s .s) .un]⟩)],fun x=>zyC o x.1 x.2.1 x.2.2.1 x.2.2.2.1 x.2.2.2.2.1 x.2.2.2.2.2.1 x.2.2.2.2.2.2⟩
theorem ydA:SCok Tryz.prog tabs 174 (zvR o):=zbA (o:=o) (η:=[(200002,.loop [] ⟨[(2,(.fn 244 [] [(.ptr 0 0)])),(11,hI)],[zsH,zjE,zaD,zaF,zaE,zaC,.mp true (.pr .s .s) .un]⟩ [0,1,9,10] [(some 1000000,⟨[(6,hB)],[zsH,zjE,zaD,zaF,zaE,zaC,.mp true (.pr .s .s) .un]⟩),(some 0,⟨[],[zsH,zjE,zaD,zaF,zaE,zaC,.mp true (.pr .s .s) .un]⟩)])]) (Γ:=⟨[],[(244,(zgL o))],false,[]⟩) (ctok trivial ⟨zkY,trivial⟩) Tryz.func174
def ydB(o:Ops)(v0:List Bs)(v7:Int)(v8:List zaI)(v9:List zaH)(v10:List zaJ)(v11:List zaK)(v12:List ((Bs×Bs)×Unit)):Option ((Int×zaZ)⊕((Bool×zaZ)⊕zaZ)):=
 bif decide (v7<(v0.length:Int))then((idx v0 v7).bind fun v13=>(zeB o v13 v8 v9 v10 v11 v12).bind fun v14=>bif(!v14.1)then some (.inr (.inl (false,v14.2)))else(bif decide (v7>0)then((idx v0 (w64 (v7-1))).bind fun v15=>bif(Op.bytesLess v13 v15||v13==v15)then some (.inr (.inl (false,v14.2)))else some (.inl (w64 (v7+1),v14.2)))else some (.inl (w64 (v7+1),v14.2))))else some (.inr (.inr (v8,v9,v10,v11,v12)))
def zxF(o:Ops)(v0:List Bs)(v1:Int)(v2:List zaI)(v3:List zaH)(v4:List zaJ)(v5:List zaK)(v6:List ((Bs×Bs)×Unit)):Option ((Bool×zaZ)):=
 (iter (fun x=>ydB o v0 x.1 x.2.1 x.2.2.1 x.2.2.2.1 x.2.2.2.2.1 x.2.2.2.2.2) ((0:Int),v2,v3,v4,v5,v6)).bind fun v16=>match v16 with
 |.inl v17=>some v17
 |.inr v18=>some (decide ((v0.length:Int)≤v1),v18)
def zvS(o:Ops):SC:=⟨⟨[(0,(.h (.sl .s))),(1,hI),(2,(.fn 245 [] [(.ptr 0 0)]))],[zsH,zjE,zaD,zaF,zaE,zaC,.mp true (.pr .s .s) .un]⟩,1,[(none,⟨[(0,hB)],[zsH,zjE,zaD,zaF,zaE,zaC,.mp true (.pr .s .s) .un]⟩)],fun x=>zxF o x.1 x.2.1 x.2.2.1 x.2.2.2.1 x.2.2.2.2.1 x.2.2.2.2.2.1 x.2.2.2.2.2.2⟩
theorem ydH:SCok Tryz.prog tabs 174 (zvS o):=zbA (o:=o) (η:=[(200002,.loop [] ⟨[(2,(.fn 245 [] [(.ptr 0 0)])),(11,hI)],[zsH,zjE,zaD,zaF,zaE,zaC,.mp true (.pr .s .s) .un]⟩ [0,1,9,10] [(some 1000000,⟨[(6,hB)],[zsH,zjE,zaD,zaF,zaE,zaC,.mp true (.pr .s .s) .un]⟩),(some 0,⟨[],[zsH,zjE,zaD,zaF,zaE,zaC,.mp true (.pr .s .s) .un]⟩)])]) (Γ:=⟨[],[(245,(zgG o))],false,[]⟩) (ctok trivial ⟨zkX,trivial⟩) Tryz.func174
def ydN(o:Ops)(v0:List Bs)(v7:Int)(v8:List zaI)(v9:List zaH)(v10:List zaJ)(v11:List zaK)(v12:List ((Bs×Bs)×Unit)):Option ((Int×zaZ)⊕((Bool×zaZ)⊕zaZ)):=
 bif decide (v7<(v0.length:Int))then((idx v0 v7).bind fun v13=>(zeJ o v13 v8 v9 v10 v11 v12).bind fun v14=>bif(!v14.1)then some (.inr (.inl (false,v14.2)))else(bif decide (v7>0)then((idx v0 (w64 (v7-1))).bind fun v15=>bif(Op.bytesLess v13 v15||v13==v15)then some (.inr (.inl (false,v14.2)))else some (.inl (w64 (v7+1),v14.2)))else some (.inl (w64 (v7+1),v14.2))))else some (.inr (.inr (v8,v9,v10,v11,v12)))
def zxZ(o:Ops)(v0:List Bs)(v1:Int)(v2:List zaI)(v3:List zaH)(v4:List zaJ)(v5:List zaK)(v6:List ((Bs×Bs)×Unit)):Option ((Bool×zaZ)):=
 (iter (fun x=>ydN o v0 x.1 x.2.1 x.2.2.1 x.2.2.2.1 x.2.2.2.2.1 x.2.2.2.2.2) ((0:Int),v2,v3,v4,v5,v6)).bind fun v16=>match v16 with
 |.inl v17=>some v17
 |.inr v18=>some (decide ((v0.length:Int)≤v1),v18)
def zvM(o:Ops):SC:=⟨⟨[(0,(.h (.sl .s))),(1,hI),(2,(.fn 246 [] [(.ptr 0 0)]))],[zsH,zjE,zaD,zaF,zaE,zaC,.mp true (.pr .s .s) .un]⟩,1,[(none,⟨[(0,hB)],[zsH,zjE,zaD,zaF,zaE,zaC,.mp true (.pr .s .s) .un]⟩)],fun x=>zxZ o x.1 x.2.1 x.2.2.1 x.2.2.2.1 x.2.2.2.2.1 x.2.2.2.2.2.1 x.2.2.2.2.2.2⟩
theorem ycY:SCok Tryz.prog tabs 174 (zvM o):=zbA (o:=o) (η:=[(200002,.loop [] ⟨[(2,(.fn 246 [] [(.ptr 0 0)])),(11,hI)],[zsH,zjE,zaD,zaF,zaE,zaC,.mp true (.pr .s .s) .un]⟩ [0,1,9,10] [(some 1000000,⟨[(6,hB)],[zsH,zjE,zaD,zaF,zaE,zaC,.mp true (.pr .s .s) .un]⟩),(some 0,⟨[],[zsH,zjE,zaD,zaF,zaE,zaC,.mp true (.pr .s .s) .un]⟩)])]) (Γ:=⟨[],[(246,(zgO o))],false,[]⟩) (ctok trivial ⟨zkQ,trivial⟩) Tryz.func174
def zkW(_o:Ops)(v0:Bs)(v1:List zdL):Option ((Bool×List zdL)):=
 let _v2:List Bs:=zdY keqS v1 v0 ([]:List Bs)
 some (mhas keqS v1 v0,v1)
def zjM(o:Ops):SC:=⟨⟨[(0,hS),(1,(.ptr 0 0))],[ykX,.mp true .s (.sl .s)]⟩,1,[(none,⟨[(0,hB)],[ykX,.mp true .s (.sl .s)]⟩)],fun x=>zkW o x.1 x.2⟩
theorem zsK:SCok Tryz.prog tabs 247 (zjM o):=zbA (o:=o) (η:=[]) (Γ:=⟨[],[],false,[]⟩) (ctok trivial trivial) Tryz.func247
def zzH(o:Ops)(v0:List Bs)(v2:Int)(v3:List zdL):Option ((Int×List zdL)⊕((Int×List zdL)⊕(List zdL))):=
 bif decide (v2<(v0.length:Int))then((idx v0 v2).bind fun v4=>(zkW o v4 v3).bind fun v5=>bif v5.1 then some (.inr (.inl (v2,v5.2)))else some (.inl (w64 (v2+1),v5.2)))else some (.inr (.inr v3))
def zrH(o:Ops)(v0:List Bs)(v1:List zdL):Option ((Int×List zdL)):=
 (iter (fun x=>zzH o v0 x.1 x.2) ((0:Int),v1)).bind fun v6=>match v6 with
 |.inl v7=>some v7
 |.inr v8=>some ((-1:Int),v8)
def zqD(o:Ops):SC:=⟨⟨[(0,(.h (.sl .s))),(1,(.fn 247 [] [(.ptr 0 0)]))],[ykX,.mp true .s (.sl .s)]⟩,1,[(none,⟨[(0,hI)],[ykX,.mp true .s (.sl .s)]⟩)],fun x=>zrH o x.1 x.2⟩
theorem zyZ:SCok Tryz.prog tabs 212 (zqD o):=zbA (o:=o) (η:=[(200002,.loop [] ⟨[(1,(.fn 247 [] [(.ptr 0 0)])),(8,hI)],[ykX,.mp true .s (.sl .s)]⟩ [0,7] [(some 1000000,⟨[(4,hI)],[ykX,.mp true .s (.sl .s)]⟩),(some 0,⟨[],[ykX,.mp true .s (.sl .s)]⟩)])]) (Γ:=⟨[],[(247,(zjM o))],false,[]⟩) (ctok trivial ⟨zsK,trivial⟩) Tryz.func212
def znA(o:Ops)(v0:List Bs)(v1:List zdL):Option ((Bool×List zdL)):=
 (zrH o v0 v1).bind fun v2=>some (decide (v2.1≥0),v2.2)
def zlM(o:Ops):SC:=⟨⟨[(0,(.h (.sl .s))),(1,(.fn 247 [] [(.ptr 0 0)]))],[ykX,.mp true .s (.sl .s)]⟩,1,[(none,⟨[(0,hB)],[ykX,.mp true .s (.sl .s)]⟩)],fun x=>znA o x.1 x.2⟩
theorem zuR:SCok Tryz.prog tabs 129 (zlM o):=zbA (o:=o) (η:=[]) (Γ:=⟨[],[(212,(zqD o))],false,[]⟩) (ctok trivial ⟨zyZ,trivial⟩) Tryz.func129
noncomputable def zuL(_o:Ops)(v5:List zaI)(v6:List zaH)(v7:List zaJ)(v8:List zaK)(v9:List ((Bs×Bs)×Unit))(v10:List Bs)(v11:List zdL):List (Option (((List zaI)×(List zaH)×(List zaJ)×(List zaK)×(List ((Bs×Bs)×Unit))×(List Bs)×List zdL)⊕(((List zaI)×(List zaH)×(List zaJ)×(List zaK)×(List ((Bs×Bs)×Unit))×List zdL)))):=
 rngL (rngC keqS v6 v10) (some (.inr (v5,v6,v7,v8,v9,v11))) fun v12=>(mget keqS v6 v12.1).bind fun v13=>let v14:List zdL:=mset keqS kltS v11 v12.1 v13.1.2.1
 some (.inl (v5,v6,v7,v8,v9,rngD keqS v10 v12.1,v14))
noncomputable def zvE(_o:Ops)(v16:Bool)(v17:List zaI)(v18:List zaH)(v19:List zaJ)(v20:List zaK)(v21:List ((Bs×Bs)×Unit))(v22:List zdL):Option (((Bool×(List zaI)×(List zaH)×(List zaJ)×(List zaK)×(List ((Bs×Bs)×Unit))×List zdL)⊕(Bool×(List zaI)×(List zaH)×(List zaJ)×(List zaK)×(List ((Bs×Bs)×Unit))×(List Bs)×List zdL))⊕(((List zaI)×(List zaH)×(List zaJ)×(List zaK)×(List ((Bs×Bs)×Unit))×List zdL))):=
 bif v16 then some (.inl (.inr (false,v17,v18,v19,v20,v21,List.map Prod.fst v22,v22)))else some (.inr (v17,v18,v19,v20,v21,v22))
noncomputable def zuP(o:Ops)(v23:Bool)(v24:List zaI)(v25:List zaH)(v26:List zaJ)(v27:List zaK)(v28:List ((Bs×Bs)×Unit))(v29:List Bs)(v30:List zdL):List (Option (((Bool×(List zaI)×(List zaH)×(List zaJ)×(List zaK)×(List ((Bs×Bs)×Unit))×List zdL)⊕(Bool×(List zaI)×(List zaH)×(List zaJ)×(List zaK)×(List ((Bs×Bs)×Unit))×(List Bs)×List zdL))⊕(((List zaI)×(List zaH)×(List zaJ)×(List zaK)×(List ((Bs×Bs)×Unit))×List zdL)))):=
 rngL (rngC keqS v30 v29) (some (.inl (.inl (v23,v24,v25,v26,v27,v28,v30)))) fun v31=>(mget keqS v30 v31.1).bind fun v32=>(znA o v32 v30).bind fun v33=>bif(!v33.1)then some (.inl (.inr (true,v24,v25,v26,v27,v28,rngD keqS v29 v31.1,mdel keqS v33.2 v31.1)))else some (.inl (.inr (v23,v24,v25,v26,v27,v28,rngD keqS v29 v31.1,v33.2)))
noncomputable def zuT(o:Ops):(Bool×(List zaI)×(List zaH)×(List zaJ)×(List zaK)×(List ((Bs×Bs)×Unit))×List zdL)⊕(Bool×(List zaI)×(List zaH)×(List zaJ)×(List zaK)×(List ((Bs×Bs)×Unit))×(List Bs)×List zdL)→List (Option (((Bool×(List zaI)×(List zaH)×(List zaJ)×(List zaK)×(List ((Bs×Bs)×Unit))×List zdL)⊕(Bool×(List zaI)×(List zaH)×(List zaJ)×(List zaK)×(List ((Bs×Bs)×Unit))×(List Bs)×List zdL))⊕(((List zaI)×(List zaH)×(List zaJ)×(List zaK)×(List ((Bs×Bs)×Unit))×List zdL))))
 |.inl x=>[zvE o x.1 x.2.1 x.2.2.1 x.2.2.2.1 x.2.2.2.2.1 x.2.2.2.2.2.1 x.2.2.2.2.2.2]
 |.inr x=>zuP o x.1 x.2.1 x.2.2.1 x.2.2.2.1 x.2.2.2.2.1 x.2.2.2.2.2.1 x.2.2.2.2.2.2.1 x.2.2.2.2.2.2.2
noncomputable def zcR(o:Ops)(v0:List zaI)(v1:List zaH)(v2:List zaJ)(v3:List zaK)(v4:List ((Bs×Bs)×Unit)):Option ((Bool×zaZ)):=
 (rngA (fun x=>zuL o x.1 x.2.1 x.2.2.1 x.2.2.2.1 x.2.2.2.2.1 x.2.2.2.2.2.1 x.2.2.2.2.2.2) (v0,v1,v2,v3,v4,List.map Prod.fst v1,([]:List zdL))).bind fun v15=>(rngA (zuT o) (Sum.inl (true,v15))).bind fun v34=>some (((v34.2.2.2.2.2.length:Int)==0),v34.1,v34.2.1,v34.2.2.1,v34.2.2.2.1,v34.2.2.2.2.1)
noncomputable def zlU(o:Ops):SC:=⟨⟨[(0,(.ptr 0 0))],[zaU,zaD,zaF,zaE,zaC,.mp true (.pr .s .s) .un]⟩,1,[(none,⟨[(0,hB)],[zaU,zaD,zaF,zaE,zaC,.mp true (.pr .s .s) .un]⟩)],fun x=>zcR o x.1 x.2.1 x.2.2.1 x.2.2.2.1 x.2.2.2.2⟩
theorem zvH:SCok Tryz.prog tabs 175 (zlU o):=witO (G:=tabs) (o:=o)<|fn_nc (H:=⟨[false,false,false,true,false],[],⟨[(3,(.ptr 6 0)),(6,hB)],[zaU,zaD,zaF,zaE,zaC,.mp true (.pr .s .s) .un,QWkF9,.mp true .s (.sl .s)]⟩,[2],[(some 2,⟨[(3,(.ptr 6 0))],[zaU,zaD,zaF,zaE,zaC,.mp true (.pr .s .s) .un,QWkF9,.mp true .s (.sl .s)]⟩)],[false,false,false],⟨[(3,(.ptr 6 0)),(6,hB),(27,(.ptr 7 0))],[zaU,zaD,zaF,zaE,zaC,.mp true (.pr .s .s) .un,.blk 237 [(.mpr 8)],.it 8 true .s,.mp true .s (.sl .s)]⟩,[2]⟩) (η:=[(200003,.rng [] ⟨[(3,(.ptr 6 0)),(14,(.ptr 7 0))],[zaU,zaD,zaF,zaE,zaC,.mp true (.pr .s .s) .un,.blk 237 [(.mpr 8)],.it 2 true .s,.mp true .s (.sl .s)]⟩ [2] [(some 0,⟨[(3,(.ptr 6 0))],[zaU,zaD,zaF,zaE,zaC,.mp true (.pr .s .s) .un,QWkF9,.mp true .s (.sl .s)]⟩)])]) (Γ:=⟨[],[(129,(zlM o))],false,[]⟩) ycS τ_okWkF (ctok trivial ⟨zuR,trivial⟩) Tryz.func175 (isFn Tryz.func175) (by kernel_rfl) (by kernel_rfl) (by kernel_rfl)
noncomputable def znC(_o:Ops)(v0:List zaI)(v1:List zaH)(v2:List zaJ)(v3:List zaK)(v4:List ((Bs×Bs)×Unit)):Option ((Bool×zaZ)⊕zaZ):=
 bif decide ((v0.length:Int)>64)then some (.inl (false,v0,v1,v2,v3,v4))else(bif decide ((v1.length:Int)>32)then some (.inl (false,v0,v1,v2,v3,v4))else(bif decide ((v2.length:Int)>32)then some (.inl (false,v0,v1,v2,v3,v4))else(bif decide ((v3.length:Int)>32)then some (.inl (false,v0,v1,v2,v3,v4))else(bif decide ((v4.length:Int)>64)then some (.inl (false,v0,v1,v2,v3,v4))else some (.inr (v0,v1,v2,v3,v4))))))
noncomputable def zwE(_o:Ops)(v17:Int)(v18:List zaI)(v19:List zaH)(v20:List zaJ)(v21:List zaK)(v22:List ((Bs×Bs)×Unit))(v23:List Bs)(v24:List Bs)(v25:List Bs)(v26:Int)(v27:List Bs):Option (((List zaI)×(List zaH)×(List zaJ)×(List zaK)×(List ((Bs×Bs)×Unit))×(List Bs)×(List Bs)×(List Bs)×Int×List Bs)⊕((List zaI)×(List zaH)×(List zaJ)×(List zaK)×(List ((Bs×Bs)×Unit))×(List Bs)×(List Bs)×(List Bs)×Int×List Bs)⊕((List zaI)×(List zaH)×(List zaJ)×(List zaK)×(List ((Bs×Bs)×Unit))×(List Bs)×(List Bs)×(List Bs)×Int×List Bs)):=
 bif decide (v17=(0:Int))then some (.inl (v18,v19,v20,v21,v22,v23,v24,v25,v26,v27))else(bif decide (v17=(1:Int))then some (.inr (.inl (v18,v19,v20,v21,v22,v23,v24,v25,v26,v27)))else(bif decide (v17=(2:Int))then some (.inr (.inr (v18,v19,v20,v21,v22,v23,v24,v25,v26,v27)))else none))
noncomputable def zwR(o:Ops)(v17:Int)(v18:List zaI)(v19:List zaH)(v20:List zaJ)(v21:List zaK)(v22:List ((Bs×Bs)×Unit))(v23:List Bs)(v24:List Bs)(v25:List Bs)(v26:Int)(v27:List Bs):Option ((Int×(List zaI)×(List zaH)×(List zaJ)×(List zaK)×(List ((Bs×Bs)×Unit))×(List Bs)×(List Bs)×(List Bs)×Int×List Bs)⊕((Bool×zaZ)⊕((List zaI)×(List zaH)×(List zaJ)×(List zaK)×(List ((Bs×Bs)×Unit))×List Bs))):=
 bif decide (v17<3)then((zwE o v17 v18 v19 v20 v21 v22 v23 v24 v25 v26 v27).bind fun v28=>match v28 with
 |.inl v29=>((zyC o v29.2.2.2.2.2.1 (v29.2.2.2.2.2.1.length:Int) v29.1 v29.2.1 v29.2.2.1 v29.2.2.2.1 v29.2.2.2.2.1).bind fun v31=>bif(!v31.1)then some (.inr (.inl (false,v31.2)))else some (.inl (w64 (v17+1),v31.2.1,v31.2.2.1,v31.2.2.2.1,v31.2.2.2.2.1,v31.2.2.2.2.2,v29.2.2.2.2.2)))
 |.inr v30=>(match v30 with
 |.inl v32=>((zxF o v32.2.2.2.2.2.2.1 (v32.2.2.2.2.2.2.1.length:Int) v32.1 v32.2.1 v32.2.2.1 v32.2.2.2.1 v32.2.2.2.2.1).bind fun v34=>bif(!v34.1)then some (.inr (.inl (false,v34.2)))else some (.inl (w64 (v17+1),v34.2.1,v34.2.2.1,v34.2.2.2.1,v34.2.2.2.2.1,v34.2.2.2.2.2,v32.2.2.2.2.2)))
 |.inr v33=>((zxZ o v33.2.2.2.2.2.2.2.1 (v33.2.2.2.2.2.2.2.1.length:Int) v33.1 v33.2.1 v33.2.2.1 v33.2.2.2.1 v33.2.2.2.2.1).bind fun v35=>bif(!v35.1)then some (.inr (.inl (false,v35.2)))else some (.inl (w64 (v17+1),v35.2.1,v35.2.2.1,v35.2.2.2.1,v35.2.2.2.2.1,v35.2.2.2.2.2,v33.2.2.2.2.2)))))else some (.inr (.inr (v18,v19,v20,v21,v22,v27)))
noncomputable def zvZ(o:Ops)(v8:List zaI)(v9:List zaH)(v10:List zaJ)(v11:List zaK)(v12:List ((Bs×Bs)×Unit))(v13:List Bs):List (Option (((List zaI)×(List zaH)×(List zaJ)×(List zaK)×(List ((Bs×Bs)×Unit))×List Bs)⊕(zaZ⊕(Bool×zaZ)))):=
 rngL (rngC keqS v9 v13) (some (.inr (.inl (v8,v9,v10,v11,v12)))) fun v14=>(mget keqS v9 v14.1).bind fun v15=>(zaR o v8 v9 v10 v11 v12).bind fun v16=>(iter (fun x=>zwR o x.1 x.2.1 x.2.2.1 x.2.2.2.1 x.2.2.2.2.1 x.2.2.2.2.2.1 x.2.2.2.2.2.2.1 x.2.2.2.2.2.2.2.1 x.2.2.2.2.2.2.2.2.1 x.2.2.2.2.2.2.2.2.2.1 x.2.2.2.2.2.2.2.2.2.2) ((0:Int),v16.1,v16.2.1,v16.2.2.1,v16.2.2.2.1,v16.2.2.2.2,v15.1.1,v15.1.2.1,v15.1.2.2,v15.2,rngD keqS v13 v14.1)).bind fun v36=>match v36 with
 |.inl v37=>some (.inr (.inr v37))
 |.inr v38=>some (.inl v38)
noncomputable def zwP(o:Ops)(v42:List zaI)(v43:List zaH)(v44:List zaJ)(v45:List zaK)(v46:List ((Bs×Bs)×Unit))(v47:List (Bs×Bs)):List (Option (((List zaI)×(List zaH)×(List zaJ)×(List zaK)×(List ((Bs×Bs)×Unit))×List (Bs×Bs))⊕(zaZ⊕(Bool×zaZ)))):=
 rngL (rngC (keq (.pr .s .s)) v46 v47) (some (.inr (.inl (v42,v43,v44,v45,v46)))) fun v48=>(mget (keq (.pr .s .s)) v46 v48.1).bind fun _v49=>(zbM o v48.1.1 v42 v43 v44 v45 v46).bind fun v50=>bif(!v50.1)then some (.inr (.inr (false,v50.2)))else((zbM o v48.1.2 v50.2.1 v50.2.2.1 v50.2.2.2.1 v50.2.2.2.2.1 v50.2.2.2.2.2).bind fun v51=>bif(!v51.1)then some (.inr (.inr (false,v51.2)))else some (.inl (v51.2.1,v51.2.2.1,v51.2.2.2.1,v51.2.2.2.2.1,v51.2.2.2.2.2,rngD (keq (.pr .s .s)) v47 v48.1)))
noncomputable def zdI(o:Ops)(v0:List zaI)(v1:List zaH)(v2:List zaJ)(v3:List zaK)(v4:List ((Bs×Bs)×Unit)):Option ((Bool×zaZ)):=
 (znC o v0 v1 v2 v3 v4).bind fun v5=>match v5 with
 |.inl v6=>some v6
 |.inr v7=>((rngA (fun x=>zvZ o x.1 x.2.1 x.2.2.1 x.2.2.2.1 x.2.2.2.2.1 x.2.2.2.2.2) (v7.1,v7.2.1,v7.2.2.1,v7.2.2.2.1,v7.2.2.2.2,List.map Prod.fst v7.2.1)).bind fun v39=>match v39 with
 |.inl v40=>((rngA (fun x=>zwP o x.1 x.2.1 x.2.2.1 x.2.2.2.1 x.2.2.2.2.1 x.2.2.2.2.2) (v40.1,v40.2.1,v40.2.2.1,v40.2.2.2.1,v40.2.2.2.2,List.map Prod.fst v40.2.2.2.2)).bind fun v52=>match v52 with
 |.inl v53=>((zcR o v53.1 v53.2.1 v53.2.2.1 v53.2.2.2.1 v53.2.2.2.2).bind fun v55=>some v55)
 |.inr v54=>some v54)
 |.inr v41=>some v41)
noncomputable def zmV(o:Ops):SC:=⟨⟨[(0,(.ptr 0 0))],[zaU,zaD,zaF,zaE,zaC,.mp true (.pr .s .s) .un]⟩,1,[(none,⟨[(0,hB)],[zaU,zaD,zaF,zaE,zaC,.mp true (.pr .s .s) .un]⟩)],fun x=>zdI o x.1 x.2.1 x.2.2.1 x.2.2.2.1 x.2.2.2.2⟩
theorem zwJ:SCok Tryz.prog tabs 76 (zmV o):=zbA (o:=o) (η:=[(2000003,.join [] [] [(some 1000000,⟨[(2,hB)],[zaU,zaD,zaF,zaE,zaC,.mp true (.pr .s .s) .un]⟩),(none,⟨[(0,(.ptr 0 0))],[zaU,zaD,zaF,zaE,zaC,.mp true (.pr .s .s) .un]⟩)]),
 (2000009,.join [] [57] [(none,⟨[(0,(.ptr 0 0)),(4,(.ptr 6 0)),(6,(.ptr 7 0)),(50,(.ptr 8 0)),(56,(.ag [(.kn .i64 0),(.fn 244 [] [(.ptr 9 0)]),(.kn .i64 1),(.fn 245 [] [(.ptr 9 0)]),(.kn .i64 2),(.fn 246 [] [(.ptr 9 0)])]))],[zaU,zaD,zaF,zaE,zaC,.mp true (.pr .s .s) .un,zwL,.blk 187 [(.kn .i64 0),(.fn 244 [] [(.ptr 9 0)])],.it 2 true .s,zxI]⟩),(none,⟨[(0,(.ptr 0 0)),(4,(.ptr 6 0)),(6,(.ptr 7 0)),(50,(.ptr 8 0)),(56,(.ag [(.kn .i64 0),(.fn 244 [] [(.ptr 9 0)]),(.kn .i64 1),(.fn 245 [] [(.ptr 9 0)]),(.kn .i64 2),(.fn 246 [] [(.ptr 9 0)])]))],[zaU,zaD,zaF,zaE,zaC,.mp true (.pr .s .s) .un,zwL,.blk 187 [(.kn .i64 1),(.fn 245 [] [(.ptr 9 0)])],.it 2 true .s,zxI]⟩),(none,⟨[(0,(.ptr 0 0)),(4,(.ptr 6 0)),(6,(.ptr 7 0)),(50,(.ptr 8 0)),(56,(.ag [(.kn .i64 0),(.fn 244 [] [(.ptr 9 0)]),(.kn .i64 1),(.fn 245 [] [(.ptr 9 0)]),(.kn .i64 2),(.fn 246 [] [(.ptr 9 0)])]))],[zaU,zaD,zaF,zaE,zaC,.mp true (.pr .s .s) .un,zwL,.blk 187 [(.kn .i64 2),(.fn 246 [] [(.ptr 9 0)])],.it 2 true .s,zxI]⟩)]),
 (200007,.loop [] ⟨[(0,(.ptr 0 0)),(4,(.ptr 6 0)),(50,(.ptr 7 0)),(56,(.ag [(.kn .i64 0),(.fn 244 [] [(.ptr 8 0)]),(.kn .i64 1),(.fn 245 [] [(.ptr 8 0)]),(.kn .i64 2),(.fn 246 [] [(.ptr 8 0)])])),(57,hI)],[zaU,zaD,zaF,zaE,zaC,.mp true (.pr .s .s) .un,zwL,.it 2 true .s,zxI]⟩ [] [(some 1000000,⟨[(2,hB)],[zaU,zaD,zaF,zaE,zaC,.mp true (.pr .s .s) .un]⟩),(some 2,⟨[(0,(.ptr 0 0)),(50,(.ptr 6 0))],[zaU,zaD,zaF,zaE,zaC,.mp true (.pr .s .s) .un,.it 2 true .s]⟩)]),
 (200004,.rng [] ⟨[(0,(.ptr 0 0)),(50,(.ptr 6 0))],[zaU,zaD,zaF,zaE,zaC,.mp true (.pr .s .s) .un,.it 2 true .s]⟩ [] [(some 0,⟨[(0,(.ptr 0 0))],[zaU,zaD,zaF,zaE,zaC,.mp true (.pr .s .s) .un]⟩),(some 1000000,⟨[(2,hB)],[zaU,zaD,zaF,zaE,zaC,.mp true (.pr .s .s) .un]⟩)]),
 (200013,.rng [] ⟨[(0,(.ptr 0 0)),(80,(.ptr 6 0))],[zaU,zaD,zaF,zaE,zaC,.mp true (.pr .s .s) .un,.it 5 true (.pr .s .s)]⟩ [] [(some 4,⟨[(0,(.ptr 0 0))],[zaU,zaD,zaF,zaE,zaC,.mp true (.pr .s .s) .un]⟩),(some 1000000,⟨[(2,hB)],[zaU,zaD,zaF,zaE,zaC,.mp true (.pr .s .s) .un]⟩)]),
 (4000009,.sch [(.pu,0,[]),(.pu,1,[]),(.pu,2,[]),(.pu,3,[]),(.pu,4,[]),(.pu,5,[]),(.pu,6,[]),(.pu,7,[]),(.pu,8,[]),(.pu,9,[]),(.pu,10,[]),(.pu,11,[]),(.pu,12,[]),(.mn,13,[0,1,2,3,4,5,9]),(.pu,14,[])])]) (Γ:=⟨[],[(173,(zbK o)),(174,(zvR o)),(174,(zvS o)),(174,(zvM o)),(128,(zeU o)),(175,(zlU o))],false,[]⟩) (ctok trivial ⟨zbR,⟨ydA,⟨ydH,⟨ycY,⟨zhI,⟨zvH,trivial⟩⟩⟩⟩⟩⟩) Tryz.func76
noncomputable def zzQ(o:Ops)(v0:List (Bs×Bs))(v2:Int)(v3:List zaI)(v4:List zaH)(v5:List zaJ)(v6:List zaK)(v7:List ((Bs×Bs)×Unit)):Option ((Int×zaZ)⊕(Int⊕zaZ)):=
 bif decide (v2<(v0.length:Int))then((idx v0 v2).bind fun v8=>bif decide (v2>0)then((idx v0 (w64 (v2-1))).bind fun v9=>bif(Op.bytesLess v8.1 v9.1||v8.1==v9.1)then some (.inr (.inl (125:Int)))else((zgM o v8 v3 v4 v5 v6 v7).bind fun v10=>bif(!v10.1)then some (.inr (.inl (125:Int)))else some (.inl (w64 (v2+1),v10.2))))else((zgM o v8 v3 v4 v5 v6 v7).bind fun v11=>bif(!v11.1)then some (.inr (.inl (125:Int)))else some (.inl (w64 (v2+1),v11.2))))else some (.inr (.inr (v3,v4,v5,v6,v7)))
noncomputable def zmJ(o:Ops)(v0:List (Bs×Bs)):Option (Int⊕(Int×zaZ)):=
 (ziA o).bind fun v1=>(iter (fun x=>zzQ o v0 x.1 x.2.1 x.2.2.1 x.2.2.2.1 x.2.2.2.2.1 x.2.2.2.2.2) ((0:Int),v1)).bind fun v12=>match v12 with
 |.inl v13=>some (.inl v13)
 |.inr v14=>((zdI o v14.1 v14.2.1 v14.2.2.1 v14.2.2.2.1 v14.2.2.2.2).bind fun v15=>bif(!v15.1)then some (.inl (125:Int))else some (.inr ((0:Int),v15.2)))
noncomputable def zzM(o:Ops):SC:=⟨⟨[(0,(.h (.sl (.pr .s .s))))],[]⟩,2,[(none,⟨[(0,.nilp),(1,hI)],[]⟩),(none,⟨[(0,(.ptr 0 0)),(1,hI)],[zaU,zaD,zaF,zaE,zaC,.mp true (.pr .s .s) .un]⟩)],fun x=>zmJ o x⟩
theorem ygY:SCok Tryz.prog tabs 25 (zzM o):=zbA (o:=o) (η:=[(200003,.loop [] ⟨[(4,(.ptr 0 0)),(10,hI)],[zaU,zaD,zaF,zaE,zaC,.mp true (.pr .s .s) .un]⟩ [0,8,9] [(some 1000000,⟨[(2,.nilp),(3,hI)],[]⟩),(some 0,⟨[(4,(.ptr 0 0))],[zaU,zaD,zaF,zaE,zaC,.mp true (.pr .s .s) .un]⟩)]),
 (4000005,.sch [(.pu,0,[]),(.pu,1,[]),(.pu,2,[]),(.pu,3,[]),(.pu,4,[]),(.pu,5,[]),(.pu,6,[]),(.pu,7,[]),(.pu,8,[]),(.pu,9,[]),(.pu,10,[]),(.pu,11,[]),(.pu,12,[]),(.pu,13,[]),(.pu,14,[]),(.pu,15,[]),(.mn,16,[0,1,2,3,4,5]),(.pu,17,[]),(.pu,18,[])])]) (Γ:=⟨[],[(30,(zqQ o)),(75,(zjN o)),(76,(zmV o))],false,[]⟩) (ctok trivial ⟨zuU,⟨zsI,⟨zwJ,trivial⟩⟩⟩) Tryz.func25
noncomputable def zmG(o:Ops)(v0:zaZ):Option (Bool⊕zaZ):=
 (zbV o ([97,110,110]:Bs) ([97,64,120]:Bs) v0.1 v0.2.1 v0.2.2.1 v0.2.2.2.1 v0.2.2.2.2).bind fun v1=>bif(v1.1 != 0)then some (.inl false)else((zbV o ([97,110,110]:Bs) ([97,64,120]:Bs) v1.2.1 v1.2.2.1 v1.2.2.2.1 v1.2.2.2.2.1 v1.2.2.2.2.2).bind fun v2=>bif(v2.1 != 121)then some (.inl false)else((zbT o ([103]:Bs) v2.2.1 v2.2.2.1 v2.2.2.2.1 v2.2.2.2.2.1 v2.2.2.2.2.2).bind fun v3=>bif(v3.1 != 0)then some (.inl false)else((zbT o ([104]:Bs) v3.2.1 v3.2.2.1 v3.2.2.2.1 v3.2.2.2.2.1 v3.2.2.2.2.2).bind fun v4=>bif(v4.1 != 0)then some (.inl false)else((zdS o ([103]:Bs) ([104]:Bs) v4.2.1 v4.2.2.1 v4.2.2.2.1 v4.2.2.2.2.1 v4.2.2.2.2.2).bind fun v5=>bif(v5.1 != 0)then some (.inl false)else((zdS o ([104]:Bs) ([103]:Bs) v5.2.1 v5.2.2.1 v5.2.2.2.1 v5.2.2.2.2.1 v5.2.2.2.2.2).bind fun v6=>bif(v6.1 != 123)then some (.inl false)else((zgA o ([104]:Bs) ([97,110,110]:Bs) v6.2.1 v6.2.2.1 v6.2.2.2.1 v6.2.2.2.2.1 v6.2.2.2.2.2).bind fun v7=>bif(v7.1 != 0)then some (.inl false)else some (.inr v7.2)))))))
noncomputable def zgU(o:Ops)(v10:zaZ):Option (Bool⊕zaZ):=
 (zcJ o (([114]:Bs),([([114,101,97,100]:Bs)]:List Bs)) v10.1 v10.2.1 v10.2.2.1 v10.2.2.2.1 v10.2.2.2.2).bind fun v11=>bif(v11.1 != 0)then some (.inl false)else((zfY o ([103]:Bs) ([114]:Bs) v11.2.1 v11.2.2.1 v11.2.2.2.1 v11.2.2.2.2.1 v11.2.2.2.2.2).bind fun v12=>bif(v12.1 != 0)then some (.inl false)else((zcU o ([117,58,97,110,110]:Bs) v12.2.1 v12.2.2.1 v12.2.2.2.1 v12.2.2.2.2.1 v12.2.2.2.2.2).bind fun v13=>bif(!v13.1)then some (.inl false)else some (.inr v13.2)))
noncomputable def zhH(o:Ops):Option (Bool):=
 (ziA o).bind fun v0=>(zmG o v0).bind fun v8=>match v8 with
 |.inl v9=>(some v9)
 |.inr v10=>((zgU o v10).bind fun v14=>match v14 with
 |.inl v15=>(some v15)
 |.inr v16=>((zbS o ([97,110,110]:Bs) v16.1 v16.2.1 v16.2.2.1 v16.2.2.2.1 v16.2.2.2.2).bind fun v17=>(zdJ o ([97,110,110]:Bs) v17.2.1 v17.2.2.1 v17.2.2.2.1 v17.2.2.2.2.1 v17.2.2.2.2.2).bind fun v18=>(zfZ o v18.2.1 v18.2.2.1 v18.2.2.2.1 v18.2.2.2.2.1 v18.2.2.2.2.2).bind fun v19=>(zmJ o v19.1).bind fun v20=>match v20 with
 |.inl _v21=>(bif((v17.1.length:Int)==2)then((idx v17.1 (0:Int)).bind fun v23=>bif(v23==([103]:Bs))then(bif((v18.1.length:Int)==1)then((idx v18.1 (0:Int)).bind fun v24=>bif(v24==([114,101,97,100]:Bs))then(bif((v19.1.length:Int)==4)then((idx v19.1 (1:Int)).bind fun v25=>let v26:Bool:=((v25.1==([103,114,111,117,112,47,104]:Bs))&&(v25.2==([49,58,50,49,58,49,51,58,97,110,110,49,58,48,49,58,48]:Bs)))
 bif v26 then(some false)else(some false))else(some false))else(some false))else(some false))else(some false))else(some false))
 |.inr v22=>(bif((v17.1.length:Int)==2)then((idx v17.1 (0:Int)).bind fun v27=>bif(v27==([103]:Bs))then(bif((v18.1.length:Int)==1)then((idx v18.1 (0:Int)).bind fun v28=>bif(v28==([114,101,97,100]:Bs))then(bif((v19.1.length:Int)==4)then((idx v19.1 (1:Int)).bind fun v29=>let v30:Bool:=((v29.1==([103,114,111,117,112,47,104]:Bs))&&(v29.2==([49,58,50,49,58,49,51,58,97,110,110,49,58,48,49,58,48]:Bs)))
 bif v30 then(bif(v22.1==0)then((o.form ([([97,98]:Bs),([]:Bs)]:List Bs)).bind fun v31=>some (v31==([50,58,97,98,48,58]:Bs)))else(some false))else(some false))else(some false))else(some false))else(some false))else(some false))else(some false))))
noncomputable def zmR(o:Ops):PC:=⟨[],[.b],fun _=>zhH o,false⟩
theorem zvA:PCok Tryz.prog tabs 24 (zmR o):=zhB (o:=o) (η:=[(2000004,.join [] [] [(some 1000000,⟨[(0,hB)],[]⟩),(none,⟨[(1,(.ptr 0 0))],[zaU,zaD,zaF,zaE,zaC,.mp true (.pr .s .s) .un]⟩)]),
 (2000006,.join [] [] [(some 1000000,⟨[(0,hB)],[]⟩),(none,⟨[(1,(.ptr 0 0))],[zaU,zaD,zaF,zaE,zaC,.mp true (.pr .s .s) .un]⟩)])]) (Γ:=⟨[(22,(yeO o))],[(30,(zqQ o)),(71,(zgD o)),(72,(zfR o)),(33,(ziK o)),(73,(zhZ o)),(36,(zgC o)),(74,(ziM o)),(49,(zgX o)),(50,(zgZ o)),(34,(znE o)),(29,(zpC o)),(25,(zzM o))],false,[]⟩) (ctok ⟨(zsQ.form (G:=tabs)),trivial⟩ ⟨zuU,⟨zkL,⟨zjP,⟨zoR,⟨zoS,⟨zkI,⟨zpE,⟨zlG,⟨zkD,⟨zwA,⟨zwW,⟨ygY,trivial⟩⟩⟩⟩⟩⟩⟩⟩⟩⟩⟩⟩) Tryz.func24
end
end Go.Proofs.YtopanhneegpgcaaGreatDoor.Am
