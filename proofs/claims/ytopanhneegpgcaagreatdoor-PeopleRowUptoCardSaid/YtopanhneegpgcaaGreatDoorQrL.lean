/- What some functions compute, over plain values, and that they do. Conditions: as each theorem says. -/
import Derived.KernelRfl
import Derived.Test.YtopanhneegpgcaaGreatDoorQrK
namespace Go.Proofs.YtopanhneegpgcaaGreatDoor.Am
open Go Go.RowKit
def τWkF:TE:=[(3,⟨.int .i64,1,[.v (.i .i64) (show Int from 0)],(.i .i64),8⟩),
 (4,⟨.b,1,[.v .b (show Bool from false)],.b,1⟩),
 (9,⟨.s,1,[.v .s (show Bs from [])],.s,16⟩),
 (22,⟨.sl 9,1,[.nils],(.sl .s),24⟩),
 (25,⟨.fn,1,[.nilf],.un,8⟩),
 (31,⟨.sl 33,1,[.nils],(.sl (.pr .s .s)),24⟩),
 (33,⟨.st [(9,0),(9,1)],2,[.v .s (show Bs from []),.v .s (show Bs from [])],(.pr .s .s),32⟩),
 (34,⟨.pt 128,1,[.nilp],.un,8⟩),
 (49,⟨.st [(9,0),(22,1)],2,[.v .s (show Bs from []),.nils],(.pr .s (.sl .s)),40⟩),
 (51,⟨.st [(9,0),(9,1),(22,2),(22,3),(4,4),(4,5),(4,6),(4,7)],8,[.v .s (show Bs from []),.v .s (show Bs from []),.nils,.nils,.v .b (show Bool from false),.v .b (show Bool from false),.v .b (show Bool from false),.v .b (show Bool from false)],(.pr .s (.pr .s (.pr (.sl .s) (.pr (.sl .s) (.pr .b (.pr .b (.pr .b .b))))))),88⟩),
 (54,⟨.sl 57,1,[.nils],(.sl (.pr .s (.pr (.sl .s) (.pr (.sl .s) (.pr (.sl .s) (.i .i64)))))),24⟩),
 (57,⟨.st [(9,0),(22,1),(22,2),(22,3),(3,4)],5,[.v .s (show Bs from []),.nils,.nils,.nils,.v (.i .i64) (show Int from 0)],(.pr .s (.pr (.sl .s) (.pr (.sl .s) (.pr (.sl .s) (.i .i64))))),96⟩),
 (64,⟨.sl 51,1,[.nils],(.sl (.pr .s (.pr .s (.pr (.sl .s) (.pr (.sl .s) (.pr .b (.pr .b (.pr .b .b)))))))),24⟩),
 (67,⟨.sl 77,1,[.nils],(.sl (.pr .s (.pr .s (.pr .b (.i .i64))))),24⟩),
 (69,⟨.sl 49,1,[.nils],(.sl (.pr .s (.sl .s))),24⟩),
 (72,⟨.sl 75,1,[.nils],(.sl (.pr .s .s)),24⟩),
 (75,⟨.st [(9,0),(9,1)],2,[.v .s (show Bs from []),.v .s (show Bs from [])],(.pr .s .s),32⟩),
 (77,⟨.st [(9,0),(9,1),(4,2),(3,3)],4,[.v .s (show Bs from []),.v .s (show Bs from []),.v .b (show Bool from false),.v (.i .i64) (show Int from 0)],(.pr .s (.pr .s (.pr .b (.i .i64)))),48⟩),
 (106,⟨.ifc,1,[.v .er (show Bool from false)],.er,16⟩),
 (122,⟨.map 9 77,1,[.nilm],(.mp .s (.pr .s (.pr .s (.pr .b (.i .i64))))),8⟩),
 (123,⟨.map 9 133,1,[.nilm],(.mp .s (.pr (.pr (.sl .s) (.pr (.sl .s) (.sl .s))) (.i .i64))),8⟩),
 (124,⟨.map 9 49,1,[.nilm],(.mp .s (.pr .s (.sl .s))),8⟩),
 (125,⟨.map 9 51,1,[.nilm],(.mp .s (.pr .s (.pr .s (.pr (.sl .s) (.pr (.sl .s) (.pr .b (.pr .b (.pr .b .b)))))))),8⟩),
 (126,⟨.map 75 157,1,[.nilm],(.mp (.pr .s .s) .un),8⟩),
 (128,⟨.st [(122,0),(123,1),(124,2),(125,3),(126,4)],5,[.nilm,.nilm,.nilm,.nilm,.nilm],(.pr (.mp .s (.pr .s (.pr .s (.pr .b (.i .i64))))) (.pr (.mp .s (.pr (.pr (.sl .s) (.pr (.sl .s) (.sl .s))) (.i .i64))) (.pr (.mp .s (.pr .s (.sl .s))) (.pr (.mp .s (.pr .s (.pr .s (.pr (.sl .s) (.pr (.sl .s) (.pr .b (.pr .b (.pr .b .b)))))))) (.mp (.pr .s .s) .un))))),40⟩),
 (131,⟨.ar 3 22,3,[.nils,.nils,.nils],(.pr (.sl .s) (.pr (.sl .s) (.sl .s))),72⟩),
 (133,⟨.st [(131,0),(3,3)],4,[.nils,.nils,.nils,.v (.i .i64) (show Int from 0)],(.pr (.pr (.sl .s) (.pr (.sl .s) (.sl .s))) (.i .i64)),80⟩),
 (157,⟨.st [],0,[],.un,0⟩),
 (160,⟨.map 9 157,1,[.nilm],(.mp .s .un),8⟩),
 (183,⟨.st [(22,0),(4,1)],2,[.nils,.v .b (show Bool from false)],(.pr (.sl .s) .b),32⟩),
 (187,⟨.st [(3,0),(25,1)],2,[.v (.i .i64) (show Int from 0),.nilf],.un,16⟩),
 (188,⟨.ar 3 187,6,[.v (.i .i64) (show Int from 0),.nilf,.v (.i .i64) (show Int from 0),.nilf,.v (.i .i64) (show Int from 0),.nilf],.un,48⟩),
 (197,⟨.sl 22,1,[.nils],(.sl (.sl .s)),24⟩),
 (201,⟨.int .u64,1,[.v (.i .u64) (show UInt64 from 0)],(.i .u64),8⟩),
 (237,⟨.map 9 22,1,[.nilm],(.mp .s (.sl .s)),8⟩)]
theorem τ_okWkF:TEok Tryz.prog τWkF:=yoY (by kernel_rfl) (by kernel_rfl)
theorem zvC:Tryz.prog.follows .mixedOrders=true:=by kernel_rfl
theorem zaT {G : List (Nat × Obj)} {o : Ops} [zmC G] [ziO G o] {Γ : CT} {η : HT} {f : FuncId} {fn : Func} {c : SC} (hΓ : ∀ B, GB G B → CTok Tryz.prog Γ B) (hf : Tryz.prog.funcs[f]? = some fn) (i : (fn.name == "runtime.NumGoroutine") = false := by kernel_rfl) (j : fn.body.isNone = false := by kernel_rfl) (l : Nat.ble c.I.sl.length fn.ntmps = true := by kernel_rfl) (r : Nat.beq fn.results.toList.length c.nr = true := by kernel_rfl) (e : fnS τWkF Γ η fn c.I c.outs = c.p := by kernel_rfl) : SCok Tryz.prog G f c := witO (G := G) (o := o) <| yvY zvC τ_okWkF hΓ hf (isFn hf i j) l r e
theorem zcZ {G : List (Nat × Obj)} {o : Ops} [zmC G] [ziO G o] {Γ : CT} {η : HT} {f : FuncId} {fn : Func} {c : PC} (hΓ : ∀ B, GB G B → CTok Tryz.prog Γ B) (hf : Tryz.prog.funcs[f]? = some fn) (i : (fn.name == "runtime.NumGoroutine") = false := by kernel_rfl) (j : fn.body.isNone = false := by kernel_rfl) (l : Nat.ble c.ash.length fn.ntmps = true := by kernel_rfl) (r : c.cl = false := by kernel_rfl) (e : fnP τWkF Γ η fn c.ash c.rts = c.p := by kernel_rfl) : PCok Tryz.prog G f c := witO (G := G) (o := o) <| yvC zvC τ_okWkF hΓ hf (isFn hf i j) l r e
abbrev zuQ:Type:=(List Bs)×Bool
abbrev zbQ:Type:=Bs×List Bs
abbrev ztX:Ty:=.pr .s (.sl .s)
abbrev zoV:Type:=Bs×Bs×Bool×Int
abbrev ybK:Ty:=.pr .s (.pr .s (.pr .b (.i .i64)))
abbrev zaI:Type:=Bs×zbQ
abbrev zaH:Type:=Bs×zoV
abbrev zrJ:Type:=((List Bs)×(List Bs)×List Bs)×Int
abbrev yiV:Ty:=.pr (.pr (.sl .s) (.pr (.sl .s) (.sl .s))) (.i .i64)
abbrev zzH:Type:=Bs×(List Bs)×(List Bs)×(List Bs)×Int
abbrev yiT:Ty:=.pr .s (.pr (.sl .s) (.pr (.sl .s) (.pr (.sl .s) (.i .i64))))
abbrev zaF:Type:=Bs×zrJ
abbrev zlQ:Type:=Bs×Bs×(List Bs)×(List Bs)×Bool×Bool×Bool×Bool
abbrev ztZ:Ty:=.pr .s (.pr .s (.pr (.sl .s) (.pr (.sl .s) (.pr .b (.pr .b (.pr .b .b))))))
abbrev zaJ:Type:=Bs×zlQ
abbrev zaQ:Type:=(List (Bs×zoV))×(List (Bs×zrJ))×(List (Bs×zbQ))×(List (Bs×zlQ))×List ((Bs×Bs)×Unit)
abbrev zaN:OSh:=.blk 128 [(.mpr 1),(.mpr 2),(.mpr 3),(.mpr 4),(.mpr 5)]
abbrev zeH:OSh:=.blk 128 [(.mpr 2),(.mpr 3),(.mpr 4),(.mpr 5),(.mpr 6)]
abbrev znW:OSh:=.blk 133 [(.h (.sl .s)),(.h (.sl .s)),(.h (.sl .s)),hI]
abbrev ykC:OSh:=.blk 133 [.nils,.nils,.nils,hI]
abbrev zrX:OSh:=.blk 183 [(.h (.sl .s)),hB]
abbrev zqJ:OSh:=.blk 34 [(.ptr 0 0)]
abbrev zlD:OSh:=.blk 34 [(.ptr 1 0)]
abbrev zwW:OSh:=.blk 160 [(.mpr 1)]
abbrev ybE:OSh:=.blk 237 [(.mpr 1)]
abbrev yxI:OSh:=.blk 237 [(.mpr 7)]
abbrev ykQ:OSh:=.mp false .s ybK
abbrev zsO:OSh:=.mp false .s yiV
abbrev ykF:OSh:=.mp false .s ztX
abbrev ytV:OSh:=.blk 31 [(.own 1)]
abbrev ymP:OSh:=.blk 31 [(.own 2)]
abbrev ygK:OSh:=.blk 31 [(.own 8)]
abbrev zzU:OSh:=.blk 31 [(.own 7)]
abbrev zaB:OSh:=.mp true .s ybK
abbrev zaD:OSh:=.mp true .s yiV
abbrev zaC:OSh:=.mp true .s ztX
abbrev zaA:OSh:=.mp true .s ztZ
abbrev zfV:OSh:=.mp true .s .un
section
variable {tabs:List (Nat×Obj)}[zmC tabs]{o:Ops}[ziO tabs o]
def zhW(_o:Ops):Option (zaQ):=
 some (([]:List zaH),([]:List zaF),([]:List zaI),([]:List zaJ),([]:List ((Bs×Bs)×Unit)))
def zmW(o:Ops):SC:=⟨⟨[],[]⟩,1,[(none,⟨[(0,(.ptr 0 0))],[zaN,zaB,zaD,zaC,zaA,.mp true (.pr .s .s) .un]⟩)],fun _=>zhW o⟩
theorem ztG:SCok Tryz.prog tabs 30 (zmW o):=zaT (o:=o) (η:=[]) (Γ:=⟨[],[],false,[]⟩) (ctok trivial trivial) Tryz.func30
def zsJ(o:Ops)(v0:Bs)(v1:Int)(v2:Bs):Option (Bool):=
 bif(v0 != ([]:Bs))then(bif decide ((v0.length:Int)≤v1)then((o.trim v0 v2).bind fun v3=>some (v3==([]:Bs)))else(some false))else(some false)
def zqS(o:Ops):PC:=⟨[hS,hI,hS],[.b],fun x=>zsJ o x.1 x.2.1 x.2.2,false⟩
theorem zvB:PCok Tryz.prog tabs 63 (zqS o):=zcZ (o:=o) (η:=[]) (Γ:=⟨[(164,(ycH o))],[],false,[]⟩) (ctok ⟨(ziO.trim (G:=tabs)),trivial⟩ trivial) Tryz.func63
def zaW(o:Ops)(v0:Bs):Option (Bool):=
 (zsJ o v0 (24:Int) ([97,98,99,100,101,102,103,104,105,106,107,108,109,110,111,112,113,114,115,116,117,118,119,120,121,122,48,49,50,51,52,53,54,55,56,57,46,95,45]:Bs)).bind fun v1=>some v1
def zbD(o:Ops):PC:=⟨[hS],[.b],fun x=>zaW o x,false⟩
theorem zbM:PCok Tryz.prog tabs 13 (zbD o):=zcZ (o:=o) (η:=[]) (Γ:=⟨[(63,(zqS o))],[],false,[]⟩) (ctok ⟨zvB,trivial⟩ trivial) Tryz.func13
def zqL(_o:Ops)(v0:Int):Option (Bool):=
 bif decide (v0<33)then(some true)else(some (decide (v0>126)))
def znT(o:Ops):PC:=⟨[(.h (.i .i32))],[.b],fun x=>zqL o x,false⟩
theorem zvL:PCok Tryz.prog tabs 66 (znT o):=zcZ (o:=o) (η:=[]) (Γ:=⟨[],[],false,[]⟩) (ctok trivial trivial) Tryz.func66
def zrK(o:Ops)(v1:Bool)(v2:Bs)(v3:Int):Option ((Bs×Int)⊕(Int⊕Unit)):=
 bif decide (v3.toNat<v2.length)then((zqL o (nxR v2 v3.toNat)).bind fun v4=>bif(v4==v1)then some (.inr (.inl (v3.toNat:Int)))else some (.inl (v2,(nxP v2 v3.toNat:Int))))else some (.inr (.inr ()))
def zjR(o:Ops)(v0:Bs)(v1:Bool):Option (Int):=
 (iter (fun x=>zrK o v1 x.1 x.2) (v0,(0:Int))).bind fun v5=>match v5 with
 |.inl v6=>some v6
 |.inr _v7=>some (-1:Int)
def ziX(o:Ops):SC:=⟨⟨[(0,hS),(1,(.fn 66 [] [])),(2,hB)],[]⟩,1,[(none,⟨[(0,hI)],[]⟩)],fun x=>zjR o x.1 x.2⟩
theorem zrH:SCok Tryz.prog tabs 240 (ziX o):=zaT (o:=o) (η:=[(200002,.loop [] ⟨[(1,(.fn 66 [] [])),(10,(.ptr 0 0))],[.is]⟩ [2] [(some 1000000,⟨[(6,hI)],[]⟩),(some 0,⟨[],[]⟩)])]) (Γ:=⟨[(66,(znT o))],[],false,[]⟩) (ctok ⟨zvL,trivial⟩ trivial) Tryz.func240
def zjO(o:Ops)(v0:Bs):Option (Int):=
 (zjR o v0 true).bind fun v1=>some v1
def ziY(o:Ops):SC:=⟨⟨[(0,hS),(1,(.fn 66 [] []))],[]⟩,1,[(none,⟨[(0,hI)],[]⟩)],fun x=>zjO o x⟩
theorem zrG:SCok Tryz.prog tabs 166 (ziY o):=zaT (o:=o) (η:=[]) (Γ:=⟨[],[(240,(ziX o))],false,[]⟩) (ctok trivial ⟨zrH,trivial⟩) Tryz.func166
def zgY(o:Ops)(v0:Bs):Option (Bool):=
 (zjO o v0).bind fun v1=>some (decide (v1≥0))
def zfU(o:Ops):SC:=⟨⟨[(0,hS),(1,(.fn 66 [] []))],[]⟩,1,[(none,⟨[(0,hB)],[]⟩)],fun x=>zgY o x⟩
theorem zmO:SCok Tryz.prog tabs 65 (zfU o):=zaT (o:=o) (η:=[]) (Γ:=⟨[],[(166,(ziY o))],false,[]⟩) (ctok trivial ⟨zrG,trivial⟩) Tryz.func65
def zjD(o:Ops)(v0:Bs):Option (Bool):=
 bif(v0 != ([]:Bs))then(bif decide ((v0.length:Int)≤128)then((zgY o v0).bind fun v1=>some (!v1))else(some false))else(some false)
def zhO(o:Ops):PC:=⟨[hS],[.b],fun x=>zjD o x,false⟩
theorem zlB:PCok Tryz.prog tabs 15 (zhO o):=zcZ (o:=o) (η:=[]) (Γ:=⟨[],[(65,(zfU o))],false,[]⟩) (ctok trivial ⟨zmO,trivial⟩) Tryz.func15
def zlM(o:Ops)(v0:Bs)(v1:Bs)(v2:List zaH)(v3:List zaF)(v4:List zaI)(v5:List zaJ)(v6:List ((Bs×Bs)×Unit)):Option ((Int×zaQ)⊕zaQ):=
 (zaW o v0).bind fun v7=>bif(!v7)then some (.inl ((120:Int),v2,v3,v4,v5,v6))else((zjD o v1).bind fun v8=>bif(!v8)then some (.inl ((120:Int),v2,v3,v4,v5,v6))else some (.inr (v2,v3,v4,v5,v6)))
def zdF(o:Ops)(v0:Bs)(v1:Bs)(v2:List zaH)(v3:List zaF)(v4:List zaI)(v5:List zaJ)(v6:List ((Bs×Bs)×Unit)):Option ((Int×zaQ)):=
 (zlM o v0 v1 v2 v3 v4 v5 v6).bind fun v9=>match v9 with
 |.inl v10=>some v10
 |.inr v11=>(let _v12:zoV:=zfQ keqS v11.1 v0 (([]:Bs),([]:Bs),false,(0:Int))
 bif mhas keqS v11.1 v0 then some ((121:Int),v11)else(bif decide ((v11.1.length:Int)≥64)then some ((124:Int),v11)else(let v13:List zaH:=mset keqS kltS v11.1 v0 (v0,v1,true,(1:Int))
 some ((0:Int),v13,v11.2))))
def zfL(o:Ops):SC:=⟨⟨[(0,(.ptr 0 0)),(1,hS),(2,hS)],[zaN,zaB,zaD,zaC,zaA,.mp true (.pr .s .s) .un]⟩,1,[(none,⟨[(0,hI)],[zaN,ykQ,zaD,zaC,zaA,.mp true (.pr .s .s) .un]⟩)],fun x=>zdF o x.1 x.2.1 x.2.2.1 x.2.2.2.1 x.2.2.2.2.1 x.2.2.2.2.2.1 x.2.2.2.2.2.2⟩
theorem zlJ:SCok Tryz.prog tabs 71 (zfL o):=zaT (o:=o) (η:=[(2000003,.join [] [1,2] [(some 1000000,⟨[(6,hI)],[zaN,zaB,zaD,zaC,zaA,.mp true (.pr .s .s) .un]⟩),(none,⟨[(0,(.ptr 0 0))],[zaN,zaB,zaD,zaC,zaA,.mp true (.pr .s .s) .un]⟩)])]) (Γ:=⟨[(13,(zbD o)),(15,(zhO o))],[],false,[]⟩) (ctok ⟨zbM,⟨zlB,trivial⟩⟩ trivial) Tryz.func71
def zcU(o:Ops)(v0:Bs)(v1:List zaH)(v2:List zaF)(v3:List zaI)(v4:List zaJ)(v5:List ((Bs×Bs)×Unit)):Option ((Int×zaQ)):=
 (zaW o v0).bind fun v6=>bif(!v6)then some ((120:Int),v1,v2,v3,v4,v5)else(let _v7:zrJ:=zfQ keqS v2 v0 ((([]:List Bs),([]:List Bs),([]:List Bs)),(0:Int))
 bif mhas keqS v2 v0 then some ((121:Int),v1,v2,v3,v4,v5)else(bif decide ((v2.length:Int)≥32)then some ((124:Int),v1,v2,v3,v4,v5)else(let v8:List zaF:=mset keqS kltS v2 v0 ((([]:List Bs),([]:List Bs),([]:List Bs)),(1:Int))
 some ((0:Int),v1,v8,v3,v4,v5))))
def zeP(o:Ops):SC:=⟨⟨[(0,(.ptr 0 0)),(1,hS)],[zaN,zaB,zaD,zaC,zaA,.mp true (.pr .s .s) .un]⟩,1,[(none,⟨[(0,hI)],[zaN,zaB,zsO,zaC,zaA,.mp true (.pr .s .s) .un]⟩)],fun x=>zcU o x.1 x.2.1 x.2.2.1 x.2.2.2.1 x.2.2.2.2.1 x.2.2.2.2.2⟩
theorem zkP:SCok Tryz.prog tabs 72 (zeP o):=zaT (o:=o) (η:=[]) (Γ:=⟨[(13,(zbD o))],[],false,[]⟩) (ctok ⟨zbM,trivial⟩ trivial) Tryz.func72
def zbR(_o:Ops)(v0:List zaH)(v1:List zaF)(v2:List zaI)(v3:List zaJ)(v4:List ((Bs×Bs)×Unit)):Option (zaQ):=
 some (v0,v1,v2,v3,v4)
def zbJ(o:Ops):SC:=⟨⟨[(0,(.ptr 0 0))],[zaN,zaB,zaD,zaC,zaA,.mp true (.pr .s .s) .un]⟩,1,[(none,⟨[(0,(.ag [(.kn .i64 0),(.fn 244 [] [(.ptr 6 0)]),(.kn .i64 1),(.fn 245 [] [(.ptr 6 0)]),(.kn .i64 2),(.fn 246 [] [(.ptr 6 0)])]))],[zaN,zaB,zaD,zaC,zaA,.mp true (.pr .s .s) .un,zqJ]⟩)],fun x=>zbR o x.1 x.2.1 x.2.2.1 x.2.2.2.1 x.2.2.2.2⟩
theorem zcH:SCok Tryz.prog tabs 173 (zbJ o):=zaT (o:=o) (η:=[]) (Γ:=⟨[],[],false,[]⟩) (ctok trivial trivial) Tryz.func173
def zdC(_o:Ops)(v0:Bs)(v1:List zaH)(v2:List zaF)(v3:List zaI)(v4:List zaJ)(v5:List ((Bs×Bs)×Unit)):Option ((Bool×zaQ)):=
 let _v6:zrJ:=zfQ keqS v2 v0 ((([]:List Bs),([]:List Bs),([]:List Bs)),(0:Int))
 some (mhas keqS v2 v0,v1,v2,v3,v4,v5)
def zcS(o:Ops):SC:=⟨⟨[(0,hS),(1,(.ptr 0 0))],[zlD,zeH,zaB,zaD,zaC,zaA,.mp true (.pr .s .s) .un]⟩,1,[(none,⟨[(0,hB)],[zlD,zeH,zaB,zaD,zaC,zaA,.mp true (.pr .s .s) .un]⟩)],fun x=>zdC o x.1 x.2.1 x.2.2.1 x.2.2.2.1 x.2.2.2.2.1 x.2.2.2.2.2⟩
theorem zfD:SCok Tryz.prog tabs 245 (zcS o):=zaT (o:=o) (η:=[]) (Γ:=⟨[],[],false,[]⟩) (ctok trivial trivial) Tryz.func245
def zqK(o:Ops)(v0:Bs)(v1:Bs)(v2:List zaH)(v3:List zaF)(v4:List zaI)(v5:List zaJ)(v6:List ((Bs×Bs)×Unit)):Option ((Int×(List zaH)×(List zaF)×(List zaI)×(List zaJ)×(List ((Bs×Bs)×Unit))×Int)⊕((List zaH)×(List zaF)×(List zaI)×(List zaJ)×(List ((Bs×Bs)×Unit))×Int)):=
 (zaW o v0).bind fun v7=>bif(!v7)then some (.inl ((120:Int),v2,v3,v4,v5,v6,(0:Int)))else((zaW o v1).bind fun v8=>bif(!v8)then some (.inl ((120:Int),v2,v3,v4,v5,v6,(0:Int)))else some (.inr (v2,v3,v4,v5,v6,(0:Int))))
def ziZ(o:Ops)(v0:Bs)(v1:Bs)(v2:List zaH)(v3:List zaF)(v4:List zaI)(v5:List zaJ)(v6:List ((Bs×Bs)×Unit)):Option ((zrJ×Int×zaQ)):=
 (zqK o v0 v1 v2 v3 v4 v5 v6).bind fun v9=>match v9 with
 |.inl v10=>some (((([]:List Bs),([]:List Bs),([]:List Bs)),v10.2.2.2.2.2.2),v10.1,v10.2.1,v10.2.2.1,v10.2.2.2.1,v10.2.2.2.2.1,v10.2.2.2.2.2.1)
 |.inr v11=>(let v12:zrJ:=zfQ keqS v11.2.1 v0 ((([]:List Bs),([]:List Bs),([]:List Bs)),(0:Int))
 bif(!(mhas keqS v11.2.1 v0))then some (((([]:List Bs),([]:List Bs),([]:List Bs)),(0:Int)),(122:Int),v11.1,v11.2.1,v11.2.2.1,v11.2.2.2.1,v11.2.2.2.2.1)else((zdC o v1 v11.1 v11.2.1 v11.2.2.1 v11.2.2.2.1 v11.2.2.2.2.1).bind fun v13=>bif(!v13.1)then some (((([]:List Bs),([]:List Bs),([]:List Bs)),(0:Int)),(122:Int),v13.2)else some (v12,(0:Int),v13.2)))
def ziB(o:Ops):SC:=⟨⟨[(0,(.ptr 0 0)),(1,hS),(2,(.ag [(.kn .i64 1),(.fn 245 [] [(.ptr 1 0)])])),(3,hS)],[zeH,zqJ,zaB,zaD,zaC,zaA,.mp true (.pr .s .s) .un]⟩,2,[(none,⟨[(0,(.h yiV)),(1,hI)],[zeH,zqJ,zaB,zaD,zaC,zaA,.mp true (.pr .s .s) .un]⟩)],fun x=>ziZ o x.1 x.2.1 x.2.2.1 x.2.2.2.1 x.2.2.2.2.1 x.2.2.2.2.2.1 x.2.2.2.2.2.2⟩
theorem zpF:SCok Tryz.prog tabs 199 (ziB o):=zaT (o:=o) (η:=[(2000003,.join [] [1,3] [(some 1000000,⟨[(8,(.ptr 7 0)),(9,hI)],[zeH,zqJ,zaB,zaD,zaC,zaA,.mp true (.pr .s .s) .un,ykC]⟩),(none,⟨[(0,(.ptr 0 0)),(6,(.ptr 7 0)),(8,(.ptr 8 0))],[zeH,zqJ,zaB,zaD,zaC,zaA,.mp true (.pr .s .s) .un,.blk 187 [(.kn .i64 1),(.fn 245 [] [(.ptr 1 0)])],ykC]⟩)])]) (Γ:=⟨[(13,(zbD o))],[(245,(zcS o))],false,[]⟩) (ctok ⟨zbM,trivial⟩ ⟨zfD,trivial⟩) Tryz.func199
def zrY(_o:Ops)(v0:Bs):Option (Bool):=
 some (v0 != v0)
def zvA(o:Ops):PC:=⟨[hS],[.b],fun x=>zrY o x,false⟩
theorem ydJ:PCok Tryz.prog tabs 307 (zvA o):=zcZ (o:=o) (η:=[]) (Γ:=⟨[],[],false,[]⟩) (ctok trivial trivial) Tryz.func307
def zzY(o:Ops)(v0:Bs)(v1:Bs):Option (Bool):=
 (zrY o v0).bind fun v2=>bif v2 then((zrY o v1).bind fun v3=>bif(!v3)then(some true)else(some (Op.bytesLess v0 v1)))else(some (Op.bytesLess v0 v1))
def zyT(o:Ops):PC:=⟨[hS,hS],[.b],fun x=>zzY o x.1 x.2,false⟩
theorem yfI:PCok Tryz.prog tabs 268 (zyT o):=zcZ (o:=o) (η:=[]) (Γ:=⟨[(307,(zvA o))],[],false,[]⟩) (ctok ⟨ydJ,trivial⟩ trivial) Tryz.func268
def zkN(_o:Ops)(v0:Bs):Option (Bool):=
 some (v0 != v0)
def zqW(o:Ops):PC:=⟨[hS],[.b],fun x=>zkN o x,false⟩
theorem zyV:PCok Tryz.prog tabs 278 (zqW o):=zcZ (o:=o) (η:=[]) (Γ:=⟨[],[],false,[]⟩) (ctok trivial trivial) Tryz.func278
def znY(o:Ops)(v0:List Bs)(v1:Bs)(v2:Int)(v3:Int):Option ((Int×Int)⊕Int):=
 bif decide (v2<v3)then((chk (decide ((0:Int)≤((1:UInt64).toNat:Int)))).bind fun _=>let v4:UInt64:=i64 (shrI .u64 ((i64 (w64 (v2+v3))).toNat:Int) ((1:UInt64).toNat:Int))
 (idx v0 (w64 (v4.toNat:Int))).bind fun v5=>(zzY o v5 v1).bind fun v6=>bif v6 then some (.inl (w64 ((w64 (v4.toNat:Int))+1),v3))else some (.inl (v2,w64 (v4.toNat:Int))))else some (.inr v2)
def zdW(o:Ops)(v0:List Bs)(v1:Bs):Option (Int×Bool):=
 (iter (fun x=>znY o v0 v1 x.1 x.2) ((0:Int),(v0.length:Int))).bind fun v7=>bif decide (v7<(v0.length:Int))then((idx v0 v7).bind fun v8=>bif(v8==v1)then(some (v7,true))else((idx v0 v7).bind fun v9=>(zkN o v9).bind fun v10=>bif v10 then((zkN o v1).bind fun v11=>some (v7,v11))else(some (v7,false))))else(some (v7,false))
def zdQ(o:Ops):PC:=⟨[(.h (.sl .s)),hS],[(.i .i64),.b],fun x=>zdW o x.1 x.2,false⟩
theorem zhF:PCok Tryz.prog tabs 213 (zdQ o):=zcZ (o:=o) (η:=[(200003,.loop [] ⟨[(7,hI),(8,hI)],[]⟩ [0,1,4,5,6] [(some 0,⟨[(7,hI)],[]⟩)])]) (Γ:=⟨[(268,(zyT o)),(278,(zqW o))],[],false,[]⟩) (ctok ⟨yfI,⟨zyV,trivial⟩⟩ trivial) Tryz.func213
def ziM(o:Ops)(v0:List Bs)(v1:Bs):Option (Bool):=
 (zdW o v0 v1).bind fun v2=>some v2.2
def zgD(o:Ops):PC:=⟨[(.h (.sl .s)),hS],[.b],fun x=>ziM o x.1 x.2,false⟩
theorem zjI:PCok Tryz.prog tabs 131 (zgD o):=zcZ (o:=o) (η:=[]) (Γ:=⟨[(213,(zdQ o))],[],false,[]⟩) (ctok ⟨zhF,trivial⟩ trivial) Tryz.func131
def zlI(_o:Ops)(v17:zrJ)(v18:Int)(v19:List zaH)(v20:List zaF)(v21:List zaI)(v22:List zaJ)(v23:List ((Bs×Bs)×Unit))(v24:List (Bs×Unit))(v25:List Bs):Option ((Int×(List zaH)×(List zaF)×(List zaI)×(List zaJ)×(List ((Bs×Bs)×Unit))×(List (Bs×Unit))×List Bs)⊕(((List zaH)×(List zaF)×(List zaI)×(List zaJ)×(List ((Bs×Bs)×Unit))×(List (Bs×Unit))×List Bs))):=
 bif decide (v18<(v17.1.2.1.length:Int))then((idx v17.1.2.1 v18).bind fun v26=>let _v27:Unit:=zfQ keqS v24 v26 ()
 bif(!(mhas keqS v24 v26))then(let v28:List (Bs×Unit):=mset keqS kltS v24 v26 ()
 (app v25 ([v26]:List Bs)).bind fun v29=>some (.inl (w64 (v18+1),v19,v20,v21,v22,v23,v28,v29)))else some (.inl (w64 (v18+1),v19,v20,v21,v22,v23,v24,v25)))else some (.inr (v19,v20,v21,v22,v23,v24,v25))
def znD(o:Ops)(v1:Bs)(v8:List zaH)(v9:List zaF)(v10:List zaI)(v11:List zaJ)(v12:List ((Bs×Bs)×Unit))(v13:List (Bs×Unit))(v14:List Bs):Option (((List zaH)×(List zaF)×(List zaI)×(List zaJ)×(List ((Bs×Bs)×Unit))×(List (Bs×Unit))×List Bs)⊕((Bool×zaQ)⊕zaQ)):=
 bif decide ((v14.length:Int)>0)then((chk (decide ((0:Int)≤0)&&decide ((0:Int)<(v14.length:Int)))).bind fun _=>(idx v14 (0:Int)).bind fun v15=>bif(v15==v1)then some (.inr (.inl (true,v8,v9,v10,v11,v12)))else((chk (decide ((0:Int)≤0)&&decide ((0:Int)<(v14.length:Int)))).bind fun _=>(idx v14 (0:Int)).bind fun v16=>let v17:zrJ:=zfQ keqS v9 v16 ((([]:List Bs),([]:List Bs),([]:List Bs)),(0:Int))
 (iter (fun x=>zlI o v17 x.1 x.2.1 x.2.2.1 x.2.2.2.1 x.2.2.2.2.1 x.2.2.2.2.2.1 x.2.2.2.2.2.2.1 x.2.2.2.2.2.2.2) ((0:Int),v8,v9,v10,v11,v12,v13,v14)).bind fun v30=>(subL v30.2.2.2.2.2.2 (1:Int)).bind fun v31=>some (.inl (v30.1,v30.2.1,v30.2.2.1,v30.2.2.2.1,v30.2.2.2.2.1,v30.2.2.2.2.2.1,v31))))else some (.inr (.inr (v8,v9,v10,v11,v12)))
def zgW(o:Ops)(v0:Bs)(v1:Bs)(v2:List zaH)(v3:List zaF)(v4:List zaI)(v5:List zaJ)(v6:List ((Bs×Bs)×Unit)):Option ((Bool×zaQ)):=
 let v7:List (Bs×Unit):=mset keqS kltS ([]:List (Bs×Unit)) v0 ()
 (iter (fun x=>znD o v1 x.1 x.2.1 x.2.2.1 x.2.2.2.1 x.2.2.2.2.1 x.2.2.2.2.2.1 x.2.2.2.2.2.2) (v2,v3,v4,v5,v6,v7,([v0]:List Bs))).bind fun v32=>match v32 with
 |.inl v33=>some v33
 |.inr v34=>some (false,v34)
def zfZ(o:Ops):SC:=⟨⟨[(0,(.ptr 0 0)),(1,hS),(2,hS)],[zaN,zaB,zaD,zaC,zaA,.mp true (.pr .s .s) .un]⟩,1,[(none,⟨[(0,hB)],[zaN,zaB,zaD,zaC,zaA,.mp true (.pr .s .s) .un]⟩)],fun x=>zgW o x.1 x.2.1 x.2.2.1 x.2.2.2.1 x.2.2.2.2.1 x.2.2.2.2.2.1 x.2.2.2.2.2.2⟩
theorem zmP:SCok Tryz.prog tabs 200 (zfZ o):=zaT (o:=o) (η:=[(200008,.loop [] ⟨[(0,(.ptr 0 0)),(7,(.mpr 6)),(8,(.own 7)),(40,hI)],[zaN,zaB,zaD,zaC,zaA,.mp true (.pr .s .s) .un,zfV,.qu .s 9]⟩ [2,38,39] [(some 2,⟨[(0,(.ptr 0 0)),(7,(.mpr 6)),(8,(.own 7))],[zaN,zaB,zaD,zaC,zaA,.mp true (.pr .s .s) .un,zfV,.qu .s 9]⟩)]),
 (200003,.loop [.qu 8] ⟨[(0,(.ptr 0 0)),(7,(.mpr 6)),(8,(.own 7))],[zaN,zaB,zaD,zaC,zaA,.mp true (.pr .s .s) .un,zfV,.qu .s 9]⟩ [2] [(some 1000000,⟨[(6,hB)],[zaN,zaB,zaD,zaC,zaA,.mp true (.pr .s .s) .un]⟩),(some 0,⟨[],[zaN,zaB,zaD,zaC,zaA,.mp true (.pr .s .s) .un]⟩)]),
 (4000007,.sch [(.pu,0,[]),(.pu,1,[]),(.pu,2,[]),(.pu,3,[]),(.pu,4,[]),(.pu,5,[]),(.pu,6,[]),(.pu,7,[]),(.pu,8,[]),(.pu,9,[]),(.pu,10,[]),(.pu,11,[])])]) (Γ:=⟨[],[],false,[]⟩) (ctok trivial trivial) Tryz.func200
def zqY:SC:=⟨⟨[(0,(.h (.sl .s)))],[]⟩,1,[(none,⟨[(0,(.own 0))],[.osl .s 9]⟩)],fun xs=>app [] xs⟩
theorem ztJ:SCok Tryz.prog tabs 198 zqY:=wit (G:=tabs)<|yrH zvC τ_okWkF Tryz.func198 (isFn Tryz.func198) rfl (by kernel_rfl) (by kernel_rfl) (by kernel_rfl) (fun _=>by kernel_rfl)
def ydF:SC:=⟨⟨[(0,(.own 0)),(1,hI),(2,(.own 1))],[.osl .s 9,.osl .s 9]⟩,1,[(none,⟨[(0,(.own 2))],[.dead,.dead,.osl .s 9]⟩)],yvM⟩
theorem ylC:SCok Tryz.prog tabs 261 ydF:=wit (G:=tabs)<|insK
def zjE(o:Ops)(v0:List Bs)(v1:Bs):Option (List Bs):=
 (zdW o v0 v1).bind fun v2=>(app ([]:List Bs) v0).bind fun v3=>((fun i xs vs=>yvM (i,xs,vs)) v2.1 v3 ([v1]:List Bs)).bind fun v4=>some v4
def zhP(o:Ops):PC:=⟨[(.h (.sl .s)),hS],[(.sl .s)],fun x=>zjE o x.1 x.2,false⟩
theorem zlA:PCok Tryz.prog tabs 201 (zhP o):=zcZ (o:=o) (η:=[]) (Γ:=⟨[(213,(zdQ o))],[(198,zqY),(261,ydF)],false,[]⟩) (ctok ⟨zhF,trivial⟩ ⟨ztJ,⟨ylC,trivial⟩⟩) Tryz.func201
def zpN(o:Ops)(v0:Bs)(v1:Bs)(v2:List zaH)(v3:List zaF)(v4:List zaI)(v5:List zaJ)(v6:List ((Bs×Bs)×Unit)):Option ((Int×(List zaH)×(List zaF)×(List zaI)×(List zaJ)×(List ((Bs×Bs)×Unit))×(List Bs)×(List Bs)×(List Bs)×Int)):=
 (zbR o v2 v3 v4 v5 v6).bind fun v7=>(ziZ o v0 v1 v7.1 v7.2.1 v7.2.2.1 v7.2.2.2.1 v7.2.2.2.2).bind fun v8=>some (v8.2.1,v8.2.2.1,v8.2.2.2.1,v8.2.2.2.2.1,v8.2.2.2.2.2.1,v8.2.2.2.2.2.2,v8.1.1.1,v8.1.1.2.1,v8.1.1.2.2,v8.1.2)
def zpI(o:Ops)(v1:Bs)(v9:Int×(List zaH)×(List zaF)×(List zaI)×(List zaJ)×(List ((Bs×Bs)×Unit))×(List Bs)×(List Bs)×(List Bs)×Int):Option ((Bool×(List zaH)×(List zaF)×(List zaI)×(List zaJ)×(List ((Bs×Bs)×Unit))×(List Bs)×(List Bs)×(List Bs)×Int)):=
 (ziM o v9.2.2.2.2.2.2.2.1 v1).bind fun v10=>some (v10,v9.2)
def zqX(o:Ops)(v0:Bs)(v1:Bs)(v9:Int×(List zaH)×(List zaF)×(List zaI)×(List zaJ)×(List ((Bs×Bs)×Unit))×(List Bs)×(List Bs)×(List Bs)×Int):Option ((Int×zaQ)⊕((List zaH)×(List zaF)×(List zaI)×(List zaJ)×(List ((Bs×Bs)×Unit))×(List Bs)×(List Bs)×(List Bs)×Int)):=
 bif(v9.1 != 0)then some (.inl (v9.1,v9.2.1,v9.2.2.1,v9.2.2.2.1,v9.2.2.2.2.1,v9.2.2.2.2.2.1))else((zpI o v1 v9).bind fun v11=>bif v11.1 then some (.inl ((121:Int),v11.2.1,v11.2.2.1,v11.2.2.2.1,v11.2.2.2.2.1,v11.2.2.2.2.2.1))else((zgW o v1 v0 v11.2.1 v11.2.2.1 v11.2.2.2.1 v11.2.2.2.2.1 v11.2.2.2.2.2.1).bind fun v12=>bif v12.1 then some (.inl ((123:Int),v12.2))else some (.inr (v12.2.1,v12.2.2.1,v12.2.2.2.1,v12.2.2.2.2.1,v12.2.2.2.2.2,v11.2.2.2.2.2.2))))
def zqM(o:Ops)(v1:Bs)(v15:(List zaH)×(List zaF)×(List zaI)×(List zaJ)×(List ((Bs×Bs)×Unit))×(List Bs)×(List Bs)×(List Bs)×Int):Option (((List zaH)×(List zaF)×(List zaI)×(List zaJ)×(List ((Bs×Bs)×Unit))×(List Bs)×(List Bs)×(List Bs)×Int)):=
 (zjE o v15.2.2.2.2.2.2.1 v1).bind fun v16=>some (v15.1,v15.2.1,v15.2.2.1,v15.2.2.2.1,v15.2.2.2.2.1,v15.2.2.2.2.2.1,v16,v15.2.2.2.2.2.2.2)
def ziV(o:Ops)(v0:Bs)(v1:Bs)(v2:List zaH)(v3:List zaF)(v4:List zaI)(v5:List zaJ)(v6:List ((Bs×Bs)×Unit)):Option ((Int×zaQ)):=
 (zpN o v0 v1 v2 v3 v4 v5 v6).bind fun v9=>(zqX o v0 v1 v9).bind fun v13=>match v13 with
 |.inl v14=>some v14
 |.inr v15=>((zqM o v1 v15).bind fun v17=>let v18:List zaF:=mset keqS kltS v17.2.1 v0 ((v17.2.2.2.2.2.1,v17.2.2.2.2.2.2.1,v17.2.2.2.2.2.2.2.1),w64 (v17.2.2.2.2.2.2.2.2+1))
 some ((0:Int),v17.1,v18,v17.2.2.1,v17.2.2.2.1,v17.2.2.2.2.1))
def zhV(o:Ops):SC:=⟨⟨[(0,(.ptr 0 0)),(1,hS),(2,(.kn .i64 1)),(3,hS)],[zaN,zaB,zaD,zaC,zaA,.mp true (.pr .s .s) .un]⟩,1,[(none,⟨[(0,hI)],[zaN,zaB,zsO,zaC,zaA,.mp true (.pr .s .s) .un]⟩)],fun x=>ziV o x.1 x.2.1 x.2.2.1 x.2.2.2.1 x.2.2.2.2.1 x.2.2.2.2.2.1 x.2.2.2.2.2.2⟩
theorem zqP:SCok Tryz.prog tabs 101 (zhV o):=zaT (o:=o) (η:=[(2100000,.join [] [1,2,3] [(none,⟨[(0,(.ptr 0 0)),(9,(.ptr 6 0)),(10,hI)],[zaN,zaB,zaD,zaC,zaA,.mp true (.pr .s .s) .un,znW]⟩)]),
 (2300005,.join [] [1,2,3] [(none,⟨[(0,(.ptr 0 0)),(9,(.ptr 6 0)),(26,hB)],[zaN,zaB,zaD,zaC,zaA,.mp true (.pr .s .s) .un,znW]⟩)]),
 (2000008,.join [] [1,2,3] [(some 1000000,⟨[(8,hI)],[zaN,zaB,zaD,zaC,zaA,.mp true (.pr .s .s) .un]⟩),(none,⟨[(0,(.ptr 0 0)),(9,(.ptr 6 0))],[zaN,zaB,zaD,zaC,zaA,.mp true (.pr .s .s) .un,znW]⟩)]),
 (2000009,.join [] [1] [(none,⟨[(0,(.ptr 0 0)),(9,(.ptr 6 0))],[zaN,zaB,zaD,zaC,zaA,.mp true (.pr .s .s) .un,znW]⟩)]),
 (4000010,.sch [(.pu,0,[]),(.pu,1,[]),(.pu,2,[]),(.pu,3,[]),(.pu,4,[]),(.pu,5,[]),(.mn,6,[0,1,2,3,4,5,6])])]) (Γ:=⟨[(131,(zgD o)),(201,(zhP o))],[(173,(zbJ o)),(199,(ziB o)),(200,(zfZ o))],false,[]⟩) (ctok ⟨zjI,⟨zlA,trivial⟩⟩ ⟨zcH,⟨zpF,⟨zmP,trivial⟩⟩⟩) Tryz.func101
def zeI(o:Ops)(v0:Bs)(v1:Bs)(v2:List zaH)(v3:List zaF)(v4:List zaI)(v5:List zaJ)(v6:List ((Bs×Bs)×Unit)):Option ((Int×zaQ)):=
 (ziV o v0 v1 v2 v3 v4 v5 v6).bind fun v7=>some v7
def zhZ(o:Ops):SC:=⟨⟨[(0,(.ptr 0 0)),(1,hS),(2,hS)],[zaN,zaB,zaD,zaC,zaA,.mp true (.pr .s .s) .un]⟩,1,[(none,⟨[(0,hI)],[zaN,zaB,zsO,zaC,zaA,.mp true (.pr .s .s) .un]⟩)],fun x=>zeI o x.1 x.2.1 x.2.2.1 x.2.2.2.1 x.2.2.2.2.1 x.2.2.2.2.2.1 x.2.2.2.2.2.2⟩
theorem zpC:SCok Tryz.prog tabs 33 (zhZ o):=zaT (o:=o) (η:=[]) (Γ:=⟨[],[(101,(zhV o))],false,[]⟩) (ctok trivial ⟨zqP,trivial⟩) Tryz.func33
def zdA(_o:Ops)(v0:Bs)(v1:List zaH)(v2:List zaF)(v3:List zaI)(v4:List zaJ)(v5:List ((Bs×Bs)×Unit)):Option ((Bool×zaQ)):=
 let _v6:zoV:=zfQ keqS v1 v0 (([]:Bs),([]:Bs),false,(0:Int))
 some (mhas keqS v1 v0,v1,v2,v3,v4,v5)
def zcY(o:Ops):SC:=⟨⟨[(0,hS),(1,(.ptr 0 0))],[zlD,zeH,zaB,zaD,zaC,zaA,.mp true (.pr .s .s) .un]⟩,1,[(none,⟨[(0,hB)],[zlD,zeH,zaB,zaD,zaC,zaA,.mp true (.pr .s .s) .un]⟩)],fun x=>zdA o x.1 x.2.1 x.2.2.1 x.2.2.2.1 x.2.2.2.2.1 x.2.2.2.2.2⟩
theorem zfK:SCok Tryz.prog tabs 244 (zcY o):=zaT (o:=o) (η:=[]) (Γ:=⟨[],[],false,[]⟩) (ctok trivial trivial) Tryz.func244
def znV(o:Ops)(v0:Bs)(v1:Bs)(v2:List zaH)(v3:List zaF)(v4:List zaI)(v5:List zaJ)(v6:List ((Bs×Bs)×Unit)):Option ((Int×(List zaH)×(List zaF)×(List zaI)×(List zaJ)×(List ((Bs×Bs)×Unit))×Int)⊕((List zaH)×(List zaF)×(List zaI)×(List zaJ)×(List ((Bs×Bs)×Unit))×Int)):=
 (zaW o v0).bind fun v7=>bif(!v7)then some (.inl ((120:Int),v2,v3,v4,v5,v6,(0:Int)))else((zaW o v1).bind fun v8=>bif(!v8)then some (.inl ((120:Int),v2,v3,v4,v5,v6,(0:Int)))else some (.inr (v2,v3,v4,v5,v6,(0:Int))))
def ziH(o:Ops)(v0:Bs)(v1:Bs)(v2:List zaH)(v3:List zaF)(v4:List zaI)(v5:List zaJ)(v6:List ((Bs×Bs)×Unit)):Option ((zrJ×Int×zaQ)):=
 (znV o v0 v1 v2 v3 v4 v5 v6).bind fun v9=>match v9 with
 |.inl v10=>some (((([]:List Bs),([]:List Bs),([]:List Bs)),v10.2.2.2.2.2.2),v10.1,v10.2.1,v10.2.2.1,v10.2.2.2.1,v10.2.2.2.2.1,v10.2.2.2.2.2.1)
 |.inr v11=>(let v12:zrJ:=zfQ keqS v11.2.1 v0 ((([]:List Bs),([]:List Bs),([]:List Bs)),(0:Int))
 bif(!(mhas keqS v11.2.1 v0))then some (((([]:List Bs),([]:List Bs),([]:List Bs)),(0:Int)),(122:Int),v11.1,v11.2.1,v11.2.2.1,v11.2.2.2.1,v11.2.2.2.2.1)else((zdA o v1 v11.1 v11.2.1 v11.2.2.1 v11.2.2.2.1 v11.2.2.2.2.1).bind fun v13=>bif(!v13.1)then some (((([]:List Bs),([]:List Bs),([]:List Bs)),(0:Int)),(122:Int),v13.2)else some (v12,(0:Int),v13.2)))
def zhG(o:Ops):SC:=⟨⟨[(0,(.ptr 0 0)),(1,hS),(2,(.ag [(.kn .i64 0),(.fn 244 [] [(.ptr 1 0)])])),(3,hS)],[zeH,zqJ,zaB,zaD,zaC,zaA,.mp true (.pr .s .s) .un]⟩,2,[(none,⟨[(0,(.h yiV)),(1,hI)],[zeH,zqJ,zaB,zaD,zaC,zaA,.mp true (.pr .s .s) .un]⟩)],fun x=>ziH o x.1 x.2.1 x.2.2.1 x.2.2.2.1 x.2.2.2.2.1 x.2.2.2.2.2.1 x.2.2.2.2.2.2⟩
theorem znX:SCok Tryz.prog tabs 199 (zhG o):=zaT (o:=o) (η:=[(2000003,.join [] [1,3] [(some 1000000,⟨[(8,(.ptr 7 0)),(9,hI)],[zeH,zqJ,zaB,zaD,zaC,zaA,.mp true (.pr .s .s) .un,ykC]⟩),(none,⟨[(0,(.ptr 0 0)),(6,(.ptr 7 0)),(8,(.ptr 8 0))],[zeH,zqJ,zaB,zaD,zaC,zaA,.mp true (.pr .s .s) .un,.blk 187 [(.kn .i64 0),(.fn 244 [] [(.ptr 1 0)])],ykC]⟩)])]) (Γ:=⟨[(13,(zbD o))],[(244,(zcY o))],false,[]⟩) (ctok ⟨zbM,trivial⟩ ⟨zfK,trivial⟩) Tryz.func199
def zoP(o:Ops)(v0:Bs)(v1:Bs)(v2:List zaH)(v3:List zaF)(v4:List zaI)(v5:List zaJ)(v6:List ((Bs×Bs)×Unit)):Option ((Int×(List zaH)×(List zaF)×(List zaI)×(List zaJ)×(List ((Bs×Bs)×Unit))×(List Bs)×(List Bs)×(List Bs)×Int)):=
 (zbR o v2 v3 v4 v5 v6).bind fun v7=>(ziH o v0 v1 v7.1 v7.2.1 v7.2.2.1 v7.2.2.2.1 v7.2.2.2.2).bind fun v8=>some (v8.2.1,v8.2.2.1,v8.2.2.2.1,v8.2.2.2.2.1,v8.2.2.2.2.2.1,v8.2.2.2.2.2.2,v8.1.1.1,v8.1.1.2.1,v8.1.1.2.2,v8.1.2)
def zoS(o:Ops)(v1:Bs)(v9:Int×(List zaH)×(List zaF)×(List zaI)×(List zaJ)×(List ((Bs×Bs)×Unit))×(List Bs)×(List Bs)×(List Bs)×Int):Option ((Bool×(List zaH)×(List zaF)×(List zaI)×(List zaJ)×(List ((Bs×Bs)×Unit))×(List Bs)×(List Bs)×(List Bs)×Int)):=
 (ziM o v9.2.2.2.2.2.2.1 v1).bind fun v10=>some (v10,v9.2)
def zoG(o:Ops)(v1:Bs)(v9:Int×(List zaH)×(List zaF)×(List zaI)×(List zaJ)×(List ((Bs×Bs)×Unit))×(List Bs)×(List Bs)×(List Bs)×Int):Option ((Int×zaQ)⊕((List zaH)×(List zaF)×(List zaI)×(List zaJ)×(List ((Bs×Bs)×Unit))×(List Bs)×(List Bs)×(List Bs)×Int)):=
 bif(v9.1 != 0)then some (.inl (v9.1,v9.2.1,v9.2.2.1,v9.2.2.2.1,v9.2.2.2.2.1,v9.2.2.2.2.2.1))else((zoS o v1 v9).bind fun v11=>bif v11.1 then some (.inl ((121:Int),v11.2.1,v11.2.2.1,v11.2.2.2.1,v11.2.2.2.2.1,v11.2.2.2.2.2.1))else some (.inr v11.2))
def zoC(o:Ops)(v1:Bs)(v14:(List zaH)×(List zaF)×(List zaI)×(List zaJ)×(List ((Bs×Bs)×Unit))×(List Bs)×(List Bs)×(List Bs)×Int):Option (((List zaH)×(List zaF)×(List zaI)×(List zaJ)×(List ((Bs×Bs)×Unit))×(List Bs)×(List Bs)×(List Bs)×Int)):=
 (zjE o v14.2.2.2.2.2.1 v1).bind fun v15=>some (v14.1,v14.2.1,v14.2.2.1,v14.2.2.2.1,v14.2.2.2.2.1,v15,v14.2.2.2.2.2.2)
def zhS(o:Ops)(v0:Bs)(v1:Bs)(v2:List zaH)(v3:List zaF)(v4:List zaI)(v5:List zaJ)(v6:List ((Bs×Bs)×Unit)):Option ((Int×zaQ)):=
 (zoP o v0 v1 v2 v3 v4 v5 v6).bind fun v9=>(zoG o v1 v9).bind fun v12=>match v12 with
 |.inl v13=>some v13
 |.inr v14=>((zoC o v1 v14).bind fun v16=>let v17:List zaF:=mset keqS kltS v16.2.1 v0 ((v16.2.2.2.2.2.1,v16.2.2.2.2.2.2.1,v16.2.2.2.2.2.2.2.1),w64 (v16.2.2.2.2.2.2.2.2+1))
 some ((0:Int),v16.1,v17,v16.2.2.1,v16.2.2.2.1,v16.2.2.2.2.1))
def zgS(o:Ops):SC:=⟨⟨[(0,(.ptr 0 0)),(1,hS),(2,(.kn .i64 0)),(3,hS)],[zaN,zaB,zaD,zaC,zaA,.mp true (.pr .s .s) .un]⟩,1,[(none,⟨[(0,hI)],[zaN,zaB,zsO,zaC,zaA,.mp true (.pr .s .s) .un]⟩)],fun x=>zhS o x.1 x.2.1 x.2.2.1 x.2.2.2.1 x.2.2.2.2.1 x.2.2.2.2.2.1 x.2.2.2.2.2.2⟩
theorem zoO:SCok Tryz.prog tabs 101 (zgS o):=zaT (o:=o) (η:=[(2100000,.join [] [1,2,3] [(none,⟨[(0,(.ptr 0 0)),(9,(.ptr 6 0)),(10,hI)],[zaN,zaB,zaD,zaC,zaA,.mp true (.pr .s .s) .un,znW]⟩)]),
 (2300005,.join [] [1,2,3] [(none,⟨[(0,(.ptr 0 0)),(9,(.ptr 6 0)),(26,hB)],[zaN,zaB,zaD,zaC,zaA,.mp true (.pr .s .s) .un,znW]⟩)]),
 (2000008,.join [] [1,2,3] [(some 1000000,⟨[(8,hI)],[zaN,zaB,zaD,zaC,zaA,.mp true (.pr .s .s) .un]⟩),(none,⟨[(0,(.ptr 0 0)),(9,(.ptr 6 0))],[zaN,zaB,zaD,zaC,zaA,.mp true (.pr .s .s) .un,znW]⟩)]),
 (2000009,.join [] [1] [(none,⟨[(0,(.ptr 0 0)),(9,(.ptr 6 0))],[zaN,zaB,zaD,zaC,zaA,.mp true (.pr .s .s) .un,znW]⟩)]),
 (4000010,.sch [(.pu,0,[]),(.pu,1,[]),(.pu,2,[]),(.pu,3,[]),(.pu,4,[]),(.pu,5,[]),(.mn,6,[0,1,2,3,4,5,6])])]) (Γ:=⟨[(131,(zgD o)),(201,(zhP o))],[(173,(zbJ o)),(199,(zhG o))],false,[]⟩) (ctok ⟨zjI,⟨zlA,trivial⟩⟩ ⟨zcH,⟨znX,trivial⟩⟩) Tryz.func101
def ziU(o:Ops)(v0:Bs)(v1:Bs)(v2:List zaH)(v3:List zaF)(v4:List zaI)(v5:List zaJ)(v6:List ((Bs×Bs)×Unit)):Option ((Int×zaQ)):=
 (zhS o v0 v1 v2 v3 v4 v5 v6).bind fun v7=>some v7
def zhT(o:Ops):SC:=⟨⟨[(0,(.ptr 0 0)),(1,hS),(2,hS)],[zaN,zaB,zaD,zaC,zaA,.mp true (.pr .s .s) .un]⟩,1,[(none,⟨[(0,hI)],[zaN,zaB,zsO,zaC,zaA,.mp true (.pr .s .s) .un]⟩)],fun x=>ziU o x.1 x.2.1 x.2.2.1 x.2.2.2.1 x.2.2.2.2.1 x.2.2.2.2.2.1 x.2.2.2.2.2.2⟩
theorem zpT:SCok Tryz.prog tabs 73 (zhT o):=zaT (o:=o) (η:=[]) (Γ:=⟨[],[(101,(zgS o))],false,[]⟩) (ctok trivial ⟨zoO,trivial⟩) Tryz.func73
def zrR(o:Ops)(v0:Bs):Option (Bool):=
 (zsJ o v0 (32:Int) ([97,98,99,100,101,102,103,104,105,106,107,108,109,110,111,112,113,114,115,116,117,118,119,120,121,122,48,49,50,51,52,53,54,55,56,57,46,95,45,58]:Bs)).bind fun v1=>some v1
def zqB(o:Ops):PC:=⟨[hS],[.b],fun x=>zrR o x,false⟩
theorem zxG:PCok Tryz.prog tabs 17 (zqB o):=zcZ (o:=o) (η:=[]) (Γ:=⟨[(63,(zqS o))],[],false,[]⟩) (ctok ⟨zvB,trivial⟩ trivial) Tryz.func17
def zyH(o:Ops)(v0:List Bs)(v2:Int):Option (Int⊕(Bool⊕Unit)):=
 bif decide (v2<(v0.length:Int))then((idx v0 v2).bind fun v3=>(zrR o v3).bind fun v4=>bif(!v4)then some (.inr (.inl false))else(bif decide (v2>0)then((idx v0 (w64 (v2-1))).bind fun v5=>bif(Op.bytesLess v3 v5||v3==v5)then some (.inr (.inl false))else some (.inl (w64 (v2+1))))else some (.inl (w64 (v2+1)))))else some (.inr (.inr ()))
def zkV(o:Ops)(v0:List Bs)(v1:Int):Option (Bool):=
 (iter (zyH o v0) (0:Int)).bind fun v6=>match v6 with
 |.inl v7=>some v7
 |.inr _v8=>some (decide ((v0.length:Int)≤v1))
def zjU(o:Ops):SC:=⟨⟨[(0,(.h (.sl .s))),(1,hI),(2,(.fn 17 [] []))],[]⟩,1,[(none,⟨[(0,hB)],[]⟩)],fun x=>zkV o x.1 x.2⟩
theorem zpW:SCok Tryz.prog tabs 174 (zjU o):=zaT (o:=o) (η:=[(200002,.loop [] ⟨[(2,(.fn 17 [] [])),(11,hI)],[]⟩ [0,1,9,10] [(some 1000000,⟨[(6,hB)],[]⟩),(some 0,⟨[],[]⟩)])]) (Γ:=⟨[(17,(zqB o))],[],false,[]⟩) (ctok ⟨zxG,trivial⟩ trivial) Tryz.func174
def zmM(o:Ops)(v0:zbQ):Option (Bool):=
 (zaW o v0.1).bind fun v1=>bif v1 then((zkV o v0.2 (16:Int)).bind fun v2=>some v2)else(some false)
def zkW(o:Ops):PC:=⟨[(.h ztX)],[.b],fun x=>zmM o x,false⟩
theorem zrM:PCok Tryz.prog tabs 104 (zkW o):=zcZ (o:=o) (η:=[]) (Γ:=⟨[(13,(zbD o))],[(174,(zjU o))],false,[]⟩) (ctok ⟨zbM,trivial⟩ ⟨zpW,trivial⟩) Tryz.func104
def zqD:PC:=⟨[.h (.sl .s)],[(.sl .s)],fun xs=>some xs,true⟩
theorem zrW:PCok Tryz.prog tabs 61 zqD:=wit (G:=tabs)<|yfU zvC τ_okWkF Tryz.func61 (isFn Tryz.func61) rfl (by kernel_rfl) (fun _=>by kernel_rfl)
def zeX(_o:Ops)(v0:zbQ):Option zbQ:=
 (app ([]:List Bs) v0.2).bind fun v1=>some (v0.1,v1)
def zeJ(o:Ops):PC:=⟨[(.h ztX)],[ztX],fun x=>zeX o x,false⟩
theorem ziR:PCok Tryz.prog tabs 105 (zeJ o):=zcZ (o:=o) (η:=[]) (Γ:=⟨[(61,zqD)],[(198,zqY)],false,[]⟩) (ctok ⟨zrW,trivial⟩ ⟨ztJ,trivial⟩) Tryz.func105
def zlN(_o:Ops)(v0:zbQ)(v1:List zaH)(v2:List zaF)(v3:List zaI)(v4:List zaJ)(v5:List ((Bs×Bs)×Unit)):Option ((Int×zaQ)⊕((List zaH)×(List zaF)×(List zaI)×(List zaJ)×(List ((Bs×Bs)×Unit))×zbQ)):=
 let _v7:zbQ:=zfQ keqS v3 v0.1 (([]:Bs),([]:List Bs))
 bif(!(mhas keqS v3 v0.1))then(bif decide ((v3.length:Int)≥32)then some (.inl ((124:Int),v1,v2,v3,v4,v5))else some (.inr (v1,v2,v3,v4,v5,v0)))else some (.inr (v1,v2,v3,v4,v5,v0))
def zfW(o:Ops)(v0:zbQ)(v1:List zaH)(v2:List zaF)(v3:List zaI)(v4:List zaJ)(v5:List ((Bs×Bs)×Unit)):Option ((Int×zaQ)):=
 (zmM o v0).bind fun v6=>bif(!v6)then some ((120:Int),v1,v2,v3,v4,v5)else((zlN o v0 v1 v2 v3 v4 v5).bind fun v8=>match v8 with
 |.inl v9=>some v9
 |.inr v10=>((zeX o v10.2.2.2.2.2).bind fun v11=>let v12:List zaI:=mset keqS kltS v10.2.2.1 v10.2.2.2.2.2.1 v11
 some ((0:Int),v10.1,v10.2.1,v12,v10.2.2.2.1,v10.2.2.2.2.1)))
def zfN(o:Ops):SC:=⟨⟨[(0,(.ptr 0 0)),(1,(.h ztX))],[zaN,zaB,zaD,zaC,zaA,.mp true (.pr .s .s) .un]⟩,1,[(none,⟨[(0,hI)],[zaN,zaB,zaD,ykF,zaA,.mp true (.pr .s .s) .un]⟩)],fun x=>zfW o x.1 x.2.1 x.2.2.1 x.2.2.2.1 x.2.2.2.2.1 x.2.2.2.2.2⟩
theorem zlL:SCok Tryz.prog tabs 36 (zfN o):=zaT (o:=o) (η:=[(2000006,.join [] [] [(some 1000000,⟨[(4,hI)],[zaN,zaB,zaD,zaC,zaA,.mp true (.pr .s .s) .un]⟩),(none,⟨[(0,(.ptr 0 0)),(3,(.ptr 6 0))],[zaN,zaB,zaD,zaC,zaA,.mp true (.pr .s .s) .un,.blk 49 [hS,(.h (.sl .s))]]⟩)]),
 (4000003,.sch [(.pu,0,[]),(.pu,1,[]),(.pu,2,[]),(.pu,3,[]),(.pu,4,[]),(.pu,5,[]),(.pu,6,[]),(.pu,7,[]),(.pu,8,[]),(.pu,9,[7]),(.mn,10,[]),(.mn,11,[7]),(.pu,12,[])]),
 (4000006,.sch [(.pu,0,[]),(.pu,1,[]),(.pu,2,[]),(.pu,3,[]),(.pu,4,[]),(.pu,5,[]),(.pu,6,[]),(.mn,7,[]),(.mn,8,[0,1,2,3,4,5,6])])]) (Γ:=⟨[(104,(zkW o)),(105,(zeJ o))],[],false,[]⟩) (ctok ⟨zrM,⟨ziR,trivial⟩⟩ trivial) Tryz.func36
def zdD(_o:Ops)(v0:Bs)(v1:List zaH)(v2:List zaF)(v3:List zaI)(v4:List zaJ)(v5:List ((Bs×Bs)×Unit)):Option ((Bool×zaQ)):=
 let _v6:zbQ:=zfQ keqS v3 v0 (([]:Bs),([]:List Bs))
 some (mhas keqS v3 v0,v1,v2,v3,v4,v5)
def zcX(o:Ops):SC:=⟨⟨[(0,hS),(1,(.ptr 0 0))],[zlD,zeH,zaB,zaD,zaC,zaA,.mp true (.pr .s .s) .un]⟩,1,[(none,⟨[(0,hB)],[zlD,zeH,zaB,zaD,zaC,zaA,.mp true (.pr .s .s) .un]⟩)],fun x=>zdD o x.1 x.2.1 x.2.2.1 x.2.2.2.1 x.2.2.2.2.1 x.2.2.2.2.2⟩
theorem zfO:SCok Tryz.prog tabs 246 (zcX o):=zaT (o:=o) (η:=[]) (Γ:=⟨[],[],false,[]⟩) (ctok trivial trivial) Tryz.func246
def zoH(o:Ops)(v0:Bs)(v1:Bs)(v2:List zaH)(v3:List zaF)(v4:List zaI)(v5:List zaJ)(v6:List ((Bs×Bs)×Unit)):Option ((Int×(List zaH)×(List zaF)×(List zaI)×(List zaJ)×(List ((Bs×Bs)×Unit))×Int)⊕((List zaH)×(List zaF)×(List zaI)×(List zaJ)×(List ((Bs×Bs)×Unit))×Int)):=
 (zaW o v0).bind fun v7=>bif(!v7)then some (.inl ((120:Int),v2,v3,v4,v5,v6,(0:Int)))else((zaW o v1).bind fun v8=>bif(!v8)then some (.inl ((120:Int),v2,v3,v4,v5,v6,(0:Int)))else some (.inr (v2,v3,v4,v5,v6,(0:Int))))
def ziL(o:Ops)(v0:Bs)(v1:Bs)(v2:List zaH)(v3:List zaF)(v4:List zaI)(v5:List zaJ)(v6:List ((Bs×Bs)×Unit)):Option ((zrJ×Int×zaQ)):=
 (zoH o v0 v1 v2 v3 v4 v5 v6).bind fun v9=>match v9 with
 |.inl v10=>some (((([]:List Bs),([]:List Bs),([]:List Bs)),v10.2.2.2.2.2.2),v10.1,v10.2.1,v10.2.2.1,v10.2.2.2.1,v10.2.2.2.2.1,v10.2.2.2.2.2.1)
 |.inr v11=>(let v12:zrJ:=zfQ keqS v11.2.1 v0 ((([]:List Bs),([]:List Bs),([]:List Bs)),(0:Int))
 bif(!(mhas keqS v11.2.1 v0))then some (((([]:List Bs),([]:List Bs),([]:List Bs)),(0:Int)),(122:Int),v11.1,v11.2.1,v11.2.2.1,v11.2.2.2.1,v11.2.2.2.2.1)else((zdD o v1 v11.1 v11.2.1 v11.2.2.1 v11.2.2.2.1 v11.2.2.2.2.1).bind fun v13=>bif(!v13.1)then some (((([]:List Bs),([]:List Bs),([]:List Bs)),(0:Int)),(122:Int),v13.2)else some (v12,(0:Int),v13.2)))
def zhH(o:Ops):SC:=⟨⟨[(0,(.ptr 0 0)),(1,hS),(2,(.ag [(.kn .i64 2),(.fn 246 [] [(.ptr 1 0)])])),(3,hS)],[zeH,zqJ,zaB,zaD,zaC,zaA,.mp true (.pr .s .s) .un]⟩,2,[(none,⟨[(0,(.h yiV)),(1,hI)],[zeH,zqJ,zaB,zaD,zaC,zaA,.mp true (.pr .s .s) .un]⟩)],fun x=>ziL o x.1 x.2.1 x.2.2.1 x.2.2.2.1 x.2.2.2.2.1 x.2.2.2.2.2.1 x.2.2.2.2.2.2⟩
theorem zoM:SCok Tryz.prog tabs 199 (zhH o):=zaT (o:=o) (η:=[(2000003,.join [] [1,3] [(some 1000000,⟨[(8,(.ptr 7 0)),(9,hI)],[zeH,zqJ,zaB,zaD,zaC,zaA,.mp true (.pr .s .s) .un,ykC]⟩),(none,⟨[(0,(.ptr 0 0)),(6,(.ptr 7 0)),(8,(.ptr 8 0))],[zeH,zqJ,zaB,zaD,zaC,zaA,.mp true (.pr .s .s) .un,.blk 187 [(.kn .i64 2),(.fn 246 [] [(.ptr 1 0)])],ykC]⟩)])]) (Γ:=⟨[(13,(zbD o))],[(246,(zcX o))],false,[]⟩) (ctok ⟨zbM,trivial⟩ ⟨zfO,trivial⟩) Tryz.func199
def zoW(o:Ops)(v0:Bs)(v1:Bs)(v2:List zaH)(v3:List zaF)(v4:List zaI)(v5:List zaJ)(v6:List ((Bs×Bs)×Unit)):Option ((Int×(List zaH)×(List zaF)×(List zaI)×(List zaJ)×(List ((Bs×Bs)×Unit))×(List Bs)×(List Bs)×(List Bs)×Int)):=
 (zbR o v2 v3 v4 v5 v6).bind fun v7=>(ziL o v0 v1 v7.1 v7.2.1 v7.2.2.1 v7.2.2.2.1 v7.2.2.2.2).bind fun v8=>some (v8.2.1,v8.2.2.1,v8.2.2.2.1,v8.2.2.2.2.1,v8.2.2.2.2.2.1,v8.2.2.2.2.2.2,v8.1.1.1,v8.1.1.2.1,v8.1.1.2.2,v8.1.2)
def zoI(o:Ops)(v1:Bs)(v9:Int×(List zaH)×(List zaF)×(List zaI)×(List zaJ)×(List ((Bs×Bs)×Unit))×(List Bs)×(List Bs)×(List Bs)×Int):Option ((Bool×(List zaH)×(List zaF)×(List zaI)×(List zaJ)×(List ((Bs×Bs)×Unit))×(List Bs)×(List Bs)×(List Bs)×Int)):=
 (ziM o v9.2.2.2.2.2.2.2.2.1 v1).bind fun v10=>some (v10,v9.2)
def zoL(o:Ops)(v1:Bs)(v9:Int×(List zaH)×(List zaF)×(List zaI)×(List zaJ)×(List ((Bs×Bs)×Unit))×(List Bs)×(List Bs)×(List Bs)×Int):Option ((Int×zaQ)⊕((List zaH)×(List zaF)×(List zaI)×(List zaJ)×(List ((Bs×Bs)×Unit))×(List Bs)×(List Bs)×(List Bs)×Int)):=
 bif(v9.1 != 0)then some (.inl (v9.1,v9.2.1,v9.2.2.1,v9.2.2.2.1,v9.2.2.2.2.1,v9.2.2.2.2.2.1))else((zoI o v1 v9).bind fun v11=>bif v11.1 then some (.inl ((121:Int),v11.2.1,v11.2.2.1,v11.2.2.2.1,v11.2.2.2.2.1,v11.2.2.2.2.2.1))else some (.inr v11.2))
def zoA(o:Ops)(v1:Bs)(v14:(List zaH)×(List zaF)×(List zaI)×(List zaJ)×(List ((Bs×Bs)×Unit))×(List Bs)×(List Bs)×(List Bs)×Int):Option (((List zaH)×(List zaF)×(List zaI)×(List zaJ)×(List ((Bs×Bs)×Unit))×(List Bs)×(List Bs)×(List Bs)×Int)):=
 (zjE o v14.2.2.2.2.2.2.2.1 v1).bind fun v15=>some (v14.1,v14.2.1,v14.2.2.1,v14.2.2.2.1,v14.2.2.2.2.1,v14.2.2.2.2.2.1,v14.2.2.2.2.2.2.1,v15,v14.2.2.2.2.2.2.2.2)
def ziJ(o:Ops)(v0:Bs)(v1:Bs)(v2:List zaH)(v3:List zaF)(v4:List zaI)(v5:List zaJ)(v6:List ((Bs×Bs)×Unit)):Option ((Int×zaQ)):=
 (zoW o v0 v1 v2 v3 v4 v5 v6).bind fun v9=>(zoL o v1 v9).bind fun v12=>match v12 with
 |.inl v13=>some v13
 |.inr v14=>((zoA o v1 v14).bind fun v16=>let v17:List zaF:=mset keqS kltS v16.2.1 v0 ((v16.2.2.2.2.2.1,v16.2.2.2.2.2.2.1,v16.2.2.2.2.2.2.2.1),w64 (v16.2.2.2.2.2.2.2.2+1))
 some ((0:Int),v16.1,v17,v16.2.2.1,v16.2.2.2.1,v16.2.2.2.2.1))
def zhD(o:Ops):SC:=⟨⟨[(0,(.ptr 0 0)),(1,hS),(2,(.kn .i64 2)),(3,hS)],[zaN,zaB,zaD,zaC,zaA,.mp true (.pr .s .s) .un]⟩,1,[(none,⟨[(0,hI)],[zaN,zaB,zsO,zaC,zaA,.mp true (.pr .s .s) .un]⟩)],fun x=>ziJ o x.1 x.2.1 x.2.2.1 x.2.2.2.1 x.2.2.2.2.1 x.2.2.2.2.2.1 x.2.2.2.2.2.2⟩
theorem zoT:SCok Tryz.prog tabs 101 (zhD o):=zaT (o:=o) (η:=[(2100000,.join [] [1,2,3] [(none,⟨[(0,(.ptr 0 0)),(9,(.ptr 6 0)),(10,hI)],[zaN,zaB,zaD,zaC,zaA,.mp true (.pr .s .s) .un,znW]⟩)]),
 (2300005,.join [] [1,2,3] [(none,⟨[(0,(.ptr 0 0)),(9,(.ptr 6 0)),(26,hB)],[zaN,zaB,zaD,zaC,zaA,.mp true (.pr .s .s) .un,znW]⟩)]),
 (2000008,.join [] [1,2,3] [(some 1000000,⟨[(8,hI)],[zaN,zaB,zaD,zaC,zaA,.mp true (.pr .s .s) .un]⟩),(none,⟨[(0,(.ptr 0 0)),(9,(.ptr 6 0))],[zaN,zaB,zaD,zaC,zaA,.mp true (.pr .s .s) .un,znW]⟩)]),
 (2000009,.join [] [1] [(none,⟨[(0,(.ptr 0 0)),(9,(.ptr 6 0))],[zaN,zaB,zaD,zaC,zaA,.mp true (.pr .s .s) .un,znW]⟩)]),
 (4000010,.sch [(.pu,0,[]),(.pu,1,[]),(.pu,2,[]),(.pu,3,[]),(.pu,4,[]),(.pu,5,[]),(.mn,6,[0,1,2,3,4,5,6])])]) (Γ:=⟨[(131,(zgD o)),(201,(zhP o))],[(173,(zbJ o)),(199,(zhH o))],false,[]⟩) (ctok ⟨zjI,⟨zlA,trivial⟩⟩ ⟨zcH,⟨zoM,trivial⟩⟩) Tryz.func101
def ziS(o:Ops)(v0:Bs)(v1:Bs)(v2:List zaH)(v3:List zaF)(v4:List zaI)(v5:List zaJ)(v6:List ((Bs×Bs)×Unit)):Option ((Int×zaQ)):=
 (ziJ o v0 v1 v2 v3 v4 v5 v6).bind fun v7=>some v7
def ziD(o:Ops):SC:=⟨⟨[(0,(.ptr 0 0)),(1,hS),(2,hS)],[zaN,zaB,zaD,zaC,zaA,.mp true (.pr .s .s) .un]⟩,1,[(none,⟨[(0,hI)],[zaN,zaB,zsO,zaC,zaA,.mp true (.pr .s .s) .un]⟩)],fun x=>ziS o x.1 x.2.1 x.2.2.1 x.2.2.2.1 x.2.2.2.2.1 x.2.2.2.2.2.1 x.2.2.2.2.2.2⟩
theorem zqE:SCok Tryz.prog tabs 74 (ziD o):=zaT (o:=o) (η:=[]) (Γ:=⟨[],[(101,(zhD o))],false,[]⟩) (ctok trivial ⟨zoT,trivial⟩) Tryz.func74
def zdT(o:Ops)(v0:Bs):Option (Bool):=
 bif decide ((v0.length:Int)>2)then((subH v0 (2:Int)).bind fun v1=>bif(v1==([117,58]:Bs))then((subL v0 (2:Int)).bind fun v2=>(zaW o v2).bind fun v3=>some v3)else((subH v0 (2:Int)).bind fun v4=>bif(v4==([99,58]:Bs))then((subL v0 (2:Int)).bind fun v5=>(zaW o v5).bind fun v6=>some v6)else(some false)))else(some false)
def zeU(o:Ops):PC:=⟨[hS],[.b],fun x=>zdT o x,false⟩
theorem zjQ:PCok Tryz.prog tabs 19 (zeU o):=zcZ (o:=o) (η:=[]) (Γ:=⟨[(13,(zbD o))],[],false,[]⟩) (ctok ⟨zbM,trivial⟩ trivial) Tryz.func19
def zcP(_o:Ops)(v0:Bs)(v1:List zaH)(v2:List zaF)(v3:List zaI)(v4:List zaJ)(v5:List ((Bs×Bs)×Unit)):Option ((Bool×zaQ)):=
 (idx v0 (0:Int)).bind fun v6=>bif((v6.toNat:Int)==((99:UInt8).toNat:Int))then((subL v0 (2:Int)).bind fun v7=>let _v8:zlQ:=zfQ keqS v4 v7 (([]:Bs),([]:Bs),([]:List Bs),([]:List Bs),false,false,false,false)
 some (mhas keqS v4 v7,v1,v2,v3,v4,v5))else((subL v0 (2:Int)).bind fun v9=>let _v10:zoV:=zfQ keqS v1 v9 (([]:Bs),([]:Bs),false,(0:Int))
 some (mhas keqS v1 v9,v1,v2,v3,v4,v5))
def zdL(o:Ops):SC:=⟨⟨[(0,(.ptr 0 0)),(1,hS)],[zaN,zaB,zaD,zaC,zaA,.mp true (.pr .s .s) .un]⟩,1,[(none,⟨[(0,hB)],[zaN,zaB,zaD,zaC,zaA,.mp true (.pr .s .s) .un]⟩)],fun x=>zcP o x.1 x.2.1 x.2.2.1 x.2.2.2.1 x.2.2.2.2.1 x.2.2.2.2.2⟩
theorem zhE:SCok Tryz.prog tabs 128 (zdL o):=zaT (o:=o) (η:=[(4000002,.sch [(.pu,0,[]),(.pu,1,[]),(.pu,2,[]),(.pu,3,[]),(.pu,4,[]),(.pu,5,[]),(.pu,6,[]),(.pu,7,[]),(.pu,8,[]),(.pu,9,[6]),(.mn,10,[]),(.mn,11,[6]),(.pu,12,[])]),
 (4000004,.sch [(.pu,0,[]),(.pu,1,[]),(.pu,2,[]),(.pu,3,[]),(.pu,4,[]),(.pu,5,[]),(.pu,6,[]),(.pu,7,[]),(.pu,8,[]),(.pu,9,[6]),(.mn,10,[]),(.mn,11,[6]),(.pu,12,[])])]) (Γ:=⟨[],[],false,[]⟩) (ctok trivial trivial) Tryz.func128
def zgX(o:Ops)(v0:Bs)(v1:List zaH)(v2:List zaF)(v3:List zaI)(v4:List zaJ)(v5:List ((Bs×Bs)×Unit)):Option ((Bool×zaQ)):=
 (zdT o v0).bind fun v6=>bif(!v6)then some (false,v1,v2,v3,v4,v5)else((idx v0 (0:Int)).bind fun v7=>bif((v7.toNat:Int)==((99:UInt8).toNat:Int))then((zcP o v0 v1 v2 v3 v4 v5).bind fun v8=>some v8)else((subL v0 (2:Int)).bind fun v9=>let v10:zoV:=zfQ keqS v1 v9 (([]:Bs),([]:Bs),false,(0:Int))
 some (v10.2.2.1,v1,v2,v3,v4,v5)))
def zgE(o:Ops):SC:=⟨⟨[(0,(.ptr 0 0)),(1,hS)],[zaN,zaB,zaD,zaC,zaA,.mp true (.pr .s .s) .un]⟩,1,[(none,⟨[(0,hB)],[zaN,zaB,zaD,zaC,zaA,.mp true (.pr .s .s) .un]⟩)],fun x=>zgX o x.1 x.2.1 x.2.2.1 x.2.2.2.1 x.2.2.2.2.1 x.2.2.2.2.2⟩
theorem zmS:SCok Tryz.prog tabs 49 (zgE o):=zaT (o:=o) (η:=[(4000005,.sch [(.pu,0,[]),(.pu,1,[]),(.pu,2,[]),(.pu,3,[]),(.pu,4,[]),(.pu,5,[]),(.pu,6,[]),(.pu,7,[]),(.pu,8,[])])]) (Γ:=⟨[(19,(zeU o))],[(128,(zdL o))],false,[]⟩) (ctok ⟨zjQ,trivial⟩ ⟨zhE,trivial⟩) Tryz.func49
def ziW(_o:Ops)(v0:Bs)(v1:List (Bs×Unit)):Option ((Bool×List (Bs×Unit))):=
 let _v2:Unit:=zfQ keqS v1 v0 ()
 some (mhas keqS v1 v0,v1)
def ziG(o:Ops):SC:=⟨⟨[(0,hS),(1,(.ptr 0 0))],[zwW,zfV]⟩,1,[(none,⟨[(0,hB)],[zwW,zfV]⟩)],fun x=>ziW o x.1 x.2⟩
theorem zqT:SCok Tryz.prog tabs 130 (ziG o):=zaT (o:=o) (η:=[]) (Γ:=⟨[],[],false,[]⟩) (ctok trivial trivial) Tryz.func130
def zsA(o:Ops)(v0:List Bs)(v2:Int)(v3:List (Bs×Unit)):Option ((Int×List (Bs×Unit))⊕((Int×List (Bs×Unit))⊕(List (Bs×Unit)))):=
 bif decide (v2<(v0.length:Int))then((idx v0 v2).bind fun v4=>(ziW o v4 v3).bind fun v5=>bif v5.1 then some (.inr (.inl (v2,v5.2)))else some (.inl (w64 (v2+1),v5.2)))else some (.inr (.inr v3))
def zkJ(o:Ops)(v0:List Bs)(v1:List (Bs×Unit)):Option ((Int×List (Bs×Unit))):=
 (iter (fun x=>zsA o v0 x.1 x.2) ((0:Int),v1)).bind fun v6=>match v6 with
 |.inl v7=>some v7
 |.inr v8=>some ((-1:Int),v8)
def zjX(o:Ops):SC:=⟨⟨[(0,(.h (.sl .s))),(1,(.fn 130 [] [(.ptr 0 0)]))],[zwW,zfV]⟩,1,[(none,⟨[(0,hI)],[zwW,zfV]⟩)],fun x=>zkJ o x.1 x.2⟩
theorem zsF:SCok Tryz.prog tabs 212 (zjX o):=zaT (o:=o) (η:=[(200002,.loop [] ⟨[(1,(.fn 130 [] [(.ptr 0 0)])),(8,hI)],[zwW,zfV]⟩ [0,7] [(some 1000000,⟨[(4,hI)],[zwW,zfV]⟩),(some 0,⟨[],[zwW,zfV]⟩)])]) (Γ:=⟨[],[(130,(ziG o))],false,[]⟩) (ctok trivial ⟨zqT,trivial⟩) Tryz.func212
def ziA(o:Ops)(v0:List Bs)(v1:List (Bs×Unit)):Option ((Bool×List (Bs×Unit))):=
 (zkJ o v0 v1).bind fun v2=>some (decide (v2.1≥0),v2.2)
def zgU(o:Ops):SC:=⟨⟨[(0,(.h (.sl .s))),(1,(.fn 130 [] [(.ptr 0 0)]))],[zwW,zfV]⟩,1,[(none,⟨[(0,hB)],[zwW,zfV]⟩)],fun x=>ziA o x.1 x.2⟩
theorem zoQ:SCok Tryz.prog tabs 129 (zgU o):=zaT (o:=o) (η:=[]) (Γ:=⟨[],[(212,(zjX o))],false,[]⟩) (ctok trivial ⟨zsF,trivial⟩) Tryz.func129
def zxJ(_o:Ops)(v0:List (Bs×Unit)):Option ((List (Bs×Unit))):=
 some v0
def zuV(o:Ops):SC:=⟨⟨[(0,(.mpr 0))],[zfV]⟩,1,[(none,⟨[(0,(.fn 215 [] [(.ptr 1 0)]))],[zfV,.blk 160 [(.mpr 0)]]⟩)],fun x=>zxJ o x⟩
theorem ydC:SCok Tryz.prog tabs 133 (zuV o):=zaT (o:=o) (η:=[]) (Γ:=⟨[],[],false,[]⟩) (ctok trivial trivial) Tryz.func133
def yeD:SC:=⟨⟨[(0,(.fn 215 [] [(.ptr 0 0)]))],[zwW,zfV]⟩,1,[(none,⟨[(0,(.h (.sl .s)))],[zwW,zfV]⟩)],fun es=>zjZ es⟩
theorem ylL:SCok Tryz.prog tabs 132 yeD:=wit (G:=tabs)<|zqV (kT:=9) (isFn Tryz.func132) (by kernel_rfl) YtopanhneegpgcaaGreatDoor.sorted215K
noncomputable def zsD(_o:Ops)(v6:Bool)(v7:List zaH)(v8:List zaF)(v9:List zaI)(v10:List zaJ)(v11:List ((Bs×Bs)×Unit))(v12:List (Bs×Unit)):Option (((Bool×(List zaH)×(List zaF)×(List zaI)×(List zaJ)×(List ((Bs×Bs)×Unit))×List (Bs×Unit))⊕(Bool×(List zaH)×(List zaF)×(List zaI)×(List zaJ)×(List ((Bs×Bs)×Unit))×(List Bs)×List (Bs×Unit)))⊕(((List zaH)×(List zaF)×(List zaI)×(List zaJ)×(List ((Bs×Bs)×Unit))×List (Bs×Unit)))):=
 bif v6 then some (.inl (.inr (false,v7,v8,v9,v10,v11,List.map Prod.fst v8,v12)))else some (.inr (v7,v8,v9,v10,v11,v12))
noncomputable def zrV(o:Ops)(v0:Bs)(v13:Bool)(v14:List zaH)(v15:List zaF)(v16:List zaI)(v17:List zaJ)(v18:List ((Bs×Bs)×Unit))(v19:List Bs)(v20:List (Bs×Unit)):List (Option (((Bool×(List zaH)×(List zaF)×(List zaI)×(List zaJ)×(List ((Bs×Bs)×Unit))×List (Bs×Unit))⊕(Bool×(List zaH)×(List zaF)×(List zaI)×(List zaJ)×(List ((Bs×Bs)×Unit))×(List Bs)×List (Bs×Unit)))⊕(((List zaH)×(List zaF)×(List zaI)×(List zaJ)×(List ((Bs×Bs)×Unit))×List (Bs×Unit))))):=
 rngL (rngC keqS v15 v19) (some (.inl (.inl (v13,v14,v15,v16,v17,v18,v20)))) fun v21=>(mget keqS v15 v21.1).bind fun v22=>let _v23:Unit:=zfQ keqS v20 v21.1 ()
 bif mhas keqS v20 v21.1 then some (.inl (.inr (v13,v14,v15,v16,v17,v18,rngD keqS v19 v21.1,v20)))else((ziA o v22.1.2.1 v20).bind fun v24=>bif v24.1 then(let v25:List (Bs×Unit):=mset keqS kltS v24.2 v21.1 ()
 some (.inl (.inr (true,v14,v15,v16,v17,v18,rngD keqS v19 v21.1,v25))))else((ziM o v22.1.1 v0).bind fun v26=>bif v26 then(let v27:List (Bs×Unit):=mset keqS kltS v24.2 v21.1 ()
 some (.inl (.inr (true,v14,v15,v16,v17,v18,rngD keqS v19 v21.1,v27))))else some (.inl (.inr (v13,v14,v15,v16,v17,v18,rngD keqS v19 v21.1,v24.2)))))
noncomputable def zsL(o:Ops)(v0:Bs):(Bool×(List zaH)×(List zaF)×(List zaI)×(List zaJ)×(List ((Bs×Bs)×Unit))×List (Bs×Unit))⊕(Bool×(List zaH)×(List zaF)×(List zaI)×(List zaJ)×(List ((Bs×Bs)×Unit))×(List Bs)×List (Bs×Unit))→List (Option (((Bool×(List zaH)×(List zaF)×(List zaI)×(List zaJ)×(List ((Bs×Bs)×Unit))×List (Bs×Unit))⊕(Bool×(List zaH)×(List zaF)×(List zaI)×(List zaJ)×(List ((Bs×Bs)×Unit))×(List Bs)×List (Bs×Unit)))⊕(((List zaH)×(List zaF)×(List zaI)×(List zaJ)×(List ((Bs×Bs)×Unit))×List (Bs×Unit)))))
 |.inl x=>[zsD o x.1 x.2.1 x.2.2.1 x.2.2.2.1 x.2.2.2.2.1 x.2.2.2.2.2.1 x.2.2.2.2.2.2]
 |.inr x=>zrV o v0 x.1 x.2.1 x.2.2.1 x.2.2.2.1 x.2.2.2.2.1 x.2.2.2.2.2.1 x.2.2.2.2.2.2.1 x.2.2.2.2.2.2.2
noncomputable def zbV(o:Ops)(v0:Bs)(v1:List zaH)(v2:List zaF)(v3:List zaI)(v4:List zaJ)(v5:List ((Bs×Bs)×Unit)):Option (((List Bs)×zaQ)):=
 (rngA (zsL o v0) (Sum.inl (true,v1,v2,v3,v4,v5,([]:List (Bs×Unit))))).bind fun v28=>(zxJ o v28.2.2.2.2.2).bind fun v29=>(zjZ v29).bind fun v30=>some (v30.1,v28.1,v28.2.1,v28.2.2.1,v28.2.2.2.1,v28.2.2.2.2.1)
noncomputable def zeZ(o:Ops):SC:=⟨⟨[(0,(.ptr 0 0)),(1,hS)],[zaN,zaB,zaD,zaC,zaA,.mp true (.pr .s .s) .un]⟩,1,[(none,⟨[(0,(.hc .s))],[zaN,zaB,zaD,zaC,zaA,.mp true (.pr .s .s) .un]⟩)],fun x=>zbV o x.1 x.2.1 x.2.2.1 x.2.2.2.1 x.2.2.2.2.1 x.2.2.2.2.2⟩
theorem zjS:SCok Tryz.prog tabs 50 (zeZ o):=witO (G:=tabs) (o:=o)<|xbL (H:=⟨[false,false,true,false],[],⟨[(0,(.ptr 0 0)),(5,(.ptr 6 0)),(6,hB)],[zaN,zaB,zaD,zaC,zaA,.mp true (.pr .s .s) .un,.blk 160 [(.mpr 7)],zfV]⟩,[1,4],[(some 0,⟨[(5,(.ptr 6 0))],[zaN,zaB,zaD,zaC,zaA,.mp true (.pr .s .s) .un,.blk 160 [(.mpr 7)],zfV]⟩)],[false,false,false],⟨[(0,(.ptr 0 0)),(5,(.ptr 6 0)),(6,hB),(18,(.ptr 7 0))],[zaN,zaB,zaD,zaC,zaA,.mp true (.pr .s .s) .un,.blk 160 [(.mpr 8)],.it 2 true .s,zfV]⟩,[1,4]⟩) (η:=[]) (Γ:=⟨[(131,(zgD o)),(61,zqD)],[(129,(zgU o)),(133,(zuV o)),(132,yeD)],false,[]⟩) zvC τ_okWkF (ctok ⟨zjI,⟨zrW,trivial⟩⟩ ⟨zoQ,⟨ydC,⟨ylL,trivial⟩⟩⟩) Tryz.func50 (isFn Tryz.func50) (by kernel_rfl) (by kernel_rfl) (by kernel_rfl)
def ypH:SC:=⟨⟨[(0,(.own 0))],[.osl .s 9]⟩,0,[(none,⟨[],[.osl .s 9]⟩)],ynZ⟩
theorem yyF:SCok Tryz.prog tabs 102 ypH:=wit (G:=tabs)<|xdC
def yaE:SC:=⟨⟨[(0,(.own 0))],[.osl .s 9]⟩,1,[(none,⟨[(0,(.h (.sl .s)))],[.dead]⟩)],zyI⟩
theorem yiY:SCok Tryz.prog tabs 103 yaE:=wit (G:=tabs)<|ysT
noncomputable def zmZ(_o:Ops)(v15:zrJ)(v16:Int)(v17:List zaH)(v18:List zaF)(v19:List zaI)(v20:List zaJ)(v21:List ((Bs×Bs)×Unit))(v22:List Bs):Option ((Int×(List zaH)×(List zaF)×(List zaI)×(List zaJ)×(List ((Bs×Bs)×Unit))×List Bs)⊕(((List zaH)×(List zaF)×(List zaI)×(List zaJ)×(List ((Bs×Bs)×Unit))×List Bs))):=
 bif decide (v16<(v15.1.2.2.length:Int))then((idx v15.1.2.2 v16).bind fun v23=>let v24:zbQ:=zfQ keqS v19 v23 (([]:Bs),([]:List Bs))
 (app v22 v24.2).bind fun v25=>some (.inl (w64 (v16+1),v17,v18,v19,v20,v21,v25)))else some (.inr (v17,v18,v19,v20,v21,v22))
noncomputable def zoR(o:Ops)(v6:((List Bs)×zaQ))(v7:Int)(v8:List zaH)(v9:List zaF)(v10:List zaI)(v11:List zaJ)(v12:List ((Bs×Bs)×Unit))(v13:List Bs):Option ((Int×(List zaH)×(List zaF)×(List zaI)×(List zaJ)×(List ((Bs×Bs)×Unit))×List Bs)⊕(((List zaH)×(List zaF)×(List zaI)×(List zaJ)×(List ((Bs×Bs)×Unit))×List Bs))):=
 bif decide (v7<(v6.1.length:Int))then((idx v6.1 v7).bind fun v14=>let v15:zrJ:=zfQ keqS v9 v14 ((([]:List Bs),([]:List Bs),([]:List Bs)),(0:Int))
 (iter (fun x=>zmZ o v15 x.1 x.2.1 x.2.2.1 x.2.2.2.1 x.2.2.2.2.1 x.2.2.2.2.2.1 x.2.2.2.2.2.2) ((0:Int),v8,v9,v10,v11,v12,v13)).bind fun v26=>some (.inl (w64 (v7+1),v26)))else some (.inr (v8,v9,v10,v11,v12,v13))
noncomputable def zbO(o:Ops)(v0:Bs)(v1:List zaH)(v2:List zaF)(v3:List zaI)(v4:List zaJ)(v5:List ((Bs×Bs)×Unit)):Option (((List Bs)×zaQ)):=
 (zbV o v0 v1 v2 v3 v4 v5).bind fun v6=>(iter (fun x=>zoR o v6 x.1 x.2.1 x.2.2.1 x.2.2.2.1 x.2.2.2.2.1 x.2.2.2.2.2.1 x.2.2.2.2.2.2) ((0:Int),v6.2.1,v6.2.2.1,v6.2.2.2.1,v6.2.2.2.2.1,v6.2.2.2.2.2,([]:List Bs))).bind fun v27=>(ynZ v27.2.2.2.2.2).bind fun v28=>(zyI v28).bind fun v29=>some (v29,v27.1,v27.2.1,v27.2.2.1,v27.2.2.2.1,v27.2.2.2.2.1)
noncomputable def zhB(o:Ops):SC:=⟨⟨[(0,(.ptr 0 0)),(1,hS)],[zaN,zaB,zaD,zaC,zaA,.mp true (.pr .s .s) .un]⟩,1,[(none,⟨[(0,(.hc .s))],[zaN,zaB,zaD,zaC,zaA,.mp true (.pr .s .s) .un]⟩)],fun x=>zbO o x.1 x.2.1 x.2.2.1 x.2.2.2.1 x.2.2.2.2.1 x.2.2.2.2.2⟩
theorem zoB:SCok Tryz.prog tabs 34 (zhB o):=zaT (o:=o) (η:=[(200006,.loop [] ⟨[(0,(.ptr 0 0)),(5,(.own 6)),(27,hI)],[zaN,zaB,zaD,zaC,zaA,.mp true (.pr .s .s) .un,.osl .s 9]⟩ [4,12,13,14,25,26] [(some 2,⟨[(0,(.ptr 0 0)),(5,(.own 6))],[zaN,zaB,zaD,zaC,zaA,.mp true (.pr .s .s) .un,.osl .s 9]⟩)]),
 (200003,.loop [.sl 5 .s 9] ⟨[(0,(.ptr 0 0)),(5,(.own 6)),(14,hI)],[zaN,zaB,zaD,zaC,zaA,.mp true (.pr .s .s) .un,.osl .s 9]⟩ [4,12,13] [(some 0,⟨[(5,(.own 6))],[zaN,zaB,zaD,zaC,zaA,.mp true (.pr .s .s) .un,.osl .s 9]⟩)])]) (Γ:=⟨[(61,zqD)],[(50,(zeZ o)),(102,ypH),(103,yaE)],false,[]⟩) (ctok ⟨zrW,trivial⟩ ⟨zjS,⟨yyF,⟨yiY,trivial⟩⟩⟩) Tryz.func34
def zuW(_o:Ops)(v0:List zaJ):Option ((List zaJ)):=
 some v0
def ztI(o:Ops):SC:=⟨⟨[(0,(.mpr 0))],[zaA]⟩,1,[(none,⟨[(0,(.fn 271 [] [(.ptr 1 0)]))],[zaA,.blk 125 [(.mpr 0)]]⟩)],fun x=>zuW o x⟩
theorem yaV:SCok Tryz.prog tabs 203 (ztI o):=zaT (o:=o) (η:=[]) (Γ:=⟨[],[],false,[]⟩) (ctok trivial trivial) Tryz.func203
def yaA:SC:=⟨⟨[(0,(.fn 271 [] [(.ptr 0 0)]))],[.blk 125 [(.mpr 1)],zaA]⟩,1,[(none,⟨[(0,(.h (.sl .s)))],[.blk 125 [(.mpr 1)],zaA]⟩)],fun es=>zjZ es⟩
theorem yjE:SCok Tryz.prog tabs 132 yaA:=wit (G:=tabs)<|zqV (kT:=9) (isFn Tryz.func132) (by kernel_rfl) YtopanhneegpgcaaGreatDoor.sorted271K
def zpP(_o:Ops)(v0:zlQ):Option zlQ:=
 (app ([]:List Bs) v0.2.2.1).bind fun v1=>(app ([]:List Bs) v0.2.2.2.1).bind fun v2=>some (v0.1,v0.2.1,v1,v2,v0.2.2.2.2)
def znI(o:Ops):PC:=⟨[(.h ztZ)],[ztZ],fun x=>zpP o x,false⟩
theorem zwB:PCok Tryz.prog tabs 107 (znI o):=zcZ (o:=o) (η:=[(4000001,.sch [(.pu,0,[]),(.pu,1,[]),(.pu,4,[3]),(.pu,5,[3]),(.mn,2,[]),(.mn,3,[3]),(.pu,8,[5]),(.mn,6,[]),(.mn,7,[5]),(.mn,9,[0]),(.pu,10,[]),(.mn,11,[0])])]) (Γ:=⟨[(61,zqD)],[(198,zqY)],false,[]⟩) (ctok ⟨zrW,trivial⟩ ⟨ztJ,trivial⟩) Tryz.func107
def zeQ(o:Ops)(_v0:Bs)(v1:zlQ):Option zlQ:=
 (zpP o v1).bind fun v2=>some v2
def zeG(o:Ops):PC:=⟨[hS,(.h ztZ)],[ztZ],fun x=>zeQ o x.1 x.2,false⟩
theorem zkG:PCok Tryz.prog tabs 109 (zeG o):=zcZ (o:=o) (η:=[]) (Γ:=⟨[(107,(znI o))],[],false,[]⟩) (ctok ⟨zwB,trivial⟩ trivial) Tryz.func109
def zvU(o:Ops)(v3:((List Bs)×List zaJ))(v4:Int)(v5:List zaJ)(v6:List zlQ):Option ((Int×(List zaJ)×List zlQ)⊕(((List zaJ)×List zlQ))):=
 bif decide (v4<(v3.1.length:Int))then((idx v3.1 v4).bind fun v7=>let v8:zlQ:=zfQ keqS v5 v7 (([]:Bs),([]:Bs),([]:List Bs),([]:List Bs),false,false,false,false)
 (zeQ o v7 v8).bind fun v9=>(app v6 ([v9]:List zlQ)).bind fun v10=>some (.inl (w64 (v4+1),v5,v10)))else some (.inr (v5,v6))
def zpK(o:Ops)(v0:List zaJ):Option (((List zaJ)×List zlQ)):=
 (chk (decide ((0:Int)≤(v0.length:Int))&&decide ((v0.length:Int)≤(LIM:Int)))).bind fun _=>(mkL (0:Int) (([]:Bs),([]:Bs),([]:List Bs),([]:List Bs),false,false,false,false)).bind fun v1=>(zuW o v0).bind fun v2=>(zjZ v2).bind fun v3=>(iter (fun x=>zvU o v3 x.1 x.2.1 x.2.2) ((0:Int),v3.2,v1)).bind fun v11=>some v11
def znP(o:Ops):SC:=⟨⟨[(0,(.mpr 0)),(1,(.fn 109 [] []))],[zaA]⟩,1,[(none,⟨[(0,(.own 1))],[zaA,.osl ztZ 51]⟩)],fun x=>zpK o x⟩
theorem zvM:SCok Tryz.prog tabs 108 (znP o):=zaT (o:=o) (η:=[(200003,.loop [] ⟨[(0,(.mpr 0)),(1,(.fn 109 [] [])),(5,(.own 1)),(15,hI)],[zaA,.osl ztZ 51]⟩ [4,13,14] [(some 0,⟨[(5,(.own 1))],[zaA,.osl ztZ 51]⟩)])]) (Γ:=⟨[(109,(zeG o))],[(203,(ztI o)),(132,yaA)],false,[]⟩) (ctok ⟨zkG,trivial⟩ ⟨yaV,⟨yjE,trivial⟩⟩) Tryz.func108
def zgA(o:Ops)(v0:List zaH)(v1:List zaF)(v2:List zaI)(v3:List zaJ)(v4:List ((Bs×Bs)×Unit)):Option (((List zaH)×(List zaF)×(List zaI)×(List zaJ)×(List ((Bs×Bs)×Unit))×List zlQ)):=
 (zpK o v3).bind fun v5=>some (v0,v1,v2,v5.1,v4,v5.2)
def zfJ(o:Ops):SC:=⟨⟨[(0,(.ptr 0 0))],[zaN,zaB,zaD,zaC,zaA,.mp true (.pr .s .s) .un]⟩,1,[(none,⟨[(0,(.own 6))],[zaN,zaB,zaD,zaC,zaA,.mp true (.pr .s .s) .un,.osl ztZ 51]⟩)],fun x=>zgA o x.1 x.2.1 x.2.2.1 x.2.2.2.1 x.2.2.2.2⟩
theorem zmD:SCok Tryz.prog tabs 38 (zfJ o):=zaT (o:=o) (η:=[]) (Γ:=⟨[],[(108,(znP o))],false,[]⟩) (ctok trivial ⟨zvM,trivial⟩) Tryz.func38
def zdJ(_o:Ops)(v0:Bool):Option Bs:=
 bif v0 then(some ([49]:Bs))else(some ([48]:Bs))
def zqU(o:Ops):PC:=⟨[hB],[.s],fun x=>zdJ o x,false⟩
theorem zxU:PCok Tryz.prog tabs 86 (zqU o):=zcZ (o:=o) (η:=[]) (Γ:=⟨[],[],false,[]⟩) (ctok trivial trivial) Tryz.func86
def zcE(o:Ops)(v0:List Bs):Option (List Bs):=
 (o.itoa (v0.length:Int)).bind fun v1=>(app ([v1]:List Bs) v0).bind fun v2=>some v2
def znQ(o:Ops):PC:=⟨[(.h (.sl .s))],[(.sl .s)],fun x=>zcE o x,false⟩
theorem zvH:PCok Tryz.prog tabs 87 (znQ o):=zcZ (o:=o) (η:=[]) (Γ:=⟨[(68,(ygA o))],[],false,[]⟩) (ctok ⟨(ziO.itoa (G:=tabs)),trivial⟩ trivial) Tryz.func87
def ylA:SC:=⟨⟨[(0,.nils),(1,hI)],[]⟩,1,[(none,⟨[(0,(.own 0))],[.osl .s 9]⟩)],fun n=>ypQ .s n⟩
theorem yuY:SCok Tryz.prog tabs 187 ylA:=wit (G:=tabs)<|yqQ (isFn Tryz.func187) xdE
def zvJ(_o:Ops)(v0:List (List Bs))(v1:Int)(v2:Int):Option ((Int×Int)⊕Int):=
 bif decide (v2<(v0.length:Int))then((idx v0 v2).bind fun v3=>bif decide ((w64 (v1+(v3.length:Int)))<0)then none else some (.inl (w64 (v1+(v3.length:Int)),w64 (v2+1))))else some (.inr v1)
def zvS(_o:Ops)(v0:List (List Bs))(v6:Int)(v7:List Bs):Option ((Int×List Bs)⊕List Bs):=
 bif decide (v6<(v0.length:Int))then((idx v0 v6).bind fun v8=>(app v7 v8).bind fun v9=>some (.inl (w64 (v6+1),v9)))else some (.inr v7)
def zkC(o:Ops)(v0:List (List Bs)):Option (List Bs):=
 (iter (fun x=>zvJ o v0 x.1 x.2) ((0:Int),(0:Int))).bind fun v4=>(ypQ .s v4).bind fun v5=>(iter (fun x=>zvS o v0 x.1 x.2) ((0:Int),v5)).bind fun v10=>some v10
def znF(o:Ops):PC:=⟨[(.h (.sl (.sl .s)))],[(.sl .s)],fun x=>zkC o x,false⟩
theorem zvG:PCok Tryz.prog tabs 85 (znF o):=zcZ (o:=o) (η:=[(200003,.loop [] ⟨[(3,hI),(11,hI)],[]⟩ [0,2,9,10] [(some 0,⟨[(3,hI)],[]⟩)]),
 (200011,.loop [] ⟨[(6,(.own 0)),(27,hI)],[.osl .s 9]⟩ [2,25,26] [(some 2,⟨[(6,(.own 0))],[.osl .s 9]⟩)])]) (Γ:=⟨[],[(187,ylA)],false,[]⟩) (ctok trivial ⟨yuY,trivial⟩) Tryz.func85
def zcA(o:Ops)(v0:Bs)(v1:List Bs)(v2:List (Bs×Bs)):Option ((List (Bs×Bs))):=
 (o.form v1).bind fun v3=>(app v2 ([(v0,v3)]:List (Bs×Bs))).bind fun v4=>some v4
def zfB(o:Ops):SC:=⟨⟨[(0,hS),(1,(.h (.sl .s))),(2,(.ptr 0 0))],[ytV,.osl (.pr .s .s) 33]⟩,0,[(none,⟨[],[ymP,.dead,.osl (.pr .s .s) 33]⟩)],fun x=>zcA o x.1 x.2.1 x.2.2⟩
theorem zlO:SCok Tryz.prog tabs 84 (zfB o):=zaT (o:=o) (η:=[(4000000,.sch [(.pu,0,[]),(.pu,1,[]),(.pu,2,[]),(.mn,3,[]),(.pu,4,[]),(.mn,5,[]),(.mn,6,[1]),(.mn,7,[0])])]) (Γ:=⟨[(22,(ztY o))],[],false,[]⟩) (ctok ⟨(ziO.form (G:=tabs)),trivial⟩ trivial) Tryz.func84
def zvE(_o:Ops)(v0:List zaF):Option ((List zaF)):=
 some v0
def zsZ(o:Ops):SC:=⟨⟨[(0,(.mpr 0))],[zaD]⟩,1,[(none,⟨[(0,(.fn 260 [] [(.ptr 1 0)]))],[zaD,.blk 123 [(.mpr 0)]]⟩)],fun x=>zvE o x⟩
theorem ybV:SCok Tryz.prog tabs 196 (zsZ o):=zaT (o:=o) (η:=[]) (Γ:=⟨[],[],false,[]⟩) (ctok trivial trivial) Tryz.func196
def zzO:SC:=⟨⟨[(0,(.fn 260 [] [(.ptr 0 0)]))],[.blk 123 [(.mpr 1)],zaD]⟩,1,[(none,⟨[(0,(.h (.sl .s)))],[.blk 123 [(.mpr 1)],zaD]⟩)],fun es=>zjZ es⟩
theorem yjS:SCok Tryz.prog tabs 132 zzO:=wit (G:=tabs)<|zqV (kT:=9) (isFn Tryz.func132) (by kernel_rfl) YtopanhneegpgcaaGreatDoor.sorted260K
def zgL(_o:Ops)(v0:List Bs):Option (List Bs):=
 (app ([]:List Bs) v0).bind fun v1=>some v1
def znR(o:Ops):SC:=⟨⟨[(0,(.h (.sl .s)))],[]⟩,1,[(none,⟨[(0,(.hc .s))],[]⟩)],fun x=>zgL o x⟩
theorem zvR:SCok Tryz.prog tabs 197 (znR o):=zaT (o:=o) (η:=[]) (Γ:=⟨[(61,zqD)],[(198,zqY)],false,[]⟩) (ctok ⟨zrW,trivial⟩ ⟨ztJ,trivial⟩) Tryz.func197
def ztE(o:Ops)(v0:Bs)(v1:zrJ):Option zzH:=
 (zgL o v1.1.1).bind fun v2=>(zgL o v1.1.2.1).bind fun v3=>(zgL o v1.1.2.2).bind fun v4=>some (v0,v2,v3,v4,v1.2)
def zrP(o:Ops):PC:=⟨[hS,(.h yiV)],[yiT],fun x=>ztE o x.1 x.2,false⟩
theorem zzF:PCok Tryz.prog tabs 100 (zrP o):=zcZ (o:=o) (η:=[(4000002,.sch [(.pu,0,[]),(.pu,1,[]),(.pu,2,[]),(.pu,3,[]),(.pu,4,[]),(.pu,6,[]),(.pu,7,[]),(.pu,8,[]),(.pu,9,[]),(.pu,11,[]),(.pu,12,[]),(.pu,13,[]),(.pu,14,[]),(.pu,16,[]),(.pu,17,[]),(.mn,5,[]),(.mn,10,[]),(.mn,15,[]),(.pu,18,[]),(.mn,19,[1])])]) (Γ:=⟨[],[(197,(znR o))],false,[]⟩) (ctok trivial ⟨zvR,trivial⟩) Tryz.func100
def zuF(o:Ops)(v3:((List Bs)×List zaF))(v4:Int)(v5:List zaF)(v6:List zzH):Option ((Int×(List zaF)×List zzH)⊕(((List zaF)×List zzH))):=
 bif decide (v4<(v3.1.length:Int))then((idx v3.1 v4).bind fun v7=>let v8:zrJ:=zfQ keqS v5 v7 ((([]:List Bs),([]:List Bs),([]:List Bs)),(0:Int))
 (ztE o v7 v8).bind fun v9=>(app v6 ([v9]:List zzH)).bind fun v10=>some (.inl (w64 (v4+1),v5,v10)))else some (.inr (v5,v6))
def znH(o:Ops)(v0:List zaF):Option (((List zaF)×List zzH)):=
 (chk (decide ((0:Int)≤(v0.length:Int))&&decide ((v0.length:Int)≤(LIM:Int)))).bind fun _=>(mkL (0:Int) (([]:Bs),([]:List Bs),([]:List Bs),([]:List Bs),(0:Int))).bind fun v1=>(zvE o v0).bind fun v2=>(zjZ v2).bind fun v3=>(iter (fun x=>zuF o v3 x.1 x.2.1 x.2.2) ((0:Int),v3.2,v1)).bind fun v11=>some v11
def zlZ(o:Ops):SC:=⟨⟨[(0,(.mpr 0)),(1,(.fn 100 [] []))],[zaD]⟩,1,[(none,⟨[(0,(.own 1))],[zaD,.osl yiT 57]⟩)],fun x=>znH o x⟩
theorem zuM:SCok Tryz.prog tabs 99 (zlZ o):=zaT (o:=o) (η:=[(200003,.loop [] ⟨[(0,(.mpr 0)),(1,(.fn 100 [] [])),(5,(.own 1)),(15,hI)],[zaD,.osl yiT 57]⟩ [4,13,14] [(some 0,⟨[(5,(.own 1))],[zaD,.osl yiT 57]⟩)])]) (Γ:=⟨[(100,(zrP o))],[(196,(zsZ o)),(132,zzO)],false,[]⟩) (ctok ⟨zzF,trivial⟩ ⟨ybV,⟨yjS,trivial⟩⟩) Tryz.func99
def zgV(o:Ops)(v0:List zaH)(v1:List zaF)(v2:List zaI)(v3:List zaJ)(v4:List ((Bs×Bs)×Unit)):Option (((List zaH)×(List zaF)×(List zaI)×(List zaJ)×(List ((Bs×Bs)×Unit))×List zzH)):=
 (znH o v1).bind fun v5=>some (v0,v5.1,v2,v3,v4,v5.2)
def zfS(o:Ops):SC:=⟨⟨[(0,(.ptr 0 0))],[zaN,zaB,zaD,zaC,zaA,.mp true (.pr .s .s) .un]⟩,1,[(none,⟨[(0,(.own 6))],[zaN,zaB,zaD,zaC,zaA,.mp true (.pr .s .s) .un,.osl yiT 57]⟩)],fun x=>zgV o x.1 x.2.1 x.2.2.1 x.2.2.2.1 x.2.2.2.2⟩
theorem zmX:SCok Tryz.prog tabs 32 (zfS o):=zaT (o:=o) (η:=[]) (Γ:=⟨[],[(99,(zlZ o))],false,[]⟩) (ctok trivial ⟨zuM,trivial⟩) Tryz.func32
def zvD(_o:Ops)(v0:List ((Bs×Bs)×Unit)):Option ((List ((Bs×Bs)×Unit))):=
 some v0
def zsQ(o:Ops):SC:=⟨⟨[(0,(.mpr 0))],[.mp true (.pr .s .s) .un]⟩,1,[(none,⟨[(0,(.fn 211 [] [(.ptr 1 0)]))],[.mp true (.pr .s .s) .un,.blk 126 [(.mpr 0)]]⟩)],fun x=>zvD o x⟩
theorem ybP:SCok Tryz.prog tabs 125 (zsQ o):=zaT (o:=o) (η:=[]) (Γ:=⟨[],[],false,[]⟩) (ctok trivial trivial) Tryz.func125
def yaR:SC:=⟨⟨[(0,(.fn 211 [] [(.ptr 0 0)])),(1,(.fn 126 [] []))],[.blk 126 [(.mpr 1)],.mp true (.pr .s .s) .un]⟩,1,[(none,⟨[(0,(.h (.sl (.pr .s .s))))],[.blk 126 [(.mpr 1)],.mp true (.pr .s .s) .un]⟩)],fun(es:List ((Bs×Bs)×Unit))=>zwP es⟩
theorem yjF:SCok Tryz.prog tabs 124 yaR:=wit (G:=tabs)<|yfV
def yiO:PC:=⟨[.h (.sl (.pr .s .s))],[(.sl (.pr .s .s))],fun xs=>some xs,true⟩
theorem ysJ:PCok Tryz.prog tabs 127 yiO:=wit (G:=tabs)<|yfU zvC τ_okWkF Tryz.func127 (isFn Tryz.func127) rfl (by kernel_rfl) (fun _=>by kernel_rfl)
def ziQ(o:Ops)(v0:List zaH)(v1:List zaF)(v2:List zaI)(v3:List zaJ)(v4:List ((Bs×Bs)×Unit)):Option (((List (Bs×Bs))×zaQ)):=
 (zvD o v4).bind fun v5=>(zwP v5).bind fun v6=>some (v6.1,v0,v1,v2,v3,v6.2)
def ziI(o:Ops):SC:=⟨⟨[(0,(.ptr 0 0))],[zaN,zaB,zaD,zaC,zaA,.mp true (.pr .s .s) .un]⟩,1,[(none,⟨[(0,(.hc (.pr .s .s)))],[zaN,zaB,zaD,zaC,zaA,.mp true (.pr .s .s) .un]⟩)],fun x=>ziQ o x.1 x.2.1 x.2.2.1 x.2.2.2.1 x.2.2.2.2⟩
theorem zpO:SCok Tryz.prog tabs 45 (ziI o):=zaT (o:=o) (η:=[]) (Γ:=⟨[(127,yiO)],[(125,(zsQ o)),(124,yaR)],false,[]⟩) (ctok ⟨ysJ,trivial⟩ ⟨ybP,⟨yjF,trivial⟩⟩) Tryz.func45
def zgI(o:Ops)(v0:Bs)(v1:List (Bs×Bs)):Option ((List (Bs×Bs))):=
 (o.form ([]:List Bs)).bind fun v2=>(app v1 ([(v0,v2)]:List (Bs×Bs))).bind fun v3=>some v3
def zfP(o:Ops):SC:=⟨⟨[(0,hS),(1,.nils),(2,(.ptr 0 0))],[ytV,.osl (.pr .s .s) 33]⟩,0,[(none,⟨[],[ymP,.dead,.osl (.pr .s .s) 33]⟩)],fun x=>zgI o x.1 x.2⟩
theorem zlE:SCok Tryz.prog tabs 84 (zfP o):=zaT (o:=o) (η:=[(4000000,.sch [(.pu,0,[]),(.pu,1,[]),(.pu,2,[]),(.mn,3,[]),(.pu,4,[]),(.mn,5,[]),(.mn,6,[1]),(.mn,7,[0])])]) (Γ:=⟨[(22,(ztY o))],[],false,[]⟩) (ctok ⟨(ziO.form (G:=tabs)),trivial⟩ trivial) Tryz.func84
def zuT(_o:Ops)(v0:List zaI):Option ((List zaI)):=
 some v0
def zsW(o:Ops):SC:=⟨⟨[(0,(.mpr 0))],[zaC]⟩,1,[(none,⟨[(0,(.fn 273 [] [(.ptr 1 0)]))],[zaC,.blk 124 [(.mpr 0)]]⟩)],fun x=>zuT o x⟩
theorem ycN:SCok Tryz.prog tabs 205 (zsW o):=zaT (o:=o) (η:=[]) (Γ:=⟨[],[],false,[]⟩) (ctok trivial trivial) Tryz.func205
def zzR:SC:=⟨⟨[(0,(.fn 273 [] [(.ptr 0 0)]))],[.blk 124 [(.mpr 1)],zaC]⟩,1,[(none,⟨[(0,(.h (.sl .s)))],[.blk 124 [(.mpr 1)],zaC]⟩)],fun es=>zjZ es⟩
theorem yiQ:SCok Tryz.prog tabs 132 zzR:=wit (G:=tabs)<|zqV (kT:=9) (isFn Tryz.func132) (by kernel_rfl) YtopanhneegpgcaaGreatDoor.sorted273K
def zgK(o:Ops)(_v0:Bs)(v1:zbQ):Option zbQ:=
 (zeX o v1).bind fun v2=>some v2
def zfI(o:Ops):PC:=⟨[hS,(.h ztX)],[ztX],fun x=>zgK o x.1 x.2,false⟩
theorem zlR:PCok Tryz.prog tabs 113 (zfI o):=zcZ (o:=o) (η:=[]) (Γ:=⟨[(105,(zeJ o))],[],false,[]⟩) (ctok ⟨ziR,trivial⟩ trivial) Tryz.func113
def ztW(o:Ops)(v3:((List Bs)×List zaI))(v4:Int)(v5:List zaI)(v6:List zbQ):Option ((Int×(List zaI)×List zbQ)⊕(((List zaI)×List zbQ))):=
 bif decide (v4<(v3.1.length:Int))then((idx v3.1 v4).bind fun v7=>let v8:zbQ:=zfQ keqS v5 v7 (([]:Bs),([]:List Bs))
 (zgK o v7 v8).bind fun v9=>(app v6 ([v9]:List zbQ)).bind fun v10=>some (.inl (w64 (v4+1),v5,v10)))else some (.inr (v5,v6))
def znS(o:Ops)(v0:List zaI):Option (((List zaI)×List zbQ)):=
 (chk (decide ((0:Int)≤(v0.length:Int))&&decide ((v0.length:Int)≤(LIM:Int)))).bind fun _=>(mkL (0:Int) (([]:Bs),([]:List Bs))).bind fun v1=>(zuT o v0).bind fun v2=>(zjZ v2).bind fun v3=>(iter (fun x=>ztW o v3 x.1 x.2.1 x.2.2) ((0:Int),v3.2,v1)).bind fun v11=>some v11
def zlF(o:Ops):SC:=⟨⟨[(0,(.mpr 0)),(1,(.fn 113 [] []))],[zaC]⟩,1,[(none,⟨[(0,(.own 1))],[zaC,.osl ztX 49]⟩)],fun x=>znS o x⟩
theorem zuN:SCok Tryz.prog tabs 112 (zlF o):=zaT (o:=o) (η:=[(200003,.loop [] ⟨[(0,(.mpr 0)),(1,(.fn 113 [] [])),(5,(.own 1)),(15,hI)],[zaC,.osl ztX 49]⟩ [4,13,14] [(some 0,⟨[(5,(.own 1))],[zaC,.osl ztX 49]⟩)])]) (Γ:=⟨[(113,(zfI o))],[(205,(zsW o)),(132,zzR)],false,[]⟩) (ctok ⟨zlR,trivial⟩ ⟨ycN,⟨yiQ,trivial⟩⟩) Tryz.func112
def ziC(o:Ops)(v0:List zaH)(v1:List zaF)(v2:List zaI)(v3:List zaJ)(v4:List ((Bs×Bs)×Unit)):Option (((List zaH)×(List zaF)×(List zaI)×(List zaJ)×(List ((Bs×Bs)×Unit))×List zbQ)):=
 (znS o v2).bind fun v5=>some (v0,v1,v5.1,v3,v4,v5.2)
def zgZ(o:Ops):SC:=⟨⟨[(0,(.ptr 0 0))],[zaN,zaB,zaD,zaC,zaA,.mp true (.pr .s .s) .un]⟩,1,[(none,⟨[(0,(.own 6))],[zaN,zaB,zaD,zaC,zaA,.mp true (.pr .s .s) .un,.osl ztX 49]⟩)],fun x=>ziC o x.1 x.2.1 x.2.2.1 x.2.2.2.1 x.2.2.2.2⟩
theorem zoD:SCok Tryz.prog tabs 40 (zgZ o):=zaT (o:=o) (η:=[]) (Γ:=⟨[],[(112,(zlF o))],false,[]⟩) (ctok trivial ⟨zuN,trivial⟩) Tryz.func40
def zuX(_o:Ops)(v0:List zaH):Option ((List zaH)):=
 some v0
def ztL(o:Ops):SC:=⟨⟨[(0,(.mpr 0))],[zaB]⟩,1,[(none,⟨[(0,(.fn 272 [] [(.ptr 1 0)]))],[zaB,.blk 122 [(.mpr 0)]]⟩)],fun x=>zuX o x⟩
theorem ybQ:SCok Tryz.prog tabs 204 (ztL o):=zaT (o:=o) (η:=[]) (Γ:=⟨[],[],false,[]⟩) (ctok trivial trivial) Tryz.func204
def zzM:SC:=⟨⟨[(0,(.fn 272 [] [(.ptr 0 0)]))],[.blk 122 [(.mpr 1)],zaB]⟩,1,[(none,⟨[(0,(.h (.sl .s)))],[.blk 122 [(.mpr 1)],zaB]⟩)],fun es=>zjZ es⟩
theorem yjB:SCok Tryz.prog tabs 132 zzM:=wit (G:=tabs)<|zqV (kT:=9) (isFn Tryz.func132) (by kernel_rfl) YtopanhneegpgcaaGreatDoor.sorted272K
def zfT(_o:Ops)(_v0:Bs)(v1:zoV):Option zoV:=
 some v1
def zfC(o:Ops):PC:=⟨[hS,(.h ybK)],[ybK],fun x=>zfT o x.1 x.2,false⟩
theorem zlV:PCok Tryz.prog tabs 111 (zfC o):=zcZ (o:=o) (η:=[]) (Γ:=⟨[],[],false,[]⟩) (ctok trivial trivial) Tryz.func111
def ztV(o:Ops)(v3:((List Bs)×List zaH))(v4:Int)(v5:List zaH)(v6:List zoV):Option ((Int×(List zaH)×List zoV)⊕(((List zaH)×List zoV))):=
 bif decide (v4<(v3.1.length:Int))then((idx v3.1 v4).bind fun v7=>let v8:zoV:=zfQ keqS v5 v7 (([]:Bs),([]:Bs),false,(0:Int))
 (zfT o v7 v8).bind fun v9=>(app v6 ([v9]:List zoV)).bind fun v10=>some (.inl (w64 (v4+1),v5,v10)))else some (.inr (v5,v6))
def znO(o:Ops)(v0:List zaH):Option (((List zaH)×List zoV)):=
 (chk (decide ((0:Int)≤(v0.length:Int))&&decide ((v0.length:Int)≤(LIM:Int)))).bind fun _=>(mkL (0:Int) (([]:Bs),([]:Bs),false,(0:Int))).bind fun v1=>(zuX o v0).bind fun v2=>(zjZ v2).bind fun v3=>(iter (fun x=>ztV o v3 x.1 x.2.1 x.2.2) ((0:Int),v3.2,v1)).bind fun v11=>some v11
def zlK(o:Ops):SC:=⟨⟨[(0,(.mpr 0)),(1,(.fn 111 [] []))],[zaB]⟩,1,[(none,⟨[(0,(.own 1))],[zaB,.osl ybK 77]⟩)],fun x=>znO o x⟩
theorem zuP:SCok Tryz.prog tabs 110 (zlK o):=zaT (o:=o) (η:=[(200003,.loop [] ⟨[(0,(.mpr 0)),(1,(.fn 111 [] [])),(5,(.own 1)),(15,hI)],[zaB,.osl ybK 77]⟩ [4,13,14] [(some 0,⟨[(5,(.own 1))],[zaB,.osl ybK 77]⟩)])]) (Γ:=⟨[(111,(zfC o))],[(204,(ztL o)),(132,zzM)],false,[]⟩) (ctok ⟨zlV,trivial⟩ ⟨ybQ,⟨yjB,trivial⟩⟩) Tryz.func110
def ziK(o:Ops)(v0:List zaH)(v1:List zaF)(v2:List zaI)(v3:List zaJ)(v4:List ((Bs×Bs)×Unit)):Option (((List zaH)×(List zaF)×(List zaI)×(List zaJ)×(List ((Bs×Bs)×Unit))×List zoV)):=
 (znO o v0).bind fun v5=>some (v5.1,v1,v2,v3,v4,v5.2)
def zhC(o:Ops):SC:=⟨⟨[(0,(.ptr 0 0))],[zaN,zaB,zaD,zaC,zaA,.mp true (.pr .s .s) .un]⟩,1,[(none,⟨[(0,(.own 6))],[zaN,zaB,zaD,zaC,zaA,.mp true (.pr .s .s) .un,.osl ybK 77]⟩)],fun x=>ziK o x.1 x.2.1 x.2.2.1 x.2.2.2.1 x.2.2.2.2⟩
theorem zoK:SCok Tryz.prog tabs 39 (zhC o):=zaT (o:=o) (η:=[]) (Γ:=⟨[],[(110,(zlK o))],false,[]⟩) (ctok trivial ⟨zuP,trivial⟩) Tryz.func39
def zgH(o:Ops)(v0:Bs)(v1:List Bs)(v2:List (Bs×Bs)):Option (((List Bs)×List (Bs×Bs))):=
 (o.form v1).bind fun v3=>(app v2 ([(v0,v3)]:List (Bs×Bs))).bind fun v4=>some (v1,v4)
def zfH(o:Ops):SC:=⟨⟨[(0,hS),(1,(.own 0)),(2,(.ptr 1 0))],[.osl .s 9,ymP,.osl (.pr .s .s) 33]⟩,0,[(none,⟨[],[.osl .s 9,.blk 31 [(.own 3)],.dead,.osl (.pr .s .s) 33]⟩)],fun x=>zgH o x.1 x.2.1 x.2.2⟩
theorem zlU:SCok Tryz.prog tabs 84 (zfH o):=zaT (o:=o) (η:=[(4000000,.sch [(.pu,0,[]),(.pu,1,[]),(.pu,2,[]),(.mn,3,[]),(.pu,4,[]),(.mn,5,[]),(.mn,6,[2]),(.mn,7,[1])])]) (Γ:=⟨[(22,(ztY o))],[],false,[]⟩) (ctok ⟨(ziO.form (G:=tabs)),trivial⟩ trivial) Tryz.func84
def yhP:SC:=⟨⟨[(0,(.own 0)),(1,(.fn 89 [] []))],[.osl (.pr .s .s) 33]⟩,0,[(none,⟨[],[.osl (.pr .s .s) 33]⟩)],fun(xs:List (Bs×Bs))=>yaB xs⟩
theorem ysX:SCok Tryz.prog tabs 88 yhP:=wit (G:=tabs)<|yqT
def ygH:PC:=⟨[.h (.sl (.pr .s .s))],[(.sl (.pr .s .s))],fun xs=>some xs,true⟩
theorem yqZ:PCok Tryz.prog tabs 91 ygH:=wit (G:=tabs)<|yfU zvC τ_okWkF Tryz.func91 (isFn Tryz.func91) rfl (by kernel_rfl) (fun _=>by kernel_rfl)
def zpV(o:Ops)(v5:((List zaH)×(List zaF)×(List zaI)×(List zaJ)×(List ((Bs×Bs)×Unit))×List zlQ))(v6:Int)(v7:List zaH)(v8:List zaF)(v9:List zaI)(v10:List zaJ)(v11:List ((Bs×Bs)×Unit))(v12:List zlQ)(v13:List (Bs×Bs)):Option ((Int×(List zaH)×(List zaF)×(List zaI)×(List zaJ)×(List ((Bs×Bs)×Unit))×(List zlQ)×List (Bs×Bs))⊕(((List zaH)×(List zaF)×(List zaI)×(List zaJ)×(List ((Bs×Bs)×Unit))×List (Bs×Bs)))):=
 bif decide (v6<(v5.2.2.2.2.2.length:Int))then((chk (decide ((0:Int)≤v6)&&decide (v6<(v12.length:Int)))).bind fun _=>(idx v12 v6).bind fun v14=>(app ([99,108,105,101,110,116,47]:Bs) v14.1).bind fun v15=>(zdJ o v14.2.2.2.2.1).bind fun v16=>(zdJ o v14.2.2.2.2.2.1).bind fun v17=>(app v16 v17).bind fun v18=>(zdJ o v14.2.2.2.2.2.2.1).bind fun v19=>(app v18 v19).bind fun v20=>(zdJ o v14.2.2.2.2.2.2.2).bind fun v21=>(app v20 v21).bind fun v22=>(zcE o v14.2.2.1).bind fun v23=>(zcE o v14.2.2.2.1).bind fun v24=>(zkC o ([([v14.2.1,v22]:List Bs),v23,v24]:List (List Bs))).bind fun v25=>(zcA o v15 v25 v13).bind fun v26=>some (.inl (w64 (v6+1),v7,v8,v9,v10,v11,v12,v26)))else some (.inr (v7,v8,v9,v10,v11,v13))
def zpL(o:Ops)(v28:((List zaH)×(List zaF)×(List zaI)×(List zaJ)×(List ((Bs×Bs)×Unit))×List zzH))(v29:Int)(v30:List zaH)(v31:List zaF)(v32:List zaI)(v33:List zaJ)(v34:List ((Bs×Bs)×Unit))(v35:List zzH)(v36:List (Bs×Bs)):Option ((Int×(List zaH)×(List zaF)×(List zaI)×(List zaJ)×(List ((Bs×Bs)×Unit))×(List zzH)×List (Bs×Bs))⊕(((List zaH)×(List zaF)×(List zaI)×(List zaJ)×(List ((Bs×Bs)×Unit))×List (Bs×Bs)))):=
 bif decide (v29<(v28.2.2.2.2.2.length:Int))then((chk (decide ((0:Int)≤v29)&&decide (v29<(v35.length:Int)))).bind fun _=>(idx v35 v29).bind fun v37=>(app ([103,114,111,117,112,47]:Bs) v37.1).bind fun v38=>(o.itoa v37.2.2.2.2).bind fun v39=>(zcE o v37.2.1).bind fun v40=>(zcE o v37.2.2.1).bind fun v41=>(zcE o v37.2.2.2.1).bind fun v42=>(zkC o ([([v39]:List Bs),v40,v41,v42]:List (List Bs))).bind fun v43=>(zcA o v38 v43 v36).bind fun v44=>some (.inl (w64 (v29+1),v30,v31,v32,v33,v34,v35,v44)))else some (.inr (v30,v31,v32,v33,v34,v36))
def zpB(o:Ops)(v46:((List (Bs×Bs))×zaQ))(v47:Int)(v48:List zaH)(v49:List zaF)(v50:List zaI)(v51:List zaJ)(v52:List ((Bs×Bs)×Unit))(v53:List (Bs×Bs)):Option ((Int×(List zaH)×(List zaF)×(List zaI)×(List zaJ)×(List ((Bs×Bs)×Unit))×List (Bs×Bs))⊕(((List zaH)×(List zaF)×(List zaI)×(List zaJ)×(List ((Bs×Bs)×Unit))×List (Bs×Bs)))):=
 bif decide (v47<(v46.1.length:Int))then((idx v46.1 v47).bind fun v54=>(app ([109,97,121,47]:Bs) v54.1).bind fun v55=>(app v55 ([124]:Bs)).bind fun v56=>(app v56 v54.2).bind fun v57=>(zgI o v57 v53).bind fun v58=>some (.inl (w64 (v47+1),v48,v49,v50,v51,v52,v58)))else some (.inr (v48,v49,v50,v51,v52,v53))
def zpE(o:Ops)(v60:((List zaH)×(List zaF)×(List zaI)×(List zaJ)×(List ((Bs×Bs)×Unit))×List zbQ))(v61:Int)(v62:List zaH)(v63:List zaF)(v64:List zaI)(v65:List zaJ)(v66:List ((Bs×Bs)×Unit))(v67:List zbQ)(v68:List (Bs×Bs)):Option ((Int×(List zaH)×(List zaF)×(List zaI)×(List zaJ)×(List ((Bs×Bs)×Unit))×(List zbQ)×List (Bs×Bs))⊕(((List zaH)×(List zaF)×(List zaI)×(List zaJ)×(List ((Bs×Bs)×Unit))×List (Bs×Bs)))):=
 bif decide (v61<(v60.2.2.2.2.2.length:Int))then((chk (decide ((0:Int)≤v61)&&decide (v61<(v67.length:Int)))).bind fun _=>(idx v67 v61).bind fun v69=>(app ([114,111,108,101,47]:Bs) v69.1).bind fun v70=>(zcE o v69.2).bind fun v71=>(zcA o v70 v71 v68).bind fun v72=>some (.inl (w64 (v61+1),v62,v63,v64,v65,v66,v67,v72)))else some (.inr (v62,v63,v64,v65,v66,v68))
def zpJ(o:Ops)(v74:((List zaH)×(List zaF)×(List zaI)×(List zaJ)×(List ((Bs×Bs)×Unit))×List zoV))(v75:Int)(v76:List zaH)(v77:List zaF)(v78:List zaI)(v79:List zaJ)(v80:List ((Bs×Bs)×Unit))(v81:List zoV)(v82:List (Bs×Bs)):Option ((Int×(List zaH)×(List zaF)×(List zaI)×(List zaJ)×(List ((Bs×Bs)×Unit))×(List zoV)×List (Bs×Bs))⊕(((List zaH)×(List zaF)×(List zaI)×(List zaJ)×(List ((Bs×Bs)×Unit))×List (Bs×Bs)))):=
 bif decide (v75<(v74.2.2.2.2.2.length:Int))then((chk (decide ((0:Int)≤v75)&&decide (v75<(v81.length:Int)))).bind fun _=>(idx v81 v75).bind fun v83=>(app ([117,115,101,114,47]:Bs) v83.1).bind fun v84=>(zdJ o v83.2.2.1).bind fun v85=>(o.itoa v83.2.2.2).bind fun v86=>(zgH o v84 ([v83.2.1,v85,v86]:List Bs) v82).bind fun v87=>some (.inl (w64 (v75+1),v76,v77,v78,v79,v80,v81,v87.2)))else some (.inr (v76,v77,v78,v79,v80,v82))
def zcR(o:Ops)(v0:List zaH)(v1:List zaF)(v2:List zaI)(v3:List zaJ)(v4:List ((Bs×Bs)×Unit)):Option (((List (Bs×Bs))×zaQ)):=
 (zgA o v0 v1 v2 v3 v4).bind fun v5=>(iter (fun x=>zpV o v5 x.1 x.2.1 x.2.2.1 x.2.2.2.1 x.2.2.2.2.1 x.2.2.2.2.2.1 x.2.2.2.2.2.2.1 x.2.2.2.2.2.2.2) ((0:Int),v5.1,v5.2.1,v5.2.2.1,v5.2.2.2.1,v5.2.2.2.2.1,v5.2.2.2.2.2,([]:List (Bs×Bs)))).bind fun v27=>(zgV o v27.1 v27.2.1 v27.2.2.1 v27.2.2.2.1 v27.2.2.2.2.1).bind fun v28=>(iter (fun x=>zpL o v28 x.1 x.2.1 x.2.2.1 x.2.2.2.1 x.2.2.2.2.1 x.2.2.2.2.2.1 x.2.2.2.2.2.2.1 x.2.2.2.2.2.2.2) ((0:Int),v28.1,v28.2.1,v28.2.2.1,v28.2.2.2.1,v28.2.2.2.2.1,v28.2.2.2.2.2,v27.2.2.2.2.2)).bind fun v45=>(ziQ o v45.1 v45.2.1 v45.2.2.1 v45.2.2.2.1 v45.2.2.2.2.1).bind fun v46=>(iter (fun x=>zpB o v46 x.1 x.2.1 x.2.2.1 x.2.2.2.1 x.2.2.2.2.1 x.2.2.2.2.2.1 x.2.2.2.2.2.2) ((0:Int),v46.2.1,v46.2.2.1,v46.2.2.2.1,v46.2.2.2.2.1,v46.2.2.2.2.2,v45.2.2.2.2.2)).bind fun v59=>(ziC o v59.1 v59.2.1 v59.2.2.1 v59.2.2.2.1 v59.2.2.2.2.1).bind fun v60=>(iter (fun x=>zpE o v60 x.1 x.2.1 x.2.2.1 x.2.2.2.1 x.2.2.2.2.1 x.2.2.2.2.2.1 x.2.2.2.2.2.2.1 x.2.2.2.2.2.2.2) ((0:Int),v60.1,v60.2.1,v60.2.2.1,v60.2.2.2.1,v60.2.2.2.2.1,v60.2.2.2.2.2,v59.2.2.2.2.2)).bind fun v73=>(ziK o v73.1 v73.2.1 v73.2.2.1 v73.2.2.2.1 v73.2.2.2.2.1).bind fun v74=>(iter (fun x=>zpJ o v74 x.1 x.2.1 x.2.2.1 x.2.2.2.1 x.2.2.2.2.1 x.2.2.2.2.2.1 x.2.2.2.2.2.2.1 x.2.2.2.2.2.2.2) ((0:Int),v74.1,v74.2.1,v74.2.2.1,v74.2.2.2.1,v74.2.2.2.2.1,v74.2.2.2.2.2,v73.2.2.2.2.2)).bind fun v88=>(yaB v88.2.2.2.2.2).bind fun v89=>some (v89,v88.1,v88.2.1,v88.2.2.1,v88.2.2.2.1,v88.2.2.2.2.1)
def zhU(o:Ops):SC:=⟨⟨[(0,(.ptr 0 0))],[zaN,zaB,zaD,zaC,zaA,.mp true (.pr .s .s) .un]⟩,1,[(none,⟨[(0,(.hc (.pr .s .s)))],[zaN,zaB,zaD,zaC,zaA,.mp true (.pr .s .s) .un]⟩)],fun x=>zcR o x.1 x.2.1 x.2.2.1 x.2.2.2.1 x.2.2.2.2⟩
theorem zpM:SCok Tryz.prog tabs 29 (zhU o):=zaT (o:=o) (η:=[(200004,.loop [.cell 3 0 (.pr .s .s) 33] ⟨[(0,(.ptr 0 0)),(3,(.ptr 6 0)),(4,(.fn 84 [] [(.ptr 6 0)])),(17,(.own 7)),(19,hI)],[zaN,zaB,zaD,zaC,zaA,.mp true (.pr .s .s) .un,ygK,.osl ztZ 51,.osl (.pr .s .s) 33]⟩ [2,18] [(some 0,⟨[(0,(.ptr 0 0)),(3,(.ptr 6 0)),(4,(.fn 84 [] [(.ptr 6 0)]))],[zaN,zaB,zaD,zaC,zaA,.mp true (.pr .s .s) .un,zzU,.osl (.pr .s .s) 33]⟩)]),
 (200009,.loop [] ⟨[(0,(.ptr 0 0)),(3,(.ptr 6 0)),(4,(.fn 84 [] [(.ptr 6 0)])),(56,(.own 7)),(58,hI)],[zaN,zaB,zaD,zaC,zaA,.mp true (.pr .s .s) .un,ygK,.osl yiT 57,.osl (.pr .s .s) 33]⟩ [2,57] [(some 2,⟨[(0,(.ptr 0 0)),(3,(.ptr 6 0)),(4,(.fn 84 [] [(.ptr 6 0)]))],[zaN,zaB,zaD,zaC,zaA,.mp true (.pr .s .s) .un,zzU,.osl (.pr .s .s) 33]⟩)]),
 (200014,.loop [] ⟨[(0,(.ptr 0 0)),(3,(.ptr 6 0)),(4,(.fn 84 [] [(.ptr 6 0)])),(86,hI)],[zaN,zaB,zaD,zaC,zaA,.mp true (.pr .s .s) .un,zzU,.osl (.pr .s .s) 33]⟩ [2,84,85] [(some 4,⟨[(0,(.ptr 0 0)),(3,(.ptr 6 0)),(4,(.fn 84 [] [(.ptr 6 0)]))],[zaN,zaB,zaD,zaC,zaA,.mp true (.pr .s .s) .un,zzU,.osl (.pr .s .s) 33]⟩)]),
 (200019,.loop [] ⟨[(0,(.ptr 0 0)),(3,(.ptr 6 0)),(4,(.fn 84 [] [(.ptr 6 0)])),(101,(.own 7)),(103,hI)],[zaN,zaB,zaD,zaC,zaA,.mp true (.pr .s .s) .un,ygK,.osl ztX 49,.osl (.pr .s .s) 33]⟩ [2,102] [(some 6,⟨[(0,(.ptr 0 0)),(3,(.ptr 6 0)),(4,(.fn 84 [] [(.ptr 6 0)]))],[zaN,zaB,zaD,zaC,zaA,.mp true (.pr .s .s) .un,zzU,.osl (.pr .s .s) 33]⟩)]),
 (200024,.loop [] ⟨[(3,(.ptr 6 0)),(4,(.fn 84 [] [(.ptr 6 0)])),(117,(.own 7)),(119,hI)],[zaN,zaB,zaD,zaC,zaA,.mp true (.pr .s .s) .un,ygK,.osl ybK 77,.osl (.pr .s .s) 33]⟩ [2,118] [(some 8,⟨[(3,(.ptr 6 0))],[zaN,zaB,zaD,zaC,zaA,.mp true (.pr .s .s) .un,zzU,.osl (.pr .s .s) 33]⟩)]),
 (4000006,.sch [(.pu,0,[10,11]),(.pu,1,[10,11]),(.pu,2,[10,11]),(.pu,3,[10,11]),(.pu,4,[]),(.pu,5,[]),(.pu,6,[]),(.pu,7,[]),(.pu,9,[]),(.pu,10,[]),(.pu,13,[]),(.pu,14,[]),(.pu,17,[]),(.pu,18,[]),(.pu,22,[]),(.pu,23,[]),(.pu,25,[]),(.pu,26,[]),(.mn,8,[]),(.mn,11,[]),(.pu,12,[]),(.mn,15,[]),(.pu,16,[]),(.mn,19,[]),(.pu,20,[]),(.la,21,[]),(.mn,24,[]),(.mn,27,[]),(.rv,21,[]),(.mn,28,[10]),(.mn,29,[11]),(.mn,30,[6,8])]),
 (4000011,.sch [(.pu,0,[10,11]),(.pu,1,[10,11]),(.pu,2,[10,11]),(.pu,3,[10,11]),(.pu,4,[]),(.pu,5,[]),(.pu,8,[]),(.pu,9,[]),(.pu,11,[]),(.pu,12,[]),(.pu,14,[]),(.pu,15,[]),(.mn,6,[]),(.la,7,[]),(.mn,10,[]),(.mn,13,[]),(.mn,16,[]),(.rv,7,[]),(.mn,17,[10]),(.mn,18,[11]),(.mn,19,[6,8])]),
 (4000021,.sch [(.pu,0,[]),(.pu,1,[]),(.pu,2,[]),(.pu,3,[]),(.pu,4,[]),(.pu,5,[]),(.mn,6,[]),(.mn,7,[6,8])]),
 (4000026,.sch [(.pu,0,[]),(.pu,1,[]),(.pu,2,[]),(.pu,3,[]),(.pu,4,[]),(.pu,5,[]),(.pu,6,[]),(.pu,7,[]),(.pu,9,[]),(.pu,10,[]),(.mn,8,[]),(.mn,11,[]),(.mn,12,[]),(.mn,13,[6,8,10])])]) (Γ:=⟨[(86,(zqU o)),(87,(znQ o)),(85,(znF o)),(68,(ygA o)),(91,ygH)],[(84,(zfP o)),(38,(zfJ o)),(84,(zfB o)),(32,(zfS o)),(45,(ziI o)),(40,(zgZ o)),(39,(zhC o)),(84,(zfH o)),(88,yhP)],false,[]⟩) (ctok ⟨zxU,⟨zvH,⟨zvG,⟨(ziO.itoa (G:=tabs)),⟨yqZ,trivial⟩⟩⟩⟩⟩ ⟨zlE,⟨zmD,⟨zlO,⟨zmX,⟨zpO,⟨zoD,⟨zoK,⟨zlU,⟨ysX,trivial⟩⟩⟩⟩⟩⟩⟩⟩⟩) Tryz.func29
def zdI(o:Ops)(v0:Bs):Option ((Int×Bool)⊕Unit):=
 bif(v0==([]:Bs))then some (.inl ((0:Int),false))else(bif decide ((v0.length:Int)>15)then some (.inl ((0:Int),false))else((idx v0 (0:Int)).bind fun v1=>bif((v1.toNat:Int)==((48:UInt8).toNat:Int))then(bif(v0 != ([48]:Bs))then some (.inl ((0:Int),false))else((o.trim v0 ([48,49,50,51,52,53,54,55,56,57]:Bs)).bind fun v2=>bif(v2 != ([]:Bs))then some (.inl ((0:Int),false))else some (.inr ())))else((o.trim v0 ([48,49,50,51,52,53,54,55,56,57]:Bs)).bind fun v3=>bif(v3 != ([]:Bs))then some (.inl ((0:Int),false))else some (.inr ()))))
def zbP(o:Ops)(v0:Bs):Option (Int×Bool):=
 (zdI o v0).bind fun v4=>match v4 with
 |.inl v5=>(some v5)
 |.inr _v6=>((o.atoi v0).bind fun v7=>some (v7.1,(!v7.2)))
def zeS(o:Ops):PC:=⟨[hS],[(.i .i64),.b],fun x=>zbP o x,false⟩
theorem ziN:PCok Tryz.prog tabs 60 (zeS o):=zcZ (o:=o) (η:=[(2000003,.join [] [0] [(some 1000000,⟨[(2,hI),(3,hB)],[]⟩),(none,⟨[],[]⟩)]),
 (4000004,.sch [(.pu,0,[]),(.pu,1,[]),(.pu,2,[]),(.pu,3,[]),(.pu,4,[])])]) (Γ:=⟨[(164,(ycH o)),(165,(ylN o))],[],false,[]⟩) (ctok ⟨(ziO.trim (G:=tabs)),⟨(ziO.atoi (G:=tabs)),trivial⟩⟩ trivial) Tryz.func60
def zeR(_o:Ops)(v2:List Bs)(v3:Bs×Bs×Bool)(v4:Int×Bool):Option (Bool⊕List Bs):=
 bif(!v3.2.2)then some (.inl false)else(bif(!v4.2)then some (.inl false)else(bif decide (v4.1>(v3.2.1.length:Int))then some (.inl false)else some (.inr v2)))
def zcT(o:Ops)(v1:Bs)(v2:List Bs):Option (zbQ⊕(Bool⊕List Bs)):=
 bif(v1 != ([]:Bs))then((o.cut v1 ([58]:Bs)).bind fun v3=>(zbP o v3.1).bind fun v4=>(zeR o v2 v3 v4).bind fun v5=>match v5 with
 |.inl v6=>some (.inr (.inl v6))
 |.inr v7=>((subH v3.2.1 v4.1).bind fun v8=>(app v7 ([v8]:List Bs)).bind fun v9=>(subL v3.2.1 v4.1).bind fun v10=>some (.inl (v10,v9))))else some (.inr (.inr v2))
def zcC(o:Ops)(v0:Bs):Option zuQ:=
 (iter (fun x=>zcT o x.1 x.2) (v0,([]:List Bs))).bind fun v11=>match v11 with
 |.inl v12=>(some (([]:List Bs),v12))
 |.inr v13=>(some (v13,true))
def zqH(o:Ops):PC:=⟨[hS],[(.sl .s),.b],fun x=>zcC o x,false⟩
theorem zyB:PCok Tryz.prog tabs 11 (zqH o):=zcZ (o:=o) (η:=[(2000007,.join [] [6,8] [(some 1000000,⟨[(2,.nils),(3,hB)],[]⟩),(none,⟨[(4,(.own 0))],[.osl .s 9]⟩)]),
 (200002,.loop [.sl 4 .s 9] ⟨[(0,hS),(4,(.own 0))],[.osl .s 9]⟩ [] [(some 1000000,⟨[(2,.nils),(3,hB)],[]⟩),(some 0,⟨[(4,(.own 0))],[.osl .s 9]⟩)])]) (Γ:=⟨[(59,(ygJ o)),(60,(zeS o)),(61,zqD)],[],false,[]⟩) (ctok ⟨(ziO.cut (G:=tabs)),⟨ziN,⟨zrW,trivial⟩⟩⟩ trivial) Tryz.func11
def zwD(_o:Ops)(v2:List Bs)(v3:Bs×Bs×Bool)(v4:Int×Bool):Option (Bool⊕List Bs):=
 bif(!v3.2.2)then some (.inl false)else(bif(!v4.2)then some (.inl false)else(bif decide (v4.1>(v3.2.1.length:Int))then some (.inl false)else some (.inr v2)))
def zvY(o:Ops)(v1:Bs)(v2:List Bs):Option (zbQ⊕(Bool⊕List Bs)):=
 bif(v1 != ([]:Bs))then((o.cut v1 ([58]:Bs)).bind fun v3=>(zbP o v3.1).bind fun v4=>(zwD o v2 v3 v4).bind fun v5=>match v5 with
 |.inl v6=>some (.inr (.inl v6))
 |.inr v7=>((subH v3.2.1 v4.1).bind fun v8=>(app v7 ([v8]:List Bs)).bind fun v9=>(subL v3.2.1 v4.1).bind fun v10=>some (.inl (v10,v9))))else some (.inr (.inr v2))
def zrS(o:Ops)(v0:Bs):Option (zuQ):=
 (iter (fun x=>zvY o x.1 x.2) (v0,([]:List Bs))).bind fun v11=>match v11 with
 |.inl v12=>some (([]:List Bs),v12)
 |.inr v13=>some (v13,true)
def zpR(o:Ops):SC:=⟨⟨[(0,hS)],[]⟩,2,[(none,⟨[(0,(.h (.sl .s))),(1,hB)],[]⟩)],fun x=>zrS o x⟩
theorem zyC:SCok Tryz.prog tabs 11 (zpR o):=zaT (o:=o) (η:=[(2000007,.join [] [6,8] [(some 1000000,⟨[(2,.nils),(3,hB)],[]⟩),(none,⟨[(4,(.own 0))],[.osl .s 9]⟩)]),
 (200002,.loop [.sl 4 .s 9] ⟨[(0,hS),(4,(.own 0))],[.osl .s 9]⟩ [] [(some 1000000,⟨[(2,.nils),(3,hB)],[]⟩),(some 0,⟨[(4,(.own 0))],[.osl .s 9]⟩)])]) (Γ:=⟨[(59,(ygJ o)),(60,(zeS o)),(61,zqD)],[],false,[]⟩) (ctok ⟨(ziO.cut (G:=tabs)),⟨ziN,⟨zrW,trivial⟩⟩⟩ trivial) Tryz.func11
def zbG(_o:Ops)(v0:List Bs)(v1:Bool):Option ((Bs×zuQ)):=
 bif((v0.length:Int)==0)then some (([]:Bs),v0,true)else((idx v0 (0:Int)).bind fun v2=>(subL v0 (1:Int)).bind fun v3=>some (v2,v3,v1))
def zeA(o:Ops):SC:=⟨⟨[(0,(.ptr 0 0))],[zrX]⟩,1,[(none,⟨[(0,hS)],[zrX]⟩)],fun x=>zbG o x.1 x.2⟩
theorem ziE:SCok Tryz.prog tabs 169 (zeA o):=zaT (o:=o) (η:=[]) (Γ:=⟨[],[],false,[]⟩) (ctok trivial trivial) Tryz.func169
def zbF(_o:Ops)(v0:Bs)(v1:List Bs)(v2:Bool):Option ((Bool×zuQ)):=
 bif v2 then some ((v0==([49]:Bs)),v1,true)else(bif(v0 != ([48]:Bs))then some ((v0==([49]:Bs)),v1,(v0 != ([49]:Bs)))else some ((v0==([49]:Bs)),v1,false))
def zhQ(o:Ops):SC:=⟨⟨[(0,(.ptr 0 0)),(1,hS)],[zrX]⟩,1,[(none,⟨[(0,hB)],[zrX]⟩)],fun x=>zbF o x.1 x.2.1 x.2.2⟩
theorem zpD:SCok Tryz.prog tabs 170 (zhQ o):=zaT (o:=o) (η:=[]) (Γ:=⟨[],[],false,[]⟩) (ctok trivial trivial) Tryz.func170
def zdN(o:Ops)(v0:List Bs)(v1:Bool):Option ((Int×zuQ)):=
 (zbG o v0 v1).bind fun v2=>(zbP o v2.1).bind fun v3=>bif v2.2.2 then some (v3.1,v2.2.1,true)else some (v3.1,v2.2.1,(!v3.2))
def zdE(o:Ops):SC:=⟨⟨[(0,(.ptr 0 0))],[zrX]⟩,1,[(none,⟨[(0,hI)],[zrX]⟩)],fun x=>zdN o x.1 x.2⟩
theorem zgB:SCok Tryz.prog tabs 243 (zdE o):=zaT (o:=o) (η:=[]) (Γ:=⟨[(60,(zeS o))],[(169,(zeA o))],false,[]⟩) (ctok ⟨ziN,trivial⟩ ⟨ziE,trivial⟩) Tryz.func243
def zpQ(_o:Ops)(v2:(Int×zuQ)):Option (zuQ⊕zuQ):=
 bif v2.2.2 then some (.inl (v2.2.1,true))else(bif decide (v2.1>(v2.2.1.length:Int))then some (.inl (v2.2.1,true))else some (.inr v2.2))
def zbY(o:Ops)(v0:List Bs)(v1:Bool):Option (((List Bs)×zuQ)):=
 (zdN o v0 v1).bind fun v2=>(zpQ o v2).bind fun v3=>match v3 with
 |.inl v4=>some (([]:List Bs),v4)
 |.inr v5=>((subH v5.1 v2.1).bind fun v6=>(app ([]:List Bs) v6).bind fun v7=>(subL v5.1 v2.1).bind fun v8=>some (v7,v8,v5.2))
def zhY(o:Ops):SC:=⟨⟨[(0,(.ptr 0 0))],[zrX]⟩,1,[(none,⟨[(0,(.h (.sl .s)))],[zrX]⟩)],fun x=>zbY o x.1 x.2⟩
theorem zqO:SCok Tryz.prog tabs 171 (zhY o):=zaT (o:=o) (η:=[(2000005,.join [] [3] [(some 1000000,⟨[(2,.nils)],[zrX]⟩),(none,⟨[(0,(.ptr 0 0))],[zrX]⟩)])]) (Γ:=⟨[],[(243,(zdE o)),(198,zqY)],false,[]⟩) (ctok trivial ⟨zgB,⟨ztJ,trivial⟩⟩) Tryz.func171
def zwA(o:Ops)(v0:List Bs)(v2:Int):Option (Int⊕(Bool⊕Unit)):=
 bif decide (v2<(v0.length:Int))then((idx v0 v2).bind fun v3=>(zjD o v3).bind fun v4=>bif(!v4)then some (.inr (.inl false))else(bif decide (v2>0)then((idx v0 (w64 (v2-1))).bind fun v5=>bif(Op.bytesLess v3 v5||v3==v5)then some (.inr (.inl false))else some (.inl (w64 (v2+1))))else some (.inl (w64 (v2+1)))))else some (.inr (.inr ()))
def zqQ(o:Ops)(v0:List Bs)(v1:Int):Option (Bool):=
 (iter (zwA o v0) (0:Int)).bind fun v6=>match v6 with
 |.inl v7=>some v7
 |.inr _v8=>some (decide ((v0.length:Int)≤v1))
def znL(o:Ops):SC:=⟨⟨[(0,(.h (.sl .s))),(1,hI),(2,(.fn 15 [] []))],[]⟩,1,[(none,⟨[(0,hB)],[]⟩)],fun x=>zqQ o x.1 x.2⟩
theorem zvX:SCok Tryz.prog tabs 174 (znL o):=zaT (o:=o) (η:=[(200002,.loop [] ⟨[(2,(.fn 15 [] [])),(11,hI)],[]⟩ [0,1,9,10] [(some 1000000,⟨[(6,hB)],[]⟩),(some 0,⟨[],[]⟩)])]) (Γ:=⟨[(15,(zhO o))],[],false,[]⟩) (ctok ⟨zlB,trivial⟩ trivial) Tryz.func174
def zwC(o:Ops)(v0:zlQ):Option ((Bool×zlQ)):=
 bif(v0.2.1==([]:Bs))then some (true,v0)else(bif((v0.2.1.length:Int)==64)then((o.trim v0.2.1 ([48,49,50,51,52,53,54,55,56,57,97,98,99,100,101,102]:Bs)).bind fun v1=>some ((v1==([]:Bs)),v0))else some (false,v0))
def zqR(o:Ops)(v0:zlQ):Option (Bool):=
 (zwC o v0).bind fun v2=>(zaW o v2.2.1).bind fun v3=>bif v3 then(bif v2.1 then((zqQ o v2.2.2.2.1 (16:Int)).bind fun v4=>bif v4 then((zkV o v2.2.2.2.2.1 (16:Int)).bind fun v5=>some v5)else(some false))else(some false))else(some false)
def znN(o:Ops):PC:=⟨[(.h ztZ)],[.b],fun x=>zqR o x,false⟩
theorem zvN:PCok Tryz.prog tabs 106 (znN o):=zcZ (o:=o) (η:=[(2000002,.join [] [] [(none,⟨[(1,(.ptr 0 0)),(3,hB)],[.blk 51 [hS,hS,(.h (.sl .s)),(.h (.sl .s)),hB,hB,hB,hB]]⟩)])]) (Γ:=⟨[(164,(ycH o)),(13,(zbD o))],[(174,(znL o)),(174,(zjU o))],false,[]⟩) (ctok ⟨(ziO.trim (G:=tabs)),⟨zbM,trivial⟩⟩ ⟨zvX,⟨zpW,trivial⟩⟩) Tryz.func106
def zdB(o:Ops)(v0:List Bs)(v1:Bool):Option ((Int×zuQ)):=
 (zdN o v0 v1).bind fun v2=>bif v2.2.2 then some (v2.1,v2.2.1,true)else(bif decide (v2.1<1)then some (v2.1,v2.2.1,true)else some (v2.1,v2.2.1,decide (v2.1>1099511627776)))
def zfG(o:Ops):SC:=⟨⟨[(0,(.ptr 0 0))],[zrX]⟩,1,[(none,⟨[(0,hI)],[zrX]⟩)],fun x=>zdB o x.1 x.2⟩
theorem zmA:SCok Tryz.prog tabs 172 (zfG o):=zaT (o:=o) (η:=[]) (Γ:=⟨[],[(243,(zdE o))],false,[]⟩) (ctok trivial ⟨zgB,trivial⟩) Tryz.func172
def zkU(_o:Ops)(v1:List zaH)(v2:List zaF)(v3:List zaI)(v4:List zaJ)(v5:List ((Bs×Bs)×Unit))(v6:zuQ)(v7:Bs×Bs×Bool):Option ((Bool×zaQ)⊕zaQ):=
 bif(!v6.2)then some (.inl (false,v1,v2,v3,v4,v5))else(bif(!v7.2.2)then some (.inl (false,v1,v2,v3,v4,v5))else some (.inr (v1,v2,v3,v4,v5)))
def zkX(o:Ops)(v26:Int)(v27:List zaH)(v28:List zaF)(v29:List zaI)(v30:List zaJ)(v31:List ((Bs×Bs)×Unit))(v32:List Bs)(v33:Bool)(v34:List Bs)(v35:List Bs)(v36:List Bs)(v37:Int):Option ((Int×(List zaH)×(List zaF)×(List zaI)×(List zaJ)×(List ((Bs×Bs)×Unit))×(List Bs)×Bool×(List Bs)×(List Bs)×(List Bs)×Int)⊕(((List zaH)×(List zaF)×(List zaI)×(List zaJ)×(List ((Bs×Bs)×Unit))×(List Bs)×Bool×(List Bs)×(List Bs)×(List Bs)×Int))):=
 bif decide (v26<3)then((zbY o v32 v33).bind fun v38=>bif decide (v26=(0:Int))then some (.inl (w64 (v26+1),v27,v28,v29,v30,v31,v38.2.1,v38.2.2,v38.1,v35,v36,v37))else(bif decide (v26=(1:Int))then some (.inl (w64 (v26+1),v27,v28,v29,v30,v31,v38.2.1,v38.2.2,v34,v38.1,v36,v37))else(bif decide (v26=(2:Int))then some (.inl (w64 (v26+1),v27,v28,v29,v30,v31,v38.2.1,v38.2.2,v34,v35,v38.1,v37))else none)))else some (.inr (v27,v28,v29,v30,v31,v32,v33,v34,v35,v36,v37))
def zkR(o:Ops)(v6:zuQ)(v7:Bs×Bs×Bool)(v10:zaQ):Option ((Bool×zaQ)⊕(Bool×(List zaH)×(List zaF)×(List zaI)×(List zaJ)×(List ((Bs×Bs)×Unit))×zuQ)):=
 bif(v7.1==([99,108,105,101,110,116]:Bs))then((zbG o v6.1 false).bind fun v11=>(zbG o v11.2.1 v11.2.2).bind fun v12=>bif((v12.1.length:Int) != 4)then some (.inl (false,v10))else((subH v12.1 (1:Int)).bind fun v13=>(sub3 v12.1 (1:Int) (2:Int)).bind fun v14=>(sub3 v12.1 (2:Int) (3:Int)).bind fun v15=>(subL v12.1 (3:Int)).bind fun v16=>(zbF o v13 v12.2.1 v12.2.2).bind fun v17=>(zbF o v14 v17.2.1 v17.2.2).bind fun v18=>(zbF o v15 v18.2.1 v18.2.2).bind fun v19=>(zbF o v16 v19.2.1 v19.2.2).bind fun v20=>(zbY o v20.2.1 v20.2.2).bind fun v21=>(zbY o v21.2.1 v21.2.2).bind fun v22=>let v23:List zaJ:=mset keqS kltS v10.2.2.2.1 v7.2.1 (v7.2.1,v11.1,v21.1,v22.1,v17.1,v18.1,v19.1,v20.1)
 (zqR o (v7.2.1,v11.1,v21.1,v22.1,v17.1,v18.1,v19.1,v20.1)).bind fun v24=>some (.inr (v24,v10.1,v10.2.1,v10.2.2.1,v23,v10.2.2.2.2,v22.2))))else(bif(v7.1==([103,114,111,117,112]:Bs))then((zdB o v6.1 false).bind fun v25=>(iter (fun x=>zkX o x.1 x.2.1 x.2.2.1 x.2.2.2.1 x.2.2.2.2.1 x.2.2.2.2.2.1 x.2.2.2.2.2.2.1 x.2.2.2.2.2.2.2.1 x.2.2.2.2.2.2.2.2.1 x.2.2.2.2.2.2.2.2.2.1 x.2.2.2.2.2.2.2.2.2.2.1 x.2.2.2.2.2.2.2.2.2.2.2) ((0:Int),v10.1,v10.2.1,v10.2.2.1,v10.2.2.2.1,v10.2.2.2.2,v25.2.1,v25.2.2,([]:List Bs),([]:List Bs),([]:List Bs),v25.1)).bind fun v39=>let v40:List zaF:=mset keqS kltS v39.2.1 v7.2.1 ((v39.2.2.2.2.2.2.2.1,v39.2.2.2.2.2.2.2.2.1,v39.2.2.2.2.2.2.2.2.2.1),v39.2.2.2.2.2.2.2.2.2.2)
 (zaW o v7.2.1).bind fun v41=>some (.inr (v41,v39.1,v40,v39.2.2.1,v39.2.2.2.1,v39.2.2.2.2.1,v39.2.2.2.2.2.1,v39.2.2.2.2.2.2.1)))else(bif(v7.1==([109,97,121]:Bs))then((o.cut v7.2.1 ([124]:Bs)).bind fun v42=>let v43:List ((Bs×Bs)×Unit):=mset (keq (.pr .s .s)) (klt (.pr .s .s)) v10.2.2.2.2 (v42.1,v42.2.1) ()
 bif v42.2.2 then((zdT o v42.1).bind fun v44=>bif v44 then((zdT o v42.2.1).bind fun v45=>some (.inr (v45,v10.1,v10.2.1,v10.2.2.1,v10.2.2.2.1,v43,v6.1,false)))else some (.inr (false,v10.1,v10.2.1,v10.2.2.1,v10.2.2.2.1,v43,v6.1,false)))else some (.inr (false,v10.1,v10.2.1,v10.2.2.1,v10.2.2.2.1,v43,v6.1,false)))else(bif(v7.1==([114,111,108,101]:Bs))then((zbY o v6.1 false).bind fun v46=>let v47:List zaI:=mset keqS kltS v10.2.2.1 v7.2.1 (v7.2.1,v46.1)
 (zmM o (v7.2.1,v46.1)).bind fun v48=>some (.inr (v48,v10.1,v10.2.1,v47,v10.2.2.2.1,v10.2.2.2.2,v46.2)))else(bif(v7.1==([117,115,101,114]:Bs))then((zbG o v6.1 false).bind fun v49=>(zbG o v49.2.1 v49.2.2).bind fun v50=>(zbF o v50.1 v50.2.1 v50.2.2).bind fun v51=>(zdB o v51.2.1 v51.2.2).bind fun v52=>let v53:List zaH:=mset keqS kltS v10.1 v7.2.1 (v7.2.1,v49.1,v51.1,v52.1)
 (zaW o v7.2.1).bind fun v54=>bif v54 then((zjD o v49.1).bind fun v55=>some (.inr (v55,v53,v10.2.1,v10.2.2.1,v10.2.2.2.1,v10.2.2.2.2,v52.2)))else some (.inr (false,v53,v10.2.1,v10.2.2.1,v10.2.2.2.1,v10.2.2.2.2,v52.2)))else some (.inr (false,v10.1,v10.2.1,v10.2.2.1,v10.2.2.2.1,v10.2.2.2.2,v6.1,false))))))
def zcW(o:Ops)(v0:Bs×Bs)(v1:List zaH)(v2:List zaF)(v3:List zaI)(v4:List zaJ)(v5:List ((Bs×Bs)×Unit)):Option ((Bool×zaQ)):=
 (zrS o v0.2).bind fun v6=>(o.cut v0.1 ([47]:Bs)).bind fun v7=>(zkU o v1 v2 v3 v4 v5 v6 v7).bind fun v8=>match v8 with
 |.inl v9=>some v9
 |.inr v10=>((zkR o v6 v7 v10).bind fun v56=>match v56 with
 |.inl v57=>some v57
 |.inr v58=>(bif v58.1 then(bif(!v58.2.2.2.2.2.2.2)then some (((v58.2.2.2.2.2.2.1.length:Int)==0),v58.2.1,v58.2.2.1,v58.2.2.2.1,v58.2.2.2.2.1,v58.2.2.2.2.2.1)else some (false,v58.2.1,v58.2.2.1,v58.2.2.2.1,v58.2.2.2.2.1,v58.2.2.2.2.2.1))else some (false,v58.2.1,v58.2.2.1,v58.2.2.2.1,v58.2.2.2.2.1,v58.2.2.2.2.2.1)))
def zeM(o:Ops):SC:=⟨⟨[(0,(.ptr 0 0)),(1,(.h (.pr .s .s)))],[zaN,zaB,zaD,zaC,zaA,.mp true (.pr .s .s) .un]⟩,1,[(none,⟨[(0,hB)],[zaN,ykQ,zsO,ykF,.mp false .s ztZ,.mp false (.pr .s .s) .un]⟩)],fun x=>zcW o x.1 x.2.1 x.2.2.1 x.2.2.2.1 x.2.2.2.2.1 x.2.2.2.2.2⟩
theorem zkO:SCok Tryz.prog tabs 75 (zeM o):=zaT (o:=o) (η:=[(2000005,.join [] [5,7,8] [(some 1000000,⟨[(4,hB)],[zaN,zaB,zaD,zaC,zaA,.mp true (.pr .s .s) .un]⟩),(none,⟨[(0,(.ptr 0 0))],[zaN,zaB,zaD,zaC,zaA,.mp true (.pr .s .s) .un]⟩)]),
 (200020,.loop [] ⟨[(0,(.ptr 0 0)),(10,(.ptr 6 0)),(13,(.ptr 7 0)),(93,hI)],[zaN,zaB,zaD,zaC,zaA,.mp true (.pr .s .s) .un,zrX,znW]⟩ [8] [(some 1,⟨[(0,(.ptr 0 0)),(10,(.ptr 6 0)),(13,(.ptr 7 0))],[zaN,zaB,zaD,zaC,zaA,.mp true (.pr .s .s) .un,zrX,znW]⟩)]),
 (2000038,.join [] [] [(some 1000000,⟨[(4,hB)],[zaN,zaB,zaD,zaC,zaA,.mp true (.pr .s .s) .un]⟩),(none,⟨[(6,hB),(10,(.ptr 6 0))],[zaN,ykQ,zsO,ykF,.mp false .s ztZ,.mp false (.pr .s .s) .un,zrX]⟩)]),
 (4000013,.sch [(.pu,0,[]),(.pu,1,[]),(.pu,2,[]),(.pu,4,[6]),(.pu,5,[6]),(.pu,6,[6]),(.pu,8,[6]),(.pu,9,[6]),(.pu,10,[6]),(.pu,12,[6]),(.pu,13,[6]),(.pu,14,[6]),(.mn,3,[6]),(.pu,16,[6]),(.mn,7,[6]),(.mn,11,[6]),(.mn,15,[6]),(.mn,17,[8]),(.pu,18,[]),(.mn,19,[8]),(.pu,20,[]),(.mn,21,[8]),(.pu,22,[]),(.mn,23,[8])]),
 (4000015,.sch [(.pu,0,[]),(.pu,1,[]),(.pu,2,[]),(.pu,3,[]),(.pu,4,[]),(.pu,5,[]),(.mn,6,[0,1,2,3,4,5,6,7,8,9,10,11,12,13,14,15])]),
 (4000024,.sch [(.pu,0,[]),(.pu,1,[]),(.pu,2,[]),(.pu,3,[]),(.pu,4,[]),(.pu,5,[]),(.mn,6,[0,1,2,3,4,5,6,7])]),
 (4000032,.sch [(.pu,0,[]),(.pu,1,[]),(.pu,2,[]),(.pu,3,[]),(.pu,4,[]),(.pu,5,[]),(.mn,6,[0,1,2,3,4,5,6,7,8])]),
 (4000036,.sch [(.pu,0,[]),(.pu,1,[]),(.pu,2,[]),(.pu,3,[]),(.pu,4,[]),(.pu,5,[]),(.mn,6,[0,1,2,3,4,5,6,7,8,9,10,11])])]) (Γ:=⟨[(59,(ygJ o)),(106,(znN o)),(13,(zbD o)),(19,(zeU o)),(104,(zkW o)),(15,(zhO o))],[(11,(zpR o)),(169,(zeA o)),(170,(zhQ o)),(171,(zhY o)),(172,(zfG o))],false,[]⟩) (ctok ⟨(ziO.cut (G:=tabs)),⟨zvN,⟨zbM,⟨zjQ,⟨zrM,⟨zlB,trivial⟩⟩⟩⟩⟩⟩ ⟨zyC,⟨ziE,⟨zpD,⟨zqO,⟨zmA,trivial⟩⟩⟩⟩⟩) Tryz.func75
def zvQ(o:Ops)(v0:List Bs)(v7:Int)(v8:List zaH)(v9:List zaF)(v10:List zaI)(v11:List zaJ)(v12:List ((Bs×Bs)×Unit)):Option ((Int×zaQ)⊕((Bool×zaQ)⊕zaQ)):=
 bif decide (v7<(v0.length:Int))then((idx v0 v7).bind fun v13=>(zdA o v13 v8 v9 v10 v11 v12).bind fun v14=>bif(!v14.1)then some (.inr (.inl (false,v14.2)))else(bif decide (v7>0)then((idx v0 (w64 (v7-1))).bind fun v15=>bif(Op.bytesLess v13 v15||v13==v15)then some (.inr (.inl (false,v14.2)))else some (.inl (w64 (v7+1),v14.2)))else some (.inl (w64 (v7+1),v14.2))))else some (.inr (.inr (v8,v9,v10,v11,v12)))
def zpA(o:Ops)(v0:List Bs)(v1:Int)(v2:List zaH)(v3:List zaF)(v4:List zaI)(v5:List zaJ)(v6:List ((Bs×Bs)×Unit)):Option ((Bool×zaQ)):=
 (iter (fun x=>zvQ o v0 x.1 x.2.1 x.2.2.1 x.2.2.2.1 x.2.2.2.2.1 x.2.2.2.2.2) ((0:Int),v2,v3,v4,v5,v6)).bind fun v16=>match v16 with
 |.inl v17=>some v17
 |.inr v18=>some (decide ((v0.length:Int)≤v1),v18)
def znJ(o:Ops):SC:=⟨⟨[(0,(.h (.sl .s))),(1,hI),(2,(.fn 244 [] [(.ptr 0 0)]))],[zlD,zeH,zaB,zaD,zaC,zaA,.mp true (.pr .s .s) .un]⟩,1,[(none,⟨[(0,hB)],[zlD,zeH,zaB,zaD,zaC,zaA,.mp true (.pr .s .s) .un]⟩)],fun x=>zpA o x.1 x.2.1 x.2.2.1 x.2.2.2.1 x.2.2.2.2.1 x.2.2.2.2.2.1 x.2.2.2.2.2.2⟩
theorem zvO:SCok Tryz.prog tabs 174 (znJ o):=zaT (o:=o) (η:=[(200002,.loop [] ⟨[(2,(.fn 244 [] [(.ptr 0 0)])),(11,hI)],[zlD,zeH,zaB,zaD,zaC,zaA,.mp true (.pr .s .s) .un]⟩ [0,1,9,10] [(some 1000000,⟨[(6,hB)],[zlD,zeH,zaB,zaD,zaC,zaA,.mp true (.pr .s .s) .un]⟩),(some 0,⟨[],[zlD,zeH,zaB,zaD,zaC,zaA,.mp true (.pr .s .s) .un]⟩)])]) (Γ:=⟨[],[(244,(zcY o))],false,[]⟩) (ctok trivial ⟨zfK,trivial⟩) Tryz.func174
def zvK(o:Ops)(v0:List Bs)(v7:Int)(v8:List zaH)(v9:List zaF)(v10:List zaI)(v11:List zaJ)(v12:List ((Bs×Bs)×Unit)):Option ((Int×zaQ)⊕((Bool×zaQ)⊕zaQ)):=
 bif decide (v7<(v0.length:Int))then((idx v0 v7).bind fun v13=>(zdC o v13 v8 v9 v10 v11 v12).bind fun v14=>bif(!v14.1)then some (.inr (.inl (false,v14.2)))else(bif decide (v7>0)then((idx v0 (w64 (v7-1))).bind fun v15=>bif(Op.bytesLess v13 v15||v13==v15)then some (.inr (.inl (false,v14.2)))else some (.inl (w64 (v7+1),v14.2)))else some (.inl (w64 (v7+1),v14.2))))else some (.inr (.inr (v8,v9,v10,v11,v12)))
def zpS(o:Ops)(v0:List Bs)(v1:Int)(v2:List zaH)(v3:List zaF)(v4:List zaI)(v5:List zaJ)(v6:List ((Bs×Bs)×Unit)):Option ((Bool×zaQ)):=
 (iter (fun x=>zvK o v0 x.1 x.2.1 x.2.2.1 x.2.2.2.1 x.2.2.2.2.1 x.2.2.2.2.2) ((0:Int),v2,v3,v4,v5,v6)).bind fun v16=>match v16 with
 |.inl v17=>some v17
 |.inr v18=>some (decide ((v0.length:Int)≤v1),v18)
def znK(o:Ops):SC:=⟨⟨[(0,(.h (.sl .s))),(1,hI),(2,(.fn 245 [] [(.ptr 0 0)]))],[zlD,zeH,zaB,zaD,zaC,zaA,.mp true (.pr .s .s) .un]⟩,1,[(none,⟨[(0,hB)],[zlD,zeH,zaB,zaD,zaC,zaA,.mp true (.pr .s .s) .un]⟩)],fun x=>zpS o x.1 x.2.1 x.2.2.1 x.2.2.2.1 x.2.2.2.2.1 x.2.2.2.2.2.1 x.2.2.2.2.2.2⟩
theorem zvP:SCok Tryz.prog tabs 174 (znK o):=zaT (o:=o) (η:=[(200002,.loop [] ⟨[(2,(.fn 245 [] [(.ptr 0 0)])),(11,hI)],[zlD,zeH,zaB,zaD,zaC,zaA,.mp true (.pr .s .s) .un]⟩ [0,1,9,10] [(some 1000000,⟨[(6,hB)],[zlD,zeH,zaB,zaD,zaC,zaA,.mp true (.pr .s .s) .un]⟩),(some 0,⟨[],[zlD,zeH,zaB,zaD,zaC,zaA,.mp true (.pr .s .s) .un]⟩)])]) (Γ:=⟨[],[(245,(zcS o))],false,[]⟩) (ctok trivial ⟨zfD,trivial⟩) Tryz.func174
def zvZ(o:Ops)(v0:List Bs)(v7:Int)(v8:List zaH)(v9:List zaF)(v10:List zaI)(v11:List zaJ)(v12:List ((Bs×Bs)×Unit)):Option ((Int×zaQ)⊕((Bool×zaQ)⊕zaQ)):=
 bif decide (v7<(v0.length:Int))then((idx v0 v7).bind fun v13=>(zdD o v13 v8 v9 v10 v11 v12).bind fun v14=>bif(!v14.1)then some (.inr (.inl (false,v14.2)))else(bif decide (v7>0)then((idx v0 (w64 (v7-1))).bind fun v15=>bif(Op.bytesLess v13 v15||v13==v15)then some (.inr (.inl (false,v14.2)))else some (.inl (w64 (v7+1),v14.2)))else some (.inl (w64 (v7+1),v14.2))))else some (.inr (.inr (v8,v9,v10,v11,v12)))
def zqG(o:Ops)(v0:List Bs)(v1:Int)(v2:List zaH)(v3:List zaF)(v4:List zaI)(v5:List zaJ)(v6:List ((Bs×Bs)×Unit)):Option ((Bool×zaQ)):=
 (iter (fun x=>zvZ o v0 x.1 x.2.1 x.2.2.1 x.2.2.2.1 x.2.2.2.2.1 x.2.2.2.2.2) ((0:Int),v2,v3,v4,v5,v6)).bind fun v16=>match v16 with
 |.inl v17=>some v17
 |.inr v18=>some (decide ((v0.length:Int)≤v1),v18)
def znM(o:Ops):SC:=⟨⟨[(0,(.h (.sl .s))),(1,hI),(2,(.fn 246 [] [(.ptr 0 0)]))],[zlD,zeH,zaB,zaD,zaC,zaA,.mp true (.pr .s .s) .un]⟩,1,[(none,⟨[(0,hB)],[zlD,zeH,zaB,zaD,zaC,zaA,.mp true (.pr .s .s) .un]⟩)],fun x=>zqG o x.1 x.2.1 x.2.2.1 x.2.2.2.1 x.2.2.2.2.1 x.2.2.2.2.2.1 x.2.2.2.2.2.2⟩
theorem zvV:SCok Tryz.prog tabs 174 (znM o):=zaT (o:=o) (η:=[(200002,.loop [] ⟨[(2,(.fn 246 [] [(.ptr 0 0)])),(11,hI)],[zlD,zeH,zaB,zaD,zaC,zaA,.mp true (.pr .s .s) .un]⟩ [0,1,9,10] [(some 1000000,⟨[(6,hB)],[zlD,zeH,zaB,zaD,zaC,zaA,.mp true (.pr .s .s) .un]⟩),(some 0,⟨[],[zlD,zeH,zaB,zaD,zaC,zaA,.mp true (.pr .s .s) .un]⟩)])]) (Γ:=⟨[],[(246,(zcX o))],false,[]⟩) (ctok trivial ⟨zfO,trivial⟩) Tryz.func174
def zfF(_o:Ops)(v0:Bs)(v1:List zbQ):Option ((Bool×List zbQ)):=
 let _v2:List Bs:=zfQ keqS v1 v0 ([]:List Bs)
 some (mhas keqS v1 v0,v1)
def zeN(o:Ops):SC:=⟨⟨[(0,hS),(1,(.ptr 0 0))],[ybE,.mp true .s (.sl .s)]⟩,1,[(none,⟨[(0,hB)],[ybE,.mp true .s (.sl .s)]⟩)],fun x=>zfF o x.1 x.2⟩
theorem zkS:SCok Tryz.prog tabs 247 (zeN o):=zaT (o:=o) (η:=[]) (Γ:=⟨[],[],false,[]⟩) (ctok trivial trivial) Tryz.func247
def zrI(o:Ops)(v0:List Bs)(v2:Int)(v3:List zbQ):Option ((Int×List zbQ)⊕((Int×List zbQ)⊕(List zbQ))):=
 bif decide (v2<(v0.length:Int))then((idx v0 v2).bind fun v4=>(zfF o v4 v3).bind fun v5=>bif v5.1 then some (.inr (.inl (v2,v5.2)))else some (.inl (w64 (v2+1),v5.2)))else some (.inr (.inr v3))
def zjW(o:Ops)(v0:List Bs)(v1:List zbQ):Option ((Int×List zbQ)):=
 (iter (fun x=>zrI o v0 x.1 x.2) ((0:Int),v1)).bind fun v6=>match v6 with
 |.inl v7=>some v7
 |.inr v8=>some ((-1:Int),v8)
def ziT(o:Ops):SC:=⟨⟨[(0,(.h (.sl .s))),(1,(.fn 247 [] [(.ptr 0 0)]))],[ybE,.mp true .s (.sl .s)]⟩,1,[(none,⟨[(0,hI)],[ybE,.mp true .s (.sl .s)]⟩)],fun x=>zjW o x.1 x.2⟩
theorem zrL:SCok Tryz.prog tabs 212 (ziT o):=zaT (o:=o) (η:=[(200002,.loop [] ⟨[(1,(.fn 247 [] [(.ptr 0 0)])),(8,hI)],[ybE,.mp true .s (.sl .s)]⟩ [0,7] [(some 1000000,⟨[(4,hI)],[ybE,.mp true .s (.sl .s)]⟩),(some 0,⟨[],[ybE,.mp true .s (.sl .s)]⟩)])]) (Γ:=⟨[],[(247,(zeN o))],false,[]⟩) (ctok trivial ⟨zkS,trivial⟩) Tryz.func212
def zgT(o:Ops)(v0:List Bs)(v1:List zbQ):Option ((Bool×List zbQ)):=
 (zjW o v0 v1).bind fun v2=>some (decide (v2.1≥0),v2.2)
def zfX(o:Ops):SC:=⟨⟨[(0,(.h (.sl .s))),(1,(.fn 247 [] [(.ptr 0 0)]))],[ybE,.mp true .s (.sl .s)]⟩,1,[(none,⟨[(0,hB)],[ybE,.mp true .s (.sl .s)]⟩)],fun x=>zgT o x.1 x.2⟩
theorem zmY:SCok Tryz.prog tabs 129 (zfX o):=zaT (o:=o) (η:=[]) (Γ:=⟨[],[(212,(ziT o))],false,[]⟩) (ctok trivial ⟨zrL,trivial⟩) Tryz.func129
noncomputable def znA(_o:Ops)(v5:List zaH)(v6:List zaF)(v7:List zaI)(v8:List zaJ)(v9:List ((Bs×Bs)×Unit))(v10:List Bs)(v11:List zbQ):List (Option (((List zaH)×(List zaF)×(List zaI)×(List zaJ)×(List ((Bs×Bs)×Unit))×(List Bs)×List zbQ)⊕(((List zaH)×(List zaF)×(List zaI)×(List zaJ)×(List ((Bs×Bs)×Unit))×List zbQ)))):=
 rngL (rngC keqS v6 v10) (some (.inr (v5,v6,v7,v8,v9,v11))) fun v12=>(mget keqS v6 v12.1).bind fun v13=>let v14:List zbQ:=mset keqS kltS v11 v12.1 v13.1.2.1
 some (.inl (v5,v6,v7,v8,v9,rngD keqS v10 v12.1,v14))
noncomputable def zmU(_o:Ops)(v16:Bool)(v17:List zaH)(v18:List zaF)(v19:List zaI)(v20:List zaJ)(v21:List ((Bs×Bs)×Unit))(v22:List zbQ):Option (((Bool×(List zaH)×(List zaF)×(List zaI)×(List zaJ)×(List ((Bs×Bs)×Unit))×List zbQ)⊕(Bool×(List zaH)×(List zaF)×(List zaI)×(List zaJ)×(List ((Bs×Bs)×Unit))×(List Bs)×List zbQ))⊕(((List zaH)×(List zaF)×(List zaI)×(List zaJ)×(List ((Bs×Bs)×Unit))×List zbQ))):=
 bif v16 then some (.inl (.inr (false,v17,v18,v19,v20,v21,List.map Prod.fst v22,v22)))else some (.inr (v17,v18,v19,v20,v21,v22))
noncomputable def zmQ(o:Ops)(v23:Bool)(v24:List zaH)(v25:List zaF)(v26:List zaI)(v27:List zaJ)(v28:List ((Bs×Bs)×Unit))(v29:List Bs)(v30:List zbQ):List (Option (((Bool×(List zaH)×(List zaF)×(List zaI)×(List zaJ)×(List ((Bs×Bs)×Unit))×List zbQ)⊕(Bool×(List zaH)×(List zaF)×(List zaI)×(List zaJ)×(List ((Bs×Bs)×Unit))×(List Bs)×List zbQ))⊕(((List zaH)×(List zaF)×(List zaI)×(List zaJ)×(List ((Bs×Bs)×Unit))×List zbQ)))):=
 rngL (rngC keqS v30 v29) (some (.inl (.inl (v23,v24,v25,v26,v27,v28,v30)))) fun v31=>(mget keqS v30 v31.1).bind fun v32=>(zgT o v32 v30).bind fun v33=>bif(!v33.1)then some (.inl (.inr (true,v24,v25,v26,v27,v28,rngD keqS v29 v31.1,mdel keqS v33.2 v31.1)))else some (.inl (.inr (v23,v24,v25,v26,v27,v28,rngD keqS v29 v31.1,v33.2)))
noncomputable def zmK(o:Ops):(Bool×(List zaH)×(List zaF)×(List zaI)×(List zaJ)×(List ((Bs×Bs)×Unit))×List zbQ)⊕(Bool×(List zaH)×(List zaF)×(List zaI)×(List zaJ)×(List ((Bs×Bs)×Unit))×(List Bs)×List zbQ)→List (Option (((Bool×(List zaH)×(List zaF)×(List zaI)×(List zaJ)×(List ((Bs×Bs)×Unit))×List zbQ)⊕(Bool×(List zaH)×(List zaF)×(List zaI)×(List zaJ)×(List ((Bs×Bs)×Unit))×(List Bs)×List zbQ))⊕(((List zaH)×(List zaF)×(List zaI)×(List zaJ)×(List ((Bs×Bs)×Unit))×List zbQ))))
 |.inl x=>[zmU o x.1 x.2.1 x.2.2.1 x.2.2.2.1 x.2.2.2.2.1 x.2.2.2.2.2.1 x.2.2.2.2.2.2]
 |.inr x=>zmQ o x.1 x.2.1 x.2.2.1 x.2.2.2.1 x.2.2.2.2.1 x.2.2.2.2.2.1 x.2.2.2.2.2.2.1 x.2.2.2.2.2.2.2
noncomputable def zbK(o:Ops)(v0:List zaH)(v1:List zaF)(v2:List zaI)(v3:List zaJ)(v4:List ((Bs×Bs)×Unit)):Option ((Bool×zaQ)):=
 (rngA (fun x=>znA o x.1 x.2.1 x.2.2.1 x.2.2.2.1 x.2.2.2.2.1 x.2.2.2.2.2.1 x.2.2.2.2.2.2) (v0,v1,v2,v3,v4,List.map Prod.fst v1,([]:List zbQ))).bind fun v15=>(rngA (zmK o) (Sum.inl (true,v15))).bind fun v34=>some (((v34.2.2.2.2.2.length:Int)==0),v34.1,v34.2.1,v34.2.2.1,v34.2.2.2.1,v34.2.2.2.2.1)
noncomputable def zgG(o:Ops):SC:=⟨⟨[(0,(.ptr 0 0))],[zaN,zaB,zaD,zaC,zaA,.mp true (.pr .s .s) .un]⟩,1,[(none,⟨[(0,hB)],[zaN,zaB,zaD,zaC,zaA,.mp true (.pr .s .s) .un]⟩)],fun x=>zbK o x.1 x.2.1 x.2.2.1 x.2.2.2.1 x.2.2.2.2⟩
theorem znB:SCok Tryz.prog tabs 175 (zgG o):=witO (G:=tabs) (o:=o)<|xbL (H:=⟨[false,false,false,true,false],[],⟨[(3,(.ptr 6 0)),(6,hB)],[zaN,zaB,zaD,zaC,zaA,.mp true (.pr .s .s) .un,yxI,.mp true .s (.sl .s)]⟩,[2],[(some 2,⟨[(3,(.ptr 6 0))],[zaN,zaB,zaD,zaC,zaA,.mp true (.pr .s .s) .un,yxI,.mp true .s (.sl .s)]⟩)],[false,false,false],⟨[(3,(.ptr 6 0)),(6,hB),(27,(.ptr 7 0))],[zaN,zaB,zaD,zaC,zaA,.mp true (.pr .s .s) .un,.blk 237 [(.mpr 8)],.it 8 true .s,.mp true .s (.sl .s)]⟩,[2]⟩) (η:=[(200003,.rng [] ⟨[(3,(.ptr 6 0)),(14,(.ptr 7 0))],[zaN,zaB,zaD,zaC,zaA,.mp true (.pr .s .s) .un,.blk 237 [(.mpr 8)],.it 2 true .s,.mp true .s (.sl .s)]⟩ [2] [(some 0,⟨[(3,(.ptr 6 0))],[zaN,zaB,zaD,zaC,zaA,.mp true (.pr .s .s) .un,yxI,.mp true .s (.sl .s)]⟩)])]) (Γ:=⟨[],[(129,(zfX o))],false,[]⟩) zvC τ_okWkF (ctok trivial ⟨zmY,trivial⟩) Tryz.func175 (isFn Tryz.func175) (by kernel_rfl) (by kernel_rfl) (by kernel_rfl)
noncomputable def zhI(_o:Ops)(v0:List zaH)(v1:List zaF)(v2:List zaI)(v3:List zaJ)(v4:List ((Bs×Bs)×Unit)):Option ((Bool×zaQ)⊕zaQ):=
 bif decide ((v0.length:Int)>64)then some (.inl (false,v0,v1,v2,v3,v4))else(bif decide ((v1.length:Int)>32)then some (.inl (false,v0,v1,v2,v3,v4))else(bif decide ((v2.length:Int)>32)then some (.inl (false,v0,v1,v2,v3,v4))else(bif decide ((v3.length:Int)>32)then some (.inl (false,v0,v1,v2,v3,v4))else(bif decide ((v4.length:Int)>64)then some (.inl (false,v0,v1,v2,v3,v4))else some (.inr (v0,v1,v2,v3,v4))))))
noncomputable def zoN(_o:Ops)(v17:Int)(v18:List zaH)(v19:List zaF)(v20:List zaI)(v21:List zaJ)(v22:List ((Bs×Bs)×Unit))(v23:List Bs)(v24:List Bs)(v25:List Bs)(v26:Int)(v27:List Bs):Option (((List zaH)×(List zaF)×(List zaI)×(List zaJ)×(List ((Bs×Bs)×Unit))×(List Bs)×(List Bs)×(List Bs)×Int×List Bs)⊕((List zaH)×(List zaF)×(List zaI)×(List zaJ)×(List ((Bs×Bs)×Unit))×(List Bs)×(List Bs)×(List Bs)×Int×List Bs)⊕((List zaH)×(List zaF)×(List zaI)×(List zaJ)×(List ((Bs×Bs)×Unit))×(List Bs)×(List Bs)×(List Bs)×Int×List Bs)):=
 bif decide (v17=(0:Int))then some (.inl (v18,v19,v20,v21,v22,v23,v24,v25,v26,v27))else(bif decide (v17=(1:Int))then some (.inr (.inl (v18,v19,v20,v21,v22,v23,v24,v25,v26,v27)))else(bif decide (v17=(2:Int))then some (.inr (.inr (v18,v19,v20,v21,v22,v23,v24,v25,v26,v27)))else none))
noncomputable def zoE(o:Ops)(v17:Int)(v18:List zaH)(v19:List zaF)(v20:List zaI)(v21:List zaJ)(v22:List ((Bs×Bs)×Unit))(v23:List Bs)(v24:List Bs)(v25:List Bs)(v26:Int)(v27:List Bs):Option ((Int×(List zaH)×(List zaF)×(List zaI)×(List zaJ)×(List ((Bs×Bs)×Unit))×(List Bs)×(List Bs)×(List Bs)×Int×List Bs)⊕((Bool×zaQ)⊕((List zaH)×(List zaF)×(List zaI)×(List zaJ)×(List ((Bs×Bs)×Unit))×List Bs))):=
 bif decide (v17<3)then((zoN o v17 v18 v19 v20 v21 v22 v23 v24 v25 v26 v27).bind fun v28=>match v28 with
 |.inl v29=>((zpA o v29.2.2.2.2.2.1 (v29.2.2.2.2.2.1.length:Int) v29.1 v29.2.1 v29.2.2.1 v29.2.2.2.1 v29.2.2.2.2.1).bind fun v31=>bif(!v31.1)then some (.inr (.inl (false,v31.2)))else some (.inl (w64 (v17+1),v31.2.1,v31.2.2.1,v31.2.2.2.1,v31.2.2.2.2.1,v31.2.2.2.2.2,v29.2.2.2.2.2)))
 |.inr v30=>(match v30 with
 |.inl v32=>((zpS o v32.2.2.2.2.2.2.1 (v32.2.2.2.2.2.2.1.length:Int) v32.1 v32.2.1 v32.2.2.1 v32.2.2.2.1 v32.2.2.2.2.1).bind fun v34=>bif(!v34.1)then some (.inr (.inl (false,v34.2)))else some (.inl (w64 (v17+1),v34.2.1,v34.2.2.1,v34.2.2.2.1,v34.2.2.2.2.1,v34.2.2.2.2.2,v32.2.2.2.2.2)))
 |.inr v33=>((zqG o v33.2.2.2.2.2.2.2.1 (v33.2.2.2.2.2.2.2.1.length:Int) v33.1 v33.2.1 v33.2.2.1 v33.2.2.2.1 v33.2.2.2.2.1).bind fun v35=>bif(!v35.1)then some (.inr (.inl (false,v35.2)))else some (.inl (w64 (v17+1),v35.2.1,v35.2.2.1,v35.2.2.2.1,v35.2.2.2.2.1,v35.2.2.2.2.2,v33.2.2.2.2.2)))))else some (.inr (.inr (v18,v19,v20,v21,v22,v27)))
noncomputable def zoJ(o:Ops)(v8:List zaH)(v9:List zaF)(v10:List zaI)(v11:List zaJ)(v12:List ((Bs×Bs)×Unit))(v13:List Bs):List (Option (((List zaH)×(List zaF)×(List zaI)×(List zaJ)×(List ((Bs×Bs)×Unit))×List Bs)⊕(zaQ⊕(Bool×zaQ)))):=
 rngL (rngC keqS v9 v13) (some (.inr (.inl (v8,v9,v10,v11,v12)))) fun v14=>(mget keqS v9 v14.1).bind fun v15=>(zbR o v8 v9 v10 v11 v12).bind fun v16=>(iter (fun x=>zoE o x.1 x.2.1 x.2.2.1 x.2.2.2.1 x.2.2.2.2.1 x.2.2.2.2.2.1 x.2.2.2.2.2.2.1 x.2.2.2.2.2.2.2.1 x.2.2.2.2.2.2.2.2.1 x.2.2.2.2.2.2.2.2.2.1 x.2.2.2.2.2.2.2.2.2.2) ((0:Int),v16.1,v16.2.1,v16.2.2.1,v16.2.2.2.1,v16.2.2.2.2,v15.1.1,v15.1.2.1,v15.1.2.2,v15.2,rngD keqS v13 v14.1)).bind fun v36=>match v36 with
 |.inl v37=>some (.inr (.inr v37))
 |.inr v38=>some (.inl v38)
noncomputable def zoU(o:Ops)(v42:List zaH)(v43:List zaF)(v44:List zaI)(v45:List zaJ)(v46:List ((Bs×Bs)×Unit))(v47:List (Bs×Bs)):List (Option (((List zaH)×(List zaF)×(List zaI)×(List zaJ)×(List ((Bs×Bs)×Unit))×List (Bs×Bs))⊕(zaQ⊕(Bool×zaQ)))):=
 rngL (rngC (keq (.pr .s .s)) v46 v47) (some (.inr (.inl (v42,v43,v44,v45,v46)))) fun v48=>(mget (keq (.pr .s .s)) v46 v48.1).bind fun _v49=>(zcP o v48.1.1 v42 v43 v44 v45 v46).bind fun v50=>bif(!v50.1)then some (.inr (.inr (false,v50.2)))else((zcP o v48.1.2 v50.2.1 v50.2.2.1 v50.2.2.2.1 v50.2.2.2.2.1 v50.2.2.2.2.2).bind fun v51=>bif(!v51.1)then some (.inr (.inr (false,v51.2)))else some (.inl (v51.2.1,v51.2.2.1,v51.2.2.2.1,v51.2.2.2.2.1,v51.2.2.2.2.2,rngD (keq (.pr .s .s)) v47 v48.1)))
noncomputable def zbS(o:Ops)(v0:List zaH)(v1:List zaF)(v2:List zaI)(v3:List zaJ)(v4:List ((Bs×Bs)×Unit)):Option ((Bool×zaQ)):=
 (zhI o v0 v1 v2 v3 v4).bind fun v5=>match v5 with
 |.inl v6=>some v6
 |.inr v7=>((rngA (fun x=>zoJ o x.1 x.2.1 x.2.2.1 x.2.2.2.1 x.2.2.2.2.1 x.2.2.2.2.2) (v7.1,v7.2.1,v7.2.2.1,v7.2.2.2.1,v7.2.2.2.2,List.map Prod.fst v7.2.1)).bind fun v39=>match v39 with
 |.inl v40=>((rngA (fun x=>zoU o x.1 x.2.1 x.2.2.1 x.2.2.2.1 x.2.2.2.2.1 x.2.2.2.2.2) (v40.1,v40.2.1,v40.2.2.1,v40.2.2.2.1,v40.2.2.2.2,List.map Prod.fst v40.2.2.2.2)).bind fun v52=>match v52 with
 |.inl v53=>((zbK o v53.1 v53.2.1 v53.2.2.1 v53.2.2.2.1 v53.2.2.2.2).bind fun v55=>some v55)
 |.inr v54=>some v54)
 |.inr v41=>some v41)
noncomputable def zhA(o:Ops):SC:=⟨⟨[(0,(.ptr 0 0))],[zaN,zaB,zaD,zaC,zaA,.mp true (.pr .s .s) .un]⟩,1,[(none,⟨[(0,hB)],[zaN,zaB,zaD,zaC,zaA,.mp true (.pr .s .s) .un]⟩)],fun x=>zbS o x.1 x.2.1 x.2.2.1 x.2.2.2.1 x.2.2.2.2⟩
theorem znZ:SCok Tryz.prog tabs 76 (zhA o):=zaT (o:=o) (η:=[(2000003,.join [] [] [(some 1000000,⟨[(2,hB)],[zaN,zaB,zaD,zaC,zaA,.mp true (.pr .s .s) .un]⟩),(none,⟨[(0,(.ptr 0 0))],[zaN,zaB,zaD,zaC,zaA,.mp true (.pr .s .s) .un]⟩)]),
 (2000009,.join [] [57] [(none,⟨[(0,(.ptr 0 0)),(4,(.ptr 6 0)),(6,(.ptr 7 0)),(50,(.ptr 8 0)),(56,(.ag [(.kn .i64 0),(.fn 244 [] [(.ptr 9 0)]),(.kn .i64 1),(.fn 245 [] [(.ptr 9 0)]),(.kn .i64 2),(.fn 246 [] [(.ptr 9 0)])]))],[zaN,zaB,zaD,zaC,zaA,.mp true (.pr .s .s) .un,znW,.blk 187 [(.kn .i64 0),(.fn 244 [] [(.ptr 9 0)])],.it 2 true .s,zqJ]⟩),(none,⟨[(0,(.ptr 0 0)),(4,(.ptr 6 0)),(6,(.ptr 7 0)),(50,(.ptr 8 0)),(56,(.ag [(.kn .i64 0),(.fn 244 [] [(.ptr 9 0)]),(.kn .i64 1),(.fn 245 [] [(.ptr 9 0)]),(.kn .i64 2),(.fn 246 [] [(.ptr 9 0)])]))],[zaN,zaB,zaD,zaC,zaA,.mp true (.pr .s .s) .un,znW,.blk 187 [(.kn .i64 1),(.fn 245 [] [(.ptr 9 0)])],.it 2 true .s,zqJ]⟩),(none,⟨[(0,(.ptr 0 0)),(4,(.ptr 6 0)),(6,(.ptr 7 0)),(50,(.ptr 8 0)),(56,(.ag [(.kn .i64 0),(.fn 244 [] [(.ptr 9 0)]),(.kn .i64 1),(.fn 245 [] [(.ptr 9 0)]),(.kn .i64 2),(.fn 246 [] [(.ptr 9 0)])]))],[zaN,zaB,zaD,zaC,zaA,.mp true (.pr .s .s) .un,znW,.blk 187 [(.kn .i64 2),(.fn 246 [] [(.ptr 9 0)])],.it 2 true .s,zqJ]⟩)]),
 (200007,.loop [] ⟨[(0,(.ptr 0 0)),(4,(.ptr 6 0)),(50,(.ptr 7 0)),(56,(.ag [(.kn .i64 0),(.fn 244 [] [(.ptr 8 0)]),(.kn .i64 1),(.fn 245 [] [(.ptr 8 0)]),(.kn .i64 2),(.fn 246 [] [(.ptr 8 0)])])),(57,hI)],[zaN,zaB,zaD,zaC,zaA,.mp true (.pr .s .s) .un,znW,.it 2 true .s,zqJ]⟩ [] [(some 1000000,⟨[(2,hB)],[zaN,zaB,zaD,zaC,zaA,.mp true (.pr .s .s) .un]⟩),(some 2,⟨[(0,(.ptr 0 0)),(50,(.ptr 6 0))],[zaN,zaB,zaD,zaC,zaA,.mp true (.pr .s .s) .un,.it 2 true .s]⟩)]),
 (200004,.rng [] ⟨[(0,(.ptr 0 0)),(50,(.ptr 6 0))],[zaN,zaB,zaD,zaC,zaA,.mp true (.pr .s .s) .un,.it 2 true .s]⟩ [] [(some 0,⟨[(0,(.ptr 0 0))],[zaN,zaB,zaD,zaC,zaA,.mp true (.pr .s .s) .un]⟩),(some 1000000,⟨[(2,hB)],[zaN,zaB,zaD,zaC,zaA,.mp true (.pr .s .s) .un]⟩)]),
 (200013,.rng [] ⟨[(0,(.ptr 0 0)),(80,(.ptr 6 0))],[zaN,zaB,zaD,zaC,zaA,.mp true (.pr .s .s) .un,.it 5 true (.pr .s .s)]⟩ [] [(some 4,⟨[(0,(.ptr 0 0))],[zaN,zaB,zaD,zaC,zaA,.mp true (.pr .s .s) .un]⟩),(some 1000000,⟨[(2,hB)],[zaN,zaB,zaD,zaC,zaA,.mp true (.pr .s .s) .un]⟩)]),
 (4000009,.sch [(.pu,0,[]),(.pu,1,[]),(.pu,2,[]),(.pu,3,[]),(.pu,4,[]),(.pu,5,[]),(.pu,6,[]),(.pu,7,[]),(.pu,8,[]),(.pu,9,[]),(.pu,10,[]),(.pu,11,[]),(.pu,12,[]),(.mn,13,[0,1,2,3,4,5,9]),(.pu,14,[])])]) (Γ:=⟨[],[(173,(zbJ o)),(174,(znJ o)),(174,(znK o)),(174,(znM o)),(128,(zdL o)),(175,(zgG o))],false,[]⟩) (ctok trivial ⟨zcH,⟨zvO,⟨zvP,⟨zvV,⟨zhE,⟨znB,trivial⟩⟩⟩⟩⟩⟩) Tryz.func76
noncomputable def zrT(o:Ops)(v0:List (Bs×Bs))(v2:Int)(v3:List zaH)(v4:List zaF)(v5:List zaI)(v6:List zaJ)(v7:List ((Bs×Bs)×Unit)):Option ((Int×zaQ)⊕(Int⊕zaQ)):=
 bif decide (v2<(v0.length:Int))then((idx v0 v2).bind fun v8=>bif decide (v2>0)then((idx v0 (w64 (v2-1))).bind fun v9=>bif(Op.bytesLess v8.1 v9.1||v8.1==v9.1)then some (.inr (.inl (125:Int)))else((zcW o v8 v3 v4 v5 v6 v7).bind fun v10=>bif(!v10.1)then some (.inr (.inl (125:Int)))else some (.inl (w64 (v2+1),v10.2))))else((zcW o v8 v3 v4 v5 v6 v7).bind fun v11=>bif(!v11.1)then some (.inr (.inl (125:Int)))else some (.inl (w64 (v2+1),v11.2))))else some (.inr (.inr (v3,v4,v5,v6,v7)))
noncomputable def zfY(o:Ops)(v0:List (Bs×Bs)):Option (Int⊕(Int×zaQ)):=
 (zhW o).bind fun v1=>(iter (fun x=>zrT o v0 x.1 x.2.1 x.2.2.1 x.2.2.2.1 x.2.2.2.2.1 x.2.2.2.2.2) ((0:Int),v1)).bind fun v12=>match v12 with
 |.inl v13=>some (.inl v13)
 |.inr v14=>((zbS o v14.1 v14.2.1 v14.2.2.1 v14.2.2.2.1 v14.2.2.2.2).bind fun v15=>bif(!v15.1)then some (.inl (125:Int))else some (.inr ((0:Int),v15.2)))
noncomputable def zrN(o:Ops):SC:=⟨⟨[(0,(.h (.sl (.pr .s .s))))],[]⟩,2,[(none,⟨[(0,.nilp),(1,hI)],[]⟩),(none,⟨[(0,(.ptr 0 0)),(1,hI)],[zaN,zaB,zaD,zaC,zaA,.mp true (.pr .s .s) .un]⟩)],fun x=>zfY o x⟩
theorem zzE:SCok Tryz.prog tabs 25 (zrN o):=zaT (o:=o) (η:=[(200003,.loop [] ⟨[(4,(.ptr 0 0)),(10,hI)],[zaN,zaB,zaD,zaC,zaA,.mp true (.pr .s .s) .un]⟩ [0,8,9] [(some 1000000,⟨[(2,.nilp),(3,hI)],[]⟩),(some 0,⟨[(4,(.ptr 0 0))],[zaN,zaB,zaD,zaC,zaA,.mp true (.pr .s .s) .un]⟩)]),
 (4000005,.sch [(.pu,0,[]),(.pu,1,[]),(.pu,2,[]),(.pu,3,[]),(.pu,4,[]),(.pu,5,[]),(.pu,6,[]),(.pu,7,[]),(.pu,8,[]),(.pu,9,[]),(.pu,10,[]),(.pu,11,[]),(.pu,12,[]),(.pu,13,[]),(.pu,14,[]),(.pu,15,[]),(.mn,16,[0,1,2,3,4,5]),(.pu,17,[]),(.pu,18,[])])]) (Γ:=⟨[],[(30,(zmW o)),(75,(zeM o)),(76,(zhA o))],false,[]⟩) (ctok trivial ⟨ztG,⟨zkO,⟨znZ,trivial⟩⟩⟩) Tryz.func25
noncomputable def zgM(o:Ops)(v0:zaQ):Option (Bool⊕zaQ):=
 (zdF o ([97,110,110]:Bs) ([97,64,120]:Bs) v0.1 v0.2.1 v0.2.2.1 v0.2.2.2.1 v0.2.2.2.2).bind fun v1=>bif(v1.1 != 0)then some (.inl false)else((zdF o ([97,110,110]:Bs) ([97,64,120]:Bs) v1.2.1 v1.2.2.1 v1.2.2.2.1 v1.2.2.2.2.1 v1.2.2.2.2.2).bind fun v2=>bif(v2.1 != 121)then some (.inl false)else((zcU o ([103]:Bs) v2.2.1 v2.2.2.1 v2.2.2.2.1 v2.2.2.2.2.1 v2.2.2.2.2.2).bind fun v3=>bif(v3.1 != 0)then some (.inl false)else((zcU o ([104]:Bs) v3.2.1 v3.2.2.1 v3.2.2.2.1 v3.2.2.2.2.1 v3.2.2.2.2.2).bind fun v4=>bif(v4.1 != 0)then some (.inl false)else((zeI o ([103]:Bs) ([104]:Bs) v4.2.1 v4.2.2.1 v4.2.2.2.1 v4.2.2.2.2.1 v4.2.2.2.2.2).bind fun v5=>bif(v5.1 != 0)then some (.inl false)else((zeI o ([104]:Bs) ([103]:Bs) v5.2.1 v5.2.2.1 v5.2.2.2.1 v5.2.2.2.2.1 v5.2.2.2.2.2).bind fun v6=>bif(v6.1 != 123)then some (.inl false)else((ziU o ([104]:Bs) ([97,110,110]:Bs) v6.2.1 v6.2.2.1 v6.2.2.2.1 v6.2.2.2.2.1 v6.2.2.2.2.2).bind fun v7=>bif(v7.1 != 0)then some (.inl false)else some (.inr v7.2)))))))
noncomputable def zdG(o:Ops)(v10:zaQ):Option (Bool⊕zaQ):=
 (zfW o (([114]:Bs),([([114,101,97,100]:Bs)]:List Bs)) v10.1 v10.2.1 v10.2.2.1 v10.2.2.2.1 v10.2.2.2.2).bind fun v11=>bif(v11.1 != 0)then some (.inl false)else((ziS o ([103]:Bs) ([114]:Bs) v11.2.1 v11.2.2.1 v11.2.2.2.1 v11.2.2.2.2.1 v11.2.2.2.2.2).bind fun v12=>bif(v12.1 != 0)then some (.inl false)else((zgX o ([117,58,97,110,110]:Bs) v12.2.1 v12.2.2.1 v12.2.2.2.1 v12.2.2.2.2.1 v12.2.2.2.2.2).bind fun v13=>bif(!v13.1)then some (.inl false)else some (.inr v13.2)))
noncomputable def zdP(o:Ops):Option (Bool):=
 (zhW o).bind fun v0=>(zgM o v0).bind fun v8=>match v8 with
 |.inl v9=>(some v9)
 |.inr v10=>((zdG o v10).bind fun v14=>match v14 with
 |.inl v15=>(some v15)
 |.inr v16=>((zbV o ([97,110,110]:Bs) v16.1 v16.2.1 v16.2.2.1 v16.2.2.2.1 v16.2.2.2.2).bind fun v17=>(zbO o ([97,110,110]:Bs) v17.2.1 v17.2.2.1 v17.2.2.2.1 v17.2.2.2.2.1 v17.2.2.2.2.2).bind fun v18=>(zcR o v18.2.1 v18.2.2.1 v18.2.2.2.1 v18.2.2.2.2.1 v18.2.2.2.2.2).bind fun v19=>(zfY o v19.1).bind fun v20=>match v20 with
 |.inl _v21=>(bif((v17.1.length:Int)==2)then((idx v17.1 (0:Int)).bind fun v23=>bif(v23==([103]:Bs))then(bif((v18.1.length:Int)==1)then((idx v18.1 (0:Int)).bind fun v24=>bif(v24==([114,101,97,100]:Bs))then(bif((v19.1.length:Int)==4)then((idx v19.1 (1:Int)).bind fun v25=>let v26:Bool:=((v25.1==([103,114,111,117,112,47,104]:Bs))&&(v25.2==([49,58,50,49,58,49,51,58,97,110,110,49,58,48,49,58,48]:Bs)))
 bif v26 then(some false)else(some false))else(some false))else(some false))else(some false))else(some false))else(some false))
 |.inr v22=>(bif((v17.1.length:Int)==2)then((idx v17.1 (0:Int)).bind fun v27=>bif(v27==([103]:Bs))then(bif((v18.1.length:Int)==1)then((idx v18.1 (0:Int)).bind fun v28=>bif(v28==([114,101,97,100]:Bs))then(bif((v19.1.length:Int)==4)then((idx v19.1 (1:Int)).bind fun v29=>let v30:Bool:=((v29.1==([103,114,111,117,112,47,104]:Bs))&&(v29.2==([49,58,50,49,58,49,51,58,97,110,110,49,58,48,49,58,48]:Bs)))
 bif v30 then(bif(v22.1==0)then((o.form ([([97,98]:Bs),([]:Bs)]:List Bs)).bind fun v31=>some (v31==([50,58,97,98,48,58]:Bs)))else(some false))else(some false))else(some false))else(some false))else(some false))else(some false))else(some false))))
noncomputable def zgP(o:Ops):PC:=⟨[],[.b],fun _=>zdP o,false⟩
theorem zmH:PCok Tryz.prog tabs 24 (zgP o):=zcZ (o:=o) (η:=[(2000004,.join [] [] [(some 1000000,⟨[(0,hB)],[]⟩),(none,⟨[(1,(.ptr 0 0))],[zaN,zaB,zaD,zaC,zaA,.mp true (.pr .s .s) .un]⟩)]),
 (2000006,.join [] [] [(some 1000000,⟨[(0,hB)],[]⟩),(none,⟨[(1,(.ptr 0 0))],[zaN,zaB,zaD,zaC,zaA,.mp true (.pr .s .s) .un]⟩)])]) (Γ:=⟨[(22,(ztY o))],[(30,(zmW o)),(71,(zfL o)),(72,(zeP o)),(33,(zhZ o)),(73,(zhT o)),(36,(zfN o)),(74,(ziD o)),(49,(zgE o)),(50,(zeZ o)),(34,(zhB o)),(29,(zhU o)),(25,(zrN o))],false,[]⟩) (ctok ⟨(ziO.form (G:=tabs)),trivial⟩ ⟨ztG,⟨zlJ,⟨zkP,⟨zpC,⟨zpT,⟨zlL,⟨zqE,⟨zmS,⟨zjS,⟨zoB,⟨zpM,⟨zzE,trivial⟩⟩⟩⟩⟩⟩⟩⟩⟩⟩⟩⟩) Tryz.func24
end
end Go.Proofs.YtopanhneegpgcaaGreatDoor.Am
