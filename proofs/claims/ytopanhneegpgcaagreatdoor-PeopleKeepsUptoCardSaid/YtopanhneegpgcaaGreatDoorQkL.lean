/- Parts of one proof. Conditions: as each theorem says. -/
import Derived.KernelRfl
import Derived.Test.YtopanhneegpgcaaGreatDoorQkK
open List renaming map->cH
open Go.Proofs.Tryz renaming prog->aB
namespace Go.Proofs.YtopanhneegpgcaaGreatDoor.Am
open Go Go.RowKit
def τWkF:TE:=[(3,⟨.int .i64,1,[.v (.i .i64) (show Int from 0)],(.i .i64),8⟩),
 (4,⟨.b,1,[.v .b (show Bool from false)],.b,1⟩),
 (9,⟨.s,1,[.v .s (show Bs from [])],.s,16⟩),
 (22,⟨.sl 9,1,[.nils],(.sl .s),24⟩),
 (25,⟨.fn,1,[.nilf],.un,8⟩),
 (31,⟨.sl 33,1,[.nils],(.sl (.pr .s .s)),24⟩),
 (33,⟨.st [(9,0),(9,1)],2,[.v .s (show Bs from []),.v .s (show Bs from [])],(.pr .s .s),32⟩),
 (34,⟨.pt 128,1,[.nilp],.un,8⟩),
 (49,⟨.st [(9,0),(22,1)],2,[.v .s (show Bs from []),.nils],(.pr .s (.sl .s)),40⟩),
 (51,⟨.st [(9,0),(9,1),(22,2),(22,3),(4,4),(4,5),(4,6),(4,7)],8,[.v .s (show Bs from []),.v .s (show Bs from []),.nils,.nils,.v .b (show Bool from false),.v .b (show Bool from false),.v .b (show Bool from false),.v .b (show Bool from false)],(.pr .s (.pr .s (.pr (.sl .s) (.pr (.sl .s) (.pr .b (.pr .b (.pr .b .b))))))),88⟩),
 (54,⟨.sl 57,1,[.nils],(.sl (.pr .s (.pr (.sl .s) (.pr (.sl .s) (.pr (.sl .s) (.i .i64)))))),24⟩),
 (57,⟨.st [(9,0),(22,1),(22,2),(22,3),(3,4)],5,[.v .s (show Bs from []),.nils,.nils,.nils,.v (.i .i64) (show Int from 0)],(.pr .s (.pr (.sl .s) (.pr (.sl .s) (.pr (.sl .s) (.i .i64))))),96⟩),
 (64,⟨.sl 51,1,[.nils],(.sl (.pr .s (.pr .s (.pr (.sl .s) (.pr (.sl .s) (.pr .b (.pr .b (.pr .b .b)))))))),24⟩),
 (67,⟨.sl 77,1,[.nils],(.sl (.pr .s (.pr .s (.pr .b (.i .i64))))),24⟩),
 (69,⟨.sl 49,1,[.nils],(.sl (.pr .s (.sl .s))),24⟩),
 (72,⟨.sl 75,1,[.nils],(.sl (.pr .s .s)),24⟩),
 (75,⟨.st [(9,0),(9,1)],2,[.v .s (show Bs from []),.v .s (show Bs from [])],(.pr .s .s),32⟩),
 (77,⟨.st [(9,0),(9,1),(4,2),(3,3)],4,[.v .s (show Bs from []),.v .s (show Bs from []),.v .b (show Bool from false),.v (.i .i64) (show Int from 0)],(.pr .s (.pr .s (.pr .b (.i .i64)))),48⟩),
 (106,⟨.ifc,1,[.v .er (show Bool from false)],.er,16⟩),
 (122,⟨.map 9 77,1,[.nilm],(.mp .s (.pr .s (.pr .s (.pr .b (.i .i64))))),8⟩),
 (123,⟨.map 9 133,1,[.nilm],(.mp .s (.pr (.pr (.sl .s) (.pr (.sl .s) (.sl .s))) (.i .i64))),8⟩),
 (124,⟨.map 9 49,1,[.nilm],(.mp .s (.pr .s (.sl .s))),8⟩),
 (125,⟨.map 9 51,1,[.nilm],(.mp .s (.pr .s (.pr .s (.pr (.sl .s) (.pr (.sl .s) (.pr .b (.pr .b (.pr .b .b)))))))),8⟩),
 (126,⟨.map 75 157,1,[.nilm],(.mp (.pr .s .s) .un),8⟩),
 (128,⟨.st [(122,0),(123,1),(124,2),(125,3),(126,4)],5,[.nilm,.nilm,.nilm,.nilm,.nilm],(.pr (.mp .s (.pr .s (.pr .s (.pr .b (.i .i64))))) (.pr (.mp .s (.pr (.pr (.sl .s) (.pr (.sl .s) (.sl .s))) (.i .i64))) (.pr (.mp .s (.pr .s (.sl .s))) (.pr (.mp .s (.pr .s (.pr .s (.pr (.sl .s) (.pr (.sl .s) (.pr .b (.pr .b (.pr .b .b)))))))) (.mp (.pr .s .s) .un))))),40⟩),
 (131,⟨.ar 3 22,3,[.nils,.nils,.nils],(.pr (.sl .s) (.pr (.sl .s) (.sl .s))),72⟩),
 (133,⟨.st [(131,0),(3,3)],4,[.nils,.nils,.nils,.v (.i .i64) (show Int from 0)],(.pr (.pr (.sl .s) (.pr (.sl .s) (.sl .s))) (.i .i64)),80⟩),
 (157,⟨.st [],0,[],.un,0⟩),
 (160,⟨.map 9 157,1,[.nilm],(.mp .s .un),8⟩),
 (183,⟨.st [(22,0),(4,1)],2,[.nils,.v .b (show Bool from false)],(.pr (.sl .s) .b),32⟩),
 (187,⟨.st [(3,0),(25,1)],2,[.v (.i .i64) (show Int from 0),.nilf],.un,16⟩),
 (188,⟨.ar 3 187,6,[.v (.i .i64) (show Int from 0),.nilf,.v (.i .i64) (show Int from 0),.nilf,.v (.i .i64) (show Int from 0),.nilf],.un,48⟩),
 (197,⟨.sl 22,1,[.nils],(.sl (.sl .s)),24⟩),
 (201,⟨.int .u64,1,[.v (.i .u64) (show UInt64 from 0)],(.i .u64),8⟩),
 (237,⟨.map 9 22,1,[.nilm],(.mp .s (.sl .s)),8⟩)]
theorem τ_okWkF:TEok aB τWkF:=yrP (by kernel_rfl) (by kernel_rfl)
theorem yfF:Tryz.prog.follows .mixedOrders=true:=by kernel_rfl
theorem zbB {G : List (Nat × Obj)} {o : Ops} [zoW G] [zmE G o] {Γ : CT} {η : HT} {f : FuncId} {fn : Func} {c : SC} (hΓ : ∀ B, GB G B -> CTok aB Γ B) (hf : Tryz.prog.funcs[f]? = some fn) (i : (fn.name == "runtime.NumGoroutine") = false := by kernel_rfl) (j : fn.body.isNone = false := by kernel_rfl) (l : Nat.ble c.I.sl.length fn.ntmps = true := by kernel_rfl) (r : Nat.beq fn.results.toList.length c.nr = true := by kernel_rfl) (e : fnS τWkF Γ η fn c.I c.outs = c.p := by kernel_rfl) : SCok aB G f c := witO (G := G) (o := o) <| xbM yfF τ_okWkF hΓ hf (isFn hf i j) l r e
theorem zhK {G : List (Nat × Obj)} {o : Ops} [zoW G] [zmE G o] {Γ : CT} {η : HT} {f : FuncId} {fn : Func} {c : PC} (hΓ : ∀ B, GB G B -> CTok aB Γ B) (hf : Tryz.prog.funcs[f]? = some fn) (i : (fn.name == "runtime.NumGoroutine") = false := by kernel_rfl) (j : fn.body.isNone = false := by kernel_rfl) (l : Nat.ble c.ash.length fn.ntmps = true := by kernel_rfl) (r : c.cl = false := by kernel_rfl) (e : fnP τWkF Γ η fn c.ash c.rts = c.p := by kernel_rfl) : PCok aB G f c := witO (G := G) (o := o) <| xdN yfF τ_okWkF hΓ hf (isFn hf i j) l r e
abbrev yfP:Type:=(List Bs)×Bool
abbrev zdL:Type:=Bs×List Bs
abbrev qcV:Type:=List zdL
abbrev yeB:Ty:=.pr .s (.sl .s)
abbrev zxZ:Type:=Bs×Bs×Bool×Int
abbrev ymK:Ty:=.pr .s (.pr .s (.pr .b (.i .i64)))
abbrev zaI:Type:=Bs×zdL
abbrev qbW:Type:=List zaI
abbrev zaJ:Type:=Bs×zxZ
abbrev qbZ:Type:=List zaJ
abbrev yaV:Type:=((List Bs)×(List Bs)×List Bs)×Int
abbrev ywK:Ty:=.pr (.pr (.sl .s) (.pr (.sl .s) (.sl .s))) (.i .i64)
abbrev yjN:Type:=Bs×(List Bs)×(List Bs)×(List Bs)×Int
abbrev yyC:Ty:=.pr .s (.pr (.sl .s) (.pr (.sl .s) (.pr (.sl .s) (.i .i64))))
abbrev zaH:Type:=Bs×yaV
abbrev qbY:Type:=List zaH
abbrev zuZ:Type:=Bs×Bs×(List Bs)×(List Bs)×Bool×Bool×Bool×Bool
abbrev yeS:Ty:=.pr .s (.pr .s (.pr (.sl .s) (.pr (.sl .s) (.pr .b (.pr .b (.pr .b .b))))))
abbrev zaK:Type:=Bs×zuZ
abbrev qbV:Type:=List zaK
abbrev zaZ:Type:=(List (Bs×zxZ))×(List (Bs×yaV))×(List (Bs×zdL))×(List (Bs×zuZ))×List ((Bs×Bs)×Unit)
abbrev zaU:OSh:=.blk 128 [(.mpr 1),(.mpr 2),(.mpr 3),(.mpr 4),(.mpr 5)]
abbrev zkB:OSh:=.blk 128 [(.mpr 2),(.mpr 3),(.mpr 4),(.mpr 5),(.mpr 6)]
abbrev zyO:OSh:=.blk 133 [(.h (.sl .s)),(.h (.sl .s)),(.h (.sl .s)),hI]
abbrev yxF:OSh:=.blk 133 [.nils,.nils,.nils,hI]
abbrev ycA:OSh:=.blk 183 [(.h (.sl .s)),hB]
abbrev zyT:OSh:=.blk 34 [(.ptr 0 0)]
abbrev zuI:OSh:=.blk 34 [(.ptr 1 0)]
abbrev yhK:OSh:=.blk 160 [(.mpr 1)]
abbrev ylS:OSh:=.blk 237 [(.mpr 1)]
abbrev QWkF9:OSh:=.blk 237 [(.mpr 7)]
abbrev xbI:OSh:=.mp false .s ymK
abbrev ycY:OSh:=.mp false .s ywK
abbrev xdL:OSh:=.mp false .s yeB
abbrev QWkF13:OSh:=.blk 31 [(.own 1)]
abbrev yyV:OSh:=.blk 31 [(.own 2)]
abbrev yuL:OSh:=.blk 31 [(.own 8)]
abbrev ykR:OSh:=.blk 31 [(.own 7)]
abbrev zaE:OSh:=.mp true .s ymK
abbrev zaF:OSh:=.mp true .s ywK
abbrev zaD:OSh:=.mp true .s yeB
abbrev zaC:OSh:=.mp true .s yeS
abbrev zmG:OSh:=.mp true .s .un
section
variable {tabs:List (Nat×Obj)}[zoW tabs]{o:Ops}[zmE tabs o]
def ziL(_o:Ops):Option (zaZ):=
 some (([]:qbZ),([]:qbY),([]:qbW),([]:qbV),([]:List ((Bs×Bs)×Unit)))
def zrK(o:Ops):SC:=⟨⟨[],[]⟩,1,[(none,⟨[(0,(.ptr 0 0))],[zaU,zaE,zaF,zaD,zaC,qaV]⟩)],fun _=>ziL o⟩
theorem zwM:SCok aB tabs 30 (zrK o):=zbB (o:=o) (η:=[]) (Γ:=⟨[],[],false,[]⟩) (ctok trivial trivial) Tryz.func30
def zkU(o:Ops)(v0:Bs)(v1:Int)(v2:Bs):Option (Bool):=
 bif(v0 != ([]:Bs))then(bif decide ((v0.length:Int)<=v1)then((o.trim v0 v2).bind fun v3=>some (v3==([]:Bs)))else(some false))else(some false)
def zzC(o:Ops):PC:=⟨[hS,hI,hS],[.b],fun x=>zkU o x.1 x.2.1 x.2.2,false⟩
theorem yeV:PCok aB tabs 63 (zzC o):=zhK (o:=o) (η:=[]) (Γ:=⟨[(164,(ynH o))],[],false,[]⟩) (ctok ⟨(zmE.trim (G:=tabs)),trivial⟩ trivial) Tryz.func63
def zaN(o:Ops)(v0:Bs):Option (Bool):=
 (zkU o v0 (24:Int) ([97,98,99,100,101,102,103,104,105,106,107,108,109,110,111,112,113,114,115,116,117,118,119,120,121,122,48,49,50,51,52,53,54,55,56,57,46,95,45]:Bs)).bind fun v1=>some v1
def zbE(o:Ops):PC:=⟨[hS],[.b],fun x=>zaN o x,false⟩
theorem zbI:PCok aB tabs 13 (zbE o):=zhK (o:=o) (η:=[]) (Γ:=⟨[(63,(zzC o))],[],false,[]⟩) (ctok ⟨yeV,trivial⟩ trivial) Tryz.func13
def ziJ(_o:Ops)(v0:Int):Option (Bool):=
 bif decide (v0<33)then(some true)else(some (decide (v0>126)))
def zxM(o:Ops):PC:=⟨[(.h (.i .i32))],[.b],fun x=>ziJ o x,false⟩
theorem yfR:PCok aB tabs 66 (zxM o):=zhK (o:=o) (η:=[]) (Γ:=⟨[],[],false,[]⟩) (ctok trivial trivial) Tryz.func66
def zgI(o:Ops)(v1:Bool)(v2:Bs)(v3:Int):Option ((Bs×Int)⊕(Int⊕Unit)):=
 bif decide (v3.toNat<v2.length)then((ziJ o (nxR v2 v3.toNat)).bind fun v4=>bif(v4==v1)then some (.inr (.inl (v3.toNat:Int)))else some (.inl (v2,(nxP v2 v3.toNat:Int))))else some (.inr (.inr ()))
def zhA(o:Ops)(v0:Bs)(v1:Bool):Option (Int):=
 (iter (fun x=>zgI o v1 x.1 x.2) (v0,(0:Int))).bind fun v5=>match v5 with
 |.inl v6=>some v6|.inr _v7=>some (-1:Int)
def zrJ(o:Ops):SC:=⟨⟨[(0,hS),(1,(.fn 66 [] [])),(2,hB)],[]⟩,1,[(none,⟨[(0,hI)],[]⟩)],fun x=>zhA o x.1 x.2⟩
theorem yaY:SCok aB tabs 240 (zrJ o):=zbB (o:=o) (η:=[(200002,.loop [] ⟨[(1,(.fn 66 [] [])),(10,(.ptr 0 0))],[.is]⟩ [2] [(some 1000000,⟨[(6,hI)],[]⟩),(some 0,⟨[],[]⟩)])]) (Γ:=⟨[(66,(zxM o))],[],false,[]⟩) (ctok ⟨yfR,trivial⟩ trivial) Tryz.func240
def zgX(o:Ops)(v0:Bs):Option (Int):=
 (zhA o v0 true).bind fun v1=>some v1
def zrE(o:Ops):SC:=⟨⟨[(0,hS),(1,(.fn 66 [] []))],[]⟩,1,[(none,⟨[(0,hI)],[]⟩)],fun x=>zgX o x⟩
theorem yaW:SCok aB tabs 166 (zrE o):=zbB (o:=o) (η:=[]) (Γ:=⟨[],[(240,(zrJ o))],false,[]⟩) (ctok trivial ⟨yaY,trivial⟩) Tryz.func166
def zcV(o:Ops)(v0:Bs):Option (Bool):=
 (zgX o v0).bind fun v1=>some (decide (v1≥0))
def znG(o:Ops):SC:=⟨⟨[(0,hS),(1,(.fn 66 [] []))],[]⟩,1,[(none,⟨[(0,hB)],[]⟩)],fun x=>zcV o x⟩
theorem zwB:SCok aB tabs 65 (znG o):=zbB (o:=o) (η:=[]) (Γ:=⟨[],[(166,(zrE o))],false,[]⟩) (ctok trivial ⟨yaW,trivial⟩) Tryz.func65
def zcK(o:Ops)(v0:Bs):Option (Bool):=
 bif(v0 != ([]:Bs))then(bif decide ((v0.length:Int)<=128)then((zcV o v0).bind fun v1=>some (!v1))else(some false))else(some false)
def zkP(o:Ops):PC:=⟨[hS],[.b],fun x=>zcK o x,false⟩
theorem zpH:PCok aB tabs 15 (zkP o):=zhK (o:=o) (η:=[]) (Γ:=⟨[],[(65,(znG o))],false,[]⟩) (ctok trivial ⟨zwB,trivial⟩) Tryz.func15
def zlF(o:Ops)(v0:Bs)(v1:Bs)(v2:qbZ)(v3:qbY)(v4:qbW)(v5:qbV)(v6:List ((Bs×Bs)×Unit)):Option ((Int×zaZ)⊕zaZ):=
 (zaN o v0).bind fun v7=>bif(!v7)then some (.inl ((120:Int),v2,v3,v4,v5,v6))else((zcK o v1).bind fun v8=>bif(!v8)then some (.inl ((120:Int),v2,v3,v4,v5,v6))else some (.inr (v2,v3,v4,v5,v6)))
def zbU(o:Ops)(v0:Bs)(v1:Bs)(v2:qbZ)(v3:qbY)(v4:qbW)(v5:qbV)(v6:List ((Bs×Bs)×Unit)):Option ((Int×zaZ)):=
 (zlF o v0 v1 v2 v3 v4 v5 v6).bind fun v9=>match v9 with
 |.inl v10=>some v10|.inr v11=>(let _v12:zxZ:=zdW keqS v11.1 v0 (([]:Bs),([]:Bs),false,(0:Int))
 bif mhas keqS v11.1 v0 then some ((121:Int),v11)else(bif decide ((v11.1.length:Int)≥64)then some ((124:Int),v11)else(let v13:qbZ:=mset keqS kltS v11.1 v0 (v0,v1,true,(1:Int))
 some ((0:Int),v13,v11.2))))
def zgQ(o:Ops):SC:=⟨⟨[(0,(.ptr 0 0)),(1,hS),(2,hS)],[zaU,zaE,zaF,zaD,zaC,qaV]⟩,1,[(none,⟨[(0,hI)],[zaU,xbI,zaF,zaD,zaC,qaV]⟩)],fun x=>zbU o x.1 x.2.1 x.2.2.1 x.2.2.2.1 x.2.2.2.2.1 x.2.2.2.2.2.1 x.2.2.2.2.2.2⟩
theorem zlK:SCok aB tabs 71 (zgQ o):=zbB (o:=o) (η:=[(2000003,.join [] [1,2] [(some 1000000,⟨[(6,hI)],[zaU,zaE,zaF,zaD,zaC,qaV]⟩),(none,⟨[(0,(.ptr 0 0))],[zaU,zaE,zaF,zaD,zaC,qaV]⟩)])]) (Γ:=⟨[(13,(zbE o)),(15,(zkP o))],[],false,[]⟩) (ctok ⟨zbI,⟨zpH,trivial⟩⟩ trivial) Tryz.func71
def zbR(o:Ops)(v0:Bs)(v1:qbZ)(v2:qbY)(v3:qbW)(v4:qbV)(v5:List ((Bs×Bs)×Unit)):Option ((Int×zaZ)):=
 (zaN o v0).bind fun v6=>bif(!v6)then some ((120:Int),v1,v2,v3,v4,v5)else(let _v7:yaV:=zdW keqS v2 v0 ((([]:List Bs),([]:List Bs),([]:List Bs)),(0:Int))
 bif mhas keqS v2 v0 then some ((121:Int),v1,v2,v3,v4,v5)else(bif decide ((v2.length:Int)≥32)then some ((124:Int),v1,v2,v3,v4,v5)else(let v8:qbY:=mset keqS kltS v2 v0 ((([]:List Bs),([]:List Bs),([]:List Bs)),(1:Int))
 some ((0:Int),v1,v8,v3,v4,v5))))
def zgA(o:Ops):SC:=⟨⟨[(0,(.ptr 0 0)),(1,hS)],[zaU,zaE,zaF,zaD,zaC,qaV]⟩,1,[(none,⟨[(0,hI)],[zaU,zaE,ycY,zaD,zaC,qaV]⟩)],fun x=>zbR o x.1 x.2.1 x.2.2.1 x.2.2.2.1 x.2.2.2.2.1 x.2.2.2.2.2⟩
theorem zkL:SCok aB tabs 72 (zgA o):=zbB (o:=o) (η:=[]) (Γ:=⟨[(13,(zbE o))],[],false,[]⟩) (ctok ⟨zbI,trivial⟩ trivial) Tryz.func72
def zaQ(_o:Ops)(v0:qbZ)(v1:qbY)(v2:qbW)(v3:qbV)(v4:List ((Bs×Bs)×Unit)):Option (zaZ):=
 some (v0,v1,v2,v3,v4)
def zbJ(o:Ops):SC:=⟨⟨[(0,(.ptr 0 0))],[zaU,zaE,zaF,zaD,zaC,qaV]⟩,1,[(none,⟨[(0,(.ag [(.kn .i64 0),(.fn 244 [] [(.ptr 6 0)]),(.kn .i64 1),(.fn 245 [] [(.ptr 6 0)]),(.kn .i64 2),(.fn 246 [] [(.ptr 6 0)])]))],[zaU,zaE,zaF,zaD,zaC,qaV,zyT]⟩)],fun x=>zaQ o x.1 x.2.1 x.2.2.1 x.2.2.2.1 x.2.2.2.2⟩
theorem zbQ:SCok aB tabs 173 (zbJ o):=zbB (o:=o) (η:=[]) (Γ:=⟨[],[],false,[]⟩) (ctok trivial trivial) Tryz.func173
def zeM(_o:Ops)(v0:Bs)(v1:qbZ)(v2:qbY)(v3:qbW)(v4:qbV)(v5:List ((Bs×Bs)×Unit)):Option ((Bool×zaZ)):=
 let _v6:yaV:=zdW keqS v2 v0 ((([]:List Bs),([]:List Bs),([]:List Bs)),(0:Int))
 some (mhas keqS v2 v0,v1,v2,v3,v4,v5)
def zgS(o:Ops):SC:=⟨⟨[(0,hS),(1,(.ptr 0 0))],[zuI,zkB,zaE,zaF,zaD,zaC,qaV]⟩,1,[(none,⟨[(0,hB)],[zuI,zkB,zaE,zaF,zaD,zaC,qaV]⟩)],fun x=>zeM o x.1 x.2.1 x.2.2.1 x.2.2.2.1 x.2.2.2.2.1 x.2.2.2.2.2⟩
theorem zlO:SCok aB tabs 245 (zgS o):=zbB (o:=o) (η:=[]) (Γ:=⟨[],[],false,[]⟩) (ctok trivial trivial) Tryz.func245
def zpP(o:Ops)(v0:Bs)(v1:Bs)(v2:qbZ)(v3:qbY)(v4:qbW)(v5:qbV)(v6:List ((Bs×Bs)×Unit)):Option ((Int×qbZ×qbY×qbW×qbV×(List ((Bs×Bs)×Unit))×Int)⊕(qbZ×qbY×qbW×qbV×(List ((Bs×Bs)×Unit))×Int)):=
 (zaN o v0).bind fun v7=>bif(!v7)then some (.inl ((120:Int),v2,v3,v4,v5,v6,(0:Int)))else((zaN o v1).bind fun v8=>bif(!v8)then some (.inl ((120:Int),v2,v3,v4,v5,v6,(0:Int)))else some (.inr (v2,v3,v4,v5,v6,(0:Int))))
def zeC(o:Ops)(v0:Bs)(v1:Bs)(v2:qbZ)(v3:qbY)(v4:qbW)(v5:qbV)(v6:List ((Bs×Bs)×Unit)):Option ((yaV×Int×zaZ)):=
 (zpP o v0 v1 v2 v3 v4 v5 v6).bind fun v9=>match v9 with
 |.inl v10=>some (((([]:List Bs),([]:List Bs),([]:List Bs)),v10.2.2.2.2.2.2),v10.1,v10.2.1,v10.2.2.1,v10.2.2.2.1,v10.2.2.2.2.1,v10.2.2.2.2.2.1)|.inr v11=>(let v12:yaV:=zdW keqS v11.2.1 v0 ((([]:List Bs),([]:List Bs),([]:List Bs)),(0:Int))
 bif(!(mhas keqS v11.2.1 v0))then some (((([]:List Bs),([]:List Bs),([]:List Bs)),(0:Int)),(122:Int),v11.1,v11.2.1,v11.2.2.1,v11.2.2.2.1,v11.2.2.2.2.1)else((zeM o v1 v11.1 v11.2.1 v11.2.2.1 v11.2.2.2.1 v11.2.2.2.2.1).bind fun v13=>bif(!v13.1)then some (((([]:List Bs),([]:List Bs),([]:List Bs)),(0:Int)),(122:Int),v13.2)else some (v12,(0:Int),v13.2)))
def ziV(o:Ops):SC:=⟨⟨[(0,(.ptr 0 0)),(1,hS),(2,(.ag [(.kn .i64 1),(.fn 245 [] [(.ptr 1 0)])])),(3,hS)],[zkB,zyT,zaE,zaF,zaD,zaC,qaV]⟩,2,[(none,⟨[(0,(.h ywK)),(1,hI)],[zkB,zyT,zaE,zaF,zaD,zaC,qaV]⟩)],fun x=>zeC o x.1 x.2.1 x.2.2.1 x.2.2.2.1 x.2.2.2.2.1 x.2.2.2.2.2.1 x.2.2.2.2.2.2⟩
theorem zpO:SCok aB tabs 199 (ziV o):=zbB (o:=o) (η:=[(2000003,.join [] [1,3] [(some 1000000,⟨[(8,(.ptr 7 0)),(9,hI)],[zkB,zyT,zaE,zaF,zaD,zaC,qaV,yxF]⟩),(none,⟨[(0,(.ptr 0 0)),(6,(.ptr 7 0)),(8,(.ptr 8 0))],[zkB,zyT,zaE,zaF,zaD,zaC,qaV,.blk 187 [(.kn .i64 1),(.fn 245 [] [(.ptr 1 0)])],yxF]⟩)])]) (Γ:=⟨[(13,(zbE o))],[(245,(zgS o))],false,[]⟩) (ctok ⟨zbI,trivial⟩ ⟨zlO,trivial⟩) Tryz.func199
def zxB(_o:Ops)(v0:Bs):Option (Bool):=
 some (v0 != v0)
def yeZ(o:Ops):PC:=⟨[hS],[.b],fun x=>zxB o x,false⟩
theorem yrD:PCok aB tabs 307 (yeZ o):=zhK (o:=o) (η:=[]) (Γ:=⟨[],[],false,[]⟩) (ctok trivial trivial) Tryz.func307
def yaK(o:Ops)(v0:Bs)(v1:Bs):Option (Bool):=
 (zxB o v0).bind fun v2=>bif v2 then((zxB o v1).bind fun v3=>bif(!v3)then(some true)else(some (Op.bytesLess v0 v1)))else(some (Op.bytesLess v0 v1))
def yiF(o:Ops):PC:=⟨[hS,hS],[.b],fun x=>yaK o x.1 x.2,false⟩
theorem yrN:PCok aB tabs 268 (yiF o):=zhK (o:=o) (η:=[]) (Γ:=⟨[(307,(yeZ o))],[],false,[]⟩) (ctok ⟨yrD,trivial⟩ trivial) Tryz.func268
def zpG(_o:Ops)(v0:Bs):Option (Bool):=
 some (v0 != v0)
def zzQ(o:Ops):PC:=⟨[hS],[.b],fun x=>zpG o x,false⟩
theorem yhV:PCok aB tabs 278 (zzQ o):=zhK (o:=o) (η:=[]) (Γ:=⟨[],[],false,[]⟩) (ctok trivial trivial) Tryz.func278
def zfE(o:Ops)(v0:List Bs)(v1:Bs)(v2:Int)(v3:Int):Option ((Int×Int)⊕Int):=
 bif decide (v2<v3)then((chk (decide ((0:Int)<=((1:UInt64).toNat:Int)))).bind fun _=>let v4:UInt64:=i64 (shrI .u64 ((i64 (w64 (v2+v3))).toNat:Int) ((1:UInt64).toNat:Int))
 (idx v0 (w64 (v4.toNat:Int))).bind fun v5=>(yaK o v5 v1).bind fun v6=>bif v6 then some (.inl (w64 ((w64 (v4.toNat:Int))+1),v3))else some (.inl (v2,w64 (v4.toNat:Int))))else some (.inr v2)
def zdJ(o:Ops)(v0:List Bs)(v1:Bs):Option (Int×Bool):=
 (iter (fun x=>zfE o v0 v1 x.1 x.2) ((0:Int),(v0.length:Int))).bind fun v7=>bif decide (v7<(v0.length:Int))then((idx v0 v7).bind fun v8=>bif(v8==v1)then(some (v7,true))else((idx v0 v7).bind fun v9=>(zpG o v9).bind fun v10=>bif v10 then((zpG o v1).bind fun v11=>some (v7,v11))else(some (v7,false))))else(some (v7,false))
def zhW(o:Ops):PC:=⟨[(.h (.sl .s)),hS],[(.i .i64),.b],fun x=>zdJ o x.1 x.2,false⟩
theorem zoA:PCok aB tabs 213 (zhW o):=zhK (o:=o) (η:=[(200003,.loop [] ⟨[(7,hI),(8,hI)],[]⟩ [0,1,4,5,6] [(some 0,⟨[(7,hI)],[]⟩)])]) (Γ:=⟨[(268,(yiF o)),(278,(zzQ o))],[],false,[]⟩) (ctok ⟨yrN,⟨yhV,trivial⟩⟩ trivial) Tryz.func213
def zaY(o:Ops)(v0:List Bs)(v1:Bs):Option (Bool):=
 (zdJ o v0 v1).bind fun v2=>some v2.2
def zcJ(o:Ops):PC:=⟨[(.h (.sl .s)),hS],[.b],fun x=>zaY o x.1 x.2,false⟩
theorem zdA:PCok aB tabs 131 (zcJ o):=zhK (o:=o) (η:=[]) (Γ:=⟨[(213,(zhW o))],[],false,[]⟩) (ctok ⟨zoA,trivial⟩ trivial) Tryz.func131
def zdQ(_o:Ops)(v17:yaV)(v18:Int)(v19:qbZ)(v20:qbY)(v21:qbW)(v22:qbV)(v23:List ((Bs×Bs)×Unit))(v24:List (Bs×Unit))(v25:List Bs):Option ((Int×qbZ×qbY×qbW×qbV×(List ((Bs×Bs)×Unit))×(List (Bs×Unit))×List Bs)⊕((qbZ×qbY×qbW×qbV×(List ((Bs×Bs)×Unit))×(List (Bs×Unit))×List Bs))):=
 bif decide (v18<(v17.1.2.1.length:Int))then((idx v17.1.2.1 v18).bind fun v26=>let _v27:Unit:=zdW keqS v24 v26 ()
 bif(!(mhas keqS v24 v26))then(let v28:List (Bs×Unit):=mset keqS kltS v24 v26 ()
 (app v25 ([v26]:List Bs)).bind fun v29=>some (.inl (w64 (v18+1),v19,v20,v21,v22,v23,v28,v29)))else some (.inl (w64 (v18+1),v19,v20,v21,v22,v23,v24,v25)))else some (.inr (v19,v20,v21,v22,v23,v24,v25))
def zeK(o:Ops)(v1:Bs)(v8:qbZ)(v9:qbY)(v10:qbW)(v11:qbV)(v12:List ((Bs×Bs)×Unit))(v13:List (Bs×Unit))(v14:List Bs):Option ((qbZ×qbY×qbW×qbV×(List ((Bs×Bs)×Unit))×(List (Bs×Unit))×List Bs)⊕((Bool×zaZ)⊕zaZ)):=
 bif decide ((v14.length:Int)>0)then((chk (decide ((0:Int)<=0)&&decide ((0:Int)<(v14.length:Int)))).bind fun _=>(idx v14 (0:Int)).bind fun v15=>bif(v15==v1)then some (.inr (.inl (true,v8,v9,v10,v11,v12)))else((chk (decide ((0:Int)<=0)&&decide ((0:Int)<(v14.length:Int)))).bind fun _=>(idx v14 (0:Int)).bind fun v16=>let v17:yaV:=zdW keqS v9 v16 ((([]:List Bs),([]:List Bs),([]:List Bs)),(0:Int))
 (iter (fun x=>zdQ o v17 x.1 x.2.1 x.2.2.1 x.2.2.2.1 x.2.2.2.2.1 x.2.2.2.2.2.1 x.2.2.2.2.2.2.1 x.2.2.2.2.2.2.2) ((0:Int),v8,v9,v10,v11,v12,v13,v14)).bind fun v30=>(subL v30.2.2.2.2.2.2 (1:Int)).bind fun v31=>some (.inl (v30.1,v30.2.1,v30.2.2.1,v30.2.2.2.1,v30.2.2.2.2.1,v30.2.2.2.2.2.1,v31))))else some (.inr (.inr (v8,v9,v10,v11,v12)))
def zfA(o:Ops)(v0:Bs)(v1:Bs)(v2:qbZ)(v3:qbY)(v4:qbW)(v5:qbV)(v6:List ((Bs×Bs)×Unit)):Option ((Bool×zaZ)):=
 let v7:List (Bs×Unit):=mset keqS kltS ([]:List (Bs×Unit)) v0 ()
 (iter (fun x=>zeK o v1 x.1 x.2.1 x.2.2.1 x.2.2.2.1 x.2.2.2.2.1 x.2.2.2.2.2.1 x.2.2.2.2.2.2) (v2,v3,v4,v5,v6,v7,([v0]:List Bs))).bind fun v32=>match v32 with
 |.inl v33=>some v33|.inr v34=>some (false,v34)
def znB(o:Ops):SC:=⟨⟨[(0,(.ptr 0 0)),(1,hS),(2,hS)],[zaU,zaE,zaF,zaD,zaC,qaV]⟩,1,[(none,⟨[(0,hB)],[zaU,zaE,zaF,zaD,zaC,qaV]⟩)],fun x=>zfA o x.1 x.2.1 x.2.2.1 x.2.2.2.1 x.2.2.2.2.1 x.2.2.2.2.2.1 x.2.2.2.2.2.2⟩
theorem zvW:SCok aB tabs 200 (znB o):=zbB (o:=o) (η:=[(200008,.loop [] ⟨[(0,(.ptr 0 0)),(7,(.mpr 6)),(8,(.own 7)),(40,hI)],[zaU,zaE,zaF,zaD,zaC,qaV,zmG,.qu .s 9]⟩ [2,38,39] [(some 2,⟨[(0,(.ptr 0 0)),(7,(.mpr 6)),(8,(.own 7))],[zaU,zaE,zaF,zaD,zaC,qaV,zmG,.qu .s 9]⟩)]),
 (200003,.loop [.qu 8] ⟨[(0,(.ptr 0 0)),(7,(.mpr 6)),(8,(.own 7))],[zaU,zaE,zaF,zaD,zaC,qaV,zmG,.qu .s 9]⟩ [2] [(some 1000000,⟨[(6,hB)],[zaU,zaE,zaF,zaD,zaC,qaV]⟩),(some 0,⟨[],[zaU,zaE,zaF,zaD,zaC,qaV]⟩)]),
 (4000007,.sch (zpu 0 12))]) (Γ:=⟨[],[],false,[]⟩) (ctok trivial trivial) Tryz.func200
def zwI:SC:=⟨⟨[(0,(.h (.sl .s)))],[]⟩,1,[(none,⟨[(0,(.own 0))],[.osl .s 9]⟩)],fun xs=>app [] xs⟩
theorem ztI:SCok aB tabs 198 zwI:=wit (G:=tabs)<|clone_sc yfF τ_okWkF Tryz.func198 (isFn Tryz.func198) rfl (by kernel_rfl) (by kernel_rfl) (by kernel_rfl) (fun _=>by kernel_rfl)
def yoI:SC:=⟨⟨[(0,(.own 0)),(1,hI),(2,(.own 1))],[.osl .s 9,.osl .s 9]⟩,1,[(none,⟨[(0,(.own 2))],[.dead,.dead,.osl .s 9]⟩)],insTP⟩
theorem xdT:SCok aB tabs 261 yoI:=wit (G:=tabs)<|insK
def zeI(o:Ops)(v0:List Bs)(v1:Bs):Option (List Bs):=
 (zdJ o v0 v1).bind fun v2=>(app ([]:List Bs) v0).bind fun v3=>((fun i xs vs=>insTP (i,xs,vs)) v2.1 v3 ([v1]:List Bs)).bind fun v4=>some v4
def zpJ(o:Ops):PC:=⟨[(.h (.sl .s)),hS],[(.sl .s)],fun x=>zeI o x.1 x.2,false⟩
theorem zuO:PCok aB tabs 201 (zpJ o):=zhK (o:=o) (η:=[]) (Γ:=⟨[(213,(zhW o))],[(198,zwI),(261,yoI)],false,[]⟩) (ctok ⟨zoA,trivial⟩ ⟨ztI,⟨xdT,trivial⟩⟩) Tryz.func201
def zqD(o:Ops)(v0:Bs)(v1:Bs)(v2:qbZ)(v3:qbY)(v4:qbW)(v5:qbV)(v6:List ((Bs×Bs)×Unit)):Option ((Int×qbZ×qbY×qbW×qbV×(List ((Bs×Bs)×Unit))×(List Bs)×(List Bs)×(List Bs)×Int)):=
 (zaQ o v2 v3 v4 v5 v6).bind fun v7=>(zeC o v0 v1 v7.1 v7.2.1 v7.2.2.1 v7.2.2.2.1 v7.2.2.2.2).bind fun v8=>some (v8.2.1,v8.2.2.1,v8.2.2.2.1,v8.2.2.2.2.1,v8.2.2.2.2.2.1,v8.2.2.2.2.2.2,v8.1.1.1,v8.1.1.2.1,v8.1.1.2.2,v8.1.2)
def zqG(o:Ops)(v1:Bs)(v9:Int×qbZ×qbY×qbW×qbV×(List ((Bs×Bs)×Unit))×(List Bs)×(List Bs)×(List Bs)×Int):Option ((Bool×qbZ×qbY×qbW×qbV×(List ((Bs×Bs)×Unit))×(List Bs)×(List Bs)×(List Bs)×Int)):=
 (zaY o v9.2.2.2.2.2.2.2.1 v1).bind fun v10=>some (v10,v9.2)
def zqB(o:Ops)(v0:Bs)(v1:Bs)(v9:Int×qbZ×qbY×qbW×qbV×(List ((Bs×Bs)×Unit))×(List Bs)×(List Bs)×(List Bs)×Int):Option ((Int×zaZ)⊕(qbZ×qbY×qbW×qbV×(List ((Bs×Bs)×Unit))×(List Bs)×(List Bs)×(List Bs)×Int)):=
 bif(v9.1 != 0)then some (.inl (v9.1,v9.2.1,v9.2.2.1,v9.2.2.2.1,v9.2.2.2.2.1,v9.2.2.2.2.2.1))else((zqG o v1 v9).bind fun v11=>bif v11.1 then some (.inl ((121:Int),v11.2.1,v11.2.2.1,v11.2.2.2.1,v11.2.2.2.2.1,v11.2.2.2.2.2.1))else((zfA o v1 v0 v11.2.1 v11.2.2.1 v11.2.2.2.1 v11.2.2.2.2.1 v11.2.2.2.2.2.1).bind fun v12=>bif v12.1 then some (.inl ((123:Int),v12.2))else some (.inr (v12.2.1,v12.2.2.1,v12.2.2.2.1,v12.2.2.2.2.1,v12.2.2.2.2.2,v11.2.2.2.2.2.2))))
def zpK(o:Ops)(v1:Bs)(v15:qbZ×qbY×qbW×qbV×(List ((Bs×Bs)×Unit))×(List Bs)×(List Bs)×(List Bs)×Int):Option ((qbZ×qbY×qbW×qbV×(List ((Bs×Bs)×Unit))×(List Bs)×(List Bs)×(List Bs)×Int)):=
 (zeI o v15.2.2.2.2.2.2.1 v1).bind fun v16=>some (v15.1,v15.2.1,v15.2.2.1,v15.2.2.2.1,v15.2.2.2.2.1,v15.2.2.2.2.2.1,v16,v15.2.2.2.2.2.2.2)
def zgJ(o:Ops)(v0:Bs)(v1:Bs)(v2:qbZ)(v3:qbY)(v4:qbW)(v5:qbV)(v6:List ((Bs×Bs)×Unit)):Option ((Int×zaZ)):=
 (zqD o v0 v1 v2 v3 v4 v5 v6).bind fun v9=>(zqB o v0 v1 v9).bind fun v13=>match v13 with
 |.inl v14=>some v14|.inr v15=>((zpK o v1 v15).bind fun v17=>let v18:qbY:=mset keqS kltS v17.2.1 v0 ((v17.2.2.2.2.2.1,v17.2.2.2.2.2.2.1,v17.2.2.2.2.2.2.2.1),w64 (v17.2.2.2.2.2.2.2.2+1))
 some ((0:Int),v17.1,v18,v17.2.2.1,v17.2.2.2.1,v17.2.2.2.2.1))
def zqH(o:Ops):SC:=⟨⟨[(0,(.ptr 0 0)),(1,hS),(2,(.kn .i64 1)),(3,hS)],[zaU,zaE,zaF,zaD,zaC,qaV]⟩,1,[(none,⟨[(0,hI)],[zaU,zaE,ycY,zaD,zaC,qaV]⟩)],fun x=>zgJ o x.1 x.2.1 x.2.2.1 x.2.2.2.1 x.2.2.2.2.1 x.2.2.2.2.2.1 x.2.2.2.2.2.2⟩
theorem zyX:SCok aB tabs 101 (zqH o):=zbB (o:=o) (η:=[(2100000,.join [] [1,2,3] [(none,⟨[(0,(.ptr 0 0)),(9,(.ptr 6 0)),(10,hI)],[zaU,zaE,zaF,zaD,zaC,qaV,zyO]⟩)]),
 (2300005,.join [] [1,2,3] [(none,⟨[(0,(.ptr 0 0)),(9,(.ptr 6 0)),(26,hB)],[zaU,zaE,zaF,zaD,zaC,qaV,zyO]⟩)]),
 (2000008,.join [] [1,2,3] [(some 1000000,⟨[(8,hI)],[zaU,zaE,zaF,zaD,zaC,qaV]⟩),(none,⟨[(0,(.ptr 0 0)),(9,(.ptr 6 0))],[zaU,zaE,zaF,zaD,zaC,qaV,zyO]⟩)]),
 (2000009,.join [] [1] [(none,⟨[(0,(.ptr 0 0)),(9,(.ptr 6 0))],[zaU,zaE,zaF,zaD,zaC,qaV,zyO]⟩)]),
 (4000010,.sch (zpu 0 6++[(.mn,6,[0,1,2,3,4,5,6])]))]) (Γ:=⟨[(131,(zcJ o)),(201,(zpJ o))],[(173,(zbJ o)),(199,(ziV o)),(200,(znB o))],false,[]⟩) (ctok ⟨zdA,⟨zuO,trivial⟩⟩ ⟨zbQ,⟨zpO,⟨zvW,trivial⟩⟩⟩) Tryz.func101
def zeD(o:Ops)(v0:Bs)(v1:Bs)(v2:qbZ)(v3:qbY)(v4:qbW)(v5:qbV)(v6:List ((Bs×Bs)×Unit)):Option ((Int×zaZ)):=
 (zgJ o v0 v1 v2 v3 v4 v5 v6).bind fun v7=>some v7
def ziM(o:Ops):SC:=⟨⟨[(0,(.ptr 0 0)),(1,hS),(2,hS)],[zaU,zaE,zaF,zaD,zaC,qaV]⟩,1,[(none,⟨[(0,hI)],[zaU,zaE,ycY,zaD,zaC,qaV]⟩)],fun x=>zeD o x.1 x.2.1 x.2.2.1 x.2.2.2.1 x.2.2.2.2.1 x.2.2.2.2.2.1 x.2.2.2.2.2.2⟩
theorem zqJ:SCok aB tabs 33 (ziM o):=zbB (o:=o) (η:=[]) (Γ:=⟨[],[(101,(zqH o))],false,[]⟩) (ctok trivial ⟨zyX,trivial⟩) Tryz.func33
def zeE(_o:Ops)(v0:Bs)(v1:qbZ)(v2:qbY)(v3:qbW)(v4:qbV)(v5:List ((Bs×Bs)×Unit)):Option ((Bool×zaZ)):=
 let _v6:zxZ:=zdW keqS v1 v0 (([]:Bs),([]:Bs),false,(0:Int))
 some (mhas keqS v1 v0,v1,v2,v3,v4,v5)
def zgM(o:Ops):SC:=⟨⟨[(0,hS),(1,(.ptr 0 0))],[zuI,zkB,zaE,zaF,zaD,zaC,qaV]⟩,1,[(none,⟨[(0,hB)],[zuI,zkB,zaE,zaF,zaD,zaC,qaV]⟩)],fun x=>zeE o x.1 x.2.1 x.2.2.1 x.2.2.2.1 x.2.2.2.2.1 x.2.2.2.2.2⟩
theorem zlU:SCok aB tabs 244 (zgM o):=zbB (o:=o) (η:=[]) (Γ:=⟨[],[],false,[]⟩) (ctok trivial trivial) Tryz.func244
def zoB(o:Ops)(v0:Bs)(v1:Bs)(v2:qbZ)(v3:qbY)(v4:qbW)(v5:qbV)(v6:List ((Bs×Bs)×Unit)):Option ((Int×qbZ×qbY×qbW×qbV×(List ((Bs×Bs)×Unit))×Int)⊕(qbZ×qbY×qbW×qbV×(List ((Bs×Bs)×Unit))×Int)):=
 (zaN o v0).bind fun v7=>bif(!v7)then some (.inl ((120:Int),v2,v3,v4,v5,v6,(0:Int)))else((zaN o v1).bind fun v8=>bif(!v8)then some (.inl ((120:Int),v2,v3,v4,v5,v6,(0:Int)))else some (.inr (v2,v3,v4,v5,v6,(0:Int))))
def zdE(o:Ops)(v0:Bs)(v1:Bs)(v2:qbZ)(v3:qbY)(v4:qbW)(v5:qbV)(v6:List ((Bs×Bs)×Unit)):Option ((yaV×Int×zaZ)):=
 (zoB o v0 v1 v2 v3 v4 v5 v6).bind fun v9=>match v9 with
 |.inl v10=>some (((([]:List Bs),([]:List Bs),([]:List Bs)),v10.2.2.2.2.2.2),v10.1,v10.2.1,v10.2.2.1,v10.2.2.2.1,v10.2.2.2.2.1,v10.2.2.2.2.2.1)|.inr v11=>(let v12:yaV:=zdW keqS v11.2.1 v0 ((([]:List Bs),([]:List Bs),([]:List Bs)),(0:Int))
 bif(!(mhas keqS v11.2.1 v0))then some (((([]:List Bs),([]:List Bs),([]:List Bs)),(0:Int)),(122:Int),v11.1,v11.2.1,v11.2.2.1,v11.2.2.2.1,v11.2.2.2.2.1)else((zeE o v1 v11.1 v11.2.1 v11.2.2.1 v11.2.2.2.1 v11.2.2.2.2.1).bind fun v13=>bif(!v13.1)then some (((([]:List Bs),([]:List Bs),([]:List Bs)),(0:Int)),(122:Int),v13.2)else some (v12,(0:Int),v13.2)))
def zhV(o:Ops):SC:=⟨⟨[(0,(.ptr 0 0)),(1,hS),(2,(.ag [(.kn .i64 0),(.fn 244 [] [(.ptr 1 0)])])),(3,hS)],[zkB,zyT,zaE,zaF,zaD,zaC,qaV]⟩,2,[(none,⟨[(0,(.h ywK)),(1,hI)],[zkB,zyT,zaE,zaF,zaD,zaC,qaV]⟩)],fun x=>zdE o x.1 x.2.1 x.2.2.1 x.2.2.2.1 x.2.2.2.2.1 x.2.2.2.2.2.1 x.2.2.2.2.2.2⟩
theorem znT:SCok aB tabs 199 (zhV o):=zbB (o:=o) (η:=[(2000003,.join [] [1,3] [(some 1000000,⟨[(8,(.ptr 7 0)),(9,hI)],[zkB,zyT,zaE,zaF,zaD,zaC,qaV,yxF]⟩),(none,⟨[(0,(.ptr 0 0)),(6,(.ptr 7 0)),(8,(.ptr 8 0))],[zkB,zyT,zaE,zaF,zaD,zaC,qaV,.blk 187 [(.kn .i64 0),(.fn 244 [] [(.ptr 1 0)])],yxF]⟩)])]) (Γ:=⟨[(13,(zbE o))],[(244,(zgM o))],false,[]⟩) (ctok ⟨zbI,trivial⟩ ⟨zlU,trivial⟩) Tryz.func199
def zoH(o:Ops)(v0:Bs)(v1:Bs)(v2:qbZ)(v3:qbY)(v4:qbW)(v5:qbV)(v6:List ((Bs×Bs)×Unit)):Option ((Int×qbZ×qbY×qbW×qbV×(List ((Bs×Bs)×Unit))×(List Bs)×(List Bs)×(List Bs)×Int)):=
 (zaQ o v2 v3 v4 v5 v6).bind fun v7=>(zdE o v0 v1 v7.1 v7.2.1 v7.2.2.1 v7.2.2.2.1 v7.2.2.2.2).bind fun v8=>some (v8.2.1,v8.2.2.1,v8.2.2.2.1,v8.2.2.2.2.1,v8.2.2.2.2.2.1,v8.2.2.2.2.2.2,v8.1.1.1,v8.1.1.2.1,v8.1.1.2.2,v8.1.2)
def zoI(o:Ops)(v1:Bs)(v9:Int×qbZ×qbY×qbW×qbV×(List ((Bs×Bs)×Unit))×(List Bs)×(List Bs)×(List Bs)×Int):Option ((Bool×qbZ×qbY×qbW×qbV×(List ((Bs×Bs)×Unit))×(List Bs)×(List Bs)×(List Bs)×Int)):=
 (zaY o v9.2.2.2.2.2.2.1 v1).bind fun v10=>some (v10,v9.2)
def zoK(o:Ops)(v1:Bs)(v9:Int×qbZ×qbY×qbW×qbV×(List ((Bs×Bs)×Unit))×(List Bs)×(List Bs)×(List Bs)×Int):Option ((Int×zaZ)⊕(qbZ×qbY×qbW×qbV×(List ((Bs×Bs)×Unit))×(List Bs)×(List Bs)×(List Bs)×Int)):=
 bif(v9.1 != 0)then some (.inl (v9.1,v9.2.1,v9.2.2.1,v9.2.2.2.1,v9.2.2.2.2.1,v9.2.2.2.2.2.1))else((zoI o v1 v9).bind fun v11=>bif v11.1 then some (.inl ((121:Int),v11.2.1,v11.2.2.1,v11.2.2.2.1,v11.2.2.2.2.1,v11.2.2.2.2.2.1))else some (.inr v11.2))
def zoE(o:Ops)(v1:Bs)(v14:qbZ×qbY×qbW×qbV×(List ((Bs×Bs)×Unit))×(List Bs)×(List Bs)×(List Bs)×Int):Option ((qbZ×qbY×qbW×qbV×(List ((Bs×Bs)×Unit))×(List Bs)×(List Bs)×(List Bs)×Int)):=
 (zeI o v14.2.2.2.2.2.1 v1).bind fun v15=>some (v14.1,v14.2.1,v14.2.2.1,v14.2.2.2.1,v14.2.2.2.2.1,v15,v14.2.2.2.2.2.2)
def zfR(o:Ops)(v0:Bs)(v1:Bs)(v2:qbZ)(v3:qbY)(v4:qbW)(v5:qbV)(v6:List ((Bs×Bs)×Unit)):Option ((Int×zaZ)):=
 (zoH o v0 v1 v2 v3 v4 v5 v6).bind fun v9=>(zoK o v1 v9).bind fun v12=>match v12 with
 |.inl v13=>some v13|.inr v14=>((zoE o v1 v14).bind fun v16=>let v17:qbY:=mset keqS kltS v16.2.1 v0 ((v16.2.2.2.2.2.1,v16.2.2.2.2.2.2.1,v16.2.2.2.2.2.2.2.1),w64 (v16.2.2.2.2.2.2.2.2+1))
 some ((0:Int),v16.1,v17,v16.2.2.1,v16.2.2.2.1,v16.2.2.2.2.1))
def zoM(o:Ops):SC:=⟨⟨[(0,(.ptr 0 0)),(1,hS),(2,(.kn .i64 0)),(3,hS)],[zaU,zaE,zaF,zaD,zaC,qaV]⟩,1,[(none,⟨[(0,hI)],[zaU,zaE,ycY,zaD,zaC,qaV]⟩)],fun x=>zfR o x.1 x.2.1 x.2.2.1 x.2.2.2.1 x.2.2.2.2.1 x.2.2.2.2.2.1 x.2.2.2.2.2.2⟩
theorem zyJ:SCok aB tabs 101 (zoM o):=zbB (o:=o) (η:=[(2100000,.join [] [1,2,3] [(none,⟨[(0,(.ptr 0 0)),(9,(.ptr 6 0)),(10,hI)],[zaU,zaE,zaF,zaD,zaC,qaV,zyO]⟩)]),
 (2300005,.join [] [1,2,3] [(none,⟨[(0,(.ptr 0 0)),(9,(.ptr 6 0)),(26,hB)],[zaU,zaE,zaF,zaD,zaC,qaV,zyO]⟩)]),
 (2000008,.join [] [1,2,3] [(some 1000000,⟨[(8,hI)],[zaU,zaE,zaF,zaD,zaC,qaV]⟩),(none,⟨[(0,(.ptr 0 0)),(9,(.ptr 6 0))],[zaU,zaE,zaF,zaD,zaC,qaV,zyO]⟩)]),
 (2000009,.join [] [1] [(none,⟨[(0,(.ptr 0 0)),(9,(.ptr 6 0))],[zaU,zaE,zaF,zaD,zaC,qaV,zyO]⟩)]),
 (4000010,.sch (zpu 0 6++[(.mn,6,[0,1,2,3,4,5,6])]))]) (Γ:=⟨[(131,(zcJ o)),(201,(zpJ o))],[(173,(zbJ o)),(199,(zhV o))],false,[]⟩) (ctok ⟨zdA,⟨zuO,trivial⟩⟩ ⟨zbQ,⟨znT,trivial⟩⟩) Tryz.func101
def zgG(o:Ops)(v0:Bs)(v1:Bs)(v2:qbZ)(v3:qbY)(v4:qbW)(v5:qbV)(v6:List ((Bs×Bs)×Unit)):Option ((Int×zaZ)):=
 (zfR o v0 v1 v2 v3 v4 v5 v6).bind fun v7=>some v7
def zjG(o:Ops):SC:=⟨⟨[(0,(.ptr 0 0)),(1,hS),(2,hS)],[zaU,zaE,zaF,zaD,zaC,qaV]⟩,1,[(none,⟨[(0,hI)],[zaU,zaE,ycY,zaD,zaC,qaV]⟩)],fun x=>zgG o x.1 x.2.1 x.2.2.1 x.2.2.2.1 x.2.2.2.2.1 x.2.2.2.2.2.1 x.2.2.2.2.2.2⟩
theorem zpQ:SCok aB tabs 73 (zjG o):=zbB (o:=o) (η:=[]) (Γ:=⟨[],[(101,(zoM o))],false,[]⟩) (ctok trivial ⟨zyJ,trivial⟩) Tryz.func73
def zgC(o:Ops)(v0:Bs):Option (Bool):=
 (zkU o v0 (32:Int) ([97,98,99,100,101,102,103,104,105,106,107,108,109,110,111,112,113,114,115,116,117,118,119,120,121,122,48,49,50,51,52,53,54,55,56,57,46,95,45,58]:Bs)).bind fun v1=>some v1
def zzX(o:Ops):PC:=⟨[hS],[.b],fun x=>zgC o x,false⟩
theorem yiE:PCok aB tabs 17 (zzX o):=zhK (o:=o) (η:=[]) (Γ:=⟨[(63,(zzC o))],[],false,[]⟩) (ctok ⟨yeV,trivial⟩ trivial) Tryz.func17
def zsV(o:Ops)(v0:List Bs)(v2:Int):Option (Int⊕(Bool⊕Unit)):=
 bif decide (v2<(v0.length:Int))then((idx v0 v2).bind fun v3=>(zgC o v3).bind fun v4=>bif(!v4)then some (.inr (.inl false))else(bif decide (v2>0)then((idx v0 (w64 (v2-1))).bind fun v5=>bif(Op.bytesLess v3 v5||v3==v5)then some (.inr (.inl false))else some (.inl (w64 (v2+1))))else some (.inl (w64 (v2+1)))))else some (.inr (.inr ()))
def zkJ(o:Ops)(v0:List Bs)(v1:Int):Option (Bool):=
 (iter (zsV o v0) (0:Int)).bind fun v6=>match v6 with
 |.inl v7=>some v7|.inr _v8=>some (decide ((v0.length:Int)<=v1))
def zsM(o:Ops):SC:=⟨⟨[(0,(.h (.sl .s))),(1,hI),(2,(.fn 17 [] []))],[]⟩,1,[(none,⟨[(0,hB)],[]⟩)],fun x=>zkJ o x.1 x.2⟩
theorem zzH:SCok aB tabs 174 (zsM o):=zbB (o:=o) (η:=[(200002,.loop [] ⟨[(2,(.fn 17 [] [])),(11,hI)],[]⟩ [0,1,9,10] [(some 1000000,⟨[(6,hB)],[]⟩),(some 0,⟨[],[]⟩)])]) (Γ:=⟨[(17,(zzX o))],[],false,[]⟩) (ctok ⟨yiE,trivial⟩ trivial) Tryz.func174
def zjL(o:Ops)(v0:zdL):Option (Bool):=
 (zaN o v0.1).bind fun v1=>bif v1 then((zkJ o v0.2 (16:Int)).bind fun v2=>some v2)else(some false)
def zpI(o:Ops):PC:=⟨[(.h yeB)],[.b],fun x=>zjL o x,false⟩
theorem ztX:PCok aB tabs 104 (zpI o):=zhK (o:=o) (η:=[]) (Γ:=⟨[(13,(zbE o))],[(174,(zsM o))],false,[]⟩) (ctok ⟨zbI,trivial⟩ ⟨zzH,trivial⟩) Tryz.func104
def ybT:PC:=⟨[.h (.sl .s)],[(.sl .s)],fun xs=>some xs,true⟩
theorem ydR:PCok aB tabs 61 ybT:=wit (G:=tabs)<|ylV yfF τ_okWkF Tryz.func61 (isFn Tryz.func61) rfl (by kernel_rfl) rfl (fun _=>by kernel_rfl)
def zeT(_o:Ops)(v0:zdL):Option zdL:=
 (app ([]:List Bs) v0.2).bind fun v1=>some (v0.1,v1)
def zkA(o:Ops):PC:=⟨[(.h yeB)],[yeB],fun x=>zeT o x,false⟩
theorem zrF:PCok aB tabs 105 (zkA o):=zhK (o:=o) (η:=[]) (Γ:=⟨[(61,ybT)],[(198,zwI)],false,[]⟩) (ctok ⟨ydR,trivial⟩ ⟨ztI,trivial⟩) Tryz.func105
def zlQ(_o:Ops)(v0:zdL)(v1:qbZ)(v2:qbY)(v3:qbW)(v4:qbV)(v5:List ((Bs×Bs)×Unit)):Option ((Int×zaZ)⊕(qbZ×qbY×qbW×qbV×(List ((Bs×Bs)×Unit))×zdL)):=
 let _v7:zdL:=zdW keqS v3 v0.1 (([]:Bs),([]:List Bs))
 bif(!(mhas keqS v3 v0.1))then(bif decide ((v3.length:Int)≥32)then some (.inl ((124:Int),v1,v2,v3,v4,v5))else some (.inr (v1,v2,v3,v4,v5,v0)))else some (.inr (v1,v2,v3,v4,v5,v0))
def zcH(o:Ops)(v0:zdL)(v1:qbZ)(v2:qbY)(v3:qbW)(v4:qbV)(v5:List ((Bs×Bs)×Unit)):Option ((Int×zaZ)):=
 (zjL o v0).bind fun v6=>bif(!v6)then some ((120:Int),v1,v2,v3,v4,v5)else((zlQ o v0 v1 v2 v3 v4 v5).bind fun v8=>match v8 with
 |.inl v9=>some v9|.inr v10=>((zeT o v10.2.2.2.2.2).bind fun v11=>let v12:qbW:=mset keqS kltS v10.2.2.1 v10.2.2.2.2.2.1 v11
 some ((0:Int),v10.1,v10.2.1,v12,v10.2.2.2.1,v10.2.2.2.2.1)))
def zgO(o:Ops):SC:=⟨⟨[(0,(.ptr 0 0)),(1,(.h yeB))],[zaU,zaE,zaF,zaD,zaC,qaV]⟩,1,[(none,⟨[(0,hI)],[zaU,zaE,zaF,xdL,zaC,qaV]⟩)],fun x=>zcH o x.1 x.2.1 x.2.2.1 x.2.2.2.1 x.2.2.2.2.1 x.2.2.2.2.2⟩
theorem zlN:SCok aB tabs 36 (zgO o):=zbB (o:=o) (η:=[(2000006,.join [] [] [(some 1000000,⟨[(4,hI)],[zaU,zaE,zaF,zaD,zaC,qaV]⟩),(none,⟨[(0,(.ptr 0 0)),(3,(.ptr 6 0))],[zaU,zaE,zaF,zaD,zaC,qaV,.blk 49 [hS,(.h (.sl .s))]]⟩)]),
 (4000003,.sch (zpu 0 9++[(.pu,9,[7]),(.mn,10,[]),(.mn,11,[7]),(.pu,12,[])])),
 (4000006,.sch (zpu 0 7++[(.mn,7,[]),(.mn,8,[0,1,2,3,4,5,6])]))]) (Γ:=⟨[(104,(zpI o)),(105,(zkA o))],[],false,[]⟩) (ctok ⟨ztX,⟨zrF,trivial⟩⟩ trivial) Tryz.func36
def zeG(_o:Ops)(v0:Bs)(v1:qbZ)(v2:qbY)(v3:qbW)(v4:qbV)(v5:List ((Bs×Bs)×Unit)):Option ((Bool×zaZ)):=
 let _v6:zdL:=zdW keqS v3 v0 (([]:Bs),([]:List Bs))
 some (mhas keqS v3 v0,v1,v2,v3,v4,v5)
def zgV(o:Ops):SC:=⟨⟨[(0,hS),(1,(.ptr 0 0))],[zuI,zkB,zaE,zaF,zaD,zaC,qaV]⟩,1,[(none,⟨[(0,hB)],[zuI,zkB,zaE,zaF,zaD,zaC,qaV]⟩)],fun x=>zeG o x.1 x.2.1 x.2.2.1 x.2.2.2.1 x.2.2.2.2.1 x.2.2.2.2.2⟩
theorem zlW:SCok aB tabs 246 (zgV o):=zbB (o:=o) (η:=[]) (Γ:=⟨[],[],false,[]⟩) (ctok trivial trivial) Tryz.func246
def zoQ(o:Ops)(v0:Bs)(v1:Bs)(v2:qbZ)(v3:qbY)(v4:qbW)(v5:qbV)(v6:List ((Bs×Bs)×Unit)):Option ((Int×qbZ×qbY×qbW×qbV×(List ((Bs×Bs)×Unit))×Int)⊕(qbZ×qbY×qbW×qbV×(List ((Bs×Bs)×Unit))×Int)):=
 (zaN o v0).bind fun v7=>bif(!v7)then some (.inl ((120:Int),v2,v3,v4,v5,v6,(0:Int)))else((zaN o v1).bind fun v8=>bif(!v8)then some (.inl ((120:Int),v2,v3,v4,v5,v6,(0:Int)))else some (.inr (v2,v3,v4,v5,v6,(0:Int))))
def zdI(o:Ops)(v0:Bs)(v1:Bs)(v2:qbZ)(v3:qbY)(v4:qbW)(v5:qbV)(v6:List ((Bs×Bs)×Unit)):Option ((yaV×Int×zaZ)):=
 (zoQ o v0 v1 v2 v3 v4 v5 v6).bind fun v9=>match v9 with
 |.inl v10=>some (((([]:List Bs),([]:List Bs),([]:List Bs)),v10.2.2.2.2.2.2),v10.1,v10.2.1,v10.2.2.1,v10.2.2.2.1,v10.2.2.2.2.1,v10.2.2.2.2.2.1)|.inr v11=>(let v12:yaV:=zdW keqS v11.2.1 v0 ((([]:List Bs),([]:List Bs),([]:List Bs)),(0:Int))
 bif(!(mhas keqS v11.2.1 v0))then some (((([]:List Bs),([]:List Bs),([]:List Bs)),(0:Int)),(122:Int),v11.1,v11.2.1,v11.2.2.1,v11.2.2.2.1,v11.2.2.2.2.1)else((zeG o v1 v11.1 v11.2.1 v11.2.2.1 v11.2.2.2.1 v11.2.2.2.2.1).bind fun v13=>bif(!v13.1)then some (((([]:List Bs),([]:List Bs),([]:List Bs)),(0:Int)),(122:Int),v13.2)else some (v12,(0:Int),v13.2)))
def zhS(o:Ops):SC:=⟨⟨[(0,(.ptr 0 0)),(1,hS),(2,(.ag [(.kn .i64 2),(.fn 246 [] [(.ptr 1 0)])])),(3,hS)],[zkB,zyT,zaE,zaF,zaD,zaC,qaV]⟩,2,[(none,⟨[(0,(.h ywK)),(1,hI)],[zkB,zyT,zaE,zaF,zaD,zaC,qaV]⟩)],fun x=>zdI o x.1 x.2.1 x.2.2.1 x.2.2.2.1 x.2.2.2.2.1 x.2.2.2.2.2.1 x.2.2.2.2.2.2⟩
theorem zoC:SCok aB tabs 199 (zhS o):=zbB (o:=o) (η:=[(2000003,.join [] [1,3] [(some 1000000,⟨[(8,(.ptr 7 0)),(9,hI)],[zkB,zyT,zaE,zaF,zaD,zaC,qaV,yxF]⟩),(none,⟨[(0,(.ptr 0 0)),(6,(.ptr 7 0)),(8,(.ptr 8 0))],[zkB,zyT,zaE,zaF,zaD,zaC,qaV,.blk 187 [(.kn .i64 2),(.fn 246 [] [(.ptr 1 0)])],yxF]⟩)])]) (Γ:=⟨[(13,(zbE o))],[(246,(zgV o))],false,[]⟩) (ctok ⟨zbI,trivial⟩ ⟨zlW,trivial⟩) Tryz.func199
def znN(o:Ops)(v0:Bs)(v1:Bs)(v2:qbZ)(v3:qbY)(v4:qbW)(v5:qbV)(v6:List ((Bs×Bs)×Unit)):Option ((Int×qbZ×qbY×qbW×qbV×(List ((Bs×Bs)×Unit))×(List Bs)×(List Bs)×(List Bs)×Int)):=
 (zaQ o v2 v3 v4 v5 v6).bind fun v7=>(zdI o v0 v1 v7.1 v7.2.1 v7.2.2.1 v7.2.2.2.1 v7.2.2.2.2).bind fun v8=>some (v8.2.1,v8.2.2.1,v8.2.2.2.1,v8.2.2.2.2.1,v8.2.2.2.2.2.1,v8.2.2.2.2.2.2,v8.1.1.1,v8.1.1.2.1,v8.1.1.2.2,v8.1.2)
def znX(o:Ops)(v1:Bs)(v9:Int×qbZ×qbY×qbW×qbV×(List ((Bs×Bs)×Unit))×(List Bs)×(List Bs)×(List Bs)×Int):Option ((Bool×qbZ×qbY×qbW×qbV×(List ((Bs×Bs)×Unit))×(List Bs)×(List Bs)×(List Bs)×Int)):=
 (zaY o v9.2.2.2.2.2.2.2.2.1 v1).bind fun v10=>some (v10,v9.2)
def zoF(o:Ops)(v1:Bs)(v9:Int×qbZ×qbY×qbW×qbV×(List ((Bs×Bs)×Unit))×(List Bs)×(List Bs)×(List Bs)×Int):Option ((Int×zaZ)⊕(qbZ×qbY×qbW×qbV×(List ((Bs×Bs)×Unit))×(List Bs)×(List Bs)×(List Bs)×Int)):=
 bif(v9.1 != 0)then some (.inl (v9.1,v9.2.1,v9.2.2.1,v9.2.2.2.1,v9.2.2.2.2.1,v9.2.2.2.2.2.1))else((znX o v1 v9).bind fun v11=>bif v11.1 then some (.inl ((121:Int),v11.2.1,v11.2.2.1,v11.2.2.2.1,v11.2.2.2.2.1,v11.2.2.2.2.2.1))else some (.inr v11.2))
def znV(o:Ops)(v1:Bs)(v14:qbZ×qbY×qbW×qbV×(List ((Bs×Bs)×Unit))×(List Bs)×(List Bs)×(List Bs)×Int):Option ((qbZ×qbY×qbW×qbV×(List ((Bs×Bs)×Unit))×(List Bs)×(List Bs)×(List Bs)×Int)):=
 (zeI o v14.2.2.2.2.2.2.2.1 v1).bind fun v15=>some (v14.1,v14.2.1,v14.2.2.1,v14.2.2.2.1,v14.2.2.2.2.1,v14.2.2.2.2.2.1,v14.2.2.2.2.2.2.1,v15,v14.2.2.2.2.2.2.2.2)
def zfO(o:Ops)(v0:Bs)(v1:Bs)(v2:qbZ)(v3:qbY)(v4:qbW)(v5:qbV)(v6:List ((Bs×Bs)×Unit)):Option ((Int×zaZ)):=
 (znN o v0 v1 v2 v3 v4 v5 v6).bind fun v9=>(zoF o v1 v9).bind fun v12=>match v12 with
 |.inl v13=>some v13|.inr v14=>((znV o v1 v14).bind fun v16=>let v17:qbY:=mset keqS kltS v16.2.1 v0 ((v16.2.2.2.2.2.1,v16.2.2.2.2.2.2.1,v16.2.2.2.2.2.2.2.1),w64 (v16.2.2.2.2.2.2.2.2+1))
 some ((0:Int),v16.1,v17,v16.2.2.1,v16.2.2.2.1,v16.2.2.2.2.1))
def znU(o:Ops):SC:=⟨⟨[(0,(.ptr 0 0)),(1,hS),(2,(.kn .i64 2)),(3,hS)],[zaU,zaE,zaF,zaD,zaC,qaV]⟩,1,[(none,⟨[(0,hI)],[zaU,zaE,ycY,zaD,zaC,qaV]⟩)],fun x=>zfO o x.1 x.2.1 x.2.2.1 x.2.2.2.1 x.2.2.2.2.1 x.2.2.2.2.2.1 x.2.2.2.2.2.2⟩
theorem zxX:SCok aB tabs 101 (znU o):=zbB (o:=o) (η:=[(2100000,.join [] [1,2,3] [(none,⟨[(0,(.ptr 0 0)),(9,(.ptr 6 0)),(10,hI)],[zaU,zaE,zaF,zaD,zaC,qaV,zyO]⟩)]),
 (2300005,.join [] [1,2,3] [(none,⟨[(0,(.ptr 0 0)),(9,(.ptr 6 0)),(26,hB)],[zaU,zaE,zaF,zaD,zaC,qaV,zyO]⟩)]),
 (2000008,.join [] [1,2,3] [(some 1000000,⟨[(8,hI)],[zaU,zaE,zaF,zaD,zaC,qaV]⟩),(none,⟨[(0,(.ptr 0 0)),(9,(.ptr 6 0))],[zaU,zaE,zaF,zaD,zaC,qaV,zyO]⟩)]),
 (2000009,.join [] [1] [(none,⟨[(0,(.ptr 0 0)),(9,(.ptr 6 0))],[zaU,zaE,zaF,zaD,zaC,qaV,zyO]⟩)]),
 (4000010,.sch (zpu 0 6++[(.mn,6,[0,1,2,3,4,5,6])]))]) (Γ:=⟨[(131,(zcJ o)),(201,(zpJ o))],[(173,(zbJ o)),(199,(zhS o))],false,[]⟩) (ctok ⟨zdA,⟨zuO,trivial⟩⟩ ⟨zbQ,⟨zoC,trivial⟩⟩) Tryz.func101
def zgL(o:Ops)(v0:Bs)(v1:Bs)(v2:qbZ)(v3:qbY)(v4:qbW)(v5:qbV)(v6:List ((Bs×Bs)×Unit)):Option ((Int×zaZ)):=
 (zfO o v0 v1 v2 v3 v4 v5 v6).bind fun v7=>some v7
def ziW(o:Ops):SC:=⟨⟨[(0,(.ptr 0 0)),(1,hS),(2,hS)],[zaU,zaE,zaF,zaD,zaC,qaV]⟩,1,[(none,⟨[(0,hI)],[zaU,zaE,ycY,zaD,zaC,qaV]⟩)],fun x=>zgL o x.1 x.2.1 x.2.2.1 x.2.2.2.1 x.2.2.2.2.1 x.2.2.2.2.2.1 x.2.2.2.2.2.2⟩
theorem zpM:SCok aB tabs 74 (ziW o):=zbB (o:=o) (η:=[]) (Γ:=⟨[],[(101,(znU o))],false,[]⟩) (ctok trivial ⟨zxX,trivial⟩) Tryz.func74
def zbG(o:Ops)(v0:Bs):Option (Bool):=
 bif decide ((v0.length:Int)>2)then((subH v0 (2:Int)).bind fun v1=>bif(v1==([117,58]:Bs))then((subL v0 (2:Int)).bind fun v2=>(zaN o v2).bind fun v3=>some v3)else((subH v0 (2:Int)).bind fun v4=>bif(v4==([99,58]:Bs))then((subL v0 (2:Int)).bind fun v5=>(zaN o v5).bind fun v6=>some v6)else(some false)))else(some false)
def zhD(o:Ops):PC:=⟨[hS],[.b],fun x=>zbG o x,false⟩
theorem zkY:PCok aB tabs 19 (zhD o):=zhK (o:=o) (η:=[]) (Γ:=⟨[(13,(zbE o))],[],false,[]⟩) (ctok ⟨zbI,trivial⟩ trivial) Tryz.func19
def zbL(_o:Ops)(v0:Bs)(v1:qbZ)(v2:qbY)(v3:qbW)(v4:qbV)(v5:List ((Bs×Bs)×Unit)):Option ((Bool×zaZ)):=
 (idx v0 (0:Int)).bind fun v6=>bif((v6.toNat:Int)==((99:UInt8).toNat:Int))then((subL v0 (2:Int)).bind fun v7=>let _v8:zuZ:=zdW keqS v4 v7 (([]:Bs),([]:Bs),([]:List Bs),([]:List Bs),false,false,false,false)
 some (mhas keqS v4 v7,v1,v2,v3,v4,v5))else((subL v0 (2:Int)).bind fun v9=>let _v10:zxZ:=zdW keqS v1 v9 (([]:Bs),([]:Bs),false,(0:Int))
 some (mhas keqS v1 v9,v1,v2,v3,v4,v5))
def zfG(o:Ops):SC:=⟨⟨[(0,(.ptr 0 0)),(1,hS)],[zaU,zaE,zaF,zaD,zaC,qaV]⟩,1,[(none,⟨[(0,hB)],[zaU,zaE,zaF,zaD,zaC,qaV]⟩)],fun x=>zbL o x.1 x.2.1 x.2.2.1 x.2.2.2.1 x.2.2.2.2.1 x.2.2.2.2.2⟩
theorem zhU:SCok aB tabs 128 (zfG o):=zbB (o:=o) (η:=[(4000002,.sch (zpu 0 9++[(.pu,9,[6]),(.mn,10,[]),(.mn,11,[6]),(.pu,12,[])])),
 (4000004,.sch (zpu 0 9++[(.pu,9,[6]),(.mn,10,[]),(.mn,11,[6]),(.pu,12,[])]))]) (Γ:=⟨[],[],false,[]⟩) (ctok trivial trivial) Tryz.func128
def znW(o:Ops)(v0:Bs)(v1:qbZ)(v2:qbY)(v3:qbW)(v4:qbV)(v5:List ((Bs×Bs)×Unit)):Option ((Bool×zaZ)):=
 (zbG o v0).bind fun v6=>bif(!v6)then some (false,v1,v2,v3,v4,v5)else((idx v0 (0:Int)).bind fun v7=>bif((v7.toNat:Int)==((99:UInt8).toNat:Int))then((zbL o v0 v1 v2 v3 v4 v5).bind fun v8=>some v8)else((subL v0 (2:Int)).bind fun v9=>let v10:zxZ:=zdW keqS v1 v9 (([]:Bs),([]:Bs),false,(0:Int))
 some (v10.2.2.1,v1,v2,v3,v4,v5)))
def zmV(o:Ops):SC:=⟨⟨[(0,(.ptr 0 0)),(1,hS)],[zaU,zaE,zaF,zaD,zaC,qaV]⟩,1,[(none,⟨[(0,hB)],[zaU,zaE,zaF,zaD,zaC,qaV]⟩)],fun x=>znW o x.1 x.2.1 x.2.2.1 x.2.2.2.1 x.2.2.2.2.1 x.2.2.2.2.2⟩
theorem zwR:SCok aB tabs 49 (zmV o):=zbB (o:=o) (η:=[(4000005,.sch (zpu 0 9))]) (Γ:=⟨[(19,(zhD o))],[(128,(zfG o))],false,[]⟩) (ctok ⟨zkY,trivial⟩ ⟨zhU,trivial⟩) Tryz.func49
def zrD(_o:Ops)(v0:Bs)(v1:List (Bs×Unit)):Option ((Bool×List (Bs×Unit))):=
 let _v2:Unit:=zdW keqS v1 v0 ()
 some (mhas keqS v1 v0,v1)
def zpS(o:Ops):SC:=⟨⟨[(0,hS),(1,(.ptr 0 0))],[yhK,zmG]⟩,1,[(none,⟨[(0,hB)],[yhK,zmG]⟩)],fun x=>zrD o x.1 x.2⟩
theorem zyU:SCok aB tabs 130 (zpS o):=zbB (o:=o) (η:=[]) (Γ:=⟨[],[],false,[]⟩) (ctok trivial trivial) Tryz.func130
def ybO(o:Ops)(v0:List Bs)(v2:Int)(v3:List (Bs×Unit)):Option ((Int×List (Bs×Unit))⊕((Int×List (Bs×Unit))⊕(List (Bs×Unit)))):=
 bif decide (v2<(v0.length:Int))then((idx v0 v2).bind fun v4=>(zrD o v4 v3).bind fun v5=>bif v5.1 then some (.inr (.inl (v2,v5.2)))else some (.inl (w64 (v2+1),v5.2)))else some (.inr (.inr v3))
def ztR(o:Ops)(v0:List Bs)(v1:List (Bs×Unit)):Option ((Int×List (Bs×Unit))):=
 (iter (fun x=>ybO o v0 x.1 x.2) ((0:Int),v1)).bind fun v6=>match v6 with
 |.inl v7=>some v7|.inr v8=>some ((-1:Int),v8)
def zsP(o:Ops):SC:=⟨⟨[(0,(.h (.sl .s))),(1,(.fn 130 [] [(.ptr 0 0)]))],[yhK,zmG]⟩,1,[(none,⟨[(0,hI)],[yhK,zmG]⟩)],fun x=>ztR o x.1 x.2⟩
theorem ybL:SCok aB tabs 212 (zsP o):=zbB (o:=o) (η:=[(200002,.loop [] ⟨[(1,(.fn 130 [] [(.ptr 0 0)])),(8,hI)],[yhK,zmG]⟩ [0,7] [(some 1000000,⟨[(4,hI)],[yhK,zmG]⟩),(some 0,⟨[],[yhK,zmG]⟩)])]) (Γ:=⟨[],[(130,(zpS o))],false,[]⟩) (ctok trivial ⟨zyU,trivial⟩) Tryz.func212
def zqC(o:Ops)(v0:List Bs)(v1:List (Bs×Unit)):Option ((Bool×List (Bs×Unit))):=
 (ztR o v0 v1).bind fun v2=>some (decide (v2.1≥0),v2.2)
def znY(o:Ops):SC:=⟨⟨[(0,(.h (.sl .s))),(1,(.fn 130 [] [(.ptr 0 0)]))],[yhK,zmG]⟩,1,[(none,⟨[(0,hB)],[yhK,zmG]⟩)],fun x=>zqC o x.1 x.2⟩
theorem zyN:SCok aB tabs 129 (znY o):=zbB (o:=o) (η:=[]) (Γ:=⟨[],[(212,(zsP o))],false,[]⟩) (ctok trivial ⟨ybL,trivial⟩) Tryz.func129
def yhB(_o:Ops)(v0:List (Bs×Unit)):Option ((List (Bs×Unit))):=
 some v0
def yfG(o:Ops):SC:=⟨⟨[(0,(.mpr 0))],[zmG]⟩,1,[(none,⟨[(0,(.fn 215 [] [(.ptr 1 0)]))],[zmG,.blk 160 [(.mpr 0)]]⟩)],fun x=>yhB o x⟩
theorem yqC:SCok aB tabs 133 (yfG o):=zbB (o:=o) (η:=[]) (Γ:=⟨[],[],false,[]⟩) (ctok trivial trivial) Tryz.func133
def ypY:SC:=⟨⟨[(0,(.fn 215 [] [(.ptr 0 0)]))],[yhK,zmG]⟩,1,[(none,⟨[(0,(.h (.sl .s)))],[yhK,zmG]⟩)],fun es=>zkZ es⟩
theorem xbQ:SCok aB tabs 132 ypY:=wit (G:=tabs)<|zzN (kT:=9) (isFn Tryz.func132) (by kernel_rfl) YtopanhneegpgcaaGreatDoor.sorted215K
noncomputable def ybK(_o:Ops)(v6:Bool)(v7:qbZ)(v8:qbY)(v9:qbW)(v10:qbV)(v11:List ((Bs×Bs)×Unit))(v12:List (Bs×Unit)):Option (((Bool×qbZ×qbY×qbW×qbV×(List ((Bs×Bs)×Unit))×List (Bs×Unit))⊕(Bool×qbZ×qbY×qbW×qbV×(List ((Bs×Bs)×Unit))×(List Bs)×List (Bs×Unit)))⊕((qbZ×qbY×qbW×qbV×(List ((Bs×Bs)×Unit))×List (Bs×Unit)))):=
 bif v6 then some (.inl (.inr (false,v7,v8,v9,v10,v11,cH Prod.fst v8,v12)))else some (.inr (v7,v8,v9,v10,v11,v12))
noncomputable def ycB(o:Ops)(v0:Bs)(v13:Bool)(v14:qbZ)(v15:qbY)(v16:qbW)(v17:qbV)(v18:List ((Bs×Bs)×Unit))(v19:List Bs)(v20:List (Bs×Unit)):List (Option (((Bool×qbZ×qbY×qbW×qbV×(List ((Bs×Bs)×Unit))×List (Bs×Unit))⊕(Bool×qbZ×qbY×qbW×qbV×(List ((Bs×Bs)×Unit))×(List Bs)×List (Bs×Unit)))⊕((qbZ×qbY×qbW×qbV×(List ((Bs×Bs)×Unit))×List (Bs×Unit))))):=
 rngL (rngC keqS v15 v19) (some (.inl (.inl (v13,v14,v15,v16,v17,v18,v20)))) fun v21=>(mget keqS v15 v21.1).bind fun v22=>let _v23:Unit:=zdW keqS v20 v21.1 ()
 bif mhas keqS v20 v21.1 then some (.inl (.inr (v13,v14,v15,v16,v17,v18,rngD keqS v19 v21.1,v20)))else((zqC o v22.1.2.1 v20).bind fun v24=>bif v24.1 then(let v25:List (Bs×Unit):=mset keqS kltS v24.2 v21.1 ()
 some (.inl (.inr (true,v14,v15,v16,v17,v18,rngD keqS v19 v21.1,v25))))else((zaY o v22.1.1 v0).bind fun v26=>bif v26 then(let v27:List (Bs×Unit):=mset keqS kltS v24.2 v21.1 ()
 some (.inl (.inr (true,v14,v15,v16,v17,v18,rngD keqS v19 v21.1,v27))))else some (.inl (.inr (v13,v14,v15,v16,v17,v18,rngD keqS v19 v21.1,v24.2)))))
noncomputable def ybV(o:Ops)(v0:Bs):(Bool×qbZ×qbY×qbW×qbV×(List ((Bs×Bs)×Unit))×List (Bs×Unit))⊕(Bool×qbZ×qbY×qbW×qbV×(List ((Bs×Bs)×Unit))×(List Bs)×List (Bs×Unit))->List (Option (((Bool×qbZ×qbY×qbW×qbV×(List ((Bs×Bs)×Unit))×List (Bs×Unit))⊕(Bool×qbZ×qbY×qbW×qbV×(List ((Bs×Bs)×Unit))×(List Bs)×List (Bs×Unit)))⊕((qbZ×qbY×qbW×qbV×(List ((Bs×Bs)×Unit))×List (Bs×Unit)))))
 |.inl x=>[ybK o x.1 x.2.1 x.2.2.1 x.2.2.2.1 x.2.2.2.2.1 x.2.2.2.2.2.1 x.2.2.2.2.2.2]|.inr x=>ycB o v0 x.1 x.2.1 x.2.2.1 x.2.2.2.1 x.2.2.2.2.1 x.2.2.2.2.2.1 x.2.2.2.2.2.2.1 x.2.2.2.2.2.2.2
noncomputable def zdS(o:Ops)(v0:Bs)(v1:qbZ)(v2:qbY)(v3:qbW)(v4:qbV)(v5:List ((Bs×Bs)×Unit)):Option (((List Bs)×zaZ)):=
 (rngA (ybV o v0) (Sum.inl (true,v1,v2,v3,v4,v5,([]:List (Bs×Unit))))).bind fun v28=>(yhB o v28.2.2.2.2.2).bind fun v29=>(zkZ v29).bind fun v30=>some (v30.1,v28.1,v28.2.1,v28.2.2.1,v28.2.2.2.1,v28.2.2.2.2.1)
noncomputable def zkV(o:Ops):SC:=⟨⟨[(0,(.ptr 0 0)),(1,hS)],[zaU,zaE,zaF,zaD,zaC,qaV]⟩,1,[(none,⟨[(0,(.hc .s))],[zaU,zaE,zaF,zaD,zaC,qaV]⟩)],fun x=>zdS o x.1 x.2.1 x.2.2.1 x.2.2.2.1 x.2.2.2.2.1 x.2.2.2.2.2⟩
theorem zsJ:SCok aB tabs 50 (zkV o):=witO (G:=tabs) (o:=o)<|fn_nc (H:=⟨[false,false,true,false],[],⟨[(0,(.ptr 0 0)),(5,(.ptr 6 0)),(6,hB)],[zaU,zaE,zaF,zaD,zaC,qaV,.blk 160 [(.mpr 7)],zmG]⟩,[1,4],[(some 0,⟨[(5,(.ptr 6 0))],[zaU,zaE,zaF,zaD,zaC,qaV,.blk 160 [(.mpr 7)],zmG]⟩)],[false,false,false],⟨[(0,(.ptr 0 0)),(5,(.ptr 6 0)),(6,hB),(18,(.ptr 7 0))],[zaU,zaE,zaF,zaD,zaC,qaV,.blk 160 [(.mpr 8)],.it 2 true .s,zmG]⟩,[1,4]⟩) (η:=[]) (Γ:=⟨[(131,(zcJ o)),(61,ybT)],[(129,(znY o)),(133,(yfG o)),(132,ypY)],false,[]⟩) yfF τ_okWkF (ctok ⟨zdA,⟨ydR,trivial⟩⟩ ⟨zyN,⟨yqC,⟨xbQ,trivial⟩⟩⟩) Tryz.func50 (isFn Tryz.func50) (by kernel_rfl) (by kernel_rfl) (by kernel_rfl)
def xdC:SC:=⟨⟨[(0,(.own 0))],[.osl .s 9]⟩,0,[(none,⟨[],[.osl .s 9]⟩)],xdY⟩
theorem Sort_sk:SCok aB tabs 102 xdC:=wit (G:=tabs)<|sortK
def ykK:SC:=⟨⟨[(0,(.own 0))],[.osl .s 9]⟩,1,[(none,⟨[(0,(.h (.sl .s)))],[.dead]⟩)],yhR⟩
theorem ywL:SCok aB tabs 103 ykK:=wit (G:=tabs)<|compactK
noncomputable def zxF(_o:Ops)(v15:yaV)(v16:Int)(v17:qbZ)(v18:qbY)(v19:qbW)(v20:qbV)(v21:List ((Bs×Bs)×Unit))(v22:List Bs):Option ((Int×qbZ×qbY×qbW×qbV×(List ((Bs×Bs)×Unit))×List Bs)⊕((qbZ×qbY×qbW×qbV×(List ((Bs×Bs)×Unit))×List Bs))):=
 bif decide (v16<(v15.1.2.2.length:Int))then((idx v15.1.2.2 v16).bind fun v23=>let v24:zdL:=zdW keqS v19 v23 (([]:Bs),([]:List Bs))
 (app v22 v24.2).bind fun v25=>some (.inl (w64 (v16+1),v17,v18,v19,v20,v21,v25)))else some (.inr (v17,v18,v19,v20,v21,v22))
noncomputable def zxW(o:Ops)(v6:((List Bs)×zaZ))(v7:Int)(v8:qbZ)(v9:qbY)(v10:qbW)(v11:qbV)(v12:List ((Bs×Bs)×Unit))(v13:List Bs):Option ((Int×qbZ×qbY×qbW×qbV×(List ((Bs×Bs)×Unit))×List Bs)⊕((qbZ×qbY×qbW×qbV×(List ((Bs×Bs)×Unit))×List Bs))):=
 bif decide (v7<(v6.1.length:Int))then((idx v6.1 v7).bind fun v14=>let v15:yaV:=zdW keqS v9 v14 ((([]:List Bs),([]:List Bs),([]:List Bs)),(0:Int))
 (iter (fun x=>zxF o v15 x.1 x.2.1 x.2.2.1 x.2.2.2.1 x.2.2.2.2.1 x.2.2.2.2.2.1 x.2.2.2.2.2.2) ((0:Int),v8,v9,v10,v11,v12,v13)).bind fun v26=>some (.inl (w64 (v7+1),v26)))else some (.inr (v8,v9,v10,v11,v12,v13))
noncomputable def zdG(o:Ops)(v0:Bs)(v1:qbZ)(v2:qbY)(v3:qbW)(v4:qbV)(v5:List ((Bs×Bs)×Unit)):Option (((List Bs)×zaZ)):=
 (zdS o v0 v1 v2 v3 v4 v5).bind fun v6=>(iter (fun x=>zxW o v6 x.1 x.2.1 x.2.2.1 x.2.2.2.1 x.2.2.2.2.1 x.2.2.2.2.2.1 x.2.2.2.2.2.2) ((0:Int),v6.2.1,v6.2.2.1,v6.2.2.2.1,v6.2.2.2.2.1,v6.2.2.2.2.2,([]:List Bs))).bind fun v27=>(xdY v27.2.2.2.2.2).bind fun v28=>(yhR v28).bind fun v29=>some (v29,v27.1,v27.2.1,v27.2.2.1,v27.2.2.2.1,v27.2.2.2.2.1)
noncomputable def znS(o:Ops):SC:=⟨⟨[(0,(.ptr 0 0)),(1,hS)],[zaU,zaE,zaF,zaD,zaC,qaV]⟩,1,[(none,⟨[(0,(.hc .s))],[zaU,zaE,zaF,zaD,zaC,qaV]⟩)],fun x=>zdG o x.1 x.2.1 x.2.2.1 x.2.2.2.1 x.2.2.2.2.1 x.2.2.2.2.2⟩
theorem zyM:SCok aB tabs 34 (znS o):=zbB (o:=o) (η:=[(200006,.loop [] ⟨[(0,(.ptr 0 0)),(5,(.own 6)),(27,hI)],[zaU,zaE,zaF,zaD,zaC,qaV,.osl .s 9]⟩ [4,12,13,14,25,26] [(some 2,⟨[(0,(.ptr 0 0)),(5,(.own 6))],[zaU,zaE,zaF,zaD,zaC,qaV,.osl .s 9]⟩)]),
 (200003,.loop [.sl 5 .s 9] ⟨[(0,(.ptr 0 0)),(5,(.own 6)),(14,hI)],[zaU,zaE,zaF,zaD,zaC,qaV,.osl .s 9]⟩ [4,12,13] [(some 0,⟨[(5,(.own 6))],[zaU,zaE,zaF,zaD,zaC,qaV,.osl .s 9]⟩)])]) (Γ:=⟨[(61,ybT)],[(50,(zkV o)),(102,xdC),(103,ykK)],false,[]⟩) (ctok ⟨ydR,trivial⟩ ⟨zsJ,⟨Sort_sk,⟨ywL,trivial⟩⟩⟩) Tryz.func34
def zqF(_o:Ops)(v0:qbV):Option (qbV):=
 some v0
def zxA(o:Ops):SC:=⟨⟨[(0,(.mpr 0))],[zaC]⟩,1,[(none,⟨[(0,(.fn 271 [] [(.ptr 1 0)]))],[zaC,.blk 125 [(.mpr 0)]]⟩)],fun x=>zqF o x⟩
theorem ydJ:SCok aB tabs 203 (zxA o):=zbB (o:=o) (η:=[]) (Γ:=⟨[],[],false,[]⟩) (ctok trivial trivial) Tryz.func203
def ydN:SC:=⟨⟨[(0,(.fn 271 [] [(.ptr 0 0)]))],[.blk 125 [(.mpr 1)],zaC]⟩,1,[(none,⟨[(0,(.h (.sl .s)))],[.blk 125 [(.mpr 1)],zaC]⟩)],fun es=>zkZ es⟩
theorem ykZ:SCok aB tabs 132 ydN:=wit (G:=tabs)<|zzN (kT:=9) (isFn Tryz.func132) (by kernel_rfl) YtopanhneegpgcaaGreatDoor.sorted271K
def ziQ(_o:Ops)(v0:zuZ):Option zuZ:=
 (app ([]:List Bs) v0.2.2.1).bind fun v1=>(app ([]:List Bs) v0.2.2.2.1).bind fun v2=>some (v0.1,v0.2.1,v1,v2,v0.2.2.2.2)
def zqZ(o:Ops):PC:=⟨[(.h yeS)],[yeS],fun x=>ziQ o x,false⟩
theorem zxK:PCok aB tabs 107 (zqZ o):=zhK (o:=o) (η:=[(4000001,.sch [(.pu,0,[]),(.pu,1,[]),(.pu,4,[3]),(.pu,5,[3]),(.mn,2,[]),(.mn,3,[3]),(.pu,8,[5]),(.mn,6,[]),(.mn,7,[5]),(.mn,9,[0]),(.pu,10,[]),(.mn,11,[0])])]) (Γ:=⟨[(61,ybT)],[(198,zwI)],false,[]⟩) (ctok ⟨ydR,trivial⟩ ⟨ztI,trivial⟩) Tryz.func107
def zgB(o:Ops)(_v0:Bs)(v1:zuZ):Option zuZ:=
 (ziQ o v1).bind fun v2=>some v2
def zjX(o:Ops):PC:=⟨[hS,(.h yeS)],[yeS],fun x=>zgB o x.1 x.2,false⟩
theorem zsY:PCok aB tabs 109 (zjX o):=zhK (o:=o) (η:=[]) (Γ:=⟨[(107,(zqZ o))],[],false,[]⟩) (ctok ⟨zxK,trivial⟩ trivial) Tryz.func109
def zrA(o:Ops)(v3:((List Bs)×qbV))(v4:Int)(v5:qbV)(v6:List zuZ):Option ((Int×qbV×List zuZ)⊕((qbV×List zuZ))):=
 bif decide (v4<(v3.1.length:Int))then((idx v3.1 v4).bind fun v7=>let v8:zuZ:=zdW keqS v5 v7 (([]:Bs),([]:Bs),([]:List Bs),([]:List Bs),false,false,false,false)
 (zgB o v7 v8).bind fun v9=>(app v6 ([v9]:List zuZ)).bind fun v10=>some (.inl (w64 (v4+1),v5,v10)))else some (.inr (v5,v6))
def zsI(o:Ops)(v0:qbV):Option ((qbV×List zuZ)):=
 (chk (decide ((0:Int)<=(v0.length:Int))&&decide ((v0.length:Int)<=(LIM:Int)))).bind fun _=>(mkL (0:Int) (([]:Bs),([]:Bs),([]:List Bs),([]:List Bs),false,false,false,false)).bind fun v1=>(zqF o v0).bind fun v2=>(zkZ v2).bind fun v3=>(iter (fun x=>zrA o v3 x.1 x.2.1 x.2.2) ((0:Int),v3.2,v1)).bind fun v11=>some v11
def zxN(o:Ops):SC:=⟨⟨[(0,(.mpr 0)),(1,(.fn 109 [] []))],[zaC]⟩,1,[(none,⟨[(0,(.own 1))],[zaC,.osl yeS 51]⟩)],fun x=>zsI o x⟩
theorem yfM:SCok aB tabs 108 (zxN o):=zbB (o:=o) (η:=[(200003,.loop [] ⟨[(0,(.mpr 0)),(1,(.fn 109 [] [])),(5,(.own 1)),(15,hI)],[zaC,.osl yeS 51]⟩ [4,13,14] [(some 0,⟨[(5,(.own 1))],[zaC,.osl yeS 51]⟩)])]) (Γ:=⟨[(109,(zjX o))],[(203,(zxA o)),(132,ydN)],false,[]⟩) (ctok ⟨zsY,trivial⟩ ⟨ydJ,⟨ykZ,trivial⟩⟩) Tryz.func108
def zeQ(o:Ops)(v0:qbZ)(v1:qbY)(v2:qbW)(v3:qbV)(v4:List ((Bs×Bs)×Unit)):Option ((qbZ×qbY×qbW×qbV×(List ((Bs×Bs)×Unit))×List zuZ)):=
 (zsI o v3).bind fun v5=>some (v0,v1,v2,v5.1,v4,v5.2)
def zlT(o:Ops):SC:=⟨⟨[(0,(.ptr 0 0))],[zaU,zaE,zaF,zaD,zaC,qaV]⟩,1,[(none,⟨[(0,(.own 6))],[zaU,zaE,zaF,zaD,zaC,qaV,.osl yeS 51]⟩)],fun x=>zeQ o x.1 x.2.1 x.2.2.1 x.2.2.2.1 x.2.2.2.2⟩
theorem zuQ:SCok aB tabs 38 (zlT o):=zbB (o:=o) (η:=[]) (Γ:=⟨[],[(108,(zxN o))],false,[]⟩) (ctok trivial ⟨yfM,trivial⟩) Tryz.func38
def zfZ(_o:Ops)(v0:Bool):Option Bs:=
 bif v0 then(some ([49]:Bs))else(some ([48]:Bs))
def zzF(o:Ops):PC:=⟨[hB],[.s],fun x=>zfZ o x,false⟩
theorem yjA:PCok aB tabs 86 (zzF o):=zhK (o:=o) (η:=[]) (Γ:=⟨[],[],false,[]⟩) (ctok trivial trivial) Tryz.func86
def zcI(o:Ops)(v0:List Bs):Option (List Bs):=
 (o.itoa (v0.length:Int)).bind fun v1=>(app ([v1]:List Bs) v0).bind fun v2=>some v2
def zxO(o:Ops):PC:=⟨[(.h (.sl .s))],[(.sl .s)],fun x=>zcI o x,false⟩
theorem yfV:PCok aB tabs 87 (zxO o):=zhK (o:=o) (η:=[]) (Γ:=⟨[(68,(yrK o))],[],false,[]⟩) (ctok ⟨(zmE.itoa (G:=tabs)),trivial⟩ trivial) Tryz.func87
def xbL:SC:=⟨⟨[(0,.nils),(1,hI)],[]⟩,1,[(none,⟨[(0,(.own 0))],[.osl .s 9]⟩)],fun n=>ysH .s n⟩
theorem Grow_sk:SCok aB tabs 187 xbL:=wit (G:=tabs)<|grow0_sc (isFn Tryz.func187) growK
def zhM(_o:Ops)(v0:List (List Bs))(v1:Int)(v2:Int):Option ((Int×Int)⊕Int):=
 bif decide (v2<(v0.length:Int))then((idx v0 v2).bind fun v3=>bif decide ((w64 (v1+(v3.length:Int)))<0)then none else some (.inl (w64 (v1+(v3.length:Int)),w64 (v2+1))))else some (.inr v1)
def zhN(_o:Ops)(v0:List (List Bs))(v6:Int)(v7:List Bs):Option ((Int×List Bs)⊕List Bs):=
 bif decide (v6<(v0.length:Int))then((idx v0 v6).bind fun v8=>(app v7 v8).bind fun v9=>some (.inl (w64 (v6+1),v9)))else some (.inr v7)
def zjB(o:Ops)(v0:List (List Bs)):Option (List Bs):=
 (iter (fun x=>zhM o v0 x.1 x.2) ((0:Int),(0:Int))).bind fun v4=>(ysH .s v4).bind fun v5=>(iter (fun x=>zhN o v0 x.1 x.2) ((0:Int),v5)).bind fun v10=>some v10
def zxJ(o:Ops):PC:=⟨[(.h (.sl (.sl .s)))],[(.sl .s)],fun x=>zjB o x,false⟩
theorem yfI:PCok aB tabs 85 (zxJ o):=zhK (o:=o) (η:=[(200003,.loop [] ⟨[(3,hI),(11,hI)],[]⟩ [0,2,9,10] [(some 0,⟨[(3,hI)],[]⟩)]),
 (200011,.loop [] ⟨[(6,(.own 0)),(27,hI)],[.osl .s 9]⟩ [2,25,26] [(some 2,⟨[(6,(.own 0))],[.osl .s 9]⟩)])]) (Γ:=⟨[],[(187,xbL)],false,[]⟩) (ctok trivial ⟨Grow_sk,trivial⟩) Tryz.func85
def zbV(o:Ops)(v0:Bs)(v1:List Bs)(v2:List (Bs×Bs)):Option ((List (Bs×Bs))):=
 (o.form v1).bind fun v3=>(app v2 ([(v0,v3)]:List (Bs×Bs))).bind fun v4=>some v4
def zmA(o:Ops):SC:=⟨⟨[(0,hS),(1,(.h (.sl .s))),(2,(.ptr 0 0))],[QWkF13,.osl (.pr .s .s) 33]⟩,0,[(none,⟨[],[yyV,.dead,.osl (.pr .s .s) 33]⟩)],fun x=>zbV o x.1 x.2.1 x.2.2⟩
theorem zvE:SCok aB tabs 84 (zmA o):=zbB (o:=o) (η:=[(4000000,.sch (zpu 0 3++[(.mn,3,[]),(.pu,4,[]),(.mn,5,[]),(.mn,6,[1]),(.mn,7,[0])]))]) (Γ:=⟨[(22,(yiV o))],[],false,[]⟩) (ctok ⟨(zmE.form (G:=tabs)),trivial⟩ trivial) Tryz.func84
def zpZ(_o:Ops)(v0:qbY):Option (qbY):=
 some v0
def zwT(o:Ops):SC:=⟨⟨[(0,(.mpr 0))],[zaF]⟩,1,[(none,⟨[(0,(.fn 260 [] [(.ptr 1 0)]))],[zaF,.blk 123 [(.mpr 0)]]⟩)],fun x=>zpZ o x⟩
theorem ydK:SCok aB tabs 196 (zwT o):=zbB (o:=o) (η:=[]) (Γ:=⟨[],[],false,[]⟩) (ctok trivial trivial) Tryz.func196
def ydQ:SC:=⟨⟨[(0,(.fn 260 [] [(.ptr 0 0)]))],[.blk 123 [(.mpr 1)],zaF]⟩,1,[(none,⟨[(0,(.h (.sl .s)))],[.blk 123 [(.mpr 1)],zaF]⟩)],fun es=>zkZ es⟩
theorem ykT:SCok aB tabs 132 ydQ:=wit (G:=tabs)<|zzN (kT:=9) (isFn Tryz.func132) (by kernel_rfl) YtopanhneegpgcaaGreatDoor.sorted260K
def zgW(_o:Ops)(v0:List Bs):Option (List Bs):=
 (app ([]:List Bs) v0).bind fun v1=>some v1
def zxG(o:Ops):SC:=⟨⟨[(0,(.h (.sl .s)))],[]⟩,1,[(none,⟨[(0,(.hc .s))],[]⟩)],fun x=>zgW o x⟩
theorem yfX:SCok aB tabs 197 (zxG o):=zbB (o:=o) (η:=[]) (Γ:=⟨[(61,ybT)],[(198,zwI)],false,[]⟩) (ctok ⟨ydR,trivial⟩ ⟨ztI,trivial⟩) Tryz.func197
def zwX(o:Ops)(v0:Bs)(v1:yaV):Option yjN:=
 (zgW o v1.1.1).bind fun v2=>(zgW o v1.1.2.1).bind fun v3=>(zgW o v1.1.2.2).bind fun v4=>some (v0,v2,v3,v4,v1.2)
def ybI(o:Ops):PC:=⟨[hS,(.h ywK)],[yyC],fun x=>zwX o x.1 x.2,false⟩
theorem yjL:PCok aB tabs 100 (ybI o):=zhK (o:=o) (η:=[(4000002,.sch (zpu 0 5++zpu 6 4++zpu 11 4++[(.pu,16,[]),(.pu,17,[]),(.mn,5,[]),(.mn,10,[]),(.mn,15,[]),(.pu,18,[]),(.mn,19,[1])]))]) (Γ:=⟨[],[(197,(zxG o))],false,[]⟩) (ctok trivial ⟨yfX,trivial⟩) Tryz.func100
def zpD(o:Ops)(v3:((List Bs)×qbY))(v4:Int)(v5:qbY)(v6:List yjN):Option ((Int×qbY×List yjN)⊕((qbY×List yjN))):=
 bif decide (v4<(v3.1.length:Int))then((idx v3.1 v4).bind fun v7=>let v8:yaV:=zdW keqS v5 v7 ((([]:List Bs),([]:List Bs),([]:List Bs)),(0:Int))
 (zwX o v7 v8).bind fun v9=>(app v6 ([v9]:List yjN)).bind fun v10=>some (.inl (w64 (v4+1),v5,v10)))else some (.inr (v5,v6))
def zqY(o:Ops)(v0:qbY):Option ((qbY×List yjN)):=
 (chk (decide ((0:Int)<=(v0.length:Int))&&decide ((v0.length:Int)<=(LIM:Int)))).bind fun _=>(mkL (0:Int) (([]:Bs),([]:List Bs),([]:List Bs),([]:List Bs),(0:Int))).bind fun v1=>(zpZ o v0).bind fun v2=>(zkZ v2).bind fun v3=>(iter (fun x=>zpD o v3 x.1 x.2.1 x.2.2) ((0:Int),v3.2,v1)).bind fun v11=>some v11
def zuU(o:Ops):SC:=⟨⟨[(0,(.mpr 0)),(1,(.fn 100 [] []))],[zaF]⟩,1,[(none,⟨[(0,(.own 1))],[zaF,.osl yyC 57]⟩)],fun x=>zqY o x⟩
theorem ydL:SCok aB tabs 99 (zuU o):=zbB (o:=o) (η:=[(200003,.loop [] ⟨[(0,(.mpr 0)),(1,(.fn 100 [] [])),(5,(.own 1)),(15,hI)],[zaF,.osl yyC 57]⟩ [4,13,14] [(some 0,⟨[(5,(.own 1))],[zaF,.osl yyC 57]⟩)])]) (Γ:=⟨[(100,(ybI o))],[(196,(zwT o)),(132,ydQ)],false,[]⟩) (ctok ⟨yjL,trivial⟩ ⟨ydK,⟨ykT,trivial⟩⟩) Tryz.func99
def zfD(o:Ops)(v0:qbZ)(v1:qbY)(v2:qbW)(v3:qbV)(v4:List ((Bs×Bs)×Unit)):Option ((qbZ×qbY×qbW×qbV×(List ((Bs×Bs)×Unit))×List yjN)):=
 (zqY o v1).bind fun v5=>some (v0,v5.1,v2,v3,v4,v5.2)
def zmQ(o:Ops):SC:=⟨⟨[(0,(.ptr 0 0))],[zaU,zaE,zaF,zaD,zaC,qaV]⟩,1,[(none,⟨[(0,(.own 6))],[zaU,zaE,zaF,zaD,zaC,qaV,.osl yyC 57]⟩)],fun x=>zfD o x.1 x.2.1 x.2.2.1 x.2.2.2.1 x.2.2.2.2⟩
theorem zwP:SCok aB tabs 32 (zmQ o):=zbB (o:=o) (η:=[]) (Γ:=⟨[],[(99,(zuU o))],false,[]⟩) (ctok trivial ⟨ydL,trivial⟩) Tryz.func32
def zzR(_o:Ops)(v0:List ((Bs×Bs)×Unit)):Option ((List ((Bs×Bs)×Unit))):=
 some v0
def ycG(o:Ops):SC:=⟨⟨[(0,(.mpr 0))],[qaV]⟩,1,[(none,⟨[(0,(.fn 211 [] [(.ptr 1 0)]))],[qaV,.blk 126 [(.mpr 0)]]⟩)],fun x=>zzR o x⟩
theorem ymI:SCok aB tabs 125 (ycG o):=zbB (o:=o) (η:=[]) (Γ:=⟨[],[],false,[]⟩) (ctok trivial trivial) Tryz.func125
def ykV:SC:=⟨⟨[(0,(.fn 211 [] [(.ptr 0 0)])),(1,(.fn 126 [] []))],[.blk 126 [(.mpr 1)],qaV]⟩,1,[(none,⟨[(0,(.h (.sl (.pr .s .s))))],[.blk 126 [(.mpr 1)],qaV]⟩)],fun(es:List ((Bs×Bs)×Unit))=>ycK es⟩
theorem yxJ:SCok aB tabs 124 ykV:=wit (G:=tabs)<|yrW
def ytJ:PC:=⟨[.h (.sl (.pr .s .s))],[(.sl (.pr .s .s))],fun xs=>some xs,true⟩
theorem Clip_p2k:PCok aB tabs 127 ytJ:=wit (G:=tabs)<|ylV yfF τ_okWkF Tryz.func127 (isFn Tryz.func127) rfl (by kernel_rfl) rfl (fun _=>by kernel_rfl)
def zgH(o:Ops)(v0:qbZ)(v1:qbY)(v2:qbW)(v3:qbV)(v4:List ((Bs×Bs)×Unit)):Option (((List (Bs×Bs))×zaZ)):=
 (zzR o v4).bind fun v5=>(ycK v5).bind fun v6=>some (v6.1,v0,v1,v2,v3,v6.2)
def zpN(o:Ops):SC:=⟨⟨[(0,(.ptr 0 0))],[zaU,zaE,zaF,zaD,zaC,qaV]⟩,1,[(none,⟨[(0,(.hc (.pr .s .s)))],[zaU,zaE,zaF,zaD,zaC,qaV]⟩)],fun x=>zgH o x.1 x.2.1 x.2.2.1 x.2.2.2.1 x.2.2.2.2⟩
theorem yaD:SCok aB tabs 45 (zpN o):=zbB (o:=o) (η:=[]) (Γ:=⟨[(127,ytJ)],[(125,(ycG o)),(124,ykV)],false,[]⟩) (ctok ⟨Clip_p2k,trivial⟩ ⟨ymI,⟨yxJ,trivial⟩⟩) Tryz.func45
def zhC(o:Ops)(v0:Bs)(v1:List (Bs×Bs)):Option ((List (Bs×Bs))):=
 (o.form ([]:List Bs)).bind fun v2=>(app v1 ([(v0,v2)]:List (Bs×Bs))).bind fun v3=>some v3
def zlE(o:Ops):SC:=⟨⟨[(0,hS),(1,.nils),(2,(.ptr 0 0))],[QWkF13,.osl (.pr .s .s) 33]⟩,0,[(none,⟨[],[yyV,.dead,.osl (.pr .s .s) 33]⟩)],fun x=>zhC o x.1 x.2⟩
theorem zvR:SCok aB tabs 84 (zlE o):=zbB (o:=o) (η:=[(4000000,.sch (zpu 0 3++[(.mn,3,[]),(.pu,4,[]),(.mn,5,[]),(.mn,6,[1]),(.mn,7,[0])]))]) (Γ:=⟨[(22,(yiV o))],[],false,[]⟩) (ctok ⟨(zmE.form (G:=tabs)),trivial⟩ trivial) Tryz.func84
def zzE(_o:Ops)(v0:qbW):Option (qbW):=
 some v0
def ycI(o:Ops):SC:=⟨⟨[(0,(.mpr 0))],[zaD]⟩,1,[(none,⟨[(0,(.fn 273 [] [(.ptr 1 0)]))],[zaD,.blk 124 [(.mpr 0)]]⟩)],fun x=>zzE o x⟩
theorem ylY:SCok aB tabs 205 (ycI o):=zbB (o:=o) (η:=[]) (Γ:=⟨[],[],false,[]⟩) (ctok trivial trivial) Tryz.func205
def ykI:SC:=⟨⟨[(0,(.fn 273 [] [(.ptr 0 0)]))],[.blk 124 [(.mpr 1)],zaD]⟩,1,[(none,⟨[(0,(.h (.sl .s)))],[.blk 124 [(.mpr 1)],zaD]⟩)],fun es=>zkZ es⟩
theorem yxZ:SCok aB tabs 132 ykI:=wit (G:=tabs)<|zzN (kT:=9) (isFn Tryz.func132) (by kernel_rfl) YtopanhneegpgcaaGreatDoor.sorted273K
def zhE(o:Ops)(_v0:Bs)(v1:zdL):Option zdL:=
 (zeT o v1).bind fun v2=>some v2
def zlJ(o:Ops):PC:=⟨[hS,(.h yeB)],[yeB],fun x=>zhE o x.1 x.2,false⟩
theorem zvL:PCok aB tabs 113 (zlJ o):=zhK (o:=o) (η:=[]) (Γ:=⟨[(105,(zkA o))],[],false,[]⟩) (ctok ⟨zrF,trivial⟩ trivial) Tryz.func113
def zpE(o:Ops)(v3:((List Bs)×qbW))(v4:Int)(v5:qbW)(v6:qcV):Option ((Int×qbW×qcV)⊕((qbW×qcV))):=
 bif decide (v4<(v3.1.length:Int))then((idx v3.1 v4).bind fun v7=>let v8:zdL:=zdW keqS v5 v7 (([]:Bs),([]:List Bs))
 (zhE o v7 v8).bind fun v9=>(app v6 ([v9]:qcV)).bind fun v10=>some (.inl (w64 (v4+1),v5,v10)))else some (.inr (v5,v6))
def zqS(o:Ops)(v0:qbW):Option ((qbW×qcV)):=
 (chk (decide ((0:Int)<=(v0.length:Int))&&decide ((v0.length:Int)<=(LIM:Int)))).bind fun _=>(mkL (0:Int) (([]:Bs),([]:List Bs))).bind fun v1=>(zzE o v0).bind fun v2=>(zkZ v2).bind fun v3=>(iter (fun x=>zpE o v3 x.1 x.2.1 x.2.2) ((0:Int),v3.2,v1)).bind fun v11=>some v11
def zvS(o:Ops):SC:=⟨⟨[(0,(.mpr 0)),(1,(.fn 113 [] []))],[zaD]⟩,1,[(none,⟨[(0,(.own 1))],[zaD,.osl yeB 49]⟩)],fun x=>zqS o x⟩
theorem ydY:SCok aB tabs 112 (zvS o):=zbB (o:=o) (η:=[(200003,.loop [] ⟨[(0,(.mpr 0)),(1,(.fn 113 [] [])),(5,(.own 1)),(15,hI)],[zaD,.osl yeB 49]⟩ [4,13,14] [(some 0,⟨[(5,(.own 1))],[zaD,.osl yeB 49]⟩)])]) (Γ:=⟨[(113,(zlJ o))],[(205,(ycI o)),(132,ykI)],false,[]⟩) (ctok ⟨zvL,trivial⟩ ⟨ylY,⟨yxZ,trivial⟩⟩) Tryz.func112
def zfS(o:Ops)(v0:qbZ)(v1:qbY)(v2:qbW)(v3:qbV)(v4:List ((Bs×Bs)×Unit)):Option ((qbZ×qbY×qbW×qbV×(List ((Bs×Bs)×Unit))×qcV)):=
 (zqS o v2).bind fun v5=>some (v0,v1,v5.1,v3,v4,v5.2)
def zoD(o:Ops):SC:=⟨⟨[(0,(.ptr 0 0))],[zaU,zaE,zaF,zaD,zaC,qaV]⟩,1,[(none,⟨[(0,(.own 6))],[zaU,zaE,zaF,zaD,zaC,qaV,.osl yeB 49]⟩)],fun x=>zfS o x.1 x.2.1 x.2.2.1 x.2.2.2.1 x.2.2.2.2⟩
theorem zyG:SCok aB tabs 40 (zoD o):=zbB (o:=o) (η:=[]) (Γ:=⟨[],[(112,(zvS o))],false,[]⟩) (ctok trivial ⟨ydY,trivial⟩) Tryz.func40
def zyP(_o:Ops)(v0:qbZ):Option (qbZ):=
 some v0
def ydD(o:Ops):SC:=⟨⟨[(0,(.mpr 0))],[zaE]⟩,1,[(none,⟨[(0,(.fn 272 [] [(.ptr 1 0)]))],[zaE,.blk 122 [(.mpr 0)]]⟩)],fun x=>zyP o x⟩
theorem ymB:SCok aB tabs 204 (ydD o):=zbB (o:=o) (η:=[]) (Γ:=⟨[],[],false,[]⟩) (ctok trivial trivial) Tryz.func204
def ykP:SC:=⟨⟨[(0,(.fn 272 [] [(.ptr 0 0)]))],[.blk 122 [(.mpr 1)],zaE]⟩,1,[(none,⟨[(0,(.h (.sl .s)))],[.blk 122 [(.mpr 1)],zaE]⟩)],fun es=>zkZ es⟩
theorem yxR:SCok aB tabs 132 ykP:=wit (G:=tabs)<|zzN (kT:=9) (isFn Tryz.func132) (by kernel_rfl) YtopanhneegpgcaaGreatDoor.sorted272K
def zhF(_o:Ops)(_v0:Bs)(v1:zxZ):Option zxZ:=
 some v1
def zlC(o:Ops):PC:=⟨[hS,(.h ymK)],[ymK],fun x=>zhF o x.1 x.2,false⟩
theorem zvD:PCok aB tabs 111 (zlC o):=zhK (o:=o) (η:=[]) (Γ:=⟨[],[],false,[]⟩) (ctok trivial trivial) Tryz.func111
def zpF(o:Ops)(v3:((List Bs)×qbZ))(v4:Int)(v5:qbZ)(v6:List zxZ):Option ((Int×qbZ×List zxZ)⊕((qbZ×List zxZ))):=
 bif decide (v4<(v3.1.length:Int))then((idx v3.1 v4).bind fun v7=>let v8:zxZ:=zdW keqS v5 v7 (([]:Bs),([]:Bs),false,(0:Int))
 (zhF o v7 v8).bind fun v9=>(app v6 ([v9]:List zxZ)).bind fun v10=>some (.inl (w64 (v4+1),v5,v10)))else some (.inr (v5,v6))
def zqP(o:Ops)(v0:qbZ):Option ((qbZ×List zxZ)):=
 (chk (decide ((0:Int)<=(v0.length:Int))&&decide ((v0.length:Int)<=(LIM:Int)))).bind fun _=>(mkL (0:Int) (([]:Bs),([]:Bs),false,(0:Int))).bind fun v1=>(zyP o v0).bind fun v2=>(zkZ v2).bind fun v3=>(iter (fun x=>zpF o v3 x.1 x.2.1 x.2.2) ((0:Int),v3.2,v1)).bind fun v11=>some v11
def zvN(o:Ops):SC:=⟨⟨[(0,(.mpr 0)),(1,(.fn 111 [] []))],[zaE]⟩,1,[(none,⟨[(0,(.own 1))],[zaE,.osl ymK 77]⟩)],fun x=>zqP o x⟩
theorem yeH:SCok aB tabs 110 (zvN o):=zbB (o:=o) (η:=[(200003,.loop [] ⟨[(0,(.mpr 0)),(1,(.fn 111 [] [])),(5,(.own 1)),(15,hI)],[zaE,.osl ymK 77]⟩ [4,13,14] [(some 0,⟨[(5,(.own 1))],[zaE,.osl ymK 77]⟩)])]) (Γ:=⟨[(111,(zlC o))],[(204,(ydD o)),(132,ykP)],false,[]⟩) (ctok ⟨zvD,trivial⟩ ⟨ymB,⟨yxR,trivial⟩⟩) Tryz.func110
def zfT(o:Ops)(v0:qbZ)(v1:qbY)(v2:qbW)(v3:qbV)(v4:List ((Bs×Bs)×Unit)):Option ((qbZ×qbY×qbW×qbV×(List ((Bs×Bs)×Unit))×List zxZ)):=
 (zqP o v0).bind fun v5=>some (v5.1,v1,v2,v3,v4,v5.2)
def zoR(o:Ops):SC:=⟨⟨[(0,(.ptr 0 0))],[zaU,zaE,zaF,zaD,zaC,qaV]⟩,1,[(none,⟨[(0,(.own 6))],[zaU,zaE,zaF,zaD,zaC,qaV,.osl ymK 77]⟩)],fun x=>zfT o x.1 x.2.1 x.2.2.1 x.2.2.2.1 x.2.2.2.2⟩
theorem zyD:SCok aB tabs 39 (zoR o):=zbB (o:=o) (η:=[]) (Γ:=⟨[],[(110,(zvN o))],false,[]⟩) (ctok trivial ⟨yeH,trivial⟩) Tryz.func39
def zhB(o:Ops)(v0:Bs)(v1:List Bs)(v2:List (Bs×Bs)):Option (((List Bs)×List (Bs×Bs))):=
 (o.form v1).bind fun v3=>(app v2 ([(v0,v3)]:List (Bs×Bs))).bind fun v4=>some (v1,v4)
def zlM(o:Ops):SC:=⟨⟨[(0,hS),(1,(.own 0)),(2,(.ptr 1 0))],[.osl .s 9,yyV,.osl (.pr .s .s) 33]⟩,0,[(none,⟨[],[.osl .s 9,.blk 31 [(.own 3)],.dead,.osl (.pr .s .s) 33]⟩)],fun x=>zhB o x.1 x.2.1 x.2.2⟩
theorem zvI:SCok aB tabs 84 (zlM o):=zbB (o:=o) (η:=[(4000000,.sch (zpu 0 3++[(.mn,3,[]),(.pu,4,[]),(.mn,5,[]),(.mn,6,[2]),(.mn,7,[1])]))]) (Γ:=⟨[(22,(yiV o))],[],false,[]⟩) (ctok ⟨(zmE.form (G:=tabs)),trivial⟩ trivial) Tryz.func84
def yuS:SC:=⟨⟨[(0,(.own 0)),(1,(.fn 89 [] []))],[.osl (.pr .s .s) 33]⟩,0,[(none,⟨[],[.osl (.pr .s .s) 33]⟩)],fun(xs:List (Bs×Bs))=>yeX xs⟩
theorem SortF_sk:SCok aB tabs 88 yuS:=wit (G:=tabs)<|sortF89K
def ywH:PC:=⟨[.h (.sl (.pr .s .s))],[(.sl (.pr .s .s))],fun xs=>some xs,true⟩
theorem Clip_p3k:PCok aB tabs 91 ywH:=wit (G:=tabs)<|ylV yfF τ_okWkF Tryz.func91 (isFn Tryz.func91) rfl (by kernel_rfl) rfl (fun _=>by kernel_rfl)
def ziX(o:Ops)(v5:(qbZ×qbY×qbW×qbV×(List ((Bs×Bs)×Unit))×List zuZ))(v6:Int)(v7:qbZ)(v8:qbY)(v9:qbW)(v10:qbV)(v11:List ((Bs×Bs)×Unit))(v12:List zuZ)(v13:List (Bs×Bs)):Option ((Int×qbZ×qbY×qbW×qbV×(List ((Bs×Bs)×Unit))×(List zuZ)×List (Bs×Bs))⊕((qbZ×qbY×qbW×qbV×(List ((Bs×Bs)×Unit))×List (Bs×Bs)))):=
 bif decide (v6<(v5.2.2.2.2.2.length:Int))then((chk (decide ((0:Int)<=v6)&&decide (v6<(v12.length:Int)))).bind fun _=>(idx v12 v6).bind fun v14=>(app ([99,108,105,101,110,116,47]:Bs) v14.1).bind fun v15=>(zfZ o v14.2.2.2.2.1).bind fun v16=>(zfZ o v14.2.2.2.2.2.1).bind fun v17=>(app v16 v17).bind fun v18=>(zfZ o v14.2.2.2.2.2.2.1).bind fun v19=>(app v18 v19).bind fun v20=>(zfZ o v14.2.2.2.2.2.2.2).bind fun v21=>(app v20 v21).bind fun v22=>(zcI o v14.2.2.1).bind fun v23=>(zcI o v14.2.2.2.1).bind fun v24=>(zjB o ([([v14.2.1,v22]:List Bs),v23,v24]:List (List Bs))).bind fun v25=>(zbV o v15 v25 v13).bind fun v26=>some (.inl (w64 (v6+1),v7,v8,v9,v10,v11,v12,v26)))else some (.inr (v7,v8,v9,v10,v11,v13))
def ziK(o:Ops)(v28:(qbZ×qbY×qbW×qbV×(List ((Bs×Bs)×Unit))×List yjN))(v29:Int)(v30:qbZ)(v31:qbY)(v32:qbW)(v33:qbV)(v34:List ((Bs×Bs)×Unit))(v35:List yjN)(v36:List (Bs×Bs)):Option ((Int×qbZ×qbY×qbW×qbV×(List ((Bs×Bs)×Unit))×(List yjN)×List (Bs×Bs))⊕((qbZ×qbY×qbW×qbV×(List ((Bs×Bs)×Unit))×List (Bs×Bs)))):=
 bif decide (v29<(v28.2.2.2.2.2.length:Int))then((chk (decide ((0:Int)<=v29)&&decide (v29<(v35.length:Int)))).bind fun _=>(idx v35 v29).bind fun v37=>(app ([103,114,111,117,112,47]:Bs) v37.1).bind fun v38=>(o.itoa v37.2.2.2.2).bind fun v39=>(zcI o v37.2.1).bind fun v40=>(zcI o v37.2.2.1).bind fun v41=>(zcI o v37.2.2.2.1).bind fun v42=>(zjB o ([([v39]:List Bs),v40,v41,v42]:List (List Bs))).bind fun v43=>(zbV o v38 v43 v36).bind fun v44=>some (.inl (w64 (v29+1),v30,v31,v32,v33,v34,v35,v44)))else some (.inr (v30,v31,v32,v33,v34,v36))
def zfN(o:Ops)(v46:((List (Bs×Bs))×zaZ))(v47:Int)(v48:qbZ)(v49:qbY)(v50:qbW)(v51:qbV)(v52:List ((Bs×Bs)×Unit))(v53:List (Bs×Bs)):Option ((Int×qbZ×qbY×qbW×qbV×(List ((Bs×Bs)×Unit))×List (Bs×Bs))⊕((qbZ×qbY×qbW×qbV×(List ((Bs×Bs)×Unit))×List (Bs×Bs)))):=
 bif decide (v47<(v46.1.length:Int))then((idx v46.1 v47).bind fun v54=>(app ([109,97,121,47]:Bs) v54.1).bind fun v55=>(app v55 ([124]:Bs)).bind fun v56=>(app v56 v54.2).bind fun v57=>(zhC o v57 v53).bind fun v58=>some (.inl (w64 (v47+1),v48,v49,v50,v51,v52,v58)))else some (.inr (v48,v49,v50,v51,v52,v53))
def ziS(o:Ops)(v60:(qbZ×qbY×qbW×qbV×(List ((Bs×Bs)×Unit))×qcV))(v61:Int)(v62:qbZ)(v63:qbY)(v64:qbW)(v65:qbV)(v66:List ((Bs×Bs)×Unit))(v67:qcV)(v68:List (Bs×Bs)):Option ((Int×qbZ×qbY×qbW×qbV×(List ((Bs×Bs)×Unit))×qcV×List (Bs×Bs))⊕((qbZ×qbY×qbW×qbV×(List ((Bs×Bs)×Unit))×List (Bs×Bs)))):=
 bif decide (v61<(v60.2.2.2.2.2.length:Int))then((chk (decide ((0:Int)<=v61)&&decide (v61<(v67.length:Int)))).bind fun _=>(idx v67 v61).bind fun v69=>(app ([114,111,108,101,47]:Bs) v69.1).bind fun v70=>(zcI o v69.2).bind fun v71=>(zbV o v70 v71 v68).bind fun v72=>some (.inl (w64 (v61+1),v62,v63,v64,v65,v66,v67,v72)))else some (.inr (v62,v63,v64,v65,v66,v68))
def ziU(o:Ops)(v74:(qbZ×qbY×qbW×qbV×(List ((Bs×Bs)×Unit))×List zxZ))(v75:Int)(v76:qbZ)(v77:qbY)(v78:qbW)(v79:qbV)(v80:List ((Bs×Bs)×Unit))(v81:List zxZ)(v82:List (Bs×Bs)):Option ((Int×qbZ×qbY×qbW×qbV×(List ((Bs×Bs)×Unit))×(List zxZ)×List (Bs×Bs))⊕((qbZ×qbY×qbW×qbV×(List ((Bs×Bs)×Unit))×List (Bs×Bs)))):=
 bif decide (v75<(v74.2.2.2.2.2.length:Int))then((chk (decide ((0:Int)<=v75)&&decide (v75<(v81.length:Int)))).bind fun _=>(idx v81 v75).bind fun v83=>(app ([117,115,101,114,47]:Bs) v83.1).bind fun v84=>(zfZ o v83.2.2.1).bind fun v85=>(o.itoa v83.2.2.2).bind fun v86=>(zhB o v84 ([v83.2.1,v85,v86]:List Bs) v82).bind fun v87=>some (.inl (w64 (v75+1),v76,v77,v78,v79,v80,v81,v87.2)))else some (.inr (v76,v77,v78,v79,v80,v82))
def zbP(o:Ops)(v0:qbZ)(v1:qbY)(v2:qbW)(v3:qbV)(v4:List ((Bs×Bs)×Unit)):Option (((List (Bs×Bs))×zaZ)):=
 (zeQ o v0 v1 v2 v3 v4).bind fun v5=>(iter (fun x=>ziX o v5 x.1 x.2.1 x.2.2.1 x.2.2.2.1 x.2.2.2.2.1 x.2.2.2.2.2.1 x.2.2.2.2.2.2.1 x.2.2.2.2.2.2.2) ((0:Int),v5.1,v5.2.1,v5.2.2.1,v5.2.2.2.1,v5.2.2.2.2.1,v5.2.2.2.2.2,([]:List (Bs×Bs)))).bind fun v27=>(zfD o v27.1 v27.2.1 v27.2.2.1 v27.2.2.2.1 v27.2.2.2.2.1).bind fun v28=>(iter (fun x=>ziK o v28 x.1 x.2.1 x.2.2.1 x.2.2.2.1 x.2.2.2.2.1 x.2.2.2.2.2.1 x.2.2.2.2.2.2.1 x.2.2.2.2.2.2.2) ((0:Int),v28.1,v28.2.1,v28.2.2.1,v28.2.2.2.1,v28.2.2.2.2.1,v28.2.2.2.2.2,v27.2.2.2.2.2)).bind fun v45=>(zgH o v45.1 v45.2.1 v45.2.2.1 v45.2.2.2.1 v45.2.2.2.2.1).bind fun v46=>(iter (fun x=>zfN o v46 x.1 x.2.1 x.2.2.1 x.2.2.2.1 x.2.2.2.2.1 x.2.2.2.2.2.1 x.2.2.2.2.2.2) ((0:Int),v46.2.1,v46.2.2.1,v46.2.2.2.1,v46.2.2.2.2.1,v46.2.2.2.2.2,v45.2.2.2.2.2)).bind fun v59=>(zfS o v59.1 v59.2.1 v59.2.2.1 v59.2.2.2.1 v59.2.2.2.2.1).bind fun v60=>(iter (fun x=>ziS o v60 x.1 x.2.1 x.2.2.1 x.2.2.2.1 x.2.2.2.2.1 x.2.2.2.2.2.1 x.2.2.2.2.2.2.1 x.2.2.2.2.2.2.2) ((0:Int),v60.1,v60.2.1,v60.2.2.1,v60.2.2.2.1,v60.2.2.2.2.1,v60.2.2.2.2.2,v59.2.2.2.2.2)).bind fun v73=>(zfT o v73.1 v73.2.1 v73.2.2.1 v73.2.2.2.1 v73.2.2.2.2.1).bind fun v74=>(iter (fun x=>ziU o v74 x.1 x.2.1 x.2.2.1 x.2.2.2.1 x.2.2.2.2.1 x.2.2.2.2.2.1 x.2.2.2.2.2.2.1 x.2.2.2.2.2.2.2) ((0:Int),v74.1,v74.2.1,v74.2.2.1,v74.2.2.2.1,v74.2.2.2.2.1,v74.2.2.2.2.2,v73.2.2.2.2.2)).bind fun v88=>(yeX v88.2.2.2.2.2).bind fun v89=>some (v89,v88.1,v88.2.1,v88.2.2.1,v88.2.2.2.1,v88.2.2.2.2.1)
def ziH(o:Ops):SC:=⟨⟨[(0,(.ptr 0 0))],[zaU,zaE,zaF,zaD,zaC,qaV]⟩,1,[(none,⟨[(0,(.hc (.pr .s .s)))],[zaU,zaE,zaF,zaD,zaC,qaV]⟩)],fun x=>zbP o x.1 x.2.1 x.2.2.1 x.2.2.2.1 x.2.2.2.2⟩
theorem zqK:SCok aB tabs 29 (ziH o):=zbB (o:=o) (η:=[(200004,.loop [.cell 3 0 (.pr .s .s) 33] ⟨[(0,(.ptr 0 0)),(3,(.ptr 6 0)),(4,(.fn 84 [] [(.ptr 6 0)])),(17,(.own 7)),(19,hI)],[zaU,zaE,zaF,zaD,zaC,qaV,yuL,.osl yeS 51,.osl (.pr .s .s) 33]⟩ [2,18] [(some 0,⟨[(0,(.ptr 0 0)),(3,(.ptr 6 0)),(4,(.fn 84 [] [(.ptr 6 0)]))],[zaU,zaE,zaF,zaD,zaC,qaV,ykR,.osl (.pr .s .s) 33]⟩)]),
 (200009,.loop [] ⟨[(0,(.ptr 0 0)),(3,(.ptr 6 0)),(4,(.fn 84 [] [(.ptr 6 0)])),(56,(.own 7)),(58,hI)],[zaU,zaE,zaF,zaD,zaC,qaV,yuL,.osl yyC 57,.osl (.pr .s .s) 33]⟩ [2,57] [(some 2,⟨[(0,(.ptr 0 0)),(3,(.ptr 6 0)),(4,(.fn 84 [] [(.ptr 6 0)]))],[zaU,zaE,zaF,zaD,zaC,qaV,ykR,.osl (.pr .s .s) 33]⟩)]),
 (200014,.loop [] ⟨[(0,(.ptr 0 0)),(3,(.ptr 6 0)),(4,(.fn 84 [] [(.ptr 6 0)])),(86,hI)],[zaU,zaE,zaF,zaD,zaC,qaV,ykR,.osl (.pr .s .s) 33]⟩ [2,84,85] [(some 4,⟨[(0,(.ptr 0 0)),(3,(.ptr 6 0)),(4,(.fn 84 [] [(.ptr 6 0)]))],[zaU,zaE,zaF,zaD,zaC,qaV,ykR,.osl (.pr .s .s) 33]⟩)]),
 (200019,.loop [] ⟨[(0,(.ptr 0 0)),(3,(.ptr 6 0)),(4,(.fn 84 [] [(.ptr 6 0)])),(101,(.own 7)),(103,hI)],[zaU,zaE,zaF,zaD,zaC,qaV,yuL,.osl yeB 49,.osl (.pr .s .s) 33]⟩ [2,102] [(some 6,⟨[(0,(.ptr 0 0)),(3,(.ptr 6 0)),(4,(.fn 84 [] [(.ptr 6 0)]))],[zaU,zaE,zaF,zaD,zaC,qaV,ykR,.osl (.pr .s .s) 33]⟩)]),
 (200024,.loop [] ⟨[(3,(.ptr 6 0)),(4,(.fn 84 [] [(.ptr 6 0)])),(117,(.own 7)),(119,hI)],[zaU,zaE,zaF,zaD,zaC,qaV,yuL,.osl ymK 77,.osl (.pr .s .s) 33]⟩ [2,118] [(some 8,⟨[(3,(.ptr 6 0))],[zaU,zaE,zaF,zaD,zaC,qaV,ykR,.osl (.pr .s .s) 33]⟩)]),
 (4000006,.sch ([(.pu,0,[10,11]),(.pu,1,[10,11]),(.pu,2,[10,11]),(.pu,3,[10,11])]++zpu 4 4++[(.pu,9,[]),(.pu,10,[]),(.pu,13,[]),(.pu,14,[]),(.pu,17,[]),(.pu,18,[]),(.pu,22,[]),(.pu,23,[]),(.pu,25,[]),(.pu,26,[]),(.mn,8,[]),(.mn,11,[]),(.pu,12,[]),(.mn,15,[]),(.pu,16,[]),(.mn,19,[]),(.pu,20,[]),(.la,21,[]),(.mn,24,[]),(.mn,27,[]),(.rv,21,[]),(.mn,28,[10]),(.mn,29,[11]),(.mn,30,[6,8])])),
 (4000011,.sch [(.pu,0,[10,11]),(.pu,1,[10,11]),(.pu,2,[10,11]),(.pu,3,[10,11]),(.pu,4,[]),(.pu,5,[]),(.pu,8,[]),(.pu,9,[]),(.pu,11,[]),(.pu,12,[]),(.pu,14,[]),(.pu,15,[]),(.mn,6,[]),(.la,7,[]),(.mn,10,[]),(.mn,13,[]),(.mn,16,[]),(.rv,7,[]),(.mn,17,[10]),(.mn,18,[11]),(.mn,19,[6,8])]),
 (4000021,.sch (zpu 0 6++[(.mn,6,[]),(.mn,7,[6,8])])),
 (4000026,.sch (zpu 0 8++[(.pu,9,[]),(.pu,10,[]),(.mn,8,[]),(.mn,11,[]),(.mn,12,[]),(.mn,13,[6,8,10])]))]) (Γ:=⟨[(86,(zzF o)),(87,(zxO o)),(85,(zxJ o)),(68,(yrK o)),(91,ywH)],[(84,(zlE o)),(38,(zlT o)),(84,(zmA o)),(32,(zmQ o)),(45,(zpN o)),(40,(zoD o)),(39,(zoR o)),(84,(zlM o)),(88,yuS)],false,[]⟩) (ctok ⟨yjA,⟨yfV,⟨yfI,⟨(zmE.itoa (G:=tabs)),⟨Clip_p3k,trivial⟩⟩⟩⟩⟩ ⟨zvR,⟨zuQ,⟨zvE,⟨zwP,⟨yaD,⟨zyG,⟨zyD,⟨zvI,⟨SortF_sk,trivial⟩⟩⟩⟩⟩⟩⟩⟩⟩) Tryz.func29
def yfJ(o:Ops)(v0:Bs):Option ((Int×Bool)⊕Unit):=
 bif(v0==([]:Bs))then some (.inl ((0:Int),false))else(bif decide ((v0.length:Int)>15)then some (.inl ((0:Int),false))else((idx v0 (0:Int)).bind fun v1=>bif((v1.toNat:Int)==((48:UInt8).toNat:Int))then(bif(v0 != ([48]:Bs))then some (.inl ((0:Int),false))else((o.trim v0 ([48,49,50,51,52,53,54,55,56,57]:Bs)).bind fun v2=>bif(v2 != ([]:Bs))then some (.inl ((0:Int),false))else some (.inr ())))else((o.trim v0 ([48,49,50,51,52,53,54,55,56,57]:Bs)).bind fun v3=>bif(v3 != ([]:Bs))then some (.inl ((0:Int),false))else some (.inr ()))))
def zsC(o:Ops)(v0:Bs):Option (Int×Bool):=
 (yfJ o v0).bind fun v4=>match v4 with
 |.inl v5=>(some v5)|.inr _v6=>((o.atoi v0).bind fun v7=>some (v7.1,(!v7.2)))
def zqW(o:Ops):PC:=⟨[hS],[(.i .i64),.b],fun x=>zsC o x,false⟩
theorem zxR:PCok aB tabs 60 (zqW o):=zhK (o:=o) (η:=[(2000003,.join [] [0] [(some 1000000,⟨[(2,hI),(3,hB)],[]⟩),(none,⟨[],[]⟩)]),
 (4000004,.sch (zpu 0 5))]) (Γ:=⟨[(164,(ynH o)),(165,(xcY o))],[],false,[]⟩) (ctok ⟨(zmE.trim (G:=tabs)),⟨(zmE.atoi (G:=tabs)),trivial⟩⟩ trivial) Tryz.func60
def yfW(_o:Ops)(v2:List Bs)(v3:Bs×Bs×Bool)(v4:Int×Bool):Option (Bool⊕List Bs):=
 bif(!v3.2.2)then some (.inl false)else(bif(!v4.2)then some (.inl false)else(bif decide (v4.1>(v3.2.1.length:Int))then some (.inl false)else some (.inr v2)))
def ygB(o:Ops)(v1:Bs)(v2:List Bs):Option (zdL⊕(Bool⊕List Bs)):=
 bif(v1 != ([]:Bs))then((o.cut v1 ([58]:Bs)).bind fun v3=>(zsC o v3.1).bind fun v4=>(yfW o v2 v3 v4).bind fun v5=>match v5 with
 |.inl v6=>some (.inr (.inl v6))|.inr v7=>((subH v3.2.1 v4.1).bind fun v8=>(app v7 ([v8]:List Bs)).bind fun v9=>(subL v3.2.1 v4.1).bind fun v10=>some (.inl (v10,v9))))else some (.inr (.inr v2))
def ybC(o:Ops)(v0:Bs):Option (yfP):=
 (iter (fun x=>ygB o x.1 x.2) (v0,([]:List Bs))).bind fun v11=>match v11 with
 |.inl v12=>some (([]:List Bs),v12)|.inr v13=>some (v13,true)
def zzK(o:Ops):SC:=⟨⟨[(0,hS)],[]⟩,2,[(none,⟨[(0,(.h (.sl .s))),(1,hB)],[]⟩)],fun x=>ybC o x⟩
theorem ygQ:SCok aB tabs 11 (zzK o):=zbB (o:=o) (η:=[(2000007,.join [] [6,8] [(some 1000000,⟨[(2,.nils),(3,hB)],[]⟩),(none,⟨[(4,(.own 0))],[.osl .s 9]⟩)]),
 (200002,.loop [.sl 4 .s 9] ⟨[(0,hS),(4,(.own 0))],[.osl .s 9]⟩ [] [(some 1000000,⟨[(2,.nils),(3,hB)],[]⟩),(some 0,⟨[(4,(.own 0))],[.osl .s 9]⟩)])]) (Γ:=⟨[(59,(xbG o)),(60,(zqW o)),(61,ybT)],[],false,[]⟩) (ctok ⟨(zmE.cut (G:=tabs)),⟨zxR,⟨ydR,trivial⟩⟩⟩ trivial) Tryz.func11
def zcM(_o:Ops)(v0:List Bs)(v1:Bool):Option ((Bs×yfP)):=
 bif((v0.length:Int)==0)then some (([]:Bs),v0,true)else((idx v0 (0:Int)).bind fun v2=>(subL v0 (1:Int)).bind fun v3=>some (v2,v3,v1))
def zjF(o:Ops):SC:=⟨⟨[(0,(.ptr 0 0))],[ycA]⟩,1,[(none,⟨[(0,hS)],[ycA]⟩)],fun x=>zcM o x.1 x.2⟩
theorem zpR:SCok aB tabs 169 (zjF o):=zbB (o:=o) (η:=[]) (Γ:=⟨[],[],false,[]⟩) (ctok trivial trivial) Tryz.func169
def zcL(_o:Ops)(v0:Bs)(v1:List Bs)(v2:Bool):Option ((Bool×yfP)):=
 bif v2 then some ((v0==([49]:Bs)),v1,true)else(bif(v0 != ([48]:Bs))then some ((v0==([49]:Bs)),v1,(v0 != ([49]:Bs)))else some ((v0==([49]:Bs)),v1,false))
def zqE(o:Ops):SC:=⟨⟨[(0,(.ptr 0 0)),(1,hS)],[ycA]⟩,1,[(none,⟨[(0,hB)],[ycA]⟩)],fun x=>zcL o x.1 x.2.1 x.2.2⟩
theorem zzD:SCok aB tabs 170 (zqE o):=zbB (o:=o) (η:=[]) (Γ:=⟨[],[],false,[]⟩) (ctok trivial trivial) Tryz.func170
def zhX(o:Ops)(v0:List Bs)(v1:Bool):Option ((Int×yfP)):=
 (zcM o v0 v1).bind fun v2=>(zsC o v2.1).bind fun v3=>bif v2.2.2 then some (v3.1,v2.2.1,true)else some (v3.1,v2.2.1,(!v3.2))
def zgY(o:Ops):SC:=⟨⟨[(0,(.ptr 0 0))],[ycA]⟩,1,[(none,⟨[(0,hI)],[ycA]⟩)],fun x=>zhX o x.1 x.2⟩
theorem zmJ:SCok aB tabs 243 (zgY o):=zbB (o:=o) (η:=[]) (Γ:=⟨[(60,(zqW o))],[(169,(zjF o))],false,[]⟩) (ctok ⟨zxR,trivial⟩ ⟨zpR,trivial⟩) Tryz.func243
def zyV(_o:Ops)(v2:(Int×yfP)):Option (yfP⊕yfP):=
 bif v2.2.2 then some (.inl (v2.2.1,true))else(bif decide (v2.1>(v2.2.1.length:Int))then some (.inl (v2.2.1,true))else some (.inr v2.2))
def zeB(o:Ops)(v0:List Bs)(v1:Bool):Option (((List Bs)×yfP)):=
 (zhX o v0 v1).bind fun v2=>(zyV o v2).bind fun v3=>match v3 with
 |.inl v4=>some (([]:List Bs),v4)|.inr v5=>((subH v5.1 v2.1).bind fun v6=>(app ([]:List Bs) v6).bind fun v7=>(subL v5.1 v2.1).bind fun v8=>some (v7,v8,v5.2))
def zpY(o:Ops):SC:=⟨⟨[(0,(.ptr 0 0))],[ycA]⟩,1,[(none,⟨[(0,(.h (.sl .s)))],[ycA]⟩)],fun x=>zeB o x.1 x.2⟩
theorem zzO:SCok aB tabs 171 (zpY o):=zbB (o:=o) (η:=[(2000005,.join [] [3] [(some 1000000,⟨[(2,.nils)],[ycA]⟩),(none,⟨[(0,(.ptr 0 0))],[ycA]⟩)])]) (Γ:=⟨[],[(243,(zgY o)),(198,zwI)],false,[]⟩) (ctok trivial ⟨zmJ,⟨ztI,trivial⟩⟩) Tryz.func171
def zqX(o:Ops)(v0:List Bs)(v2:Int):Option (Int⊕(Bool⊕Unit)):=
 bif decide (v2<(v0.length:Int))then((idx v0 v2).bind fun v3=>(zcK o v3).bind fun v4=>bif(!v4)then some (.inr (.inl false))else(bif decide (v2>0)then((idx v0 (w64 (v2-1))).bind fun v5=>bif(Op.bytesLess v3 v5||v3==v5)then some (.inr (.inl false))else some (.inl (w64 (v2+1))))else some (.inl (w64 (v2+1)))))else some (.inr (.inr ()))
def zmR(o:Ops)(v0:List Bs)(v1:Int):Option (Bool):=
 (iter (zqX o v0) (0:Int)).bind fun v6=>match v6 with
 |.inl v7=>some v7|.inr _v8=>some (decide ((v0.length:Int)<=v1))
def zxI(o:Ops):SC:=⟨⟨[(0,(.h (.sl .s))),(1,hI),(2,(.fn 15 [] []))],[]⟩,1,[(none,⟨[(0,hB)],[]⟩)],fun x=>zmR o x.1 x.2⟩
theorem ygC:SCok aB tabs 174 (zxI o):=zbB (o:=o) (η:=[(200002,.loop [] ⟨[(2,(.fn 15 [] [])),(11,hI)],[]⟩ [0,1,9,10] [(some 1000000,⟨[(6,hB)],[]⟩),(some 0,⟨[],[]⟩)])]) (Γ:=⟨[(15,(zkP o))],[],false,[]⟩) (ctok ⟨zpH,trivial⟩ trivial) Tryz.func174
def zqN(o:Ops)(v0:zuZ):Option ((Bool×zuZ)):=
 bif(v0.2.1==([]:Bs))then some (true,v0)else(bif((v0.2.1.length:Int)==64)then((o.trim v0.2.1 ([48,49,50,51,52,53,54,55,56,57,97,98,99,100,101,102]:Bs)).bind fun v1=>some ((v1==([]:Bs)),v0))else some (false,v0))
def zgP(o:Ops)(v0:zuZ):Option (Bool):=
 (zqN o v0).bind fun v2=>(zaN o v2.2.1).bind fun v3=>bif v3 then(bif v2.1 then((zmR o v2.2.2.2.1 (16:Int)).bind fun v4=>bif v4 then((zkJ o v2.2.2.2.2.1 (16:Int)).bind fun v5=>some v5)else(some false))else(some false))else(some false)
def zkS(o:Ops):PC:=⟨[(.h yeS)],[.b],fun x=>zgP o x,false⟩
theorem zqM:PCok aB tabs 106 (zkS o):=zhK (o:=o) (η:=[(2000002,.join [] [] [(none,⟨[(1,(.ptr 0 0)),(3,hB)],[.blk 51 [hS,hS,(.h (.sl .s)),(.h (.sl .s)),hB,hB,hB,hB]]⟩)])]) (Γ:=⟨[(164,(ynH o)),(13,(zbE o))],[(174,(zxI o)),(174,(zsM o))],false,[]⟩) (ctok ⟨(zmE.trim (G:=tabs)),⟨zbI,trivial⟩⟩ ⟨ygC,⟨zzH,trivial⟩⟩) Tryz.func106
def zgZ(o:Ops)(v0:List Bs)(v1:Bool):Option ((Int×yfP)):=
 (zhX o v0 v1).bind fun v2=>bif v2.2.2 then some (v2.1,v2.2.1,true)else(bif decide (v2.1<1)then some (v2.1,v2.2.1,true)else some (v2.1,v2.2.1,decide (v2.1>1099511627776)))
def zlV(o:Ops):SC:=⟨⟨[(0,(.ptr 0 0))],[ycA]⟩,1,[(none,⟨[(0,hI)],[ycA]⟩)],fun x=>zgZ o x.1 x.2⟩
theorem zvG:SCok aB tabs 172 (zlV o):=zbB (o:=o) (η:=[]) (Γ:=⟨[],[(243,(zgY o))],false,[]⟩) (ctok trivial ⟨zmJ,trivial⟩) Tryz.func172
def ztU(_o:Ops)(v1:qbZ)(v2:qbY)(v3:qbW)(v4:qbV)(v5:List ((Bs×Bs)×Unit))(v6:yfP)(v7:Bs×Bs×Bool):Option ((Bool×zaZ)⊕zaZ):=
 bif(!v6.2)then some (.inl (false,v1,v2,v3,v4,v5))else(bif(!v7.2.2)then some (.inl (false,v1,v2,v3,v4,v5))else some (.inr (v1,v2,v3,v4,v5)))
def ztY(o:Ops)(v26:Int)(v27:qbZ)(v28:qbY)(v29:qbW)(v30:qbV)(v31:List ((Bs×Bs)×Unit))(v32:List Bs)(v33:Bool)(v34:List Bs)(v35:List Bs)(v36:List Bs)(v37:Int):Option ((Int×qbZ×qbY×qbW×qbV×(List ((Bs×Bs)×Unit))×(List Bs)×Bool×(List Bs)×(List Bs)×(List Bs)×Int)⊕((qbZ×qbY×qbW×qbV×(List ((Bs×Bs)×Unit))×(List Bs)×Bool×(List Bs)×(List Bs)×(List Bs)×Int))):=
 bif decide (v26<3)then((zeB o v32 v33).bind fun v38=>bif decide (v26=(0:Int))then some (.inl (w64 (v26+1),v27,v28,v29,v30,v31,v38.2.1,v38.2.2,v38.1,v35,v36,v37))else(bif decide (v26=(1:Int))then some (.inl (w64 (v26+1),v27,v28,v29,v30,v31,v38.2.1,v38.2.2,v34,v38.1,v36,v37))else(bif decide (v26=(2:Int))then some (.inl (w64 (v26+1),v27,v28,v29,v30,v31,v38.2.1,v38.2.2,v34,v35,v38.1,v37))else none)))else some (.inr (v27,v28,v29,v30,v31,v32,v33,v34,v35,v36,v37))
def zuD(o:Ops)(v6:yfP)(v7:Bs×Bs×Bool)(v10:zaZ):Option ((Bool×zaZ)⊕(Bool×qbZ×qbY×qbW×qbV×(List ((Bs×Bs)×Unit))×yfP)):=
 bif(v7.1==([99,108,105,101,110,116]:Bs))then((zcM o v6.1 false).bind fun v11=>(zcM o v11.2.1 v11.2.2).bind fun v12=>bif((v12.1.length:Int) != 4)then some (.inl (false,v10))else((subH v12.1 (1:Int)).bind fun v13=>(sub3 v12.1 (1:Int) (2:Int)).bind fun v14=>(sub3 v12.1 (2:Int) (3:Int)).bind fun v15=>(subL v12.1 (3:Int)).bind fun v16=>(zcL o v13 v12.2.1 v12.2.2).bind fun v17=>(zcL o v14 v17.2.1 v17.2.2).bind fun v18=>(zcL o v15 v18.2.1 v18.2.2).bind fun v19=>(zcL o v16 v19.2.1 v19.2.2).bind fun v20=>(zeB o v20.2.1 v20.2.2).bind fun v21=>(zeB o v21.2.1 v21.2.2).bind fun v22=>let v23:qbV:=mset keqS kltS v10.2.2.2.1 v7.2.1 (v7.2.1,v11.1,v21.1,v22.1,v17.1,v18.1,v19.1,v20.1)
 (zgP o (v7.2.1,v11.1,v21.1,v22.1,v17.1,v18.1,v19.1,v20.1)).bind fun v24=>some (.inr (v24,v10.1,v10.2.1,v10.2.2.1,v23,v10.2.2.2.2,v22.2))))else(bif(v7.1==([103,114,111,117,112]:Bs))then((zgZ o v6.1 false).bind fun v25=>(iter (fun x=>ztY o x.1 x.2.1 x.2.2.1 x.2.2.2.1 x.2.2.2.2.1 x.2.2.2.2.2.1 x.2.2.2.2.2.2.1 x.2.2.2.2.2.2.2.1 x.2.2.2.2.2.2.2.2.1 x.2.2.2.2.2.2.2.2.2.1 x.2.2.2.2.2.2.2.2.2.2.1 x.2.2.2.2.2.2.2.2.2.2.2) ((0:Int),v10.1,v10.2.1,v10.2.2.1,v10.2.2.2.1,v10.2.2.2.2,v25.2.1,v25.2.2,([]:List Bs),([]:List Bs),([]:List Bs),v25.1)).bind fun v39=>let v40:qbY:=mset keqS kltS v39.2.1 v7.2.1 ((v39.2.2.2.2.2.2.2.1,v39.2.2.2.2.2.2.2.2.1,v39.2.2.2.2.2.2.2.2.2.1),v39.2.2.2.2.2.2.2.2.2.2)
 (zaN o v7.2.1).bind fun v41=>some (.inr (v41,v39.1,v40,v39.2.2.1,v39.2.2.2.1,v39.2.2.2.2.1,v39.2.2.2.2.2.1,v39.2.2.2.2.2.2.1)))else(bif(v7.1==([109,97,121]:Bs))then((o.cut v7.2.1 ([124]:Bs)).bind fun v42=>let v43:List ((Bs×Bs)×Unit):=mset (keq (.pr .s .s)) (klt (.pr .s .s)) v10.2.2.2.2 (v42.1,v42.2.1) ()
 bif v42.2.2 then((zbG o v42.1).bind fun v44=>bif v44 then((zbG o v42.2.1).bind fun v45=>some (.inr (v45,v10.1,v10.2.1,v10.2.2.1,v10.2.2.2.1,v43,v6.1,false)))else some (.inr (false,v10.1,v10.2.1,v10.2.2.1,v10.2.2.2.1,v43,v6.1,false)))else some (.inr (false,v10.1,v10.2.1,v10.2.2.1,v10.2.2.2.1,v43,v6.1,false)))else(bif(v7.1==([114,111,108,101]:Bs))then((zeB o v6.1 false).bind fun v46=>let v47:qbW:=mset keqS kltS v10.2.2.1 v7.2.1 (v7.2.1,v46.1)
 (zjL o (v7.2.1,v46.1)).bind fun v48=>some (.inr (v48,v10.1,v10.2.1,v47,v10.2.2.2.1,v10.2.2.2.2,v46.2)))else(bif(v7.1==([117,115,101,114]:Bs))then((zcM o v6.1 false).bind fun v49=>(zcM o v49.2.1 v49.2.2).bind fun v50=>(zcL o v50.1 v50.2.1 v50.2.2).bind fun v51=>(zgZ o v51.2.1 v51.2.2).bind fun v52=>let v53:qbZ:=mset keqS kltS v10.1 v7.2.1 (v7.2.1,v49.1,v51.1,v52.1)
 (zaN o v7.2.1).bind fun v54=>bif v54 then((zcK o v49.1).bind fun v55=>some (.inr (v55,v53,v10.2.1,v10.2.2.1,v10.2.2.2.1,v10.2.2.2.2,v52.2)))else some (.inr (false,v53,v10.2.1,v10.2.2.1,v10.2.2.2.1,v10.2.2.2.2,v52.2)))else some (.inr (false,v10.1,v10.2.1,v10.2.2.1,v10.2.2.2.1,v10.2.2.2.2,v6.1,false))))))
def zgU(o:Ops)(v0:Bs×Bs)(v1:qbZ)(v2:qbY)(v3:qbW)(v4:qbV)(v5:List ((Bs×Bs)×Unit)):Option ((Bool×zaZ)):=
 (ybC o v0.2).bind fun v6=>(o.cut v0.1 ([47]:Bs)).bind fun v7=>(ztU o v1 v2 v3 v4 v5 v6 v7).bind fun v8=>match v8 with
 |.inl v9=>some v9|.inr v10=>((zuD o v6 v7 v10).bind fun v56=>match v56 with
 |.inl v57=>some v57|.inr v58=>(bif v58.1 then(bif(!v58.2.2.2.2.2.2.2)then some (((v58.2.2.2.2.2.2.1.length:Int)==0),v58.2.1,v58.2.2.1,v58.2.2.2.1,v58.2.2.2.2.1,v58.2.2.2.2.2.1)else some (false,v58.2.1,v58.2.2.1,v58.2.2.2.1,v58.2.2.2.2.1,v58.2.2.2.2.2.1))else some (false,v58.2.1,v58.2.2.1,v58.2.2.2.1,v58.2.2.2.2.1,v58.2.2.2.2.2.1)))
def zkO(o:Ops):SC:=⟨⟨[(0,(.ptr 0 0)),(1,(.h (.pr .s .s)))],[zaU,zaE,zaF,zaD,zaC,qaV]⟩,1,[(none,⟨[(0,hB)],[zaU,xbI,ycY,xdL,.mp false .s yeS,.mp false (.pr .s .s) .un]⟩)],fun x=>zgU o x.1 x.2.1 x.2.2.1 x.2.2.2.1 x.2.2.2.2.1 x.2.2.2.2.2⟩
theorem zuL:SCok aB tabs 75 (zkO o):=zbB (o:=o) (η:=[(2000005,.join [] [5,7,8] [(some 1000000,⟨[(4,hB)],[zaU,zaE,zaF,zaD,zaC,qaV]⟩),(none,⟨[(0,(.ptr 0 0))],[zaU,zaE,zaF,zaD,zaC,qaV]⟩)]),
 (200020,.loop [] ⟨[(0,(.ptr 0 0)),(10,(.ptr 6 0)),(13,(.ptr 7 0)),(93,hI)],[zaU,zaE,zaF,zaD,zaC,qaV,ycA,zyO]⟩ [8] [(some 1,⟨[(0,(.ptr 0 0)),(10,(.ptr 6 0)),(13,(.ptr 7 0))],[zaU,zaE,zaF,zaD,zaC,qaV,ycA,zyO]⟩)]),
 (2000038,.join [] [] [(some 1000000,⟨[(4,hB)],[zaU,zaE,zaF,zaD,zaC,qaV]⟩),(none,⟨[(6,hB),(10,(.ptr 6 0))],[zaU,xbI,ycY,xdL,.mp false .s yeS,.mp false (.pr .s .s) .un,ycA]⟩)]),
 (4000013,.sch (zpu 0 3++[(.pu,4,[6]),(.pu,5,[6]),(.pu,6,[6]),(.pu,8,[6]),(.pu,9,[6]),(.pu,10,[6]),(.pu,12,[6]),(.pu,13,[6]),(.pu,14,[6]),(.mn,3,[6]),(.pu,16,[6]),(.mn,7,[6]),(.mn,11,[6]),(.mn,15,[6]),(.mn,17,[8]),(.pu,18,[]),(.mn,19,[8]),(.pu,20,[]),(.mn,21,[8]),(.pu,22,[]),(.mn,23,[8])])),
 (4000015,.sch (zpu 0 6++[(.mn,6,[0,1,2,3,4,5,6,7,8,9,10,11,12,13,14,15])])),
 (4000024,.sch (zpu 0 6++[(.mn,6,[0,1,2,3,4,5,6,7])])),
 (4000032,.sch (zpu 0 6++[(.mn,6,[0,1,2,3,4,5,6,7,8])])),
 (4000036,.sch (zpu 0 6++[(.mn,6,[0,1,2,3,4,5,6,7,8,9,10,11])]))]) (Γ:=⟨[(59,(xbG o)),(106,(zkS o)),(13,(zbE o)),(19,(zhD o)),(104,(zpI o)),(15,(zkP o))],[(11,(zzK o)),(169,(zjF o)),(170,(zqE o)),(171,(zpY o)),(172,(zlV o))],false,[]⟩) (ctok ⟨(zmE.cut (G:=tabs)),⟨zqM,⟨zbI,⟨zkY,⟨ztX,⟨zpH,trivial⟩⟩⟩⟩⟩⟩ ⟨ygQ,⟨zpR,⟨zzD,⟨zzO,⟨zvG,trivial⟩⟩⟩⟩⟩) Tryz.func75
def yfO(o:Ops)(v0:List Bs)(v7:Int)(v8:qbZ)(v9:qbY)(v10:qbW)(v11:qbV)(v12:List ((Bs×Bs)×Unit)):Option ((Int×zaZ)⊕((Bool×zaZ)⊕zaZ)):=
 bif decide (v7<(v0.length:Int))then((idx v0 v7).bind fun v13=>(zeE o v13 v8 v9 v10 v11 v12).bind fun v14=>bif(!v14.1)then some (.inr (.inl (false,v14.2)))else(bif decide (v7>0)then((idx v0 (w64 (v7-1))).bind fun v15=>bif(Op.bytesLess v13 v15||v13==v15)then some (.inr (.inl (false,v14.2)))else some (.inl (w64 (v7+1),v14.2)))else some (.inl (w64 (v7+1),v14.2))))else some (.inr (.inr (v8,v9,v10,v11,v12)))
def yaC(o:Ops)(v0:List Bs)(v1:Int)(v2:qbZ)(v3:qbY)(v4:qbW)(v5:qbV)(v6:List ((Bs×Bs)×Unit)):Option ((Bool×zaZ)):=
 (iter (fun x=>yfO o v0 x.1 x.2.1 x.2.2.1 x.2.2.2.1 x.2.2.2.2.1 x.2.2.2.2.2) ((0:Int),v2,v3,v4,v5,v6)).bind fun v16=>match v16 with
 |.inl v17=>some v17|.inr v18=>some (decide ((v0.length:Int)<=v1),v18)
def zxH(o:Ops):SC:=⟨⟨[(0,(.h (.sl .s))),(1,hI),(2,(.fn 244 [] [(.ptr 0 0)]))],[zuI,zkB,zaE,zaF,zaD,zaC,qaV]⟩,1,[(none,⟨[(0,hB)],[zuI,zkB,zaE,zaF,zaD,zaC,qaV]⟩)],fun x=>yaC o x.1 x.2.1 x.2.2.1 x.2.2.2.1 x.2.2.2.2.1 x.2.2.2.2.2.1 x.2.2.2.2.2.2⟩
theorem yfT:SCok aB tabs 174 (zxH o):=zbB (o:=o) (η:=[(200002,.loop [] ⟨[(2,(.fn 244 [] [(.ptr 0 0)])),(11,hI)],[zuI,zkB,zaE,zaF,zaD,zaC,qaV]⟩ [0,1,9,10] [(some 1000000,⟨[(6,hB)],[zuI,zkB,zaE,zaF,zaD,zaC,qaV]⟩),(some 0,⟨[],[zuI,zkB,zaE,zaF,zaD,zaC,qaV]⟩)])]) (Γ:=⟨[],[(244,(zgM o))],false,[]⟩) (ctok trivial ⟨zlU,trivial⟩) Tryz.func174
def yfZ(o:Ops)(v0:List Bs)(v7:Int)(v8:qbZ)(v9:qbY)(v10:qbW)(v11:qbV)(v12:List ((Bs×Bs)×Unit)):Option ((Int×zaZ)⊕((Bool×zaZ)⊕zaZ)):=
 bif decide (v7<(v0.length:Int))then((idx v0 v7).bind fun v13=>(zeM o v13 v8 v9 v10 v11 v12).bind fun v14=>bif(!v14.1)then some (.inr (.inl (false,v14.2)))else(bif decide (v7>0)then((idx v0 (w64 (v7-1))).bind fun v15=>bif(Op.bytesLess v13 v15||v13==v15)then some (.inr (.inl (false,v14.2)))else some (.inl (w64 (v7+1),v14.2)))else some (.inl (w64 (v7+1),v14.2))))else some (.inr (.inr (v8,v9,v10,v11,v12)))
def zzP(o:Ops)(v0:List Bs)(v1:Int)(v2:qbZ)(v3:qbY)(v4:qbW)(v5:qbV)(v6:List ((Bs×Bs)×Unit)):Option ((Bool×zaZ)):=
 (iter (fun x=>yfZ o v0 x.1 x.2.1 x.2.2.1 x.2.2.2.1 x.2.2.2.2.1 x.2.2.2.2.2) ((0:Int),v2,v3,v4,v5,v6)).bind fun v16=>match v16 with
 |.inl v17=>some v17|.inr v18=>some (decide ((v0.length:Int)<=v1),v18)
def zxQ(o:Ops):SC:=⟨⟨[(0,(.h (.sl .s))),(1,hI),(2,(.fn 245 [] [(.ptr 0 0)]))],[zuI,zkB,zaE,zaF,zaD,zaC,qaV]⟩,1,[(none,⟨[(0,hB)],[zuI,zkB,zaE,zaF,zaD,zaC,qaV]⟩)],fun x=>zzP o x.1 x.2.1 x.2.2.1 x.2.2.2.1 x.2.2.2.2.1 x.2.2.2.2.2.1 x.2.2.2.2.2.2⟩
theorem yfH:SCok aB tabs 174 (zxQ o):=zbB (o:=o) (η:=[(200002,.loop [] ⟨[(2,(.fn 245 [] [(.ptr 0 0)])),(11,hI)],[zuI,zkB,zaE,zaF,zaD,zaC,qaV]⟩ [0,1,9,10] [(some 1000000,⟨[(6,hB)],[zuI,zkB,zaE,zaF,zaD,zaC,qaV]⟩),(some 0,⟨[],[zuI,zkB,zaE,zaF,zaD,zaC,qaV]⟩)])]) (Γ:=⟨[],[(245,(zgS o))],false,[]⟩) (ctok trivial ⟨zlO,trivial⟩) Tryz.func174
def yfK(o:Ops)(v0:List Bs)(v7:Int)(v8:qbZ)(v9:qbY)(v10:qbW)(v11:qbV)(v12:List ((Bs×Bs)×Unit)):Option ((Int×zaZ)⊕((Bool×zaZ)⊕zaZ)):=
 bif decide (v7<(v0.length:Int))then((idx v0 v7).bind fun v13=>(zeG o v13 v8 v9 v10 v11 v12).bind fun v14=>bif(!v14.1)then some (.inr (.inl (false,v14.2)))else(bif decide (v7>0)then((idx v0 (w64 (v7-1))).bind fun v15=>bif(Op.bytesLess v13 v15||v13==v15)then some (.inr (.inl (false,v14.2)))else some (.inl (w64 (v7+1),v14.2)))else some (.inl (w64 (v7+1),v14.2))))else some (.inr (.inr (v8,v9,v10,v11,v12)))
def yaE(o:Ops)(v0:List Bs)(v1:Int)(v2:qbZ)(v3:qbY)(v4:qbW)(v5:qbV)(v6:List ((Bs×Bs)×Unit)):Option ((Bool×zaZ)):=
 (iter (fun x=>yfK o v0 x.1 x.2.1 x.2.2.1 x.2.2.2.1 x.2.2.2.2.1 x.2.2.2.2.2) ((0:Int),v2,v3,v4,v5,v6)).bind fun v16=>match v16 with
 |.inl v17=>some v17|.inr v18=>some (decide ((v0.length:Int)<=v1),v18)
def zxS(o:Ops):SC:=⟨⟨[(0,(.h (.sl .s))),(1,hI),(2,(.fn 246 [] [(.ptr 0 0)]))],[zuI,zkB,zaE,zaF,zaD,zaC,qaV]⟩,1,[(none,⟨[(0,hB)],[zuI,zkB,zaE,zaF,zaD,zaC,qaV]⟩)],fun x=>yaE o x.1 x.2.1 x.2.2.1 x.2.2.2.1 x.2.2.2.2.1 x.2.2.2.2.2.1 x.2.2.2.2.2.2⟩
theorem yfY:SCok aB tabs 174 (zxS o):=zbB (o:=o) (η:=[(200002,.loop [] ⟨[(2,(.fn 246 [] [(.ptr 0 0)])),(11,hI)],[zuI,zkB,zaE,zaF,zaD,zaC,qaV]⟩ [0,1,9,10] [(some 1000000,⟨[(6,hB)],[zuI,zkB,zaE,zaF,zaD,zaC,qaV]⟩),(some 0,⟨[],[zuI,zkB,zaE,zaF,zaD,zaC,qaV]⟩)])]) (Γ:=⟨[],[(246,(zgV o))],false,[]⟩) (ctok trivial ⟨zlW,trivial⟩) Tryz.func174
def zlI(_o:Ops)(v0:Bs)(v1:qcV):Option ((Bool×qcV)):=
 let _v2:List Bs:=zdW keqS v1 v0 ([]:List Bs)
 some (mhas keqS v1 v0,v1)
abbrev qbX:OSh:=.mp true .s (.sl .s)
def zkR(o:Ops):SC:=⟨⟨[(0,hS),(1,(.ptr 0 0))],[ylS,qbX]⟩,1,[(none,⟨[(0,hB)],[ylS,qbX]⟩)],fun x=>zlI o x.1 x.2⟩
theorem ztS:SCok aB tabs 247 (zkR o):=zbB (o:=o) (η:=[]) (Γ:=⟨[],[],false,[]⟩) (ctok trivial trivial) Tryz.func247
def yaP(o:Ops)(v0:List Bs)(v2:Int)(v3:qcV):Option ((Int×qcV)⊕((Int×qcV)⊕qcV)):=
 bif decide (v2<(v0.length:Int))then((idx v0 v2).bind fun v4=>(zlI o v4 v3).bind fun v5=>bif v5.1 then some (.inr (.inl (v2,v5.2)))else some (.inl (w64 (v2+1),v5.2)))else some (.inr (.inr v3))
def zsO(o:Ops)(v0:List Bs)(v1:qcV):Option ((Int×qcV)):=
 (iter (fun x=>yaP o v0 x.1 x.2) ((0:Int),v1)).bind fun v6=>match v6 with
 |.inl v7=>some v7|.inr v8=>some ((-1:Int),v8)
def zrG(o:Ops):SC:=⟨⟨[(0,(.h (.sl .s))),(1,(.fn 247 [] [(.ptr 0 0)]))],[ylS,qbX]⟩,1,[(none,⟨[(0,hI)],[ylS,qbX]⟩)],fun x=>zsO o x.1 x.2⟩
theorem yaO:SCok aB tabs 212 (zrG o):=zbB (o:=o) (η:=[(200002,.loop [] ⟨[(1,(.fn 247 [] [(.ptr 0 0)])),(8,hI)],[ylS,qbX]⟩ [0,7] [(some 1000000,⟨[(4,hI)],[ylS,qbX]⟩),(some 0,⟨[],[ylS,qbX]⟩)])]) (Γ:=⟨[],[(247,(zkR o))],false,[]⟩) (ctok trivial ⟨ztS,trivial⟩) Tryz.func212
def znP(o:Ops)(v0:List Bs)(v1:qcV):Option ((Bool×qcV)):=
 (zsO o v0 v1).bind fun v2=>some (decide (v2.1≥0),v2.2)
def znF(o:Ops):SC:=⟨⟨[(0,(.h (.sl .s))),(1,(.fn 247 [] [(.ptr 0 0)]))],[ylS,qbX]⟩,1,[(none,⟨[(0,hB)],[ylS,qbX]⟩)],fun x=>znP o x.1 x.2⟩
theorem zwH:SCok aB tabs 129 (znF o):=zbB (o:=o) (η:=[]) (Γ:=⟨[],[(212,(zrG o))],false,[]⟩) (ctok trivial ⟨yaO,trivial⟩) Tryz.func129
noncomputable def zwC(_o:Ops)(v5:qbZ)(v6:qbY)(v7:qbW)(v8:qbV)(v9:List ((Bs×Bs)×Unit))(v10:List Bs)(v11:qcV):List (Option ((qbZ×qbY×qbW×qbV×(List ((Bs×Bs)×Unit))×(List Bs)×qcV)⊕((qbZ×qbY×qbW×qbV×(List ((Bs×Bs)×Unit))×qcV)))):=
 rngL (rngC keqS v6 v10) (some (.inr (v5,v6,v7,v8,v9,v11))) fun v12=>(mget keqS v6 v12.1).bind fun v13=>let v14:qcV:=mset keqS kltS v11 v12.1 v13.1.2.1
 some (.inl (v5,v6,v7,v8,v9,rngD keqS v10 v12.1,v14))
noncomputable def zxC(_o:Ops)(v16:Bool)(v17:qbZ)(v18:qbY)(v19:qbW)(v20:qbV)(v21:List ((Bs×Bs)×Unit))(v22:qcV):Option (((Bool×qbZ×qbY×qbW×qbV×(List ((Bs×Bs)×Unit))×qcV)⊕(Bool×qbZ×qbY×qbW×qbV×(List ((Bs×Bs)×Unit))×(List Bs)×qcV))⊕((qbZ×qbY×qbW×qbV×(List ((Bs×Bs)×Unit))×qcV))):=
 bif v16 then some (.inl (.inr (false,v17,v18,v19,v20,v21,cH Prod.fst v22,v22)))else some (.inr (v17,v18,v19,v20,v21,v22))
noncomputable def zvZ(o:Ops)(v23:Bool)(v24:qbZ)(v25:qbY)(v26:qbW)(v27:qbV)(v28:List ((Bs×Bs)×Unit))(v29:List Bs)(v30:qcV):List (Option (((Bool×qbZ×qbY×qbW×qbV×(List ((Bs×Bs)×Unit))×qcV)⊕(Bool×qbZ×qbY×qbW×qbV×(List ((Bs×Bs)×Unit))×(List Bs)×qcV))⊕((qbZ×qbY×qbW×qbV×(List ((Bs×Bs)×Unit))×qcV)))):=
 rngL (rngC keqS v30 v29) (some (.inl (.inl (v23,v24,v25,v26,v27,v28,v30)))) fun v31=>(mget keqS v30 v31.1).bind fun v32=>(znP o v32 v30).bind fun v33=>bif(!v33.1)then some (.inl (.inr (true,v24,v25,v26,v27,v28,rngD keqS v29 v31.1,mdel keqS v33.2 v31.1)))else some (.inl (.inr (v23,v24,v25,v26,v27,v28,rngD keqS v29 v31.1,v33.2)))
noncomputable def zwO(o:Ops):(Bool×qbZ×qbY×qbW×qbV×(List ((Bs×Bs)×Unit))×qcV)⊕(Bool×qbZ×qbY×qbW×qbV×(List ((Bs×Bs)×Unit))×(List Bs)×qcV)->List (Option (((Bool×qbZ×qbY×qbW×qbV×(List ((Bs×Bs)×Unit))×qcV)⊕(Bool×qbZ×qbY×qbW×qbV×(List ((Bs×Bs)×Unit))×(List Bs)×qcV))⊕((qbZ×qbY×qbW×qbV×(List ((Bs×Bs)×Unit))×qcV))))
 |.inl x=>[zxC o x.1 x.2.1 x.2.2.1 x.2.2.2.1 x.2.2.2.2.1 x.2.2.2.2.2.1 x.2.2.2.2.2.2]|.inr x=>zvZ o x.1 x.2.1 x.2.2.1 x.2.2.2.1 x.2.2.2.2.1 x.2.2.2.2.2.1 x.2.2.2.2.2.2.1 x.2.2.2.2.2.2.2
noncomputable def zcR(o:Ops)(v0:qbZ)(v1:qbY)(v2:qbW)(v3:qbV)(v4:List ((Bs×Bs)×Unit)):Option ((Bool×zaZ)):=
 (rngA (fun x=>zwC o x.1 x.2.1 x.2.2.1 x.2.2.2.1 x.2.2.2.2.1 x.2.2.2.2.2.1 x.2.2.2.2.2.2) (v0,v1,v2,v3,v4,cH Prod.fst v1,([]:qcV))).bind fun v15=>(rngA (zwO o) (Sum.inl (true,v15))).bind fun v34=>some (((v34.2.2.2.2.2.length:Int)==0),v34.1,v34.2.1,v34.2.2.1,v34.2.2.2.1,v34.2.2.2.2.1)
noncomputable def zmI(o:Ops):SC:=⟨⟨[(0,(.ptr 0 0))],[zaU,zaE,zaF,zaD,zaC,qaV]⟩,1,[(none,⟨[(0,hB)],[zaU,zaE,zaF,zaD,zaC,qaV]⟩)],fun x=>zcR o x.1 x.2.1 x.2.2.1 x.2.2.2.1 x.2.2.2.2⟩
theorem zwD:SCok aB tabs 175 (zmI o):=witO (G:=tabs) (o:=o)<|fn_nc (H:=⟨[false,false,false,true,false],[],⟨[(3,(.ptr 6 0)),(6,hB)],[zaU,zaE,zaF,zaD,zaC,qaV,QWkF9,qbX]⟩,[2],[(some 2,⟨[(3,(.ptr 6 0))],[zaU,zaE,zaF,zaD,zaC,qaV,QWkF9,qbX]⟩)],[false,false,false],⟨[(3,(.ptr 6 0)),(6,hB),(27,(.ptr 7 0))],[zaU,zaE,zaF,zaD,zaC,qaV,.blk 237 [(.mpr 8)],.it 8 true .s,qbX]⟩,[2]⟩) (η:=[(200003,.rng [] ⟨[(3,(.ptr 6 0)),(14,(.ptr 7 0))],[zaU,zaE,zaF,zaD,zaC,qaV,.blk 237 [(.mpr 8)],.it 2 true .s,qbX]⟩ [2] [(some 0,⟨[(3,(.ptr 6 0))],[zaU,zaE,zaF,zaD,zaC,qaV,QWkF9,qbX]⟩)])]) (Γ:=⟨[],[(129,(znF o))],false,[]⟩) yfF τ_okWkF (ctok trivial ⟨zwH,trivial⟩) Tryz.func175 (isFn Tryz.func175) (by kernel_rfl) (by kernel_rfl) (by kernel_rfl)
noncomputable def zoL(_o:Ops)(v0:qbZ)(v1:qbY)(v2:qbW)(v3:qbV)(v4:List ((Bs×Bs)×Unit)):Option ((Bool×zaZ)⊕zaZ):=
 bif decide ((v0.length:Int)>64)then some (.inl (false,v0,v1,v2,v3,v4))else(bif decide ((v1.length:Int)>32)then some (.inl (false,v0,v1,v2,v3,v4))else(bif decide ((v2.length:Int)>32)then some (.inl (false,v0,v1,v2,v3,v4))else(bif decide ((v3.length:Int)>32)then some (.inl (false,v0,v1,v2,v3,v4))else(bif decide ((v4.length:Int)>64)then some (.inl (false,v0,v1,v2,v3,v4))else some (.inr (v0,v1,v2,v3,v4))))))
noncomputable def zxY(_o:Ops)(v17:Int)(v18:qbZ)(v19:qbY)(v20:qbW)(v21:qbV)(v22:List ((Bs×Bs)×Unit))(v23:List Bs)(v24:List Bs)(v25:List Bs)(v26:Int)(v27:List Bs):Option ((qbZ×qbY×qbW×qbV×(List ((Bs×Bs)×Unit))×(List Bs)×(List Bs)×(List Bs)×Int×List Bs)⊕(qbZ×qbY×qbW×qbV×(List ((Bs×Bs)×Unit))×(List Bs)×(List Bs)×(List Bs)×Int×List Bs)⊕(qbZ×qbY×qbW×qbV×(List ((Bs×Bs)×Unit))×(List Bs)×(List Bs)×(List Bs)×Int×List Bs)):=
 bif decide (v17=(0:Int))then some (.inl (v18,v19,v20,v21,v22,v23,v24,v25,v26,v27))else(bif decide (v17=(1:Int))then some (.inr (.inl (v18,v19,v20,v21,v22,v23,v24,v25,v26,v27)))else(bif decide (v17=(2:Int))then some (.inr (.inr (v18,v19,v20,v21,v22,v23,v24,v25,v26,v27)))else none))
noncomputable def zyL(o:Ops)(v17:Int)(v18:qbZ)(v19:qbY)(v20:qbW)(v21:qbV)(v22:List ((Bs×Bs)×Unit))(v23:List Bs)(v24:List Bs)(v25:List Bs)(v26:Int)(v27:List Bs):Option ((Int×qbZ×qbY×qbW×qbV×(List ((Bs×Bs)×Unit))×(List Bs)×(List Bs)×(List Bs)×Int×List Bs)⊕((Bool×zaZ)⊕(qbZ×qbY×qbW×qbV×(List ((Bs×Bs)×Unit))×List Bs))):=
 bif decide (v17<3)then((zxY o v17 v18 v19 v20 v21 v22 v23 v24 v25 v26 v27).bind fun v28=>match v28 with
 |.inl v29=>((yaC o v29.2.2.2.2.2.1 (v29.2.2.2.2.2.1.length:Int) v29.1 v29.2.1 v29.2.2.1 v29.2.2.2.1 v29.2.2.2.2.1).bind fun v31=>bif(!v31.1)then some (.inr (.inl (false,v31.2)))else some (.inl (w64 (v17+1),v31.2.1,v31.2.2.1,v31.2.2.2.1,v31.2.2.2.2.1,v31.2.2.2.2.2,v29.2.2.2.2.2)))|.inr v30=>(match v30 with
 |.inl v32=>((zzP o v32.2.2.2.2.2.2.1 (v32.2.2.2.2.2.2.1.length:Int) v32.1 v32.2.1 v32.2.2.1 v32.2.2.2.1 v32.2.2.2.2.1).bind fun v34=>bif(!v34.1)then some (.inr (.inl (false,v34.2)))else some (.inl (w64 (v17+1),v34.2.1,v34.2.2.1,v34.2.2.2.1,v34.2.2.2.2.1,v34.2.2.2.2.2,v32.2.2.2.2.2)))|.inr v33=>((yaE o v33.2.2.2.2.2.2.2.1 (v33.2.2.2.2.2.2.2.1.length:Int) v33.1 v33.2.1 v33.2.2.1 v33.2.2.2.1 v33.2.2.2.2.1).bind fun v35=>bif(!v35.1)then some (.inr (.inl (false,v35.2)))else some (.inl (w64 (v17+1),v35.2.1,v35.2.2.1,v35.2.2.2.1,v35.2.2.2.2.1,v35.2.2.2.2.2,v33.2.2.2.2.2)))))else some (.inr (.inr (v18,v19,v20,v21,v22,v27)))
noncomputable def zyE(o:Ops)(v8:qbZ)(v9:qbY)(v10:qbW)(v11:qbV)(v12:List ((Bs×Bs)×Unit))(v13:List Bs):List (Option ((qbZ×qbY×qbW×qbV×(List ((Bs×Bs)×Unit))×List Bs)⊕(zaZ⊕(Bool×zaZ)))):=
 rngL (rngC keqS v9 v13) (some (.inr (.inl (v8,v9,v10,v11,v12)))) fun v14=>(mget keqS v9 v14.1).bind fun v15=>(zaQ o v8 v9 v10 v11 v12).bind fun v16=>(iter (fun x=>zyL o x.1 x.2.1 x.2.2.1 x.2.2.2.1 x.2.2.2.2.1 x.2.2.2.2.2.1 x.2.2.2.2.2.2.1 x.2.2.2.2.2.2.2.1 x.2.2.2.2.2.2.2.2.1 x.2.2.2.2.2.2.2.2.2.1 x.2.2.2.2.2.2.2.2.2.2) ((0:Int),v16.1,v16.2.1,v16.2.2.1,v16.2.2.2.1,v16.2.2.2.2,v15.1.1,v15.1.2.1,v15.1.2.2,v15.2,rngD keqS v13 v14.1)).bind fun v36=>match v36 with
 |.inl v37=>some (.inr (.inr v37))|.inr v38=>some (.inl v38)
noncomputable def zxV(o:Ops)(v42:qbZ)(v43:qbY)(v44:qbW)(v45:qbV)(v46:List ((Bs×Bs)×Unit))(v47:List (Bs×Bs)):List (Option ((qbZ×qbY×qbW×qbV×(List ((Bs×Bs)×Unit))×List (Bs×Bs))⊕(zaZ⊕(Bool×zaZ)))):=
 rngL (rngC (keq (.pr .s .s)) v46 v47) (some (.inr (.inl (v42,v43,v44,v45,v46)))) fun v48=>(mget (keq (.pr .s .s)) v46 v48.1).bind fun _v49=>(zbL o v48.1.1 v42 v43 v44 v45 v46).bind fun v50=>bif(!v50.1)then some (.inr (.inr (false,v50.2)))else((zbL o v48.1.2 v50.2.1 v50.2.2.1 v50.2.2.2.1 v50.2.2.2.2.1 v50.2.2.2.2.2).bind fun v51=>bif(!v51.1)then some (.inr (.inr (false,v51.2)))else some (.inl (v51.2.1,v51.2.2.1,v51.2.2.2.1,v51.2.2.2.2.1,v51.2.2.2.2.2,rngD (keq (.pr .s .s)) v47 v48.1)))
noncomputable def zdH(o:Ops)(v0:qbZ)(v1:qbY)(v2:qbW)(v3:qbV)(v4:List ((Bs×Bs)×Unit)):Option ((Bool×zaZ)):=
 (zoL o v0 v1 v2 v3 v4).bind fun v5=>match v5 with
 |.inl v6=>some v6|.inr v7=>((rngA (fun x=>zyE o x.1 x.2.1 x.2.2.1 x.2.2.2.1 x.2.2.2.2.1 x.2.2.2.2.2) (v7.1,v7.2.1,v7.2.2.1,v7.2.2.2.1,v7.2.2.2.2,cH Prod.fst v7.2.1)).bind fun v39=>match v39 with
 |.inl v40=>((rngA (fun x=>zxV o x.1 x.2.1 x.2.2.1 x.2.2.2.1 x.2.2.2.2.1 x.2.2.2.2.2) (v40.1,v40.2.1,v40.2.2.1,v40.2.2.2.1,v40.2.2.2.2,cH Prod.fst v40.2.2.2.2)).bind fun v52=>match v52 with
 |.inl v53=>((zcR o v53.1 v53.2.1 v53.2.2.1 v53.2.2.2.1 v53.2.2.2.2).bind fun v55=>some v55)|.inr v54=>some v54)
 |.inr v41=>some v41)
noncomputable def znO(o:Ops):SC:=⟨⟨[(0,(.ptr 0 0))],[zaU,zaE,zaF,zaD,zaC,qaV]⟩,1,[(none,⟨[(0,hB)],[zaU,zaE,zaF,zaD,zaC,qaV]⟩)],fun x=>zdH o x.1 x.2.1 x.2.2.1 x.2.2.2.1 x.2.2.2.2⟩
theorem zyK:SCok aB tabs 76 (znO o):=zbB (o:=o) (η:=[(2000003,.join [] [] [(some 1000000,⟨[(2,hB)],[zaU,zaE,zaF,zaD,zaC,qaV]⟩),(none,⟨[(0,(.ptr 0 0))],[zaU,zaE,zaF,zaD,zaC,qaV]⟩)]),
 (2000009,.join [] [57] [(none,⟨[(0,(.ptr 0 0)),(4,(.ptr 6 0)),(6,(.ptr 7 0)),(50,(.ptr 8 0)),(56,(.ag [(.kn .i64 0),(.fn 244 [] [(.ptr 9 0)]),(.kn .i64 1),(.fn 245 [] [(.ptr 9 0)]),(.kn .i64 2),(.fn 246 [] [(.ptr 9 0)])]))],[zaU,zaE,zaF,zaD,zaC,qaV,zyO,.blk 187 [(.kn .i64 0),(.fn 244 [] [(.ptr 9 0)])],.it 2 true .s,zyT]⟩),(none,⟨[(0,(.ptr 0 0)),(4,(.ptr 6 0)),(6,(.ptr 7 0)),(50,(.ptr 8 0)),(56,(.ag [(.kn .i64 0),(.fn 244 [] [(.ptr 9 0)]),(.kn .i64 1),(.fn 245 [] [(.ptr 9 0)]),(.kn .i64 2),(.fn 246 [] [(.ptr 9 0)])]))],[zaU,zaE,zaF,zaD,zaC,qaV,zyO,.blk 187 [(.kn .i64 1),(.fn 245 [] [(.ptr 9 0)])],.it 2 true .s,zyT]⟩),(none,⟨[(0,(.ptr 0 0)),(4,(.ptr 6 0)),(6,(.ptr 7 0)),(50,(.ptr 8 0)),(56,(.ag [(.kn .i64 0),(.fn 244 [] [(.ptr 9 0)]),(.kn .i64 1),(.fn 245 [] [(.ptr 9 0)]),(.kn .i64 2),(.fn 246 [] [(.ptr 9 0)])]))],[zaU,zaE,zaF,zaD,zaC,qaV,zyO,.blk 187 [(.kn .i64 2),(.fn 246 [] [(.ptr 9 0)])],.it 2 true .s,zyT]⟩)]),
 (200007,.loop [] ⟨[(0,(.ptr 0 0)),(4,(.ptr 6 0)),(50,(.ptr 7 0)),(56,(.ag [(.kn .i64 0),(.fn 244 [] [(.ptr 8 0)]),(.kn .i64 1),(.fn 245 [] [(.ptr 8 0)]),(.kn .i64 2),(.fn 246 [] [(.ptr 8 0)])])),(57,hI)],[zaU,zaE,zaF,zaD,zaC,qaV,zyO,.it 2 true .s,zyT]⟩ [] [(some 1000000,⟨[(2,hB)],[zaU,zaE,zaF,zaD,zaC,qaV]⟩),(some 2,⟨[(0,(.ptr 0 0)),(50,(.ptr 6 0))],[zaU,zaE,zaF,zaD,zaC,qaV,.it 2 true .s]⟩)]),
 (200004,.rng [] ⟨[(0,(.ptr 0 0)),(50,(.ptr 6 0))],[zaU,zaE,zaF,zaD,zaC,qaV,.it 2 true .s]⟩ [] [(some 0,⟨[(0,(.ptr 0 0))],[zaU,zaE,zaF,zaD,zaC,qaV]⟩),(some 1000000,⟨[(2,hB)],[zaU,zaE,zaF,zaD,zaC,qaV]⟩)]),
 (200013,.rng [] ⟨[(0,(.ptr 0 0)),(80,(.ptr 6 0))],[zaU,zaE,zaF,zaD,zaC,qaV,.it 5 true (.pr .s .s)]⟩ [] [(some 4,⟨[(0,(.ptr 0 0))],[zaU,zaE,zaF,zaD,zaC,qaV]⟩),(some 1000000,⟨[(2,hB)],[zaU,zaE,zaF,zaD,zaC,qaV]⟩)]),
 (4000009,.sch (zpu 0 13++[(.mn,13,[0,1,2,3,4,5,9]),(.pu,14,[])]))]) (Γ:=⟨[],[(173,(zbJ o)),(174,(zxH o)),(174,(zxQ o)),(174,(zxS o)),(128,(zfG o)),(175,(zmI o))],false,[]⟩) (ctok trivial ⟨zbQ,⟨yfT,⟨yfH,⟨yfY,⟨zhU,⟨zwD,trivial⟩⟩⟩⟩⟩⟩) Tryz.func76
noncomputable def ybE(o:Ops)(v0:List (Bs×Bs))(v2:Int)(v3:qbZ)(v4:qbY)(v5:qbW)(v6:qbV)(v7:List ((Bs×Bs)×Unit)):Option ((Int×zaZ)⊕(Int⊕zaZ)):=
 bif decide (v2<(v0.length:Int))then((idx v0 v2).bind fun v8=>bif decide (v2>0)then((idx v0 (w64 (v2-1))).bind fun v9=>bif(Op.bytesLess v8.1 v9.1||v8.1==v9.1)then some (.inr (.inl (125:Int)))else((zgU o v8 v3 v4 v5 v6 v7).bind fun v10=>bif(!v10.1)then some (.inr (.inl (125:Int)))else some (.inl (w64 (v2+1),v10.2))))else((zgU o v8 v3 v4 v5 v6 v7).bind fun v11=>bif(!v11.1)then some (.inr (.inl (125:Int)))else some (.inl (w64 (v2+1),v11.2))))else some (.inr (.inr (v3,v4,v5,v6,v7)))
noncomputable def zmO(o:Ops)(v0:List (Bs×Bs)):Option (Int⊕(Int×zaZ)):=
 (ziL o).bind fun v1=>(iter (fun x=>ybE o v0 x.1 x.2.1 x.2.2.1 x.2.2.2.1 x.2.2.2.2.1 x.2.2.2.2.2) ((0:Int),v1)).bind fun v12=>match v12 with
 |.inl v13=>some (.inl v13)|.inr v14=>((zdH o v14.1 v14.2.1 v14.2.2.1 v14.2.2.2.1 v14.2.2.2.2).bind fun v15=>bif(!v15.1)then some (.inl (125:Int))else some (.inr ((0:Int),v15.2)))
noncomputable def ybG(o:Ops):SC:=⟨⟨[(0,(.h (.sl (.pr .s .s))))],[]⟩,2,[(none,⟨[(0,.nilp),(1,hI)],[]⟩),(none,⟨[(0,(.ptr 0 0)),(1,hI)],[zaU,zaE,zaF,zaD,zaC,qaV]⟩)],fun x=>zmO o x⟩
theorem yjJ:SCok aB tabs 25 (ybG o):=zbB (o:=o) (η:=[(200003,.loop [] ⟨[(4,(.ptr 0 0)),(10,hI)],[zaU,zaE,zaF,zaD,zaC,qaV]⟩ [0,8,9] [(some 1000000,⟨[(2,.nilp),(3,hI)],[]⟩),(some 0,⟨[(4,(.ptr 0 0))],[zaU,zaE,zaF,zaD,zaC,qaV]⟩)]),
 (4000005,.sch (zpu 0 16++[(.mn,16,[0,1,2,3,4,5]),(.pu,17,[]),(.pu,18,[])]))]) (Γ:=⟨[],[(30,(zrK o)),(75,(zkO o)),(76,(znO o))],false,[]⟩) (ctok trivial ⟨zwM,⟨zuL,⟨zyK,trivial⟩⟩⟩) Tryz.func25
noncomputable def znM(o:Ops)(v0:zaZ):Option (Bool⊕zaZ):=
 (zbU o ([97,110,110]:Bs) ([97,64,120]:Bs) v0.1 v0.2.1 v0.2.2.1 v0.2.2.2.1 v0.2.2.2.2).bind fun v1=>bif(v1.1 != 0)then some (.inl false)else((zbU o ([97,110,110]:Bs) ([97,64,120]:Bs) v1.2.1 v1.2.2.1 v1.2.2.2.1 v1.2.2.2.2.1 v1.2.2.2.2.2).bind fun v2=>bif(v2.1 != 121)then some (.inl false)else((zbR o ([103]:Bs) v2.2.1 v2.2.2.1 v2.2.2.2.1 v2.2.2.2.2.1 v2.2.2.2.2.2).bind fun v3=>bif(v3.1 != 0)then some (.inl false)else((zbR o ([104]:Bs) v3.2.1 v3.2.2.1 v3.2.2.2.1 v3.2.2.2.2.1 v3.2.2.2.2.2).bind fun v4=>bif(v4.1 != 0)then some (.inl false)else((zeD o ([103]:Bs) ([104]:Bs) v4.2.1 v4.2.2.1 v4.2.2.2.1 v4.2.2.2.2.1 v4.2.2.2.2.2).bind fun v5=>bif(v5.1 != 0)then some (.inl false)else((zeD o ([104]:Bs) ([103]:Bs) v5.2.1 v5.2.2.1 v5.2.2.2.1 v5.2.2.2.2.1 v5.2.2.2.2.2).bind fun v6=>bif(v6.1 != 123)then some (.inl false)else((zgG o ([104]:Bs) ([97,110,110]:Bs) v6.2.1 v6.2.2.1 v6.2.2.2.1 v6.2.2.2.2.1 v6.2.2.2.2.2).bind fun v7=>bif(v7.1 != 0)then some (.inl false)else some (.inr v7.2)))))))
noncomputable def zhI(o:Ops)(v10:zaZ):Option (Bool⊕zaZ):=
 (zcH o (([114]:Bs),([([114,101,97,100]:Bs)]:List Bs)) v10.1 v10.2.1 v10.2.2.1 v10.2.2.2.1 v10.2.2.2.2).bind fun v11=>bif(v11.1 != 0)then some (.inl false)else((zgL o ([103]:Bs) ([114]:Bs) v11.2.1 v11.2.2.1 v11.2.2.2.1 v11.2.2.2.2.1 v11.2.2.2.2.2).bind fun v12=>bif(v12.1 != 0)then some (.inl false)else((znW o ([117,58,97,110,110]:Bs) v12.2.1 v12.2.2.1 v12.2.2.2.1 v12.2.2.2.2.1 v12.2.2.2.2.2).bind fun v13=>bif(!v13.1)then some (.inl false)else some (.inr v13.2)))
noncomputable def zhQ(o:Ops):Option (Bool):=
 (ziL o).bind fun v0=>(znM o v0).bind fun v8=>match v8 with
 |.inl v9=>(some v9)|.inr v10=>((zhI o v10).bind fun v14=>match v14 with
 |.inl v15=>(some v15)|.inr v16=>((zdS o ([97,110,110]:Bs) v16.1 v16.2.1 v16.2.2.1 v16.2.2.2.1 v16.2.2.2.2).bind fun v17=>(zdG o ([97,110,110]:Bs) v17.2.1 v17.2.2.1 v17.2.2.2.1 v17.2.2.2.2.1 v17.2.2.2.2.2).bind fun v18=>(zbP o v18.2.1 v18.2.2.1 v18.2.2.2.1 v18.2.2.2.2.1 v18.2.2.2.2.2).bind fun v19=>(zmO o v19.1).bind fun v20=>match v20 with
 |.inl _v21=>(bif((v17.1.length:Int)==2)then((idx v17.1 (0:Int)).bind fun v23=>bif(v23==([103]:Bs))then(bif((v18.1.length:Int)==1)then((idx v18.1 (0:Int)).bind fun v24=>bif(v24==([114,101,97,100]:Bs))then(bif((v19.1.length:Int)==4)then((idx v19.1 (1:Int)).bind fun v25=>let v26:Bool:=((v25.1==([103,114,111,117,112,47,104]:Bs))&&(v25.2==([49,58,50,49,58,49,51,58,97,110,110,49,58,48,49,58,48]:Bs)))
 bif v26 then(some false)else(some false))else(some false))else(some false))else(some false))else(some false))else(some false))
 |.inr v22=>(bif((v17.1.length:Int)==2)then((idx v17.1 (0:Int)).bind fun v27=>bif(v27==([103]:Bs))then(bif((v18.1.length:Int)==1)then((idx v18.1 (0:Int)).bind fun v28=>bif(v28==([114,101,97,100]:Bs))then(bif((v19.1.length:Int)==4)then((idx v19.1 (1:Int)).bind fun v29=>let v30:Bool:=((v29.1==([103,114,111,117,112,47,104]:Bs))&&(v29.2==([49,58,50,49,58,49,51,58,97,110,110,49,58,48,49,58,48]:Bs)))
 bif v30 then(bif(v22.1==0)then((o.form ([([97,98]:Bs),([]:Bs)]:List Bs)).bind fun v31=>some (v31==([50,58,97,98,48,58]:Bs)))else(some false))else(some false))else(some false))else(some false))else(some false))else(some false))else(some false))))
noncomputable def zmH(o:Ops):PC:=⟨[],[.b],fun _=>zhQ o,false⟩
theorem zwQ:PCok aB tabs 24 (zmH o):=zhK (o:=o) (η:=[(2000004,.join [] [] [(some 1000000,⟨[(0,hB)],[]⟩),(none,⟨[(1,(.ptr 0 0))],[zaU,zaE,zaF,zaD,zaC,qaV]⟩)]),
 (2000006,.join [] [] [(some 1000000,⟨[(0,hB)],[]⟩),(none,⟨[(1,(.ptr 0 0))],[zaU,zaE,zaF,zaD,zaC,qaV]⟩)])]) (Γ:=⟨[(22,(yiV o))],[(30,(zrK o)),(71,(zgQ o)),(72,(zgA o)),(33,(ziM o)),(73,(zjG o)),(36,(zgO o)),(74,(ziW o)),(49,(zmV o)),(50,(zkV o)),(34,(znS o)),(29,(ziH o)),(25,(ybG o))],false,[]⟩) (ctok ⟨(zmE.form (G:=tabs)),trivial⟩ ⟨zwM,⟨zlK,⟨zkL,⟨zqJ,⟨zpQ,⟨zlN,⟨zpM,⟨zwR,⟨zsJ,⟨zyM,⟨zqK,⟨yjJ,trivial⟩⟩⟩⟩⟩⟩⟩⟩⟩⟩⟩⟩) Tryz.func24
end
end Go.Proofs.YtopanhneegpgcaaGreatDoor.Am
