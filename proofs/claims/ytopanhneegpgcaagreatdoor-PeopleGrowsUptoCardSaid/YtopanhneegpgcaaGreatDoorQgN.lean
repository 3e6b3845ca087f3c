/- Parts of one proof. Conditions: as each theorem says. -/
import Derived.KernelRfl
import Derived.Test.YtopanhneegpgcaaGreatDoorQgM
namespace Go.Proofs.YtopanhneegpgcaaGreatDoor.Am
open Go Go.RowKit
def τWkD:TE:=[(3,⟨.int .i64,1,[.v (.i .i64) (show Int from 0)],(.i .i64),8⟩),
 (4,⟨.b,1,[.v .b (show Bool from false)],.b,1⟩),
 (9,⟨.s,1,[.v .s (show Bs from [])],.s,16⟩),
 (22,⟨.sl 9,1,[.nils],(.sl .s),24⟩),
 (34,⟨.pt 128,1,[.nilp],.un,8⟩),
 (45,⟨.sl 53,1,[.nils],(.sl (.pr (.i .i64) (.pr (.i .i64) (.pr .s (.pr .s (.pr .b (.pr (.pr .s (.sl .s)) (.pr .s (.pr .s (.pr (.sl .s) (.pr (.sl .s) (.pr .b (.pr .b (.pr .b .b)))))))))))))),24⟩),
 (49,⟨.st [(9,0),(22,1)],2,[.v .s (show Bs from []),.nils],(.pr .s (.sl .s)),40⟩),
 (51,⟨.st [(9,0),(9,1),(22,2),(22,3),(4,4),(4,5),(4,6),(4,7)],8,[.v .s (show Bs from []),.v .s (show Bs from []),.nils,.nils,.v .b (show Bool from false),.v .b (show Bool from false),.v .b (show Bool from false),.v .b (show Bool from false)],(.pr .s (.pr .s (.pr (.sl .s) (.pr (.sl .s) (.pr .b (.pr .b (.pr .b .b))))))),88⟩),
 (53,⟨.st [(3,0),(3,1),(9,2),(9,3),(4,4),(49,5),(51,7)],15,[.v (.i .i64) (show Int from 0),.v (.i .i64) (show Int from 0),.v .s (show Bs from []),.v .s (show Bs from []),.v .b (show Bool from false),.v .s (show Bs from []),.nils,.v .s (show Bs from []),.v .s (show Bs from []),.nils,.nils,.v .b (show Bool from false),.v .b (show Bool from false),.v .b (show Bool from false),.v .b (show Bool from false)],(.pr (.i .i64) (.pr (.i .i64) (.pr .s (.pr .s (.pr .b (.pr (.pr .s (.sl .s)) (.pr .s (.pr .s (.pr (.sl .s) (.pr (.sl .s) (.pr .b (.pr .b (.pr .b .b))))))))))))),184⟩),
 (54,⟨.sl 57,1,[.nils],(.sl (.pr .s (.pr (.sl .s) (.pr (.sl .s) (.pr (.sl .s) (.i .i64)))))),24⟩),
 (57,⟨.st [(9,0),(22,1),(22,2),(22,3),(3,4)],5,[.v .s (show Bs from []),.nils,.nils,.nils,.v (.i .i64) (show Int from 0)],(.pr .s (.pr (.sl .s) (.pr (.sl .s) (.pr (.sl .s) (.i .i64))))),96⟩),
 (64,⟨.sl 51,1,[.nils],(.sl (.pr .s (.pr .s (.pr (.sl .s) (.pr (.sl .s) (.pr .b (.pr .b (.pr .b .b)))))))),24⟩),
 (67,⟨.sl 77,1,[.nils],(.sl (.pr .s (.pr .s (.pr .b (.i .i64))))),24⟩),
 (69,⟨.sl 49,1,[.nils],(.sl (.pr .s (.sl .s))),24⟩),
 (72,⟨.sl 75,1,[.nils],(.sl (.pr .s .s)),24⟩),
 (75,⟨.st [(9,0),(9,1)],2,[.v .s (show Bs from []),.v .s (show Bs from [])],(.pr .s .s),32⟩),
 (77,⟨.st [(9,0),(9,1),(4,2),(3,3)],4,[.v .s (show Bs from []),.v .s (show Bs from []),.v .b (show Bool from false),.v (.i .i64) (show Int from 0)],(.pr .s (.pr .s (.pr .b (.i .i64)))),48⟩),
 (122,⟨.map 9 77,1,[.nilm],(.mp .s (.pr .s (.pr .s (.pr .b (.i .i64))))),8⟩),
 (123,⟨.map 9 133,1,[.nilm],(.mp .s (.pr (.pr (.sl .s) (.pr (.sl .s) (.sl .s))) (.i .i64))),8⟩),
 (124,⟨.map 9 49,1,[.nilm],(.mp .s (.pr .s (.sl .s))),8⟩),
 (125,⟨.map 9 51,1,[.nilm],(.mp .s (.pr .s (.pr .s (.pr (.sl .s) (.pr (.sl .s) (.pr .b (.pr .b (.pr .b .b)))))))),8⟩),
 (126,⟨.map 75 157,1,[.nilm],(.mp (.pr .s .s) .un),8⟩),
 (128,⟨.st [(122,0),(123,1),(124,2),(125,3),(126,4)],5,[.nilm,.nilm,.nilm,.nilm,.nilm],(.pr (.mp .s (.pr .s (.pr .s (.pr .b (.i .i64))))) (.pr (.mp .s (.pr (.pr (.sl .s) (.pr (.sl .s) (.sl .s))) (.i .i64))) (.pr (.mp .s (.pr .s (.sl .s))) (.pr (.mp .s (.pr .s (.pr .s (.pr (.sl .s) (.pr (.sl .s) (.pr .b (.pr .b (.pr .b .b)))))))) (.mp (.pr .s .s) .un))))),40⟩),
 (131,⟨.ar 3 22,3,[.nils,.nils,.nils],(.pr (.sl .s) (.pr (.sl .s) (.sl .s))),72⟩),
 (133,⟨.st [(131,0),(3,3)],4,[.nils,.nils,.nils,.v (.i .i64) (show Int from 0)],(.pr (.pr (.sl .s) (.pr (.sl .s) (.sl .s))) (.i .i64)),80⟩),
 (157,⟨.st [],0,[],.un,0⟩),
 (187,⟨.st [(3,0),(25,1)],2,[.v (.i .i64) (show Int from 0),.nilf],.un,16⟩),
 (188,⟨.ar 3 187,6,[.v (.i .i64) (show Int from 0),.nilf,.v (.i .i64) (show Int from 0),.nilf,.v (.i .i64) (show Int from 0),.nilf],.un,48⟩)]
theorem τ_okWkD:TEok Tryz.prog τWkD:=xaJ (by kernel_rfl) (by kernel_rfl)
theorem mixWkD:Tryz.prog.follows .mixedOrders=true:=by kernel_rfl
theorem zdA {G : List (Nat × Obj)} {o : Ops} [ztF G] [zqV G o] {Γ : CT} {η : HT} {f : FuncId} {fn : Func} {c : SC} (hΓ : ∀ B, GB G B -> CTok Tryz.prog Γ B) (hf : Tryz.prog.funcs[f]? = some fn) (i : (fn.name == "runtime.NumGoroutine") = false := by kernel_rfl) (j : fn.body.isNone = false := by kernel_rfl) (l : Nat.ble c.I.sl.length fn.ntmps = true := by kernel_rfl) (r : Nat.beq fn.results.toList.length c.nr = true := by kernel_rfl) (e : fnS τWkD Γ η fn c.I c.outs = c.p := by kernel_rfl) : SCok Tryz.prog G f c := witO (G := G) (o := o) <| fn_sc mixWkD τ_okWkD hΓ hf (isFn hf i j) l r e
theorem fpcWkD {G : List (Nat × Obj)} {o : Ops} [ztF G] [zqV G o] {Γ : CT} {η : HT} {f : FuncId} {fn : Func} {c : PC} (hΓ : ∀ B, GB G B -> CTok Tryz.prog Γ B) (hf : Tryz.prog.funcs[f]? = some fn) (i : (fn.name == "runtime.NumGoroutine") = false := by kernel_rfl) (j : fn.body.isNone = false := by kernel_rfl) (l : Nat.ble c.ash.length fn.ntmps = true := by kernel_rfl) (r : c.cl = false := by kernel_rfl) (e : fnP τWkD Γ η fn c.ash c.rts = c.p := by kernel_rfl) : PCok Tryz.prog G f c := witO (G := G) (o := o) <| fn_pc mixWkD τ_okWkD hΓ hf (isFn hf i j) l r e
abbrev xcR:Type:=Bs×List Bs
abbrev YWkD0:Ty:=.pr .s (.sl .s)
abbrev ylR:Type:=Bs×Bs×Bool×Int
abbrev YWkD1:Ty:=.pr .s (.pr .s (.pr .b (.i .i64)))
abbrev zbO:Type:=Bs×xcR
abbrev qcZ:Type:=List zbO
abbrev zbL:Type:=Bs×ylR
abbrev qcX:Type:=List zbL
abbrev ytV:Type:=((List Bs)×(List Bs)×List Bs)×Int
abbrev YWkD4:Ty:=.pr (.pr (.sl .s) (.pr (.sl .s) (.sl .s))) (.i .i64)
abbrev zbH:Type:=Bs×ytV
abbrev qbV:Type:=List zbH
abbrev yoP:Type:=Bs×Bs×(List Bs)×(List Bs)×Bool×Bool×Bool×Bool
abbrev yzO:Ty:=.pr .s (.pr .s (.pr (.sl .s) (.pr (.sl .s) (.pr .b (.pr .b (.pr .b .b))))))
abbrev zbN:Type:=Bs×yoP
abbrev qcY:Type:=List zbN
abbrev KWkD9:Type:=Int×Int×Bs×Bs×Bool×xcR×yoP
abbrev YWkD9:Ty:=.pr (.i .i64) (.pr (.i .i64) (.pr .s (.pr .s (.pr .b (.pr YWkD0 yzO)))))
abbrev zcT:Type:=(List (Bs×ylR))×(List (Bs×ytV))×(List (Bs×xcR))×(List (Bs×yoP))×List ((Bs×Bs)×Unit)
abbrev yuY:OSh:=.blk 128 [(.mpr 2),(.mpr 3),(.mpr 4),(.mpr 5),(.mpr 6)]
abbrev zbV:OSh:=.blk 128 [(.mpr 1),(.mpr 2),(.mpr 3),(.mpr 4),(.mpr 5)]
abbrev yoC:OSh:=.blk 128 [(.mpr 3),(.mpr 4),(.mpr 5),(.mpr 6),(.mpr 7)]
abbrev yaL:OSh:=.blk 133 [(.h (.sl .s)),(.h (.sl .s)),(.h (.sl .s)),hI]
abbrev yuK:OSh:=.blk 77 [hS,hS,hB,hI]
abbrev ymB:OSh:=.blk 34 [(.ptr 2 0)]
abbrev ymH:OSh:=.blk 34 [(.ptr 3 0)]
abbrev yzD:OSh:=.mp false .s YWkD1
abbrev ypF:OSh:=.mp false .s YWkD4
abbrev zaQ:OSh:=.mp true .s YWkD1
abbrev zaR:OSh:=.mp true .s YWkD4
abbrev zaM:OSh:=.mp true .s YWkD0
abbrev zaO:OSh:=.mp true .s yzO
section
variable {tabs:List (Nat×Obj)}[ztF tabs]{o:Ops}[zqV tabs o]
def zfT(_o:Ops)(v0:Bs)(_v1:Bs)(v2:Bool)(v3:Int)(v4:Bs):Option ((Bs×Bs×Bool×Int×Bs)):=
 some (v0,v4,v2,v3,v4)
def zjL(o:Ops):SC:=⟨⟨[(0,(.ptr 0 0)),(1,(.ptr 1 0))],[yuK,.blk 9 [hS]]⟩,0,[(none,⟨[],[yuK,.blk 9 [hS]]⟩)],fun x=>zfT o x.1 x.2.1 x.2.2.1 x.2.2.2.1 x.2.2.2.2⟩
theorem zsC:SCok Tryz.prog tabs 192 (zjL o):=zdA (o:=o) (η:=[]) (Γ:=⟨[],[],false,[]⟩) (ctok trivial trivial) Tryz.func192
def ziM(_o:Ops)(v2:qcX)(v3:qbV)(v4:qcZ)(v5:qcY)(v6:List ((Bs×Bs)×Unit))(v8:ylR)(v9:(Bs×Bs×Bool×Int×Bs)):Option ((Bs×qcX×qbV×qcZ×qcY×(List ((Bs×Bs)×Unit))×ylR)):=
 let v10:Bool:=(!((v9.1==v8.1)&&((v9.2.1==v8.2.1)&&((v9.2.2.1==v8.2.2.1)&&(decide (v9.2.2.2.1=v8.2.2.2))))))
 bif v10 then some (v9.2.2.2.2,v2,v3,v4,v5,v6,v9.1,v9.2.1,v9.2.2.1,w64 (v9.2.2.2.1+1))else some (v9.2.2.2.2,v2,v3,v4,v5,v6,v9.1,v9.2.1,v9.2.2.1,v9.2.2.2.1)
def zgA(o:Ops)(v0:Bs)(v1:Bs)(v2:qcX)(v3:qbV)(v4:qcZ)(v5:qcY)(v6:List ((Bs×Bs)×Unit)):Option ((Int×Bs×zcT)):=
 (zaN o v0).bind fun v7=>bif(!v7)then some ((120:Int),v1,v2,v3,v4,v5,v6)else(let v8:ylR:=zcD keqS v2 v0 (([]:Bs),([]:Bs),false,(0:Int))
 bif(!(mhas keqS v2 v0))then some ((122:Int),v1,v2,v3,v4,v5,v6)else((zfT o v8.1 v8.2.1 v8.2.2.1 v8.2.2.2 v1).bind fun v9=>(ziM o v2 v3 v4 v5 v6 v8 v9).bind fun v11=>let v12:qcX:=mset keqS kltS v11.2.1 v0 v11.2.2.2.2.2.2
 some ((0:Int),v11.1,v12,v11.2.2.1,v11.2.2.2.1,v11.2.2.2.2.1,v11.2.2.2.2.2.1)))
def zpW(o:Ops):SC:=⟨⟨[(0,(.ptr 0 0)),(1,hS),(2,(.fn 192 [] [(.ptr 1 0)]))],[yuY,.blk 9 [hS],zaQ,zaR,zaM,zaO,qaW]⟩,1,[(none,⟨[(0,hI)],[yuY,.blk 9 [hS],yzD,zaR,zaM,zaO,qaW]⟩)],fun x=>zgA o x.1 x.2.1 x.2.2.1 x.2.2.2.1 x.2.2.2.2.1 x.2.2.2.2.2.1 x.2.2.2.2.2.2⟩
theorem zyK:SCok Tryz.prog tabs 191 (zpW o):=zdA (o:=o) (η:=[(2000010,.join [] [1] [(none,⟨[(0,(.ptr 0 0)),(7,(.ptr 7 0))],[yuY,.blk 9 [hS],zaQ,zaR,zaM,zaO,qaW,yuK]⟩)]),
 (4000010,.sch [(.pu,0,[]),(.pu,1,[]),(.pu,2,[]),(.pu,3,[]),(.pu,4,[]),(.pu,5,[]),(.mn,6,[0,1,2,3,4,5,6,7])])]) (Γ:=⟨[(13,(zbD o))],[(192,(zjL o))],false,[]⟩) (ctok ⟨zbI,trivial⟩ ⟨zsC,trivial⟩) Tryz.func191
def zeI(o:Ops)(v0:Bs)(v1:Bs)(v2:qcX)(v3:qbV)(v4:qcZ)(v5:qcY)(v6:List ((Bs×Bs)×Unit)):Option ((Int×zcT)):=
 (zcM o v1).bind fun v7=>bif(!v7)then some ((120:Int),v2,v3,v4,v5,v6)else((zgA o v0 v1 v2 v3 v4 v5 v6).bind fun v8=>some (v8.1,v8.2.2))
def zlH(o:Ops):SC:=⟨⟨[(0,(.ptr 0 0)),(1,hS),(2,hS)],[zbV,zaQ,zaR,zaM,zaO,qaW]⟩,1,[(none,⟨[(0,hI)],[zbV,yzD,zaR,zaM,zaO,qaW]⟩)],fun x=>zeI o x.1 x.2.1 x.2.2.1 x.2.2.2.1 x.2.2.2.2.1 x.2.2.2.2.2.1 x.2.2.2.2.2.2⟩
theorem ztW:SCok Tryz.prog tabs 92 (zlH o):=zdA (o:=o) (η:=[]) (Γ:=⟨[(15,(zkD o))],[(191,(zpW o))],false,[]⟩) (ctok ⟨zoW,trivial⟩ ⟨zyK,trivial⟩) Tryz.func92
def zeS(_o:Ops)(v0:Bs)(v1:Bs)(_v2:Bool)(v3:Int)(v4:Bool):Option ((Bs×Bs×Bool×Int×Bool)):=
 some (v0,v1,v4,v3,v4)
def zhY(o:Ops):SC:=⟨⟨[(0,(.ptr 0 0)),(1,(.ptr 1 0))],[yuK,.blk 4 [hB]]⟩,0,[(none,⟨[],[yuK,.blk 4 [hB]]⟩)],fun x=>zeS o x.1 x.2.1 x.2.2.1 x.2.2.2.1 x.2.2.2.2⟩
theorem zqS:SCok Tryz.prog tabs 193 (zhY o):=zdA (o:=o) (η:=[]) (Γ:=⟨[],[],false,[]⟩) (ctok trivial trivial) Tryz.func193
def zhT(_o:Ops)(v2:qcX)(v3:qbV)(v4:qcZ)(v5:qcY)(v6:List ((Bs×Bs)×Unit))(v8:ylR)(v9:(Bs×Bs×Bool×Int×Bool)):Option ((Bool×qcX×qbV×qcZ×qcY×(List ((Bs×Bs)×Unit))×ylR)):=
 let v10:Bool:=(!((v9.1==v8.1)&&((v9.2.1==v8.2.1)&&((v9.2.2.1==v8.2.2.1)&&(decide (v9.2.2.2.1=v8.2.2.2))))))
 bif v10 then some (v9.2.2.2.2,v2,v3,v4,v5,v6,v9.1,v9.2.1,v9.2.2.1,w64 (v9.2.2.2.1+1))else some (v9.2.2.2.2,v2,v3,v4,v5,v6,v9.1,v9.2.1,v9.2.2.1,v9.2.2.2.1)
def zfN(o:Ops)(v0:Bs)(v1:Bool)(v2:qcX)(v3:qbV)(v4:qcZ)(v5:qcY)(v6:List ((Bs×Bs)×Unit)):Option ((Int×Bool×zcT)):=
 (zaN o v0).bind fun v7=>bif(!v7)then some ((120:Int),v1,v2,v3,v4,v5,v6)else(let v8:ylR:=zcD keqS v2 v0 (([]:Bs),([]:Bs),false,(0:Int))
 bif(!(mhas keqS v2 v0))then some ((122:Int),v1,v2,v3,v4,v5,v6)else((zeS o v8.1 v8.2.1 v8.2.2.1 v8.2.2.2 v1).bind fun v9=>(zhT o v2 v3 v4 v5 v6 v8 v9).bind fun v11=>let v12:qcX:=mset keqS kltS v11.2.1 v0 v11.2.2.2.2.2.2
 some ((0:Int),v11.1,v12,v11.2.2.1,v11.2.2.2.1,v11.2.2.2.2.1,v11.2.2.2.2.2.1)))
def znU(o:Ops):SC:=⟨⟨[(0,(.ptr 0 0)),(1,hS),(2,(.fn 193 [] [(.ptr 1 0)]))],[yuY,.blk 4 [hB],zaQ,zaR,zaM,zaO,qaW]⟩,1,[(none,⟨[(0,hI)],[yuY,.blk 4 [hB],yzD,zaR,zaM,zaO,qaW]⟩)],fun x=>zfN o x.1 x.2.1 x.2.2.1 x.2.2.2.1 x.2.2.2.2.1 x.2.2.2.2.2.1 x.2.2.2.2.2.2⟩
theorem zwO:SCok Tryz.prog tabs 191 (znU o):=zdA (o:=o) (η:=[(2000010,.join [] [1] [(none,⟨[(0,(.ptr 0 0)),(7,(.ptr 7 0))],[yuY,.blk 4 [hB],zaQ,zaR,zaM,zaO,qaW,yuK]⟩)]),
 (4000010,.sch [(.pu,0,[]),(.pu,1,[]),(.pu,2,[]),(.pu,3,[]),(.pu,4,[]),(.pu,5,[]),(.mn,6,[0,1,2,3,4,5,6,7])])]) (Γ:=⟨[(13,(zbD o))],[(193,(zhY o))],false,[]⟩) (ctok ⟨zbI,trivial⟩ ⟨zqS,trivial⟩) Tryz.func191
def zdF(o:Ops)(v0:Bs)(v1:Bool)(v2:qcX)(v3:qbV)(v4:qcZ)(v5:qcY)(v6:List ((Bs×Bs)×Unit)):Option ((Int×zcT)):=
 (zfN o v0 v1 v2 v3 v4 v5 v6).bind fun v7=>some (v7.1,v7.2.2)
def zjJ(o:Ops):SC:=⟨⟨[(0,(.ptr 0 0)),(1,hS),(2,hB)],[zbV,zaQ,zaR,zaM,zaO,qaW]⟩,1,[(none,⟨[(0,hI)],[zbV,yzD,zaR,zaM,zaO,qaW]⟩)],fun x=>zdF o x.1 x.2.1 x.2.2.1 x.2.2.2.1 x.2.2.2.2.1 x.2.2.2.2.2.1 x.2.2.2.2.2.2⟩
theorem zsD:SCok Tryz.prog tabs 93 (zjJ o):=zdA (o:=o) (η:=[]) (Γ:=⟨[],[(191,(znU o))],false,[]⟩) (ctok trivial ⟨zwO,trivial⟩) Tryz.func93
def yxO:SC:=⟨⟨[(0,(.own 0)),(1,(.fn 275 [] [(.ptr 1 0)]))],[.osl .s 9,.blk 9 [hS]]⟩,1,[(none,⟨[(0,(.h (.sl .s)))],[.dead,.blk 9 [hS]]⟩)],fun(x:List Bs×Bs)=>delP x.1 x.2⟩
theorem DelF_sk:SCok Tryz.prog tabs 274 yxO:=wit (G:=tabs)<|delF275K
def zaX(_o:Ops)(v0:List Bs)(v1:Bs):Option (List Bs):=
 (app ([]:List Bs) v0).bind fun v2=>((fun(xs:List Bs) (s:Bs)=>bif decide (xs.length<1152921504606846976)then some (xs.filter fun x=>!(x==s),s)else none) v2 v1).bind fun v3=>some v3.1
def zcY(o:Ops):PC:=⟨[(.h (.sl .s)),hS],[(.sl .s)],fun x=>zaX o x.1 x.2,false⟩
theorem zeO:PCok Tryz.prog tabs 206 (zcY o):=fpcWkD (o:=o) (η:=[]) (Γ:=⟨[],[(198,zvM),(274,yxO)],false,[]⟩) (ctok trivial ⟨zyY,⟨DelF_sk,trivial⟩⟩) Tryz.func206
noncomputable def zlZ(o:Ops)(v0:Bs)(v6:qcX)(v7:qbV)(v8:qcZ)(v9:qcY)(v10:List ((Bs×Bs)×Unit))(v11:List Bs)(v12:zbH)(v13:ytV):Option ((Bool×qcX×qbV×qcZ×qcY×(List ((Bs×Bs)×Unit))×(List Bs)×(List Bs)×(List Bs)×Int×List Bs)):=
 (zaW o v13.1.1 v0).bind fun v14=>some (v14,v6,v7,v8,v9,v10,v13.1.1,v13.1.2.1,v13.1.2.2,v13.2,rngD keqS v11 v12.1)
noncomputable def zlW(o:Ops)(v0:Bs)(v15:Bool×qcX×qbV×qcZ×qcY×(List ((Bs×Bs)×Unit))×(List Bs)×(List Bs)×(List Bs)×Int×List Bs):Option ((qcX×qbV×qcZ×qcY×(List ((Bs×Bs)×Unit))×(List Bs)×(List Bs)×(List Bs)×Int×List Bs)):=
 (zaX o v15.2.2.2.2.2.2.1 v0).bind fun v16=>some (v15.2.1,v15.2.2.1,v15.2.2.2.1,v15.2.2.2.2.1,v15.2.2.2.2.2.1,v16,v15.2.2.2.2.2.2.2)
noncomputable def zmM(o:Ops)(v0:Bs)(v6:qcX)(v7:qbV)(v8:qcZ)(v9:qcY)(v10:List ((Bs×Bs)×Unit))(v11:List Bs):List (Option ((qcX×qbV×qcZ×qcY×(List ((Bs×Bs)×Unit))×List Bs)⊕(zcT))):=
 rngL (rngC keqS v7 v11) (some (.inr (v6,v7,v8,v9,v10))) fun v12=>(mget keqS v7 v12.1).bind fun v13=>(zlZ o v0 v6 v7 v8 v9 v10 v11 v12 v13).bind fun v15=>bif v15.1 then((zlW o v0 v15).bind fun v17=>(chk (mhas keqS v17.2.1 v12.1)).bind fun _=>let v18:qbV:=mrep keqS v17.2.1 v12.1 ((v17.2.2.2.2.2.1,v17.2.2.2.2.2.2.1,v17.2.2.2.2.2.2.2.1),w64 (v17.2.2.2.2.2.2.2.2.1+1))
 some (.inl (v17.1,v18,v17.2.2.1,v17.2.2.2.1,v17.2.2.2.2.1,v17.2.2.2.2.2.2.2.2.2)))else some (.inl (v15.2.1,v15.2.2.1,v15.2.2.2.1,v15.2.2.2.2.1,v15.2.2.2.2.2.1,v15.2.2.2.2.2.2.2.2.2.2))
noncomputable def zeZ(o:Ops)(v0:Bs)(v1:qcX)(v2:qbV)(v3:qcZ)(v4:qcY)(v5:List ((Bs×Bs)×Unit)):Option (zcT):=
 (rngA (fun x=>zmM o v0 x.1 x.2.1 x.2.2.1 x.2.2.2.1 x.2.2.2.2.1 x.2.2.2.2.2) (v1,v2,v3,v4,v5,List.map Prod.fst v2)).bind fun v19=>some v19
noncomputable def znA(o:Ops):SC:=⟨⟨[(0,(.ptr 0 0)),(1,(.kn .i64 0)),(2,hS)],[zbV,zaQ,zaR,zaM,zaO,qaW]⟩,0,[(none,⟨[],[zbV,zaQ,zaR,zaM,zaO,qaW]⟩)],fun x=>zeZ o x.1 x.2.1 x.2.2.1 x.2.2.2.1 x.2.2.2.2.1 x.2.2.2.2.2⟩
theorem zuR:SCok Tryz.prog tabs 116 (znA o):=zdA (o:=o) (η:=[(2300004,.join [] [1,2,6] [(none,⟨[(0,(.ptr 0 0)),(7,(.ptr 6 0)),(12,(.ptr 7 0)),(23,hB)],[zbV,zaQ,zaR,zaM,zaO,qaW,yaL,.it 2 true .s]⟩)]),
 (2000005,.join [] [1,2,6] [(none,⟨[(0,(.ptr 0 0)),(7,(.ptr 6 0)),(12,(.ptr 7 0))],[zbV,zaQ,zaR,zaM,zaO,qaW,yaL,.it 2 true .s]⟩)]),
 (200001,.rng [] ⟨[(0,(.ptr 0 0)),(12,(.ptr 6 0))],[zbV,zaQ,zaR,zaM,zaO,qaW,.it 2 true .s]⟩ [1,2] [(some 0,⟨[],[zbV,zaQ,zaR,zaM,zaO,qaW]⟩)]),
 (4000006,.sch [(.pu,0,[]),(.pu,1,[]),(.pu,2,[]),(.pu,3,[]),(.pu,4,[]),(.pu,5,[]),(.mn,6,[0,1,2,3,4,5,6,7])])]) (Γ:=⟨[(131,(zcJ o)),(206,(zcY o))],[],true,[]⟩) (ctok ⟨zdG,⟨zeO,trivial⟩⟩ trivial) Tryz.func116
def zgP(_o:Ops)(v0:Bs×Bs)(_v1:Unit)(v2:Bs):Option ((Bool×Bs)):=
 bif(v0.1==v2)then some (true,v2)else some ((v0.2==v2),v2)
def zkG(o:Ops):SC:=⟨⟨[(0,(.h (.pr .s .s))),(1,(.h .un)),(2,(.ptr 0 0))],[.blk 9 [hS]]⟩,1,[(none,⟨[(0,hB)],[.blk 9 [hS]]⟩)],fun x=>zgP o x.1 x.2.1 x.2.2⟩
theorem ztL:SCok Tryz.prog tabs 208 (zkG o):=zdA (o:=o) (η:=[]) (Γ:=⟨[],[],false,[]⟩) (ctok trivial trivial) Tryz.func208
noncomputable def zsN(o:Ops)(v2:List ((Bs×Bs)×Unit))(v3:Bs)(v4:List (Bs×Bs)):List (Option (((List ((Bs×Bs)×Unit))×Bs×List (Bs×Bs))⊕(((List ((Bs×Bs)×Unit))×Bs)))):=
 rngL (rngC (keq (.pr .s .s)) v2 v4) (some (.inr (v2,v3))) fun v5=>(mget (keq (.pr .s .s)) v2 v5.1).bind fun _v6=>(zgP o v5.1 () v3).bind fun v7=>bif v7.1 then some (.inl (mdel (keq (.pr .s .s)) v2 v5.1,v7.2,rngD (keq (.pr .s .s)) v4 v5.1))else some (.inl (v2,v7.2,rngD (keq (.pr .s .s)) v4 v5.1))
noncomputable def zoQ(o:Ops)(v0:List ((Bs×Bs)×Unit))(v1:Bs):Option (((List ((Bs×Bs)×Unit))×Bs)):=
 (rngA (fun x=>zsN o x.1 x.2.1 x.2.2) (v0,v1,List.map Prod.fst v0)).bind fun v8=>some v8
noncomputable def zsO(o:Ops):SC:=⟨⟨[(0,(.mpr 0)),(1,(.fn 208 [] [(.ptr 1 0)]))],[qaW,.blk 9 [hS]]⟩,0,[(none,⟨[],[qaW,.blk 9 [hS]]⟩)],fun x=>zoQ o x.1 x.2⟩
theorem ybL:SCok Tryz.prog tabs 207 (zsO o):=zdA (o:=o) (η:=[(200001,.rng [] ⟨[(0,(.mpr 0)),(1,(.fn 208 [] [(.ptr 1 0)])),(7,(.ptr 2 0))],[qaW,.blk 9 [hS],.it 0 true (.pr .s .s)]⟩ [] [(some 0,⟨[],[qaW,.blk 9 [hS]]⟩)])]) (Γ:=⟨[],[(208,(zkG o))],false,[]⟩) (ctok trivial ⟨ztL,trivial⟩) Tryz.func207
noncomputable def zcX(o:Ops)(v0:Bs)(v1:qcX)(v2:qbV)(v3:qcZ)(v4:qcY)(v5:List ((Bs×Bs)×Unit)):Option (zcT):=
 (zoQ o v5 v0).bind fun v6=>some (v1,v2,v3,v4,v6.1)
noncomputable def zhC(o:Ops):SC:=⟨⟨[(0,(.ptr 0 0)),(1,hS)],[zbV,zaQ,zaR,zaM,zaO,qaW]⟩,0,[(none,⟨[],[zbV,zaQ,zaR,zaM,zaO,qaW]⟩)],fun x=>zcX o x.1 x.2.1 x.2.2.1 x.2.2.2.1 x.2.2.2.2.1 x.2.2.2.2.2⟩
theorem zmF:SCok Tryz.prog tabs 117 (zhC o):=zdA (o:=o) (η:=[]) (Γ:=⟨[],[(207,(zsO o))],false,[]⟩) (ctok trivial ⟨ybL,trivial⟩) Tryz.func117
noncomputable def zfH(o:Ops)(v0:Bs)(v1:qcX)(v2:qbV)(v3:qcZ)(v4:qcY)(v5:List ((Bs×Bs)×Unit)):Option ((Bs×zcT)):=
 (zeZ o v0 v1 v2 v3 v4 v5).bind fun v6=>(app ([117,58]:Bs) v0).bind fun v7=>(zcX o v7 v6.1 v6.2.1 v6.2.2.1 v6.2.2.2.1 v6.2.2.2.2).bind fun v8=>some (v0,v8)
noncomputable def ziW(o:Ops):SC:=⟨⟨[(0,(.ptr 0 0)),(1,(.ptr 1 0))],[ymB,.blk 9 [hS],yoC,zaQ,zaR,zaM,zaO,qaW]⟩,0,[(none,⟨[],[ymB,.blk 9 [hS],yoC,zaQ,zaR,zaM,zaO,qaW]⟩)],fun x=>zfH o x.1 x.2.1 x.2.2.1 x.2.2.2.1 x.2.2.2.2.1 x.2.2.2.2.2⟩
theorem zrP:SCok Tryz.prog tabs 115 (ziW o):=zdA (o:=o) (η:=[]) (Γ:=⟨[],[(116,(znA o)),(117,(zhC o))],false,[]⟩) (ctok trivial ⟨zuR,⟨zmF,trivial⟩⟩) Tryz.func115
noncomputable def zuX(o:Ops)(v0:Bs)(v1:qcX)(v2:Bs)(v3:qbV)(v4:qcZ)(v5:qcY)(v6:List ((Bs×Bs)×Unit)):Option ((Int×qcX×Bs×qbV×qcZ×qcY×List ((Bs×Bs)×Unit))):=
 (zaN o v0).bind fun v7=>bif(!v7)then some ((120:Int),v1,v2,v3,v4,v5,v6)else(let _v8:ylR:=zcD keqS v1 v0 (([]:Bs),([]:Bs),false,(0:Int))
 bif(!(mhas keqS v1 v0))then some ((122:Int),v1,v2,v3,v4,v5,v6)else((zfH o v2 (mdel keqS v1 v0) v3 v4 v5 v6).bind fun v9=>some ((0:Int),v9.2.1,v9.1,v9.2.2)))
noncomputable def zzT(o:Ops):SC:=⟨⟨[(0,(.mpr 0)),(1,hS),(2,(.fn 115 [] [(.ptr 1 0),(.ptr 2 0)]))],[zaQ,ymH,.blk 9 [hS],.blk 128 [(.mpr 0),(.mpr 4),(.mpr 5),(.mpr 6),(.mpr 7)],zaR,zaM,zaO,qaW]⟩,1,[(none,⟨[(0,hI)],[zaQ,ymH,.blk 9 [hS],.blk 128 [(.mpr 0),(.mpr 4),(.mpr 5),(.mpr 6),(.mpr 7)],zaR,zaM,zaO,qaW]⟩)],fun x=>zuX o x.1 x.2.1 x.2.2.1 x.2.2.2.1 x.2.2.2.2.1 x.2.2.2.2.2.1 x.2.2.2.2.2.2⟩
theorem yhZ:SCok Tryz.prog tabs 114 (zzT o):=zdA (o:=o) (η:=[]) (Γ:=⟨[(13,(zbD o))],[(115,(ziW o))],false,[]⟩) (ctok ⟨zbI,trivial⟩ ⟨zrP,trivial⟩) Tryz.func114
noncomputable def zdS(o:Ops)(v0:Bs)(v1:qcX)(v2:qbV)(v3:qcZ)(v4:qcY)(v5:List ((Bs×Bs)×Unit)):Option ((Int×zcT)):=
 (zuX o v0 v1 v0 v2 v3 v4 v5).bind fun v6=>some (v6.1,v6.2.1,v6.2.2.2)
noncomputable def zjX(o:Ops):SC:=⟨⟨[(0,(.ptr 0 0)),(1,hS)],[zbV,zaQ,zaR,zaM,zaO,qaW]⟩,1,[(none,⟨[(0,hI)],[zbV,zaQ,zaR,zaM,zaO,qaW]⟩)],fun x=>zdS o x.1 x.2.1 x.2.2.1 x.2.2.2.1 x.2.2.2.2.1 x.2.2.2.2.2⟩
theorem zsW:SCok Tryz.prog tabs 41 (zjX o):=zdA (o:=o) (η:=[(4000001,.sch [(.pu,0,[]),(.pu,1,[]),(.pu,2,[]),(.pu,3,[]),(.pu,4,[]),(.pu,5,[]),(.mn,6,[0,1,2,3,4,5,6,7]),(.pu,7,[])])]) (Γ:=⟨[],[(114,(zzT o))],false,[]⟩) (ctok trivial ⟨yhZ,trivial⟩) Tryz.func41
noncomputable def zlN(o:Ops)(v0:Bs)(v6:qcX)(v7:qbV)(v8:qcZ)(v9:qcY)(v10:List ((Bs×Bs)×Unit))(v11:List Bs)(v12:zbH)(v13:ytV):Option ((Bool×qcX×qbV×qcZ×qcY×(List ((Bs×Bs)×Unit))×(List Bs)×(List Bs)×(List Bs)×Int×List Bs)):=
 (zaW o v13.1.2.1 v0).bind fun v14=>some (v14,v6,v7,v8,v9,v10,v13.1.1,v13.1.2.1,v13.1.2.2,v13.2,rngD keqS v11 v12.1)
noncomputable def zlF(o:Ops)(v0:Bs)(v15:Bool×qcX×qbV×qcZ×qcY×(List ((Bs×Bs)×Unit))×(List Bs)×(List Bs)×(List Bs)×Int×List Bs):Option ((qcX×qbV×qcZ×qcY×(List ((Bs×Bs)×Unit))×(List Bs)×(List Bs)×(List Bs)×Int×List Bs)):=
 (zaX o v15.2.2.2.2.2.2.2.1 v0).bind fun v16=>some (v15.2.1,v15.2.2.1,v15.2.2.2.1,v15.2.2.2.2.1,v15.2.2.2.2.2.1,v15.2.2.2.2.2.2.1,v16,v15.2.2.2.2.2.2.2.2)
noncomputable def zlE(o:Ops)(v0:Bs)(v6:qcX)(v7:qbV)(v8:qcZ)(v9:qcY)(v10:List ((Bs×Bs)×Unit))(v11:List Bs):List (Option ((qcX×qbV×qcZ×qcY×(List ((Bs×Bs)×Unit))×List Bs)⊕(zcT))):=
 rngL (rngC keqS v7 v11) (some (.inr (v6,v7,v8,v9,v10))) fun v12=>(mget keqS v7 v12.1).bind fun v13=>(zlN o v0 v6 v7 v8 v9 v10 v11 v12 v13).bind fun v15=>bif v15.1 then((zlF o v0 v15).bind fun v17=>(chk (mhas keqS v17.2.1 v12.1)).bind fun _=>let v18:qbV:=mrep keqS v17.2.1 v12.1 ((v17.2.2.2.2.2.1,v17.2.2.2.2.2.2.1,v17.2.2.2.2.2.2.2.1),w64 (v17.2.2.2.2.2.2.2.2.1+1))
 some (.inl (v17.1,v18,v17.2.2.1,v17.2.2.2.1,v17.2.2.2.2.1,v17.2.2.2.2.2.2.2.2.2)))else some (.inl (v15.2.1,v15.2.2.1,v15.2.2.2.1,v15.2.2.2.2.1,v15.2.2.2.2.2.1,v15.2.2.2.2.2.2.2.2.2.2))
noncomputable def zeM(o:Ops)(v0:Bs)(v1:qcX)(v2:qbV)(v3:qcZ)(v4:qcY)(v5:List ((Bs×Bs)×Unit)):Option (zcT):=
 (rngA (fun x=>zlE o v0 x.1 x.2.1 x.2.2.1 x.2.2.2.1 x.2.2.2.2.1 x.2.2.2.2.2) (v1,v2,v3,v4,v5,List.map Prod.fst v2)).bind fun v19=>some v19
noncomputable def zlG(o:Ops):SC:=⟨⟨[(0,(.ptr 0 0)),(1,(.kn .i64 1)),(2,hS)],[zbV,zaQ,zaR,zaM,zaO,qaW]⟩,0,[(none,⟨[],[zbV,zaQ,zaR,zaM,zaO,qaW]⟩)],fun x=>zeM o x.1 x.2.1 x.2.2.1 x.2.2.2.1 x.2.2.2.2.1 x.2.2.2.2.2⟩
theorem zuE:SCok Tryz.prog tabs 116 (zlG o):=zdA (o:=o) (η:=[(2300004,.join [] [1,2,6] [(none,⟨[(0,(.ptr 0 0)),(7,(.ptr 6 0)),(12,(.ptr 7 0)),(23,hB)],[zbV,zaQ,zaR,zaM,zaO,qaW,yaL,.it 2 true .s]⟩)]),
 (2000005,.join [] [1,2,6] [(none,⟨[(0,(.ptr 0 0)),(7,(.ptr 6 0)),(12,(.ptr 7 0))],[zbV,zaQ,zaR,zaM,zaO,qaW,yaL,.it 2 true .s]⟩)]),
 (200001,.rng [] ⟨[(0,(.ptr 0 0)),(12,(.ptr 6 0))],[zbV,zaQ,zaR,zaM,zaO,qaW,.it 2 true .s]⟩ [1,2] [(some 0,⟨[],[zbV,zaQ,zaR,zaM,zaO,qaW]⟩)]),
 (4000006,.sch [(.pu,0,[]),(.pu,1,[]),(.pu,2,[]),(.pu,3,[]),(.pu,4,[]),(.pu,5,[]),(.mn,6,[0,1,2,3,4,5,6,7])])]) (Γ:=⟨[(131,(zcJ o)),(206,(zcY o))],[],true,[]⟩) (ctok ⟨zdG,⟨zeO,trivial⟩⟩ trivial) Tryz.func116
noncomputable def zeQ(o:Ops)(v0:Bs)(v1:qcX)(v2:qbV)(v3:qcZ)(v4:qcY)(v5:List ((Bs×Bs)×Unit)):Option ((Bs×zcT)):=
 (zeM o v0 v1 v2 v3 v4 v5).bind fun v6=>some (v0,v6)
noncomputable def zhZ(o:Ops):SC:=⟨⟨[(0,(.ptr 0 0)),(1,(.ptr 1 0))],[ymB,.blk 9 [hS],yoC,zaQ,zaR,zaM,zaO,qaW]⟩,0,[(none,⟨[],[ymB,.blk 9 [hS],yoC,zaQ,zaR,zaM,zaO,qaW]⟩)],fun x=>zeQ o x.1 x.2.1 x.2.2.1 x.2.2.2.1 x.2.2.2.2.1 x.2.2.2.2.2⟩
theorem zrA:SCok Tryz.prog tabs 119 (zhZ o):=zdA (o:=o) (η:=[]) (Γ:=⟨[],[(116,(zlG o))],false,[]⟩) (ctok trivial ⟨zuE,trivial⟩) Tryz.func119
noncomputable def zsU(o:Ops)(v0:Bs)(v1:qbV)(v2:Bs)(v3:qcX)(v4:qcZ)(v5:qcY)(v6:List ((Bs×Bs)×Unit)):Option ((Int×qbV×Bs×qcX×qcZ×qcY×List ((Bs×Bs)×Unit))):=
 (zaN o v0).bind fun v7=>bif(!v7)then some ((120:Int),v1,v2,v3,v4,v5,v6)else(let _v8:ytV:=zcD keqS v1 v0 ((([]:List Bs),([]:List Bs),([]:List Bs)),(0:Int))
 bif(!(mhas keqS v1 v0))then some ((122:Int),v1,v2,v3,v4,v5,v6)else((zeQ o v2 v3 (mdel keqS v1 v0) v4 v5 v6).bind fun v9=>some ((0:Int),v9.2.2.1,v9.1,v9.2.1,v9.2.2.2)))
noncomputable def zyL(o:Ops):SC:=⟨⟨[(0,(.mpr 0)),(1,hS),(2,(.fn 119 [] [(.ptr 1 0),(.ptr 2 0)]))],[zaR,ymH,.blk 9 [hS],.blk 128 [(.mpr 4),(.mpr 0),(.mpr 5),(.mpr 6),(.mpr 7)],zaQ,zaM,zaO,qaW]⟩,1,[(none,⟨[(0,hI)],[zaR,ymH,.blk 9 [hS],.blk 128 [(.mpr 4),(.mpr 0),(.mpr 5),(.mpr 6),(.mpr 7)],zaQ,zaM,zaO,qaW]⟩)],fun x=>zsU o x.1 x.2.1 x.2.2.1 x.2.2.2.1 x.2.2.2.2.1 x.2.2.2.2.2.1 x.2.2.2.2.2.2⟩
theorem yfJ:SCok Tryz.prog tabs 118 (zyL o):=zdA (o:=o) (η:=[]) (Γ:=⟨[(13,(zbD o))],[(119,(zhZ o))],false,[]⟩) (ctok ⟨zbI,trivial⟩ ⟨zrA,trivial⟩) Tryz.func118
noncomputable def zdB(o:Ops)(v0:Bs)(v1:qcX)(v2:qbV)(v3:qcZ)(v4:qcY)(v5:List ((Bs×Bs)×Unit)):Option ((Int×zcT)):=
 (zsU o v0 v2 v0 v1 v3 v4 v5).bind fun v6=>some (v6.1,v6.2.2.2.1,v6.2.1,v6.2.2.2.2)
noncomputable def zjH(o:Ops):SC:=⟨⟨[(0,(.ptr 0 0)),(1,hS)],[zbV,zaQ,zaR,zaM,zaO,qaW]⟩,1,[(none,⟨[(0,hI)],[zbV,zaQ,zaR,zaM,zaO,qaW]⟩)],fun x=>zdB o x.1 x.2.1 x.2.2.1 x.2.2.2.1 x.2.2.2.2.1 x.2.2.2.2.2⟩
theorem zsE:SCok Tryz.prog tabs 42 (zjH o):=zdA (o:=o) (η:=[(4000001,.sch [(.pu,0,[]),(.pu,1,[]),(.pu,2,[]),(.pu,3,[]),(.pu,4,[]),(.pu,5,[]),(.mn,6,[0,1,2,3,4,5,6,7]),(.pu,7,[])])]) (Γ:=⟨[],[(118,(zyL o))],false,[]⟩) (ctok trivial ⟨yfJ,trivial⟩) Tryz.func42
def zoA(o:Ops)(v0:Bs)(v1:Bs)(v2:qcX)(v3:qbV)(v4:qcZ)(v5:qcY)(v6:List ((Bs×Bs)×Unit)):Option ((Int×qcX×qbV×qcZ×qcY×(List ((Bs×Bs)×Unit))×(List Bs)×(List Bs)×(List Bs)×Int)):=
 (zaP o v2 v3 v4 v5 v6).bind fun v7=>(zdH o v0 v1 v7.1 v7.2.1 v7.2.2.1 v7.2.2.2.1 v7.2.2.2.2).bind fun v8=>some (v8.2.1,v8.2.2.1,v8.2.2.2.1,v8.2.2.2.2.1,v8.2.2.2.2.2.1,v8.2.2.2.2.2.2,v8.1.1.1,v8.1.1.2.1,v8.1.1.2.2,v8.1.2)
def zoD(o:Ops)(v1:Bs)(v9:Int×qcX×qbV×qcZ×qcY×(List ((Bs×Bs)×Unit))×(List Bs)×(List Bs)×(List Bs)×Int):Option ((Int×zcT)⊕(qcX×qbV×qcZ×qcY×(List ((Bs×Bs)×Unit))×(List Bs)×(List Bs)×(List Bs)×Int)):=
 bif(v9.1 != 0)then some (.inl (v9.1,v9.2.1,v9.2.2.1,v9.2.2.2.1,v9.2.2.2.2.1,v9.2.2.2.2.2.1))else((zaW o v9.2.2.2.2.2.2.1 v1).bind fun v10=>bif(!v10)then some (.inl ((122:Int),v9.2.1,v9.2.2.1,v9.2.2.2.1,v9.2.2.2.2.1,v9.2.2.2.2.2.1))else some (.inr v9.2))
def znT(o:Ops)(v1:Bs)(v13:qcX×qbV×qcZ×qcY×(List ((Bs×Bs)×Unit))×(List Bs)×(List Bs)×(List Bs)×Int):Option ((qcX×qbV×qcZ×qcY×(List ((Bs×Bs)×Unit))×(List Bs)×(List Bs)×(List Bs)×Int)):=
 (zaX o v13.2.2.2.2.2.1 v1).bind fun v14=>some (v13.1,v13.2.1,v13.2.2.1,v13.2.2.2.1,v13.2.2.2.2.1,v14,v13.2.2.2.2.2.2)
def zfO(o:Ops)(v0:Bs)(v1:Bs)(v2:qcX)(v3:qbV)(v4:qcZ)(v5:qcY)(v6:List ((Bs×Bs)×Unit)):Option ((Int×zcT)):=
 (zoA o v0 v1 v2 v3 v4 v5 v6).bind fun v9=>(zoD o v1 v9).bind fun v11=>match v11 with
 |.inl v12=>some v12
 |.inr v13=>((znT o v1 v13).bind fun v15=>let v16:qbV:=mset keqS kltS v15.2.1 v0 ((v15.2.2.2.2.2.1,v15.2.2.2.2.2.2.1,v15.2.2.2.2.2.2.2.1),w64 (v15.2.2.2.2.2.2.2.2+1))
 some ((0:Int),v15.1,v16,v15.2.2.1,v15.2.2.2.1,v15.2.2.2.2.1))
def znM(o:Ops):SC:=⟨⟨[(0,(.ptr 0 0)),(1,hS),(2,(.kn .i64 0)),(3,hS)],[zbV,zaQ,zaR,zaM,zaO,qaW]⟩,1,[(none,⟨[(0,hI)],[zbV,zaQ,ypF,zaM,zaO,qaW]⟩)],fun x=>zfO o x.1 x.2.1 x.2.2.1 x.2.2.2.1 x.2.2.2.2.1 x.2.2.2.2.2.1 x.2.2.2.2.2.2⟩
theorem zwR:SCok Tryz.prog tabs 194 (znM o):=zdA (o:=o) (η:=[(2100000,.join [] [1,2,3] [(none,⟨[(0,(.ptr 0 0)),(9,(.ptr 6 0)),(10,hI)],[zbV,zaQ,zaR,zaM,zaO,qaW,yaL]⟩)]),
 (2000006,.join [] [1,2,3] [(some 1000000,⟨[(8,hI)],[zbV,zaQ,zaR,zaM,zaO,qaW]⟩),(none,⟨[(0,(.ptr 0 0)),(9,(.ptr 6 0))],[zbV,zaQ,zaR,zaM,zaO,qaW,yaL]⟩)]),
 (2000007,.join [] [1] [(none,⟨[(0,(.ptr 0 0)),(9,(.ptr 6 0))],[zbV,zaQ,zaR,zaM,zaO,qaW,yaL]⟩)]),
 (4000008,.sch [(.pu,0,[]),(.pu,1,[]),(.pu,2,[]),(.pu,3,[]),(.pu,4,[]),(.pu,5,[]),(.mn,6,[0,1,2,3,4,5,6])])]) (Γ:=⟨[(131,(zcJ o)),(206,(zcY o))],[(173,(zbJ o)),(199,(zhR o))],false,[]⟩) (ctok ⟨zdG,⟨zeO,trivial⟩⟩ ⟨zbT,⟨znG,trivial⟩⟩) Tryz.func194
def ziV(o:Ops)(v0:Bs)(v1:Bs)(v2:qcX)(v3:qbV)(v4:qcZ)(v5:qcY)(v6:List ((Bs×Bs)×Unit)):Option ((Int×zcT)):=
 (zfO o v0 v1 v2 v3 v4 v5 v6).bind fun v7=>some v7
def znF(o:Ops):SC:=⟨⟨[(0,(.ptr 0 0)),(1,hS),(2,hS)],[zbV,zaQ,zaR,zaM,zaO,qaW]⟩,1,[(none,⟨[(0,hI)],[zbV,zaQ,ypF,zaM,zaO,qaW]⟩)],fun x=>ziV o x.1 x.2.1 x.2.2.1 x.2.2.2.1 x.2.2.2.2.1 x.2.2.2.2.2.1 x.2.2.2.2.2.2⟩
theorem zwN:SCok Tryz.prog tabs 94 (znF o):=zdA (o:=o) (η:=[]) (Γ:=⟨[],[(194,(znM o))],false,[]⟩) (ctok trivial ⟨zwR,trivial⟩) Tryz.func94
def zmD(o:Ops)(v0:Bs)(v1:Bs)(v2:qcX)(v3:qbV)(v4:qcZ)(v5:qcY)(v6:List ((Bs×Bs)×Unit)):Option ((Int×qcX×qbV×qcZ×qcY×(List ((Bs×Bs)×Unit))×(List Bs)×(List Bs)×(List Bs)×Int)):=
 (zaP o v2 v3 v4 v5 v6).bind fun v7=>(zdY o v0 v1 v7.1 v7.2.1 v7.2.2.1 v7.2.2.2.1 v7.2.2.2.2).bind fun v8=>some (v8.2.1,v8.2.2.1,v8.2.2.2.1,v8.2.2.2.2.1,v8.2.2.2.2.2.1,v8.2.2.2.2.2.2,v8.1.1.1,v8.1.1.2.1,v8.1.1.2.2,v8.1.2)
def zmC(o:Ops)(v1:Bs)(v9:Int×qcX×qbV×qcZ×qcY×(List ((Bs×Bs)×Unit))×(List Bs)×(List Bs)×(List Bs)×Int):Option ((Int×zcT)⊕(qcX×qbV×qcZ×qcY×(List ((Bs×Bs)×Unit))×(List Bs)×(List Bs)×(List Bs)×Int)):=
 bif(v9.1 != 0)then some (.inl (v9.1,v9.2.1,v9.2.2.1,v9.2.2.2.1,v9.2.2.2.2.1,v9.2.2.2.2.2.1))else((zaW o v9.2.2.2.2.2.2.2.1 v1).bind fun v10=>bif(!v10)then some (.inl ((122:Int),v9.2.1,v9.2.2.1,v9.2.2.2.1,v9.2.2.2.2.1,v9.2.2.2.2.2.1))else some (.inr v9.2))
def zlY(o:Ops)(v1:Bs)(v13:qcX×qbV×qcZ×qcY×(List ((Bs×Bs)×Unit))×(List Bs)×(List Bs)×(List Bs)×Int):Option ((qcX×qbV×qcZ×qcY×(List ((Bs×Bs)×Unit))×(List Bs)×(List Bs)×(List Bs)×Int)):=
 (zaX o v13.2.2.2.2.2.2.1 v1).bind fun v14=>some (v13.1,v13.2.1,v13.2.2.1,v13.2.2.2.1,v13.2.2.2.2.1,v13.2.2.2.2.2.1,v14,v13.2.2.2.2.2.2.2)
def zfA(o:Ops)(v0:Bs)(v1:Bs)(v2:qcX)(v3:qbV)(v4:qcZ)(v5:qcY)(v6:List ((Bs×Bs)×Unit)):Option ((Int×zcT)):=
 (zmD o v0 v1 v2 v3 v4 v5 v6).bind fun v9=>(zmC o v1 v9).bind fun v11=>match v11 with
 |.inl v12=>some v12
 |.inr v13=>((zlY o v1 v13).bind fun v15=>let v16:qbV:=mset keqS kltS v15.2.1 v0 ((v15.2.2.2.2.2.1,v15.2.2.2.2.2.2.1,v15.2.2.2.2.2.2.2.1),w64 (v15.2.2.2.2.2.2.2.2+1))
 some ((0:Int),v15.1,v16,v15.2.2.1,v15.2.2.2.1,v15.2.2.2.2.1))
def zlX(o:Ops):SC:=⟨⟨[(0,(.ptr 0 0)),(1,hS),(2,(.kn .i64 1)),(3,hS)],[zbV,zaQ,zaR,zaM,zaO,qaW]⟩,1,[(none,⟨[(0,hI)],[zbV,zaQ,ypF,zaM,zaO,qaW]⟩)],fun x=>zfA o x.1 x.2.1 x.2.2.1 x.2.2.2.1 x.2.2.2.2.1 x.2.2.2.2.2.1 x.2.2.2.2.2.2⟩
theorem zvC:SCok Tryz.prog tabs 194 (zlX o):=zdA (o:=o) (η:=[(2100000,.join [] [1,2,3] [(none,⟨[(0,(.ptr 0 0)),(9,(.ptr 6 0)),(10,hI)],[zbV,zaQ,zaR,zaM,zaO,qaW,yaL]⟩)]),
 (2000006,.join [] [1,2,3] [(some 1000000,⟨[(8,hI)],[zbV,zaQ,zaR,zaM,zaO,qaW]⟩),(none,⟨[(0,(.ptr 0 0)),(9,(.ptr 6 0))],[zbV,zaQ,zaR,zaM,zaO,qaW,yaL]⟩)]),
 (2000007,.join [] [1] [(none,⟨[(0,(.ptr 0 0)),(9,(.ptr 6 0))],[zbV,zaQ,zaR,zaM,zaO,qaW,yaL]⟩)]),
 (4000008,.sch [(.pu,0,[]),(.pu,1,[]),(.pu,2,[]),(.pu,3,[]),(.pu,4,[]),(.pu,5,[]),(.mn,6,[0,1,2,3,4,5,6])])]) (Γ:=⟨[(131,(zcJ o)),(206,(zcY o))],[(173,(zbJ o)),(199,(ziX o))],false,[]⟩) (ctok ⟨zdG,⟨zeO,trivial⟩⟩ ⟨zbT,⟨zpJ,trivial⟩⟩) Tryz.func194
def zhS(o:Ops)(v0:Bs)(v1:Bs)(v2:qcX)(v3:qbV)(v4:qcZ)(v5:qcY)(v6:List ((Bs×Bs)×Unit)):Option ((Int×zcT)):=
 (zfA o v0 v1 v2 v3 v4 v5 v6).bind fun v7=>some v7
def zmL(o:Ops):SC:=⟨⟨[(0,(.ptr 0 0)),(1,hS),(2,hS)],[zbV,zaQ,zaR,zaM,zaO,qaW]⟩,1,[(none,⟨[(0,hI)],[zbV,zaQ,ypF,zaM,zaO,qaW]⟩)],fun x=>zhS o x.1 x.2.1 x.2.2.1 x.2.2.2.1 x.2.2.2.2.1 x.2.2.2.2.2.1 x.2.2.2.2.2.2⟩
theorem zvA:SCok Tryz.prog tabs 95 (zmL o):=zdA (o:=o) (η:=[]) (Γ:=⟨[],[(194,(zlX o))],false,[]⟩) (ctok trivial ⟨zvC,trivial⟩) Tryz.func95
def zmQ(o:Ops)(v0:Bs)(v1:Bs)(v2:qcX)(v3:qbV)(v4:qcZ)(v5:qcY)(v6:List ((Bs×Bs)×Unit)):Option ((Int×qcX×qbV×qcZ×qcY×(List ((Bs×Bs)×Unit))×(List Bs)×(List Bs)×(List Bs)×Int)):=
 (zaP o v2 v3 v4 v5 v6).bind fun v7=>(zdJ o v0 v1 v7.1 v7.2.1 v7.2.2.1 v7.2.2.2.1 v7.2.2.2.2).bind fun v8=>some (v8.2.1,v8.2.2.1,v8.2.2.2.1,v8.2.2.2.2.1,v8.2.2.2.2.2.1,v8.2.2.2.2.2.2,v8.1.1.1,v8.1.1.2.1,v8.1.1.2.2,v8.1.2)
def zmH(o:Ops)(v1:Bs)(v9:Int×qcX×qbV×qcZ×qcY×(List ((Bs×Bs)×Unit))×(List Bs)×(List Bs)×(List Bs)×Int):Option ((Int×zcT)⊕(qcX×qbV×qcZ×qcY×(List ((Bs×Bs)×Unit))×(List Bs)×(List Bs)×(List Bs)×Int)):=
 bif(v9.1 != 0)then some (.inl (v9.1,v9.2.1,v9.2.2.1,v9.2.2.2.1,v9.2.2.2.2.1,v9.2.2.2.2.2.1))else((zaW o v9.2.2.2.2.2.2.2.2.1 v1).bind fun v10=>bif(!v10)then some (.inl ((122:Int),v9.2.1,v9.2.2.1,v9.2.2.2.1,v9.2.2.2.2.1,v9.2.2.2.2.2.1))else some (.inr v9.2))
def zmX(o:Ops)(v1:Bs)(v13:qcX×qbV×qcZ×qcY×(List ((Bs×Bs)×Unit))×(List Bs)×(List Bs)×(List Bs)×Int):Option ((qcX×qbV×qcZ×qcY×(List ((Bs×Bs)×Unit))×(List Bs)×(List Bs)×(List Bs)×Int)):=
 (zaX o v13.2.2.2.2.2.2.2.1 v1).bind fun v14=>some (v13.1,v13.2.1,v13.2.2.1,v13.2.2.2.1,v13.2.2.2.2.1,v13.2.2.2.2.2.1,v13.2.2.2.2.2.2.1,v14,v13.2.2.2.2.2.2.2.2)
def zeY(o:Ops)(v0:Bs)(v1:Bs)(v2:qcX)(v3:qbV)(v4:qcZ)(v5:qcY)(v6:List ((Bs×Bs)×Unit)):Option ((Int×zcT)):=
 (zmQ o v0 v1 v2 v3 v4 v5 v6).bind fun v9=>(zmH o v1 v9).bind fun v11=>match v11 with
 |.inl v12=>some v12
 |.inr v13=>((zmX o v1 v13).bind fun v15=>let v16:qbV:=mset keqS kltS v15.2.1 v0 ((v15.2.2.2.2.2.1,v15.2.2.2.2.2.2.1,v15.2.2.2.2.2.2.2.1),w64 (v15.2.2.2.2.2.2.2.2+1))
 some ((0:Int),v15.1,v16,v15.2.2.1,v15.2.2.2.1,v15.2.2.2.2.1))
def zmT(o:Ops):SC:=⟨⟨[(0,(.ptr 0 0)),(1,hS),(2,(.kn .i64 2)),(3,hS)],[zbV,zaQ,zaR,zaM,zaO,qaW]⟩,1,[(none,⟨[(0,hI)],[zbV,zaQ,ypF,zaM,zaO,qaW]⟩)],fun x=>zeY o x.1 x.2.1 x.2.2.1 x.2.2.2.1 x.2.2.2.2.1 x.2.2.2.2.2.1 x.2.2.2.2.2.2⟩
theorem zuP:SCok Tryz.prog tabs 194 (zmT o):=zdA (o:=o) (η:=[(2100000,.join [] [1,2,3] [(none,⟨[(0,(.ptr 0 0)),(9,(.ptr 6 0)),(10,hI)],[zbV,zaQ,zaR,zaM,zaO,qaW,yaL]⟩)]),
 (2000006,.join [] [1,2,3] [(some 1000000,⟨[(8,hI)],[zbV,zaQ,zaR,zaM,zaO,qaW]⟩),(none,⟨[(0,(.ptr 0 0)),(9,(.ptr 6 0))],[zbV,zaQ,zaR,zaM,zaO,qaW,yaL]⟩)]),
 (2000007,.join [] [1] [(none,⟨[(0,(.ptr 0 0)),(9,(.ptr 6 0))],[zbV,zaQ,zaR,zaM,zaO,qaW,yaL]⟩)]),
 (4000008,.sch [(.pu,0,[]),(.pu,1,[]),(.pu,2,[]),(.pu,3,[]),(.pu,4,[]),(.pu,5,[]),(.mn,6,[0,1,2,3,4,5,6])])]) (Γ:=⟨[(131,(zcJ o)),(206,(zcY o))],[(173,(zbJ o)),(199,(zhN o))],false,[]⟩) (ctok ⟨zdG,⟨zeO,trivial⟩⟩ ⟨zbT,⟨znX,trivial⟩⟩) Tryz.func194
def zjR(o:Ops)(v0:Bs)(v1:Bs)(v2:qcX)(v3:qbV)(v4:qcZ)(v5:qcY)(v6:List ((Bs×Bs)×Unit)):Option ((Int×zcT)):=
 (zeY o v0 v1 v2 v3 v4 v5 v6).bind fun v7=>some v7
def zpS(o:Ops):SC:=⟨⟨[(0,(.ptr 0 0)),(1,hS),(2,hS)],[zbV,zaQ,zaR,zaM,zaO,qaW]⟩,1,[(none,⟨[(0,hI)],[zbV,zaQ,ypF,zaM,zaO,qaW]⟩)],fun x=>zjR o x.1 x.2.1 x.2.2.1 x.2.2.2.1 x.2.2.2.2.1 x.2.2.2.2.2.1 x.2.2.2.2.2.2⟩
theorem zyB:SCok Tryz.prog tabs 96 (zpS o):=zdA (o:=o) (η:=[]) (Γ:=⟨[],[(194,(zmT o))],false,[]⟩) (ctok trivial ⟨zuP,trivial⟩) Tryz.func96
noncomputable def zlC(o:Ops)(v0:Bs)(v6:qcX)(v7:qbV)(v8:qcZ)(v9:qcY)(v10:List ((Bs×Bs)×Unit))(v11:List Bs)(v12:zbH)(v13:ytV):Option ((Bool×qcX×qbV×qcZ×qcY×(List ((Bs×Bs)×Unit))×(List Bs)×(List Bs)×(List Bs)×Int×List Bs)):=
 (zaW o v13.1.2.2 v0).bind fun v14=>some (v14,v6,v7,v8,v9,v10,v13.1.1,v13.1.2.1,v13.1.2.2,v13.2,rngD keqS v11 v12.1)
noncomputable def zlP(o:Ops)(v0:Bs)(v15:Bool×qcX×qbV×qcZ×qcY×(List ((Bs×Bs)×Unit))×(List Bs)×(List Bs)×(List Bs)×Int×List Bs):Option ((qcX×qbV×qcZ×qcY×(List ((Bs×Bs)×Unit))×(List Bs)×(List Bs)×(List Bs)×Int×List Bs)):=
 (zaX o v15.2.2.2.2.2.2.2.2.1 v0).bind fun v16=>some (v15.2.1,v15.2.2.1,v15.2.2.2.1,v15.2.2.2.2.1,v15.2.2.2.2.2.1,v15.2.2.2.2.2.2.1,v15.2.2.2.2.2.2.2.1,v16,v15.2.2.2.2.2.2.2.2.2)
noncomputable def zlJ(o:Ops)(v0:Bs)(v6:qcX)(v7:qbV)(v8:qcZ)(v9:qcY)(v10:List ((Bs×Bs)×Unit))(v11:List Bs):List (Option ((qcX×qbV×qcZ×qcY×(List ((Bs×Bs)×Unit))×List Bs)⊕(zcT))):=
 rngL (rngC keqS v7 v11) (some (.inr (v6,v7,v8,v9,v10))) fun v12=>(mget keqS v7 v12.1).bind fun v13=>(zlC o v0 v6 v7 v8 v9 v10 v11 v12 v13).bind fun v15=>bif v15.1 then((zlP o v0 v15).bind fun v17=>(chk (mhas keqS v17.2.1 v12.1)).bind fun _=>let v18:qbV:=mrep keqS v17.2.1 v12.1 ((v17.2.2.2.2.2.1,v17.2.2.2.2.2.2.1,v17.2.2.2.2.2.2.2.1),w64 (v17.2.2.2.2.2.2.2.2.1+1))
 some (.inl (v17.1,v18,v17.2.2.1,v17.2.2.2.1,v17.2.2.2.2.1,v17.2.2.2.2.2.2.2.2.2)))else some (.inl (v15.2.1,v15.2.2.1,v15.2.2.2.1,v15.2.2.2.2.1,v15.2.2.2.2.2.1,v15.2.2.2.2.2.2.2.2.2.2))
noncomputable def zeH(o:Ops)(v0:Bs)(v1:qcX)(v2:qbV)(v3:qcZ)(v4:qcY)(v5:List ((Bs×Bs)×Unit)):Option (zcT):=
 (rngA (fun x=>zlJ o v0 x.1 x.2.1 x.2.2.1 x.2.2.2.1 x.2.2.2.2.1 x.2.2.2.2.2) (v1,v2,v3,v4,v5,List.map Prod.fst v2)).bind fun v19=>some v19
noncomputable def zlM(o:Ops):SC:=⟨⟨[(0,(.ptr 0 0)),(1,(.kn .i64 2)),(2,hS)],[zbV,zaQ,zaR,zaM,zaO,qaW]⟩,0,[(none,⟨[],[zbV,zaQ,zaR,zaM,zaO,qaW]⟩)],fun x=>zeH o x.1 x.2.1 x.2.2.1 x.2.2.2.1 x.2.2.2.2.1 x.2.2.2.2.2⟩
theorem ztS:SCok Tryz.prog tabs 116 (zlM o):=zdA (o:=o) (η:=[(2300004,.join [] [1,2,6] [(none,⟨[(0,(.ptr 0 0)),(7,(.ptr 6 0)),(12,(.ptr 7 0)),(23,hB)],[zbV,zaQ,zaR,zaM,zaO,qaW,yaL,.it 2 true .s]⟩)]),
 (2000005,.join [] [1,2,6] [(none,⟨[(0,(.ptr 0 0)),(7,(.ptr 6 0)),(12,(.ptr 7 0))],[zbV,zaQ,zaR,zaM,zaO,qaW,yaL,.it 2 true .s]⟩)]),
 (200001,.rng [] ⟨[(0,(.ptr 0 0)),(12,(.ptr 6 0))],[zbV,zaQ,zaR,zaM,zaO,qaW,.it 2 true .s]⟩ [1,2] [(some 0,⟨[],[zbV,zaQ,zaR,zaM,zaO,qaW]⟩)]),
 (4000006,.sch [(.pu,0,[]),(.pu,1,[]),(.pu,2,[]),(.pu,3,[]),(.pu,4,[]),(.pu,5,[]),(.mn,6,[0,1,2,3,4,5,6,7])])]) (Γ:=⟨[(131,(zcJ o)),(206,(zcY o))],[],true,[]⟩) (ctok ⟨zdG,⟨zeO,trivial⟩⟩ trivial) Tryz.func116
noncomputable def zfF(o:Ops)(v0:Bs)(v1:qcX)(v2:qbV)(v3:qcZ)(v4:qcY)(v5:List ((Bs×Bs)×Unit)):Option ((Bs×zcT)):=
 (zeH o v0 v1 v2 v3 v4 v5).bind fun v6=>some (v0,v6)
noncomputable def zjA(o:Ops):SC:=⟨⟨[(0,(.ptr 0 0)),(1,(.ptr 1 0))],[ymB,.blk 9 [hS],yoC,zaQ,zaR,zaM,zaO,qaW]⟩,0,[(none,⟨[],[ymB,.blk 9 [hS],yoC,zaQ,zaR,zaM,zaO,qaW]⟩)],fun x=>zfF o x.1 x.2.1 x.2.2.1 x.2.2.2.1 x.2.2.2.2.1 x.2.2.2.2.2⟩
theorem zrW:SCok Tryz.prog tabs 121 (zjA o):=zdA (o:=o) (η:=[]) (Γ:=⟨[],[(116,(zlM o))],false,[]⟩) (ctok trivial ⟨ztS,trivial⟩) Tryz.func121
noncomputable def ztD(o:Ops)(v0:Bs)(v1:qcZ)(v2:Bs)(v3:qcX)(v4:qbV)(v5:qcY)(v6:List ((Bs×Bs)×Unit)):Option ((Int×qcZ×Bs×qcX×qbV×qcY×List ((Bs×Bs)×Unit))):=
 (zaN o v0).bind fun v7=>bif(!v7)then some ((120:Int),v1,v2,v3,v4,v5,v6)else(let _v8:xcR:=zcD keqS v1 v0 (([]:Bs),([]:List Bs))
 bif(!(mhas keqS v1 v0))then some ((122:Int),v1,v2,v3,v4,v5,v6)else((zfF o v2 v3 v4 (mdel keqS v1 v0) v5 v6).bind fun v9=>some ((0:Int),v9.2.2.2.1,v9.1,v9.2.1,v9.2.2.1,v9.2.2.2.2)))
noncomputable def zyE(o:Ops):SC:=⟨⟨[(0,(.mpr 0)),(1,hS),(2,(.fn 121 [] [(.ptr 1 0),(.ptr 2 0)]))],[zaM,ymH,.blk 9 [hS],.blk 128 [(.mpr 4),(.mpr 5),(.mpr 0),(.mpr 6),(.mpr 7)],zaQ,zaR,zaO,qaW]⟩,1,[(none,⟨[(0,hI)],[zaM,ymH,.blk 9 [hS],.blk 128 [(.mpr 4),(.mpr 5),(.mpr 0),(.mpr 6),(.mpr 7)],zaQ,zaR,zaO,qaW]⟩)],fun x=>ztD o x.1 x.2.1 x.2.2.1 x.2.2.2.1 x.2.2.2.2.1 x.2.2.2.2.2.1 x.2.2.2.2.2.2⟩
theorem yhL:SCok Tryz.prog tabs 120 (zyE o):=zdA (o:=o) (η:=[]) (Γ:=⟨[(13,(zbD o))],[(121,(zjA o))],false,[]⟩) (ctok ⟨zbI,trivial⟩ ⟨zrW,trivial⟩) Tryz.func120
noncomputable def zdQ(o:Ops)(v0:Bs)(v1:qcX)(v2:qbV)(v3:qcZ)(v4:qcY)(v5:List ((Bs×Bs)×Unit)):Option ((Int×zcT)):=
 (ztD o v0 v3 v0 v1 v2 v4 v5).bind fun v6=>some (v6.1,v6.2.2.2.1,v6.2.2.2.2.1,v6.2.1,v6.2.2.2.2.2)
noncomputable def zkA(o:Ops):SC:=⟨⟨[(0,(.ptr 0 0)),(1,hS)],[zbV,zaQ,zaR,zaM,zaO,qaW]⟩,1,[(none,⟨[(0,hI)],[zbV,zaQ,zaR,zaM,zaO,qaW]⟩)],fun x=>zdQ o x.1 x.2.1 x.2.2.1 x.2.2.2.1 x.2.2.2.2.1 x.2.2.2.2.2⟩
theorem ztG:SCok Tryz.prog tabs 43 (zkA o):=zdA (o:=o) (η:=[(4000001,.sch [(.pu,0,[]),(.pu,1,[]),(.pu,2,[]),(.pu,3,[]),(.pu,4,[]),(.pu,5,[]),(.mn,6,[0,1,2,3,4,5,6,7]),(.pu,7,[])])]) (Γ:=⟨[],[(120,(zyE o))],false,[]⟩) (ctok trivial ⟨yhL,trivial⟩) Tryz.func43
def zjO(_o:Ops)(v0:yoP)(v1:qcX)(v2:qbV)(v3:qcZ)(v4:qcY)(v5:List ((Bs×Bs)×Unit)):Option ((Int×zcT)⊕(qcX×qbV×qcZ×qcY×(List ((Bs×Bs)×Unit))×yoP)):=
 let _v7:yoP:=zcD keqS v4 v0.1 (([]:Bs),([]:Bs),([]:List Bs),([]:List Bs),false,false,false,false)
 bif(!(mhas keqS v4 v0.1))then(bif decide ((v4.length:Int)≥32)then some (.inl ((124:Int),v1,v2,v3,v4,v5))else some (.inr (v1,v2,v3,v4,v5,v0)))else some (.inr (v1,v2,v3,v4,v5,v0))
def zdD(o:Ops)(v0:yoP)(v1:qcX)(v2:qbV)(v3:qcZ)(v4:qcY)(v5:List ((Bs×Bs)×Unit)):Option ((Int×zcT)):=
 (ziT o v0).bind fun v6=>bif(!v6)then some ((120:Int),v1,v2,v3,v4,v5)else((zjO o v0 v1 v2 v3 v4 v5).bind fun v8=>match v8 with
 |.inl v9=>some v9
 |.inr v10=>((ziH o v10.2.2.2.2.2).bind fun v11=>let v12:qcY:=mset keqS kltS v10.2.2.2.1 v10.2.2.2.2.2.1 v11
 some ((0:Int),v10.1,v10.2.1,v10.2.2.1,v12,v10.2.2.2.2.1)))
def zjM(o:Ops):SC:=⟨⟨[(0,(.ptr 0 0)),(1,(.h yzO))],[zbV,zaQ,zaR,zaM,zaO,qaW]⟩,1,[(none,⟨[(0,hI)],[zbV,zaQ,zaR,zaM,.mp false .s yzO,qaW]⟩)],fun x=>zdD o x.1 x.2.1 x.2.2.1 x.2.2.2.1 x.2.2.2.2.1 x.2.2.2.2.2⟩
theorem zsH:SCok Tryz.prog tabs 37 (zjM o):=zdA (o:=o) (η:=[(2000006,.join [] [] [(some 1000000,⟨[(4,hI)],[zbV,zaQ,zaR,zaM,zaO,qaW]⟩),(none,⟨[(0,(.ptr 0 0)),(3,(.ptr 6 0))],[zbV,zaQ,zaR,zaM,zaO,qaW,.blk 51 [hS,hS,(.h (.sl .s)),(.h (.sl .s)),hB,hB,hB,hB]]⟩)]),
 (4000003,.sch [(.pu,0,[]),(.pu,1,[]),(.pu,2,[]),(.pu,3,[]),(.pu,4,[]),(.pu,5,[]),(.pu,6,[]),(.pu,7,[]),(.pu,8,[]),(.pu,9,[7]),(.mn,10,[]),(.mn,11,[7]),(.pu,12,[])]),
 (4000006,.sch [(.pu,0,[]),(.pu,1,[]),(.pu,2,[]),(.pu,3,[]),(.pu,4,[]),(.pu,5,[]),(.pu,6,[]),(.mn,7,[]),(.mn,8,[0,1,2,3,4,5,6])])]) (Γ:=⟨[(106,(zqE o)),(107,(zqI o))],[],false,[]⟩) (ctok ⟨zwJ,⟨zwK,trivial⟩⟩ trivial) Tryz.func37
noncomputable def zeG(o:Ops)(v0:Bs)(v1:qcX)(v2:qbV)(v3:qcZ)(v4:qcY)(v5:List ((Bs×Bs)×Unit)):Option ((Bs×zcT)):=
 (app ([99,58]:Bs) v0).bind fun v6=>(zcX o v6 v1 v2 v3 v4 v5).bind fun v7=>some (v0,v7)
noncomputable def zhF(o:Ops):SC:=⟨⟨[(0,(.ptr 0 0)),(1,(.ptr 1 0))],[ymB,.blk 9 [hS],yoC,zaQ,zaR,zaM,zaO,qaW]⟩,0,[(none,⟨[],[ymB,.blk 9 [hS],yoC,zaQ,zaR,zaM,zaO,qaW]⟩)],fun x=>zeG o x.1 x.2.1 x.2.2.1 x.2.2.2.1 x.2.2.2.2.1 x.2.2.2.2.2⟩
theorem zpY:SCok Tryz.prog tabs 123 (zhF o):=zdA (o:=o) (η:=[]) (Γ:=⟨[],[(117,(zhC o))],false,[]⟩) (ctok trivial ⟨zmF,trivial⟩) Tryz.func123
noncomputable def zsQ(o:Ops)(v0:Bs)(v1:qcY)(v2:Bs)(v3:qcX)(v4:qbV)(v5:qcZ)(v6:List ((Bs×Bs)×Unit)):Option ((Int×qcY×Bs×qcX×qbV×qcZ×List ((Bs×Bs)×Unit))):=
 (zaN o v0).bind fun v7=>bif(!v7)then some ((120:Int),v1,v2,v3,v4,v5,v6)else(let _v8:yoP:=zcD keqS v1 v0 (([]:Bs),([]:Bs),([]:List Bs),([]:List Bs),false,false,false,false)
 bif(!(mhas keqS v1 v0))then some ((122:Int),v1,v2,v3,v4,v5,v6)else((zeG o v2 v3 v4 v5 (mdel keqS v1 v0) v6).bind fun v9=>some ((0:Int),v9.2.2.2.2.1,v9.1,v9.2.1,v9.2.2.1,v9.2.2.2.1,v9.2.2.2.2.2)))
noncomputable def zyI(o:Ops):SC:=⟨⟨[(0,(.mpr 0)),(1,hS),(2,(.fn 123 [] [(.ptr 1 0),(.ptr 2 0)]))],[zaO,ymH,.blk 9 [hS],.blk 128 [(.mpr 4),(.mpr 5),(.mpr 6),(.mpr 0),(.mpr 7)],zaQ,zaR,zaM,qaW]⟩,1,[(none,⟨[(0,hI)],[zaO,ymH,.blk 9 [hS],.blk 128 [(.mpr 4),(.mpr 5),(.mpr 6),(.mpr 0),(.mpr 7)],zaQ,zaR,zaM,qaW]⟩)],fun x=>zsQ o x.1 x.2.1 x.2.2.1 x.2.2.2.1 x.2.2.2.2.1 x.2.2.2.2.2.1 x.2.2.2.2.2.2⟩
theorem yfG:SCok Tryz.prog tabs 122 (zyI o):=zdA (o:=o) (η:=[]) (Γ:=⟨[(13,(zbD o))],[(123,(zhF o))],false,[]⟩) (ctok ⟨zbI,trivial⟩ ⟨zpY,trivial⟩) Tryz.func122
noncomputable def zcS(o:Ops)(v0:Bs)(v1:qcX)(v2:qbV)(v3:qcZ)(v4:qcY)(v5:List ((Bs×Bs)×Unit)):Option ((Int×zcT)):=
 (zsQ o v0 v4 v0 v1 v2 v3 v5).bind fun v6=>some (v6.1,v6.2.2.2.1,v6.2.2.2.2.1,v6.2.2.2.2.2.1,v6.2.1,v6.2.2.2.2.2.2)
noncomputable def ziF(o:Ops):SC:=⟨⟨[(0,(.ptr 0 0)),(1,hS)],[zbV,zaQ,zaR,zaM,zaO,qaW]⟩,1,[(none,⟨[(0,hI)],[zbV,zaQ,zaR,zaM,zaO,qaW]⟩)],fun x=>zcS o x.1 x.2.1 x.2.2.1 x.2.2.2.1 x.2.2.2.2.1 x.2.2.2.2.2⟩
theorem zrI:SCok Tryz.prog tabs 44 (ziF o):=zdA (o:=o) (η:=[(4000001,.sch [(.pu,0,[]),(.pu,1,[]),(.pu,2,[]),(.pu,3,[]),(.pu,4,[]),(.pu,5,[]),(.mn,6,[0,1,2,3,4,5,6,7]),(.pu,7,[])])]) (Γ:=⟨[],[(122,(zyI o))],false,[]⟩) (ctok trivial ⟨yfG,trivial⟩) Tryz.func44
def zpM(o:Ops)(v0:Bs)(v1:Bs)(v2:qcX)(v3:qbV)(v4:qcZ)(v5:qcY)(v6:List ((Bs×Bs)×Unit)):Option ((Int×zcT)⊕zcT):=
 (zbG o v0).bind fun v7=>bif(!v7)then some (.inl ((120:Int),v2,v3,v4,v5,v6))else((zbG o v1).bind fun v8=>bif(!v8)then some (.inl ((120:Int),v2,v3,v4,v5,v6))else some (.inr (v2,v3,v4,v5,v6)))
def zeA(o:Ops)(v0:Bs)(v1:Bs)(v2:qcX)(v3:qbV)(v4:qcZ)(v5:qcY)(v6:List ((Bs×Bs)×Unit)):Option ((Int×zcT)):=
 (zpM o v0 v1 v2 v3 v4 v5 v6).bind fun v9=>match v9 with
 |.inl v10=>some v10
 |.inr v11=>((zbM o v0 v11.1 v11.2.1 v11.2.2.1 v11.2.2.2.1 v11.2.2.2.2).bind fun v12=>bif(!v12.1)then some ((122:Int),v12.2)else((zbM o v1 v12.2.1 v12.2.2.1 v12.2.2.2.1 v12.2.2.2.2.1 v12.2.2.2.2.2).bind fun v13=>bif(!v13.1)then some ((122:Int),v13.2)else some ((0:Int),v13.2)))
def ziC(o:Ops):SC:=⟨⟨[(0,(.ptr 0 0)),(1,hS),(2,hS)],[zbV,zaQ,zaR,zaM,zaO,qaW]⟩,1,[(none,⟨[(0,hI)],[zbV,zaQ,zaR,zaM,zaO,qaW]⟩)],fun x=>zeA o x.1 x.2.1 x.2.2.1 x.2.2.2.1 x.2.2.2.2.1 x.2.2.2.2.2.1 x.2.2.2.2.2.2⟩
theorem zpG:SCok Tryz.prog tabs 195 (ziC o):=zdA (o:=o) (η:=[(2000003,.join [] [1,2] [(some 1000000,⟨[(6,hI)],[zbV,zaQ,zaR,zaM,zaO,qaW]⟩),(none,⟨[(0,(.ptr 0 0))],[zbV,zaQ,zaR,zaM,zaO,qaW]⟩)])]) (Γ:=⟨[(19,(zgT o))],[(128,(zfD o))],false,[]⟩) (ctok ⟨zkJ,trivial⟩ ⟨zhK,trivial⟩) Tryz.func195
def zeP(_o:Ops)(v0:Bs)(v1:Bs)(v2:qcX)(v3:qbV)(v4:qcZ)(v5:qcY)(v6:List ((Bs×Bs)×Unit)):Option ((Bool×zcT)):=
 let _v7:Unit:=zcD (keq (.pr .s .s)) v6 (v0,v1) ()
 some (mhas (keq (.pr .s .s)) v6 (v0,v1),v2,v3,v4,v5,v6)
def zjT(o:Ops):SC:=⟨⟨[(0,(.ptr 0 0)),(1,hS),(2,hS)],[zbV,zaQ,zaR,zaM,zaO,qaW]⟩,1,[(none,⟨[(0,hB)],[zbV,zaQ,zaR,zaM,zaO,qaW]⟩)],fun x=>zeP o x.1 x.2.1 x.2.2.1 x.2.2.2.1 x.2.2.2.2.1 x.2.2.2.2.2.1 x.2.2.2.2.2.2⟩
theorem zqL:SCok Tryz.prog tabs 56 (zjT o):=zdA (o:=o) (η:=[]) (Γ:=⟨[],[],false,[]⟩) (ctok trivial trivial) Tryz.func56
def zfI(o:Ops)(v0:Bs)(v1:Bs)(v2:qcX)(v3:qbV)(v4:qcZ)(v5:qcY)(v6:List ((Bs×Bs)×Unit)):Option ((Int×zcT)):=
 (zeA o v0 v1 v2 v3 v4 v5 v6).bind fun v7=>bif(v7.1 != 0)then some v7 else((zeP o v0 v1 v7.2.1 v7.2.2.1 v7.2.2.2.1 v7.2.2.2.2.1 v7.2.2.2.2.2).bind fun v8=>bif v8.1 then some ((121:Int),v8.2)else(bif decide ((v8.2.2.2.2.2.length:Int)≥64)then some ((124:Int),v8.2)else(let v9:List ((Bs×Bs)×Unit):=mset (keq (.pr .s .s)) (klt (.pr .s .s)) v8.2.2.2.2.2 (v0,v1) ()
 some ((0:Int),v8.2.1,v8.2.2.1,v8.2.2.2.1,v8.2.2.2.2.1,v9))))
def zoI(o:Ops):SC:=⟨⟨[(0,(.ptr 0 0)),(1,hS),(2,hS)],[zbV,zaQ,zaR,zaM,zaO,qaW]⟩,1,[(none,⟨[(0,hI)],[zbV,zaQ,zaR,zaM,zaO,.mp false (.pr .s .s) .un]⟩)],fun x=>zfI o x.1 x.2.1 x.2.2.1 x.2.2.2.1 x.2.2.2.2.1 x.2.2.2.2.2.1 x.2.2.2.2.2.2⟩
theorem zwT:SCok Tryz.prog tabs 97 (zoI o):=zdA (o:=o) (η:=[]) (Γ:=⟨[],[(195,(ziC o)),(56,(zjT o))],false,[]⟩) (ctok trivial ⟨zpG,⟨zqL,trivial⟩⟩) Tryz.func97
def zgF(o:Ops)(v0:Bs)(v1:Bs)(v2:qcX)(v3:qbV)(v4:qcZ)(v5:qcY)(v6:List ((Bs×Bs)×Unit)):Option ((Int×zcT)):=
 (zeA o v0 v1 v2 v3 v4 v5 v6).bind fun v7=>bif(v7.1 != 0)then some v7 else((zeP o v0 v1 v7.2.1 v7.2.2.1 v7.2.2.2.1 v7.2.2.2.2.1 v7.2.2.2.2.2).bind fun v8=>bif(!v8.1)then some ((122:Int),v8.2)else some ((0:Int),v8.2.1,v8.2.2.1,v8.2.2.2.1,v8.2.2.2.2.1,mdel (keq (.pr .s .s)) v8.2.2.2.2.2 (v0,v1)))
def zoY(o:Ops):SC:=⟨⟨[(0,(.ptr 0 0)),(1,hS),(2,hS)],[zbV,zaQ,zaR,zaM,zaO,qaW]⟩,1,[(none,⟨[(0,hI)],[zbV,zaQ,zaR,zaM,zaO,qaW]⟩)],fun x=>zgF o x.1 x.2.1 x.2.2.1 x.2.2.2.1 x.2.2.2.2.1 x.2.2.2.2.2.1 x.2.2.2.2.2.2⟩
theorem zxG:SCok Tryz.prog tabs 98 (zoY o):=zdA (o:=o) (η:=[]) (Γ:=⟨[],[(195,(ziC o)),(56,(zjT o))],false,[]⟩) (ctok trivial ⟨zpG,⟨zqL,trivial⟩⟩) Tryz.func98
noncomputable def zfK(o:Ops)(v0:KWkD9)(v1:qcX)(v2:qbV)(v3:qcZ)(v4:qcY)(v5:List ((Bs×Bs)×Unit)):Option ((Int×zcT)):=
 bif(v0.2.1==0)then((zbW o v0.2.2.1 v0.2.2.2.1 v1 v2 v3 v4 v5).bind fun v6=>some v6)else(bif(v0.2.1==1)then((zeI o v0.2.2.1 v0.2.2.2.1 v1 v2 v3 v4 v5).bind fun v7=>some v7)else(bif(v0.2.1==2)then((zdF o v0.2.2.1 v0.2.2.2.2.1 v1 v2 v3 v4 v5).bind fun v8=>some v8)else(bif(v0.2.1==3)then((zdS o v0.2.2.1 v1 v2 v3 v4 v5).bind fun v9=>some v9)else(bif(v0.2.1==4)then((zbU o v0.2.2.1 v1 v2 v3 v4 v5).bind fun v10=>some v10)else(bif(v0.2.1==5)then((zdB o v0.2.2.1 v1 v2 v3 v4 v5).bind fun v11=>some v11)else(bif(v0.2.1==6)then((zgD o v0.2.2.1 v0.2.2.2.1 v1 v2 v3 v4 v5).bind fun v12=>some v12)else(bif(v0.2.1==7)then((ziV o v0.2.2.1 v0.2.2.2.1 v1 v2 v3 v4 v5).bind fun v13=>some v13)else(bif(v0.2.1==8)then((zdX o v0.2.2.1 v0.2.2.2.1 v1 v2 v3 v4 v5).bind fun v14=>some v14)else(bif(v0.2.1==9)then((zhS o v0.2.2.1 v0.2.2.2.1 v1 v2 v3 v4 v5).bind fun v15=>some v15)else(bif(v0.2.1==10)then((zgB o v0.2.2.1 v0.2.2.2.1 v1 v2 v3 v4 v5).bind fun v16=>some v16)else(bif(v0.2.1==11)then((zjR o v0.2.2.1 v0.2.2.2.1 v1 v2 v3 v4 v5).bind fun v17=>some v17)else(bif(v0.2.1==12)then((zcI o v0.2.2.2.2.2.1 v1 v2 v3 v4 v5).bind fun v18=>some v18)else(bif(v0.2.1==13)then((zdQ o v0.2.2.1 v1 v2 v3 v4 v5).bind fun v19=>some v19)else(bif(v0.2.1==14)then((zdD o v0.2.2.2.2.2.2 v1 v2 v3 v4 v5).bind fun v20=>some v20)else(bif(v0.2.1==15)then((zcS o v0.2.2.1 v1 v2 v3 v4 v5).bind fun v21=>some v21)else(bif(v0.2.1==16)then((zfI o v0.2.2.1 v0.2.2.2.1 v1 v2 v3 v4 v5).bind fun v22=>some v22)else(bif(v0.2.1==17)then((zgF o v0.2.2.1 v0.2.2.2.1 v1 v2 v3 v4 v5).bind fun v23=>some v23)else some ((0:Int),v1,v2,v3,v4,v5))))))))))))))))))
noncomputable def znY(o:Ops):SC:=⟨⟨[(0,(.ptr 0 0)),(1,(.h YWkD9))],[zbV,zaQ,zaR,zaM,zaO,qaW]⟩,1,[(none,⟨[(0,hI)],[zbV,yzD,ypF,.mp false .s YWkD0,.mp false .s yzO,.mp false (.pr .s .s) .un]⟩)],fun x=>zfK o x.1 x.2.1 x.2.2.1 x.2.2.2.1 x.2.2.2.2.1 x.2.2.2.2.2⟩
theorem zwM:SCok Tryz.prog tabs 31 (znY o):=zdA (o:=o) (η:=[]) (Γ:=⟨[],[(71,(zgM o)),(92,(zlH o)),(93,(zjJ o)),(41,(zjX o)),(72,(zfU o)),(42,(zjH o)),(73,(ziZ o)),(94,(znF o)),(33,(ziL o)),(95,(zmL o)),(74,(ziD o)),(96,(zpS o)),(36,(zgJ o)),(43,(zkA o)),(37,(zjM o)),(44,(ziF o)),(97,(zoI o)),(98,(zoY o))],false,[]⟩) (ctok trivial ⟨zlI,⟨ztW,⟨zsD,⟨zsW,⟨zjY,⟨zsE,⟨zpQ,⟨zwN,⟨zpF,⟨zvA,⟨zpN,⟨zyB,⟨zkY,⟨ztG,⟨zsH,⟨zrI,⟨zwT,⟨zxG,trivial⟩⟩⟩⟩⟩⟩⟩⟩⟩⟩⟩⟩⟩⟩⟩⟩⟩⟩) Tryz.func31
def zcE(_o:Ops)(v0:List Bs)(v1:Bs)(v2:Int):Option (Int⊕(Bool⊕Unit)):=
 bif decide (v2<(v0.length:Int))then((idx v0 v2).bind fun v3=>bif(v3==v1)then some (.inr (.inl true))else some (.inl (w64 (v2+1))))else some (.inr (.inr ()))
def zgH(o:Ops)(v0:List Bs)(v1:Bs):Option (Bool):=
 (iter (zcE o v0 v1) (0:Int)).bind fun v4=>match v4 with
 |.inl v5=>(some v5)
 |.inr _v6=>(some false)
def zpP(o:Ops):PC:=⟨[(.h (.sl .s)),hS],[.b],fun x=>zgH o x.1 x.2,false⟩
theorem zxI:PCok Tryz.prog tabs 46 (zpP o):=fpcWkD (o:=o) (η:=[(200002,.loop [] ⟨[(5,hI)],[]⟩ [0,1] [(some 1000000,⟨[(4,hB)],[]⟩),(some 0,⟨[],[]⟩)])]) (Γ:=⟨[],[],false,[]⟩) (ctok trivial trivial) Tryz.func46
end
theorem half_ok{a b:Nat}(h:a+b<1099511627776):w64 ((i64 (shrI .u64 ((i64 (w64 ((a:Int)+(b:Int)))).toNat:Int) ((1:UInt64).toNat:Int))).toNat:Int)=(((a+b)/2:Nat):Int):=by
 have e1:w64 ((a:Int)+(b:Int))=((a+b:Nat):Int):=by rw[zrL (by omega) (by omega)];omega
 have e2:((i64 ((a+b:Nat):Int)).toNat:Int)=((a+b:Nat):Int):=ymX (by omega) (by omega)
 rw[e1,e2]
 have e3:shrI .u64 ((a+b:Nat):Int) ((1:UInt64).toNat:Int)=(((a+b)/2:Nat):Int):=by
  unfold shrI
  rw[show(min ((1:UInt64).toNat:Int).toNat IntKind.u64.bits)=1 from rfl,yeV]
 rw[e3,ymX (by omega) (by omega),zrL (by omega) (by omega)]
theorem less_ok(x y:L8):zzF zaB x y=some (kltS x y):=by
 unfold zzF zvQ
 rw[zaA,bne_self_eq_false]
 rfl
def zpH(x:L8)(l:List L8):Nat:=(l.takeWhile fun y=>kltS y x).length
theorem ywY(x:L8)(l:List L8):zpH x l<=l.length:=(List.takeWhile_sublist _).length_le
theorem yjT{x:L8}:∀{l:List L8},RiL l->∀{m:Nat} (hm:m<l.length),kltS l[m] x=decide (m<zpH x l)
 |y::l,h,m,hm=>by
  have hc:=List.pairwise_cons.1 h
  cases hy:kltS y x with
  |true=>
   have e:zpH x (y::l)=zpH x l+1:=by unfold zpH;rw[List.takeWhile_cons,if_pos hy];rfl
   rw[e]
   cases m with
   |zero=>rw[decide_eq_true (by omega)];exact hy
   |succ m=>
    have hm':m<l.length:=by simpa using hm
    rw[List.getElem_cons_succ,yjT (x:=x) hc.2 hm']
    exact decide_eq_decide.2 (by omega)
  |false=>
   have e:zpH x (y::l)=0:=by unfold zpH;rw[List.takeWhile_cons,if_neg (by rw[hy];simp)];rfl
   rw[e,decide_eq_false (by omega)]
   cases m with
   |zero=>exact hy
   |succ m=>
    have hm':m<l.length:=by simpa using hm
    rw[List.getElem_cons_succ]
    cases hz:kltS l[m] x with
    |false=>rfl
    |true=>
     have:=kS.tr (hc.1 _ (List.getElem_mem hm')) hz
     rw[hy]at this;cases this
theorem rank_at{x:L8}{l:List L8}(h:RiL l):l.contains x=match l[zpH x l]? with
  |some y=>y==x
  |none=>false:=by
 cases hc:l.contains x with
 |true=>
  obtain⟨m,hm,e⟩:=List.getElem_of_mem (List.contains_iff_mem.1 hc)
  have h1:=yjT (x:=x) h hm
  rw[e,kS.irr]at h1
  have h1:¬m<zpH x l:=of_decide_eq_false h1.symm
  have h2:zpH x l=m:=by
   refine Nat.le_antisymm (by omega) (Nat.le_of_not_lt fun hl=>?_)
   have h3:kltS l[zpH x l] l[m]=true:=List.pairwise_iff_getElem.1 h _ _ (by omega) hm hl
   rw[e]at h3
   rw[yjT h (by omega)]at h3
   have:=of_decide_eq_true h3
   omega
  rw[h2,List.getElem?_eq_getElem hm,e]
  simp
 |false=>
  cases hg:l[zpH x l]? with
  |none=>rfl
  |some y=>
   have hy:=List.mem_of_getElem? hg
   show false=(y==x)
   cases hb:y==x with
   |false=>rfl
   |true=>
    rw[beq_iff_eq.1 hb]at hy
    rw[List.contains_iff_mem.2 hy]at hc;cases hc
theorem bs_ok{l:List L8}(x:L8)(h:RiL l)(hl:l.length<=1048576):zdL zaB l x=some ((zpH x l:Int),l.contains x):=by
 have hr:=ywY x l
 have hi:iter (fun s:Int×Int=>zeX zaB l x s.1 s.2) ((0:Int),(l.length:Int))=some (zpH x l:Int):=by
  have ht:T (iter (fun s:Int×Int=>zeX zaB l x s.1 s.2) ((0:Int),(l.length:Int))) fun r=>r=(zpH x l:Int):=by
   refine T.iter (fun s=>∃i j:Nat,s=((i:Int),(j:Int))/\i<=zpH x l/\zpH x l<=j/\j<=l.length) (fun s=>(s.2-s.1).toNat) _ ?_ ⟨0,l.length,rfl,by omega,hr,by omega⟩ (by simp;omega)
   rintro s ⟨i,j,rfl,h1,h2,h3⟩
   unfold zeX
   simp only
   refine T.dif (fun hij=>?_) fun hij=>T.ok (by show(i:Int)=_;omega)
   have hij:i<j:=by omega
   rw[show chk (decide ((0:Int)<=((1:UInt64).toNat:Int)))=some ()from rfl,zaA,half_ok (by omega)]
   have hm:(i+j)/2<l.length:=by omega
   rw[ziE rfl hm,zaA,less_ok,zaA,yjT h hm]
   refine T.dif (fun hlt=>?_) fun hlt=>?_
   ·refine T.ok ⟨⟨(i+j)/2+1,j,?_,by omega,h2,h3⟩,?_⟩
    ·rw[zsJ (by omega)]
    ·rw[zsJ (by omega)];simp only;omega
   ·exact T.ok ⟨⟨i,(i+j)/2,rfl,h1,by omega,by omega⟩,by simp only;omega⟩
  obtain⟨r,h1,rfl⟩:=ht
  exact h1
 unfold zdL
 rw[hi,zaA,rank_at h]
 by_cases hlt:zpH x l<l.length
 ·rw[zhQ (show(zpH x l:Int)<(l.length:Int) by omega),ziE rfl hlt,zaA,List.getElem?_eq_getElem hlt]
  simp only
  cases hb:l[zpH x l]==x with
  |true=>rfl
  |false=>
   rw[cond_false,zaA]
   unfold zoU
   rw[zaA,bne_self_eq_false]
   rfl
 ·rw[ziI (show ¬(zpH x l:Int)<(l.length:Int) by omega),List.getElem?_eq_none (by omega)]
theorem ybR{l:List L8}(x:L8)(h:RiL l)(hl:l.length<=1048576):zaW zaB l x=some (l.contains x):=by
 unfold zaW
 rw[bs_ok x h hl,zaA]
theorem yuT(x:L8)(l:List L8):l.take (zpH x l)++[x]++l.drop (zpH x l)=ymU x l:=by
 have e:=List.takeWhile_append_dropWhile (p:=fun y=>kltS y x) (l:=l)
 unfold ymU zpH
 generalize l.takeWhile (fun y=>kltS y x)=a at e ⊢
 generalize l.dropWhile (fun y=>kltS y x)=b at e ⊢
 subst e
 rw[List.take_left' rfl,List.drop_left' rfl,List.append_assoc];rfl
theorem ypJ{l:List L8}(x:L8)(h:RiL l)(hl:l.length<=1048575):zeL zaB l x=some (ymU x l):=by
 have hr:=ywY x l
 unfold zeL
 rw[bs_ok x h (by omega),zaA,zzA _ (by omega),zaA]
 simp only[xfB,insP]
 rw[show(decide ((0:Int)<=(zpH x l:Int))&&decide ((zpH x l:Int).toNat<=l.length)&&decide (1<=[x].length)&&decide (l.length+[x].length<=1048576))=true by simp;omega,cond_true,zaA,Int.toNat_natCast,yuT]
theorem zzE(l:List L8)(x:L8)(hl:l.length<=1048576):zaX zaB l x=some (woL x l):=by
 unfold zaX
 rw[zzA _ (by omega),zaA]
 simp only
 rw[zhQ (by omega)]
 rfl
theorem ris_ok{l:List L8}{may:L8->Bool}{n:Nat}{body:Int->Option (Int⊕(Bool⊕Unit))}(hl:l.length<=1048576)
  (hb:∀(k:Nat) (hk:k<l.length),body (k:Int)=bif !may l[k]then some (.inr (.inl false))else bif decide ((k:Int)>(0:Int))then(idx l (w64 ((k:Int)-(1:Int)))).bind fun v5=>bif(Op.bytesLess l[k] v5||l[k]==v5)then some (.inr (.inl false))else some (.inl (w64 ((k:Int)+(1:Int))))else some (.inl (w64 ((k:Int)+(1:Int)))))
  (he:body (l.length:Int)=some (.inr (.inr ()))):
  ((iter body (0:Int)).bind fun v6=>match v6 with
   |.inl v7=>some v7
   |.inr _=>some (decide ((l.length:Int)<=(n:Int))))=some (ybI n may l):=by
 have key:∀(f k:Nat),f+k=l.length->∀g,f<g->(0<k->∀y,l[k-1]? = some y->True)->zoJ body g (k:Int)=some (bif(l.drop k).all may&&zrY (l.drop (k-1))then .inr ()else .inl false):=by
  intro f
  induction f with
  |zero=>
   intro k hk g hg _
   obtain⟨g,rfl⟩:∃m,g=m+1:=⟨g-1,by omega⟩
   have hk:k=l.length:=by omega
   subst hk
   rw[zcF he,List.drop_length]
   have:zrY (l.drop (l.length-1))=true:=by
    have hlen:(l.drop (l.length-1)).length<=1:=by rw[List.length_drop];omega
    match l.drop (l.length-1),hlen with
    |[],_=>rfl
    |[_],_=>rfl
   rw[this];rfl
  |succ f ih=>
   intro k hk g hg _
   obtain⟨g,rfl⟩:∃m,g=m+1:=⟨g-1,by omega⟩
   have hlt:k<l.length:=by omega
   have hd:l.drop k=l[k]::l.drop (k+1):=List.drop_eq_getElem_cons hlt
   have hb':=hb k hlt
   cases hm:may l[k] with
   |false=>
    rw[hm]at hb'
    rw[zcF (b:=.inl false) hb',hd,List.all_cons,hm]
    rfl
   |true=>
    rw[hm]at hb'
    simp only[Bool.not_true,cond_false]at hb'
    cases k with
    |zero=>
     rw[show decide (((0:Nat):Int)>(0:Int))=false from rfl,cond_false]at hb'
     rw[zcG (s':=((1:Nat):Int)) (by rw[hb'];rfl),ih 1 (by omega) g (by omega) (fun _ _ _=>trivial),hd,List.all_cons,hm,Bool.true_and,<-hd]
    |succ k=>
     have hp:k<l.length:=by omega
     have hd2:l.drop k=l[k]::l.drop (k+1):=List.drop_eq_getElem_cons hp
     rw[decide_eq_true (show(((k+1:Nat):Int))>0 by omega),cond_true,show w64 (((k+1:Nat):Int)-1)=(k:Int) by rw[zrL (by omega) (by omega)];omega,ziE rfl hp,zaA,zsJ (by omega)]at hb'
     have hr:zrY (l.drop k)=(Op.bytesLess l[k] l[k+1]&&zrY (l.drop (k+1))):=by rw[hd2,hd];rfl
     have hq:(Op.bytesLess l[k+1] l[k]||l[k+1]==l[k]) = !(Op.bytesLess l[k] l[k+1]):=by
      have h1:Op.bytesLess l[k] l[k+1]=kltS l[k] l[k+1]:=rfl
      have h2:Op.bytesLess l[k+1] l[k]=kltS l[k+1] l[k]:=rfl
      rw[h1,h2]
      by_cases e:l[k+1]=l[k]
      ·rw[e,kS.irr];simp
      ·rw[beq_false_of_ne e,Bool.or_false]
       cases hx:kltS l[k] l[k+1] with
       |true=>
        cases hy:kltS l[k+1] l[k] with
        |false=>rfl
        |true=>have:=kS.tr hx hy;rw[kS.irr]at this;cases this
       |false=>exact kS.tri hx fun e'=>e e'.symm
     rw[hq]at hb'
     rw[Nat.add_sub_cancel,hr,hd,List.all_cons,hm,Bool.true_and]
     cases hx:Op.bytesLess l[k] l[k+1] with
     |false=>
      rw[hx]at hb'
      rw[zcF (b:=.inl false) hb']
      simp
     |true=>
      rw[hx]at hb'
      rw[zcG (s':=((k+1+1:Nat):Int)) hb',ih (k+1+1) (by omega) g (by omega) (fun _ _ _=>trivial),Nat.add_sub_cancel,Bool.true_and,hd]
 have h0:=key l.length 0 (by omega) FU (by unfold FU;omega) (fun h=>by omega)
 unfold iter
 rw[show((0:Nat):Int)=0 from rfl]at h0
 rw[h0,zaA]
 unfold ybI
 rw[Nat.zero_sub,List.drop_zero]
 cases l.all may&&zrY l with
 |false=>rfl
 |true=>
  show some (decide ((l.length:Int)<=(n:Int)))=_
  rw[Bool.true_and]
  congr 1
  exact decide_eq_decide.2 (by omega)
theorem ynD{l:List L8}(hl:l.length<=1048576)(n:Nat):zkE zaB l (n:Int)=some (ybI n scB l):=by
 unfold zkE
 refine ris_ok hl (fun k hk=>?_) ?_
 ·unfold zrJ
  rw[zhQ (by omega),ziE rfl hk,zaA,sc_ok,zaA]
 ·unfold zrJ
  rw[ziI (by omega)]
theorem xaN{l:List L8}(hl:l.length<=1048576)(n:Nat):zmJ zaB l (n:Int)=some (ybI n txB l):=by
 unfold zmJ
 refine ris_ok hl (fun k hk=>?_) ?_
 ·unfold zqK
  rw[zhQ (by omega),ziE rfl hk,zaA,yzY,zaA]
 ·unfold zqK
  rw[ziI (by omega)]
theorem role_ok{r:Ro}(h:r.2.length<=1048576):zmY zaB r=some (yjV r):=by
 unfold zmY yjV
 rw[zxE,zaA]
 cases nmB r.1 with
 |false=>rfl
 |true=>
  rw[cond_true,show((16:Int))=((16:Nat):Int)from rfl,ynD h,zaA]
  rfl
theorem yqR{r:Ro}(h:r.2.length<=1048576):zeR zaB r=some r:=by
 unfold zeR
 rw[zzA _ (by omega),zaA]
theorem ypL{c:Cl}(h:c.2.2.1.length<=1048576)(k:c.2.2.2.1.length<=1048576):ziH zaB c=some c:=by
 unfold ziH
 rw[zzA _ (by omega),zaA,zzA _ (by omega),zaA]
abbrev hexL:L8:=[48,49,50,51,52,53,54,55,56,57,97,98,99,100,101,102]
theorem hex_is(b:UInt8):hexL.contains b=hexB b:=by
 have:=ykU (fun b=>hexL.contains b==hexB b) (by kernel_rfl) b
 simpa using this
theorem cli_ok{c:Cl}(h0:c.2.1.length<=1048576)(h:c.2.2.1.length<=1048576)(k:c.2.2.2.1.length<=1048576):ziT zaB c=some (cliB c):=by
 have hj:zqB zaB c=some (c.2.1==[]||(decide (c.2.1.length=64)&&c.2.1.all hexB),c):=by
  unfold zqB
  cases h1:c.2.1==([]:L8) with
  |true=>rfl
  |false=>
   rw[cond_false,Bool.false_or]
   by_cases h2:c.2.1.length=64
   ·rw[show((c.2.1.length:Int)==(64:Int))=true by rw[h2];rfl,cond_true,show zaB.trim c.2.1 hexL=some (Lib.trimS c.2.1 hexL)from trim_is (by omega) (by decide) (by decide),zaA,decide_eq_true h2,Bool.true_and]
    congr 2
    rw[Bool.eq_iff_iff,beq_iff_eq,ynS,List.all_eq_true]
    exact forall_congr' fun b=>imp_congr Iff.rfl (by rw[hex_is])
   ·rw[show((c.2.1.length:Int)==(64:Int))=false by rw[beq_eq_false_iff_ne];omega,decide_eq_false h2]
    rfl
 unfold ziT cliB
 rw[hj,zaA,zxE,zaA]
 cases nmB c.1 with
 |false=>rfl
 |true=>
  rw[cond_true,Bool.true_and]
  cases (c.2.1==[]||(decide (c.2.1.length=64)&&c.2.1.all hexB)) with
  |false=>rfl
  |true=>
   rw[cond_true,Bool.true_and,show((16:Int))=((16:Nat):Int)from rfl,xaN h,zaA]
   cases ybI 16 txB c.2.2.1 with
   |false=>rfl
   |true=>
    rw[cond_true,ynD k,zaA]
    rfl
theorem no_subs{G:GM}(_hR:Ri kltS G){a x:L8}(h:x∈lst 1 (zcD keqS G a zG)):∃g,(a,g)∈G/\x∈lst 1 g:=by
 rw[zgY]at h
 cases hg:mget keqS G a with
 |none=>rw[hg]at h;cases h
 |some g=>rw[hg]at h;exact⟨g,kS.get_some hg,h⟩
theorem ylU{G:GM}(hR:Ri kltS G){a:L8}{g:Gr}(h:(a,g)∈G):zcD keqS G a zG=g:=by rw[zgY,kS.get_mem hR h];rfl
abbrev SM:Type:=List (L8×Unit)
def ybJ(z:SM×List L8)(x:L8):SM×List L8:=bif mhas keqS z.1 x then z else(mset keqS kltS z.1 x (),z.2++[x])
theorem ykW:∀(l:List L8) (z:SM×List L8),Ri kltS z.1->Ri kltS (l.foldl ybJ z).1/\(∀x,mhas keqS (l.foldl ybJ z).1 x=true↔mhas keqS z.1 x=true∨x∈l)/\∃n,(l.foldl ybJ z).2=z.2++n/\(l.foldl ybJ z).1.length=z.1.length+n.length/\(∀x∈n,x∈l)/\∀x,mhas keqS (l.foldl ybJ z).1 x=true->mhas keqS z.1 x=true∨x∈n
 |[],z,h=>⟨h,fun x=>by simp,[],by simp,rfl,fun _ h=>h,fun _ h=>.inl h⟩
 |y::l,z,h=>by
  rw[List.foldl_cons]
  cases hy:mhas keqS z.1 y with
  |true=>
   have e:ybJ z y=z:=by unfold ybJ;rw[hy];rfl
   rw[e]
   obtain⟨h1,h2,n,h3,h4,h5,h6⟩:=ykW l z h
   refine⟨h1,fun x=>?_,n,h3,h4,fun x hx=>List.mem_cons_of_mem _ (h5 x hx),h6⟩
   rw[h2,List.mem_cons]
   constructor
   ·rintro(h|h)
    ·exact .inl h
    ·exact .inr (.inr h)
   ·rintro(h|rfl|h)
    ·exact .inl h
    ·exact .inl hy
    ·exact .inr h
  |false=>
   have e:ybJ z y=(mset keqS kltS z.1 y (),z.2++[y]):=by unfold ybJ;rw[hy];rfl
   have hs:∀x,mhas keqS (mset keqS kltS z.1 y ()) x=true↔x=y∨mhas keqS z.1 x=true:=fun x=>by
    rw[zfW,kS.set_get h,zfW]
    by_cases hk:keqS y x=true
    ·rw[if_pos hk]
     have:=kS.e.1 hk
     subst this
     simp
    ·rw[if_neg hk]
     have:x≠y:=fun e=>hk (kS.e.2 e.symm)
     simp[this]
   rw[e]
   obtain⟨h1,h2,n,h3,h4,h5,h6⟩:=ykW l (mset keqS kltS z.1 y (),z.2++[y]) (kS.set_ri h)
   refine⟨h1,fun x=>?_,y::n,by rw[h3,List.append_assoc];rfl,?_,fun x hx=>?_,fun x hx=>?_⟩
   ·rw[h2,List.mem_cons,hs]
    constructor
    ·rintro((h|h)|h)
     ·exact .inr (.inl h)
     ·exact .inl h
     ·exact .inr (.inr h)
    ·rintro(h|h|h)
     ·exact .inl (.inr h)
     ·exact .inl (.inl h)
     ·exact .inr h
   ·rw[h4]
    show(mset keqS kltS z.1 y ()).length+n.length=_
    rw[zuY,hy,if_neg (by simp),List.length_cons];omega
   ·rcases List.mem_cons.1 hx with rfl|hx
    ·exact List.mem_cons_self
    ·exact List.mem_cons_of_mem _ (h5 x hx)
   ·rcases h6 x hx with h|h
    ·rcases(hs x).1 h with rfl|h
     ·exact .inr List.mem_cons_self
     ·exact .inl h
    ·exact .inr (List.mem_cons_of_mem _ h)
def ymR(G:GM):List L8:=G.flatMap fun p=>lst 1 p.2
theorem yoS{s:PS}{g:Gr}(hl:(lst 1 g).length<=1048576):∀(f k:Nat) (z:SM×List L8),f+k=(lst 1 g).length->z.2.length+f<=68719476736->∀n,f<n ->
  zoJ (fun x:Int×UM×GM×RM×CM×MM×SM×List L8=>zdT zaB g x.1 x.2.1 x.2.2.1 x.2.2.2.1 x.2.2.2.2.1 x.2.2.2.2.2.1 x.2.2.2.2.2.2.1 x.2.2.2.2.2.2.2) n ((k:Int),s.1,s.2.1,s.2.2.1,s.2.2.2.1,s.2.2.2.2,z.1,z.2)=some (s.1,s.2.1,s.2.2.1,s.2.2.2.1,s.2.2.2.2,((lst 1 g).drop k).foldl ybJ z)
 |0,k,z,hk,_,n+1,_=>by
  have hk:k=(lst 1 g).length:=by omega
  subst hk
  rw[List.drop_length]
  refine zcF ?_
  unfold zdT
  simp only
  rw[ziI (by show ¬((lst 1 g).length:Int)<((lst 1 g).length:Int);omega)]
  rfl
 |f+1,k,z,hk,hz,n+1,hn=>by
  have hlt:k<(lst 1 g).length:=by omega
  rw[List.drop_eq_getElem_cons hlt,List.foldl_cons]
  have e:=yoS (s:=s) hl f (k+1) (ybJ z (lst 1 g)[k]) (by omega) (by
   unfold ybJ
   cases mhas keqS z.1 (lst 1 g)[k] with
   |true=>rw[cond_true];omega
   |false=>rw[cond_false];simp;omega) n (by omega)
  rw[<-e]
  refine zcG ?_
  unfold zdT
  simp only
  rw[zhQ (by show(k:Int)<((lst 1 g).length:Int);omega),show idx g.1.2.1 (k:Int)=some (lst 1 g)[k]from ziE rfl hlt,zaA,zsJ (by omega)]
  unfold ybJ
  cases mhas keqS z.1 (lst 1 g)[k] with
  |true=>rfl
  |false=>
   rw[Bool.not_false,cond_true,zkB (by simp;omega),zaA]
   rfl
theorem ywE{B:Int}{s:PS}(h:PInv B s)(a b:L8):∃r:Bool,zfB zaB a b s.1 s.2.1 s.2.2.1 s.2.2.2.1 s.2.2.2.2=some (r,s)/\(r=true↔Reach s.2.1 a b):=by
 have hlen:∀k g,(k,g)∈s.2.1->(lst 1 g).length<=32:=fun k g hg=>by
  obtain⟨h1,h2⟩:=h.gl k g hg 1 (by decide)
  have:=h1.sub_len (m:=s.2.1.map (·.1)) fun x hx=>by
   obtain⟨v,hv⟩:=kS.has_iff.1 (show mhas keqS s.2.1 x=true from h2 x hx)
   exact List.mem_map.2 ⟨_,hv,rfl⟩
  rw[List.length_map]at this
  exact Nat.le_trans this h.gL
 have hlenD:∀k,(lst 1 (zcD keqS s.2.1 k zG)).length<=32:=fun k=>by
  rw[zgY]
  cases hg:mget keqS s.2.1 k with
  |none=>exact Nat.zero_le _
  |some g=>exact hlen k g (kS.get_some hg)
 have hU:(a::ymR s.2.1).length<=1100:=by
  have:∀G:GM,(∀k g,(k,g)∈G->(lst 1 g).length<=32)->(ymR G).length<=32*G.length:=by
   intro G
   induction G with
   |nil=>intro _;exact Nat.le_refl _
   |cons p G ih=>
    intro hg
    have h1:=ih fun k g hk=>hg k g (List.mem_cons_of_mem _ hk)
    have h2:=hg p.1 p.2 List.mem_cons_self
    unfold ymR at *
    rw[List.flatMap_cons,List.length_append,List.length_cons];omega
  have:=this s.2.1 hlen
  have:=h.gL
  rw[List.length_cons];omega
 let I:UM×GM×RM×CM×MM×SM×List L8->Prop:=fun t=>(t.1,t.2.1,t.2.2.1,t.2.2.2.1,t.2.2.2.2.1)=s/\Ri kltS t.2.2.2.2.2.1/\(∀x,mhas keqS t.2.2.2.2.2.1 x=true->x∈a::ymR s.2.1/\Reach s.2.1 a x)/\(∀x∈t.2.2.2.2.2.2,mhas keqS t.2.2.2.2.2.1 x=true)/\mhas keqS t.2.2.2.2.2.1 a=true /\
  (∀x,mhas keqS t.2.2.2.2.2.1 x=true->x∈t.2.2.2.2.2.2∨(x≠b/\∀y∈lst 1 (zcD keqS s.2.1 x zG),mhas keqS t.2.2.2.2.2.1 y=true))/\t.2.2.2.2.2.2.length<=t.2.2.2.2.2.1.length
 have hseen:∀t,I t->t.2.2.2.2.2.1.length<=1100:=fun t hI=>by
  obtain⟨_,h1,h2,_⟩:=hI
  have hn:(t.2.2.2.2.2.1.map (·.1)).Nodup:=(List.pairwise_map.2 (h1.imp fun {p q} hpq=>kS.lt_ne hpq):(t.2.2.2.2.2.1.map (·.1)).Pairwise (· ≠ ·))
  have:=zjG hn (m:=a::ymR s.2.1) fun x hx=>by
   obtain⟨p,hp,rfl⟩:=List.mem_map.1 hx
   exact(h2 p.1 (kS.has_iff.2 ⟨p.2,hp⟩)).1
  rw[List.length_map]at this
  omega
 have ht:T (iter (fun x:UM×GM×RM×CM×MM×SM×List L8=>zeC zaB b x.1 x.2.1 x.2.2.1 x.2.2.2.1 x.2.2.2.2.1 x.2.2.2.2.2.1 x.2.2.2.2.2.2) (s.1,s.2.1,s.2.2.1,s.2.2.2.1,s.2.2.2.2,mset keqS kltS ([]:SM) a (),[a])) fun r=>match r with
   |.inl v=>v.2=s/\v.1=true/\Reach s.2.1 a b
   |.inr v=>v=s/\¬Reach s.2.1 a b:=by
  refine T.iter I (fun t=>2*(1100-t.2.2.2.2.2.1.length)+t.2.2.2.2.2.2.length) _ ?_ ?_ ?_
  ·rintro t hI
   have hS:=hseen t hI
   obtain⟨u,g,r,c,m,sn,row⟩:=t
   obtain⟨hs,h1,h2,h3,h4,h5,h6⟩:=hI
   have hs:(u,g,r,c,m)=s:=hs
   subst hs
   simp only at h1 h2 h3 h4 h5 h6 hS ⊢
   unfold zeC
   cases row with
   |nil=>
    refine T.ok (P:=_) ?_
    refine⟨rfl,fun hr=>?_⟩
    have key:∀x,Reach g a x->mhas keqS sn x=true:=fun x hx=>by
     induction hx with
     |refl=>exact h4
     |step _ hg hx ih=>
      rcases h5 _ ih with hb|⟨_,hb⟩
      ·cases hb
      ·rw[ylU h.gR hg]at hb
       exact hb _ hx
    rcases h5 b (key b hr)with hb|⟨hb,_⟩
    ·cases hb
    ·exact hb rfl
   |cons y row=>
    rw[zhQ (by show((y::row).length:Int)>0;rw[List.length_cons];omega)]
    have hck:chk (decide ((0:Int)<=0)&&decide ((0:Int)<((y::row).length:Int)))=some ():=by
     rw[decide_eq_true (show(0:Int)<((y::row).length:Int) by rw[List.length_cons];omega)];rfl
    have hix:idx (y::row) (0:Int)=some y:=rfl
    rw[hck,zaA,hix,zaA]
    by_cases hyb:y=b
    ·subst hyb
     rw[show(y==y)=true from beq_self_eq_true y,cond_true]
     exact T.ok ⟨rfl,rfl,(h2 y (h3 y List.mem_cons_self)).2⟩
    ·rw[beq_false_of_ne hyb,cond_false,zaA,zaA]
     have hy:=h2 y (h3 y List.mem_cons_self)
     have hq:=hlenD y
     simp only at hq
     generalize hgy:zcD keqS g y zG=gy at hq
     show T (Option.bind (iter _ ((0:Int),u,g,r,c,m,sn,y::row)) _) _
     rw[show iter _ ((0:Int),u,g,r,c,m,sn,y::row)=_ from yoS (s:=(u,g,r,c,m)) (g:=gy) (by omega) (lst 1 gy).length 0 (sn,y::row) (by omega) (by simp only[List.length_cons];simp only[List.length_cons]at h6;omega) FU (by unfold FU;omega),zaA,List.drop_zero]
     obtain⟨p1,p2,n,p3,p4,p5,p6⟩:=ykW (lst 1 gy) (sn,y::row) h1
     generalize (lst 1 gy).foldl ybJ (sn,y::row)=z at p1 p2 p3 p4 p6
     obtain⟨sn',row'⟩:=z
     simp only at p1 p2 p3 p4 p6 ⊢
     subst p3
     rw[show subL (y::row++n) (1:Int)=some (row++n) by
      unfold subL
      rw[decide_eq_true (show(0:Int)<=1 by decide),decide_eq_true (show(1:Int)<=((y::row++n).length:Int) by rw[List.cons_append,List.length_cons];omega)]
      rfl,zaA]
     have hI':I (u,g,r,c,m,sn',row++n):=by
      refine⟨rfl,p1,fun x hx=>?_,fun x hx=>?_,(p2 a).2 (.inl h4),fun x hx=>?_,?_⟩
      ·rcases(p2 x).1 hx with hx|hx
       ·exact h2 x hx
       ·rw[<-hgy]at hx
        obtain⟨g',hg',hxg⟩:=no_subs h.gR hx
        exact⟨List.mem_cons_of_mem _ (List.mem_flatMap.2 ⟨(y,g'),hg',hxg⟩),.step hy.2 hg' hxg⟩
      ·rcases List.mem_append.1 hx with hx|hx
       ·exact(p2 x).2 (.inl (h3 x (List.mem_cons_of_mem _ hx)))
       ·exact(p2 x).2 (.inr (p5 x hx))
      ·show x∈row++n∨(x≠b/\∀y'∈lst 1 (zcD keqS g x zG),mhas keqS sn' y'=true)
       by_cases hxy:x=y
       ·subst hxy
        refine .inr ⟨hyb,fun y' hy'=>?_⟩
        rw[hgy]at hy'
        exact(p2 y').2 (.inr hy')
       ·by_cases hxs:mhas keqS sn x=true
        ·rcases h5 x hxs with hb|⟨hb,hb2⟩
         ·exact .inl (List.mem_append_left _ ((List.mem_cons.1 hb).resolve_left hxy))
         ·exact .inr ⟨hb,fun y' hy'=>(p2 y').2 (.inl (hb2 y' hy'))⟩
        ·exact .inl (List.mem_append_right _ ((p6 x hx).resolve_left hxs))
      ·show(row++n).length<=sn'.length
       simp only[List.length_cons]at h6
       rw[p4,List.length_append];omega
     refine T.ok ⟨hI',?_⟩
     have hS':=hseen _ hI'
     simp only at hS' ⊢
     rw[p4]at hS' ⊢
     rw[List.length_append,List.length_cons];omega
  ·have hset:mset keqS kltS ([]:SM) a ()=[(a,())]:=rfl
   refine⟨rfl,kS.set_ri .nil,fun x hx=>?_,fun x hx=>?_,kS.has_iff.2 ⟨(),List.mem_cons_self⟩,fun x hx=>?_,Nat.le_refl _⟩
   ·obtain⟨v,hv⟩:=kS.has_iff.1 hx
    rw[show(mset keqS kltS ([]:SM) a (),[a]).1=[(a,())]from rfl]at hv
    cases List.mem_singleton.1 hv
    exact⟨List.mem_cons_self,.refl⟩
   ·rw[List.mem_singleton.1 hx];exact kS.has_iff.2 ⟨(),List.mem_cons_self⟩
   ·obtain⟨v,hv⟩:=kS.has_iff.1 hx
    cases List.mem_singleton.1 (show(x,v)∈[(a,())]from hv)
    exact .inl List.mem_cons_self
  ·show 2*(1100-1)+1<1099511627776;decide
 obtain⟨r,h1,h2⟩:=ht
 unfold zfB
 refine ?_
 have e:(iter (fun x:UM×GM×RM×CM×MM×SM×List L8=>zeC zaB b x.1 x.2.1 x.2.2.1 x.2.2.2.1 x.2.2.2.2.1 x.2.2.2.2.2.1 x.2.2.2.2.2.2) (s.1,s.2.1,s.2.2.1,s.2.2.2.1,s.2.2.2.2,mset keqS kltS ([]:SM) a (),[a]))=some r:=h1
 simp only
 rw[e,zaA]
 match r,h2 with
 |.inl (v1,v2),⟨q1,q2,q3⟩=>
  have q1:v2=s:=q1
  have q2:v1=true:=q2
  subst q1;subst q2
  exact⟨true,rfl,fun _=>q3,fun _=>rfl⟩
 |.inr v,⟨q1,q2⟩=>
  subst q1
  exact⟨false,rfl,fun h=>(by cases h),fun h=>absurd h q2⟩
theorem zkK{s:L8}(h:nmB s=true):s.length<=24:=by
 rw[nm_is,Bool.and_eq_true,Bool.and_eq_true]at h
 exact of_decide_eq_true h.1.2
theorem PInv.lst_len{B:Int}{s:PS}(h:PInv B s){k:L8}{g:Gr}(hg:(k,g)∈s.2.1){i:Nat}(hi:i<3):(lst i g).length<=64:=by
 obtain⟨h1,h2⟩:=h.gl k g hg i hi
 have key:∀{γ:Type} {es:List (L8×γ)},(∀x∈lst i g,mhas keqS es x=true)->(lst i g).length<=es.length:=fun {γ es} hh=>by
  have:=h1.sub_len (m:=es.map (·.1)) fun x hx=>by
   obtain⟨v,hv⟩:=kS.has_iff.1 (hh x hx)
   exact List.mem_map.2 ⟨_,hv,rfl⟩
  rwa[List.length_map]at this
 match i,hi with
 |0,_=>exact Nat.le_trans (key h2) h.uL
 |1,_=>exact Nat.le_trans (key h2) (Nat.le_trans h.gL (by decide))
 |2,_=>exact Nat.le_trans (key h2) (Nat.le_trans h.rL (by decide))
abbrev T6(γ:Type):Type:=UM×GM×RM×CM×MM×γ
theorem addU_ok(n m:L8)(s:PS):zbW zaB n m s.1 s.2.1 s.2.2.1 s.2.2.2.1 s.2.2.2.2=some (ynG n m s):=by
 unfold zbW zkZ ynG
 rw[zxE,zaA]
 cases nmB n with
 |false=>rfl
 |true=>
  rw[Bool.not_true,cond_false,yzY,zaA]
  cases txB m with
  |false=>rfl
  |true=>
   rw[Bool.not_true,cond_false,zaA]
   simp only[Bool.or_false,cond_false]
   cases mhas keqS s.1 n with
   |true=>rfl
   |false=>
    rw[cond_false,cond_false]
    by_cases h:64<=s.1.length
    ·rw[zhQ (show(s.1.length:Int)≥64 by omega),decide_eq_true h];rfl
    ·rw[ziI (show ¬(s.1.length:Int)≥64 by omega),decide_eq_false h];rfl
theorem us_eq(a b:L8)(c:Bool)(d:Int)(u:Us):(!((a==u.1)&&((b==u.2.1)&&((c==u.2.2.1)&&(decide (d=u.2.2.2)))))) = !decide ((a,b,c,d)=u):=by
 congr 1
 rw[Bool.eq_iff_iff]
 simp only[Bool.and_eq_true,beq_iff_eq,decide_eq_true_eq]
 obtain⟨a',b',c',d'⟩:=u
 simp
theorem turnJ1(U:UM)(G:GM)(R:RM)(C:CM)(M:MM)(u:Us)(a b m:L8)(c:Bool)(d:Int):ziM zaB U G R C M u (a,b,c,d,m)=some (m,U,G,R,C,M,if(a,b,c,d)=u then(a,b,c,d)else(a,b,c,w64 (d+1))):=by
 unfold ziM
 show(bif(!((a==u.1)&&((b==u.2.1)&&((c==u.2.2.1)&&(decide (d=u.2.2.2))))))then _ else _)=_
 rw[us_eq]
 by_cases e:(a,b,c,d)=u
 ·rw[decide_eq_true e,if_pos e];rfl
 ·rw[decide_eq_false e,if_neg e];rfl
theorem turnJ2(U:UM)(G:GM)(R:RM)(C:CM)(M:MM)(u:Us)(a b:L8)(m c:Bool)(d:Int):zhT zaB U G R C M u (a,b,c,d,m)=some (m,U,G,R,C,M,if(a,b,c,d)=u then(a,b,c,d)else(a,b,c,w64 (d+1))):=by
 unfold zhT
 show(bif(!((a==u.1)&&((b==u.2.1)&&((c==u.2.2.1)&&(decide (d=u.2.2.2))))))then _ else _)=_
 rw[us_eq]
 by_cases e:(a,b,c,d)=u
 ·rw[decide_eq_true e,if_pos e];rfl
 ·rw[decide_eq_false e,if_neg e];rfl
theorem xfQ{B:Int}(hB:B<=1099511627776){s:PS}(h:PInv B s)(n m:L8):zgA zaB n m s.1 s.2.1 s.2.2.1 s.2.2.2.1 s.2.2.2.2=some ((yhP n (fun u=>(u.1,m,u.2.2)) s).1,m,(yhP n (fun u=>(u.1,m,u.2.2)) s).2):=by
 unfold zgA yhP
 rw[zxE,zaA]
 cases nmB n with
 |false=>rfl
 |true=>
  simp only[Bool.not_true,cond_false]
  rw[zfW,zgY]
  cases hg:mget keqS s.1 n with
  |none=>rfl
  |some u=>
   have h1:=h.us n u (kS.get_some hg)
   simp only[Option.isSome_some,Bool.not_true,cond_false,Option.getD_some]
   unfold zfT
   rw[zaA,turnJ1,zaA,show w64 (u.2.2.2+1)=u.2.2.2+1 from zrL (by omega) (by omega)]
   by_cases e:(u.1,m,u.2.2.1,u.2.2.2)=u
   ·rw[if_pos e,if_pos (show(u.1,m,u.2.2)=u from e),e]
   ·rw[if_neg e,if_neg (show ¬(u.1,m,u.2.2)=u from e)]
theorem xdS{B:Int}(hB:B<=1099511627776){s:PS}(h:PInv B s)(n:L8)(b:Bool):zfN zaB n b s.1 s.2.1 s.2.2.1 s.2.2.2.1 s.2.2.2.2=some ((yvR n b s).1,b,(yvR n b s).2):=by
 unfold zfN yvR yhP
 rw[zxE,zaA]
 cases nmB n with
 |false=>rfl
 |true=>
  simp only[Bool.not_true,cond_false]
  rw[zfW,zgY]
  cases hg:mget keqS s.1 n with
  |none=>rfl
  |some u=>
   have h1:=h.us n u (kS.get_some hg)
   simp only[Option.isSome_some,Bool.not_true,cond_false,Option.getD_some]
   unfold zeS
   rw[zaA,turnJ2,zaA,show w64 (u.2.2.2+1)=u.2.2.2+1 from zrL (by omega) (by omega)]
   by_cases e:(u.1,u.2.1,b,u.2.2.2)=u
   ·rw[if_pos e,if_pos e,e]
   ·rw[if_neg e,if_neg e]
theorem setM_ok{B:Int}(hB:B<=1099511627776){s:PS}(h:PInv B s)(n m:L8):zeI zaB n m s.1 s.2.1 s.2.2.1 s.2.2.2.1 s.2.2.2.2=some (yvG n m s):=by
 unfold zeI yvG
 rw[yzY,zaA]
 cases txB m with
 |false=>rfl
 |true=>rw[Bool.not_true,cond_false,xfQ hB h,zaA];rfl
theorem setA_ok{B:Int}(hB:B<=1099511627776){s:PS}(h:PInv B s)(n:L8)(b:Bool):zdF zaB n b s.1 s.2.1 s.2.2.1 s.2.2.2.1 s.2.2.2.2=some (yvR n b s):=by
 unfold zdF
 rw[xdS hB h,zaA]
def stW:Nat->Gr->List L8->Gr
 |0,g,l=>((l,g.1.2.1,g.1.2.2),w64 (g.2+1))
 |1,g,l=>((g.1.1,l,g.1.2.2),w64 (g.2+1))
 |_,g,l=>((g.1.1,g.1.2.1,l),w64 (g.2+1))
theorem stW_ok(k:Nat){g:Gr}(l:List L8)(h:1<=g.2/\g.2<=1099511627776):stW k g l=stL k g l:=by
 have e:w64 (g.2+1)=g.2+1:=zrL (by omega) (by omega)
 match k with
 |0=>show((l,g.1.2.1,g.1.2.2),w64 (g.2+1))=_;rw[e];rfl
 |1=>show((g.1.1,l,g.1.2.2),w64 (g.2+1))=_;rw[e];rfl
 |k+2=>show((g.1.1,g.1.2.1,l),w64 (g.2+1))=_;rw[e];rfl
noncomputable def fgtF(k:Nat)(n:L8)(x:T6 (List L8))(p:L8×Gr):Option (T6 (List L8)⊕PS):=
 (mget keqS x.2.1 p.1).bind fun g=>(zaW zaB (lst k g) n).bind fun q=>bif q then(zaX zaB (lst k g) n).bind fun l=>(chk (mhas keqS x.2.1 p.1)).bind fun _=>some (.inl (x.1,mrep keqS x.2.1 p.1 (stW k g l),x.2.2.1,x.2.2.2.1,x.2.2.2.2.1,rngD keqS x.2.2.2.2.2 p.1))else some (.inl (x.1,x.2.1,x.2.2.1,x.2.2.2.1,x.2.2.2.2.1,rngD keqS x.2.2.2.2.2 p.1))
def yaK(k:Nat)(n:L8)(left:List L8)(G:GM):GM:=mmap (fun m g=>bif left.contains m then g else(bif(lst k g).contains n then stL k g (woL n (lst k g))else g)) G
theorem ycL{B:Int}(hB:B<=1099511627776){k:Nat}(_hk:k<3){n:L8}{s:PS}(G:GM)(hR:Ri kltS G)(hv:∀m g,(m,g)∈G->RiL (lst k g)/\(lst k g).length<=64/\1<=g.2/\g.2<=B){f:T6 (List L8)->List (Option (T6 (List L8)⊕PS))}(hf:∀x,f x=rngL (rngC keqS x.2.1 x.2.2.2.2.2) (some (.inr (x.1,x.2.1,x.2.2.1,x.2.2.2.1,x.2.2.2.2.1))) (fgtF k n x)):
  rngA f (s.1,G,s.2.2.1,s.2.2.2.1,s.2.2.2.2,List.map Prod.fst G)=some (s.1,zgR k n G,s.2.2):=by
 have hk0:∀m,mhas keqS G m=true->∃g,mget keqS G m=some g:=fun m hm=>by rw[zfW]at hm;exact Option.isSome_iff_exists.1 hm
 refine kS.rngA_map (fun x=>∃left:List L8,(∀m∈left,mhas keqS G m=true)/\x=(s.1,yaK k n left G,s.2.2.1,s.2.2.2.1,s.2.2.2.2,left)) (fun x=>x.2.1) (fun x=>x.2.2.2.2.2) hf ?_ ?_ ⟨List.map Prod.fst G,fun m hm=>?_,?_⟩
 ·rintro x ⟨left,hl,rfl⟩ hno
  simp only
  have e:yaK k n left G=zgR k n G:=by
   unfold yaK zgR mmap
   refine List.map_congr_left fun p hp=>?_
   have:left.contains p.1=false:=by
    cases hc:left.contains p.1 with
    |false=>rfl
    |true=>
     have hin:(p.1,bif left.contains p.1 then p.2 else(bif(lst k p.2).contains n then stL k p.2 (woL n (lst k p.2))else p.2))∈yaK k n left G:=List.mem_map.2 ⟨p,hp,rfl⟩
     have h3:=hno _ hin
     exact absurd (List.contains_iff_mem.1 hc) h3
   show(p.1,bif left.contains p.1 then p.2 else _)=_
   rw[this];rfl
  rw[e]
 ·rintro x p ⟨left,hl,rfl⟩ hp hpl
  left
  simp only at hp hpl ⊢
  obtain⟨g,hg⟩:=hk0 p.1 (hl p.1 hpl)
  have hgm:=kS.get_some hg
  obtain⟨v1,v2,v3,v4⟩:=hv p.1 g hgm
  have hget:mget keqS (yaK k n left G) p.1=some g:=by
   unfold yaK
   rw[zvI _ kS,hg,Option.map_some,List.contains_iff_mem.2 hpl];rfl
  have hc2:∀m,(rngD keqS left p.1).contains m=(left.contains m && !(m==p.1)):=fun m=>by
   rw[Bool.eq_iff_iff,List.contains_iff_mem,kS.rngD_mem,Bool.and_eq_true,List.contains_iff_mem,Bool.not_eq_true',<-Bool.not_eq_true,beq_iff_eq]
  have hhr:Ri kltS (yaK k n left G):=yjM hR
  have hleft:∀m∈rngD keqS left p.1,mhas keqS G m=true:=fun m hm=>hl m (kS.rngD_mem.1 hm).1
  cases hq:(lst k g).contains n with
  |true=>
   refine⟨_,?_,⟨rngD keqS left p.1,hleft,rfl⟩,rfl⟩
   unfold fgtF
   simp only
   rw[hget,zaA,ybR n v1 (by omega),zaA,hq,cond_true,zzE _ _ (by omega),zaA,show chk (mhas keqS (yaK k n left G) p.1)=some () by rw[zfW,hget];rfl,zaA,stW_ok k _ (by omega)]
   congr 4
   have hh:mhas keqS (yaK k n left G) p.1=true:=by rw[zfW,hget];rfl
   have e1:mrep keqS (yaK k n left G) p.1 (stL k g (woL n (lst k g)))=mset keqS kltS (yaK k n left G) p.1 (stL k g (woL n (lst k g))):=by unfold mset;rw[hh];rfl
   rw[e1]
   refine kS.ext_get (kS.set_ri hhr) (yjM hR) fun m=>?_
   rw[kS.set_get hhr]
   unfold yaK
   rw[zvI _ kS,zvI _ kS]
   by_cases e:keqS p.1 m=true
   ·rw[if_pos e]
    have e:=kS.e.1 e
    subst e
    rw[hg,Option.map_some,hc2,beq_self_eq_true,Bool.not_true,Bool.and_false,cond_false,hq];rfl
   ·rw[if_neg e]
    have:(m==p.1)=false:=beq_false_of_ne fun e'=>e (kS.e.2 e'.symm)
    cases mget keqS G m with
    |none=>rfl
    |some g'=>rw[Option.map_some,Option.map_some,hc2,this,Bool.not_false,Bool.and_true]
  |false=>
   refine⟨_,?_,⟨rngD keqS left p.1,hleft,rfl⟩,rfl⟩
   unfold fgtF
   simp only
   rw[hget,zaA,ybR n v1 (by omega),zaA,hq,cond_false]
   congr 4
   refine kS.ext_get hhr (yjM hR) fun m=>?_
   unfold yaK
   rw[zvI _ kS,zvI _ kS]
   by_cases e:m=p.1
   ·subst e
    rw[hg,Option.map_some,Option.map_some,hc2,beq_self_eq_true,Bool.not_true,Bool.and_false,cond_false,hq,List.contains_iff_mem.2 hpl];rfl
   ·have:(m==p.1)=false:=beq_false_of_ne e
    cases mget keqS G m with
    |none=>rfl
    |some g'=>rw[Option.map_some,Option.map_some,hc2,this,Bool.not_false,Bool.and_true]
 ·obtain⟨p,hp,rfl⟩:=List.mem_map.1 hm
  exact kS.has_iff.2 ⟨p.2,hp⟩
 ·have e:yaK k n (List.map Prod.fst G) G=G:=by
   unfold yaK mmap
   refine Eq.trans (List.map_congr_left fun p hp=>?_) (List.map_id G)
   show(p.1,bif(List.map Prod.fst G).contains p.1 then p.2 else _)=p
   rw[List.contains_iff_mem.2 (List.mem_map.2 ⟨p,hp,rfl⟩)];rfl
  rw[e]
theorem PInv.fgt{B:Int}{s:PS}(h:PInv B s){k:Nat}(hk:k<3){G:GM}(hG:G.Sublist s.2.1):∀m g,(m,g)∈G->RiL (lst k g)/\(lst k g).length<=64/\1<=g.2/\g.2<=B:=fun m g hg=>
 ⟨(h.gl m g (hG.subset hg) k hk).1,h.lst_len (hG.subset hg) hk,(h.gn m g (hG.subset hg)).2⟩
theorem yvE{B:Int}(hB:B<=1099511627776){s:PS}(h:PInv B s)(n:L8){G:GM}(hG:G.Sublist s.2.1)(U:UM)(R:RM)(C:CM)(M:MM):zeZ zaB n U G R C M=some (U,zgR 0 n G,R,C,M):=by
 unfold zeZ
 rw[show rngA _ (U,G,R,C,M,List.map Prod.fst G)=_ from ycL hB (k:=0) (by decide) (n:=n) (s:=(U,G,R,C,M)) G (h.gR.sublist hG) (h.fgt (by decide) hG) fun x=>?_,zaA]
 unfold zmM
 congr 1
 funext p
 unfold fgtF zlZ zlW
 cases mget keqS x.2.1 p.1 with
 |none=>rfl
 |some g=>
  simp only[zaA,lst]
  cases zaW zaB g.1.1 n with
  |none=>rfl
  |some q=>
   simp only[zaA]
   cases q with
   |false=>rfl
   |true=>
    simp only[cond_true]
    cases zaX zaB g.1.1 n<;>rfl
theorem ytX{B:Int}(hB:B<=1099511627776){s:PS}(h:PInv B s)(n:L8){G:GM}(hG:G.Sublist s.2.1)(U:UM)(R:RM)(C:CM)(M:MM):zeM zaB n U G R C M=some (U,zgR 1 n G,R,C,M):=by
 unfold zeM
 rw[show rngA _ (U,G,R,C,M,List.map Prod.fst G)=_ from ycL hB (k:=1) (by decide) (n:=n) (s:=(U,G,R,C,M)) G (h.gR.sublist hG) (h.fgt (by decide) hG) fun x=>?_,zaA]
 unfold zlE
 congr 1
 funext p
 unfold fgtF zlN zlF
 cases mget keqS x.2.1 p.1 with
 |none=>rfl
 |some g=>
  simp only[zaA,lst]
  cases zaW zaB g.1.2.1 n with
  |none=>rfl
  |some q=>
   simp only[zaA]
   cases q with
   |false=>rfl
   |true=>
    simp only[cond_true]
    cases zaX zaB g.1.2.1 n<;>rfl
theorem yvH{B:Int}(hB:B<=1099511627776){s:PS}(h:PInv B s)(n:L8){G:GM}(hG:G.Sublist s.2.1)(U:UM)(R:RM)(C:CM)(M:MM):zeH zaB n U G R C M=some (U,zgR 2 n G,R,C,M):=by
 unfold zeH
 rw[show rngA _ (U,G,R,C,M,List.map Prod.fst G)=_ from ycL hB (k:=2) (by decide) (n:=n) (s:=(U,G,R,C,M)) G (h.gR.sublist hG) (h.fgt (by decide) hG) fun x=>?_,zaA]
 unfold zlJ
 congr 1
 funext p
 unfold fgtF zlC zlP
 cases mget keqS x.2.1 p.1 with
 |none=>rfl
 |some g=>
  simp only[zaA,lst]
  cases zaW zaB g.1.2.2 n with
  |none=>rfl
  |some q=>
   simp only[zaA]
   cases q with
   |false=>rfl
   |true=>
    simp only[cond_true]
    cases zaX zaB g.1.2.2 n<;>rfl
def lefM(left:List (L8×L8))(p:L8)(M:MM):MM:=M.filter fun m=>left.contains m.1 || !(m.1.1==p||m.1.2==p)
theorem ynH{M:MM}(hR:Ri kltM M)(p:L8)(U:UM)(G:GM)(R:RM)(C:CM):zcX zaB p U G R C M=some (U,G,R,C,zsB p M):=by
 unfold zcX zoQ
 have e:rngA (fun x:MM×L8×List (L8×L8)=>zsN zaB x.1 x.2.1 x.2.2) (M,p,List.map Prod.fst M)=some (zsB p M,p):=by
  refine kSS.rngA_map (κ:=L8×L8) (γ:=Unit) (fun x=>∃left:List (L8×L8),x=(lefM left p M,p,left)) (fun x=>x.1) (fun x=>x.2.2) (fun x=>rfl) ?_ ?_ ⟨List.map Prod.fst M,?_⟩
  ·rintro x ⟨left,rfl⟩ hno
   simp only
   congr 3
   unfold zsB lefM
   refine List.filter_congr fun m hm=>?_
   cases hc:left.contains m.1 with
   |false=>rfl
   |true=>
    have:=hno m (List.mem_filter.2 ⟨hm,by rw[hc];rfl⟩)
    exact absurd (List.contains_iff_mem.1 hc) this
  ·rintro x q ⟨left,rfl⟩ hq hql
   left
   simp only at hq hql ⊢
   have hc2:∀m,(rngD keqM left q.1).contains m=(left.contains m && !(m==q.1)):=fun m=>by
    rw[Bool.eq_iff_iff,List.contains_iff_mem,kSS.rngD_mem,Bool.and_eq_true,List.contains_iff_mem,Bool.not_eq_true',<-Bool.not_eq_true,beq_iff_eq]
   have hfr:Ri kltM (lefM left p M):=hR.sublist List.filter_sublist
   have hget:mget keqM (lefM left p M) q.1=some ():=kSS.get_mem hfr (v:=()) hq
   rw[show mget (keq (.pr .s .s)) (lefM left p M) q.1=some ()from hget,zaA]
   unfold zgP
   cases h1:q.1.1==p||q.1.2==p with
   |true=>
    refine⟨_,?_,⟨rngD keqM left q.1,rfl⟩,rfl⟩
    have:(bif q.1.1==p then some (true,p)else some ((q.1.2==p),p))=some (true,p):=by
     cases h2:q.1.1==p with
     |true=>rfl
     |false=>rw[h2,Bool.false_or]at h1;rw[h1];rfl
    rw[this,zaA]
    simp only[cond_true]
    congr 3
    refine Eq.trans (kSS.del_filter hfr q.1) ?_
    unfold lefM
    rw[List.filter_filter]
    refine List.filter_congr fun m hm=>?_
    have hq1:q.1=(q.1.1,q.1.2):=rfl
    by_cases e:m.1=q.1
    ·rw[e,hc2,beq_self_eq_true,h1,kSS.e.2 rfl];simp
    ·rw[hc2,beq_false_of_ne e,kSS.ne e];simp
   |false=>
    refine⟨_,?_,⟨rngD keqM left q.1,rfl⟩,rfl⟩
    have h1':=or_f h1
    rw[h1'.1,cond_false,zaA,h1'.2]
    simp only[cond_false]
    congr 3
    unfold lefM
    refine List.filter_congr fun m hm=>?_
    by_cases e:m.1=q.1
    ·rw[e,h1];simp
    ·rw[hc2,beq_false_of_ne e];simp
  ·congr 1
   unfold lefM
   refine(List.filter_eq_self.2 fun m hm=>?_).symm
   rw[List.contains_iff_mem.2 (List.mem_map.2 ⟨m,hm,rfl⟩)];rfl
 rw[e]
 rfl
theorem app2(a b:UInt8){n:L8}(h:n.length<=24):app ([a,b]:L8) n=some (a::b::n):=by
 rw[zkB (by simp;omega)];rfl
theorem xdZ{B:Int}(hB:B<=1099511627776){s:PS}(h:PInv B s)(n:L8):zdS zaB n s.1 s.2.1 s.2.2.1 s.2.2.2.1 s.2.2.2.2=some (ydD n s):=by
 unfold zdS zuX ydD
 rw[zxE,zaA]
 cases hn:nmB n with
 |false=>rfl
 |true=>
  simp only[Bool.not_true,cond_false]
  cases hh:mhas keqS s.1 n with
  |false=>rfl
  |true=>
   unfold zfH
   simp only[Bool.not_true,cond_false]
   rw[yvE hB h n (List.Sublist.refl _),zaA,app2 _ _ (zkK hn),zaA,ynH h.mR,zaA,zaA,zaA]
theorem addG_ok(n:L8)(s:PS):zbU zaB n s.1 s.2.1 s.2.2.1 s.2.2.2.1 s.2.2.2.2=some (ymP n s):=by
 unfold zbU ymP
 rw[zxE,zaA]
 cases nmB n with
 |false=>rfl
 |true=>
  simp only[Bool.not_true,cond_false]
  cases mhas keqS s.2.1 n with
  |true=>rfl
  |false=>
   rw[cond_false,cond_false]
   by_cases h:32<=s.2.1.length
   ·rw[zhQ (show(s.2.1.length:Int)≥32 by omega),decide_eq_true h];rfl
   ·rw[ziI (show ¬(s.2.1.length:Int)≥32 by omega),decide_eq_false h];rfl
theorem xeA{B:Int}(hB:B<=1099511627776){s:PS}(h:PInv B s)(n:L8):zdB zaB n s.1 s.2.1 s.2.2.1 s.2.2.2.1 s.2.2.2.2=some (ydK n s):=by
 unfold zdB zsU ydK
 rw[zxE,zaA]
 cases hn:nmB n with
 |false=>rfl
 |true=>
  simp only[Bool.not_true,cond_false]
  cases hh:mhas keqS s.2.1 n with
  |false=>rfl
  |true=>
   unfold zeQ
   simp only[Bool.not_true,cond_false]
   rw[ytX hB h n (zpX _ _),zaA,zaA,zaA]
theorem xfL{B:Int}(hB:B<=1099511627776){s:PS}(h:PInv B s)(n:L8):zdQ zaB n s.1 s.2.1 s.2.2.1 s.2.2.2.1 s.2.2.2.2=some (ydF n s):=by
 unfold zdQ ztD ydF
 rw[zxE,zaA]
 cases hn:nmB n with
 |false=>rfl
 |true=>
  simp only[Bool.not_true,cond_false]
  cases hh:mhas keqS s.2.2.1 n with
  |false=>rfl
  |true=>
   unfold zfF
   simp only[Bool.not_true,cond_false]
   rw[yvH hB h n (List.Sublist.refl _),zaA,zaA,zaA]
theorem xcS{B:Int}{s:PS}(h:PInv B s)(n:L8):zcS zaB n s.1 s.2.1 s.2.2.1 s.2.2.2.1 s.2.2.2.2=some (yiK n s):=by
 unfold zcS zsQ yiK
 rw[zxE,zaA]
 cases hn:nmB n with
 |false=>rfl
 |true=>
  simp only[Bool.not_true,cond_false]
  cases hh:mhas keqS s.2.2.2.1 n with
  |false=>rfl
  |true=>
   unfold zeG
   simp only[Bool.not_true,cond_false]
   rw[app2 _ _ (zkK hn),zaA,ynH h.mR,zaA,zaA,zaA]
def yeF(k:Nat)(n x:L8)(s:PS):Gr×Int×PS:=bif !nmB n || !nmB x then(zG,120,s)else match mget keqS s.2.1 n with
 |none=>(zG,122,s)
 |some g=>bif !hasK k s x then(zG,122,s)else(g,0,s)
theorem ysC(n x:L8)(s:PS):zdH zaB n x s.1 s.2.1 s.2.2.1 s.2.2.2.1 s.2.2.2.2=some (yeF 0 n x s):=by
 unfold zdH znV yeF
 rw[zxE,zaA]
 cases nmB n with
 |false=>rfl
 |true=>
  rw[Bool.not_true,cond_false,zxE,zaA]
  cases nmB x with
  |false=>rfl
  |true=>
   simp only[Bool.not_true,cond_false,zaA,Bool.or_false]
   rw[zfW,zgY]
   cases mget keqS s.2.1 n with
   |none=>rfl
   |some g=>
    simp only[Option.isSome_some,Bool.not_true,cond_false]
    unfold zeE
    rw[zaA]
    simp only[hasK]
    cases mhas keqS s.1 x<;>rfl
theorem xdW{B:Int}(hB:B<=1099511627776){s:PS}(h:PInv B s)(n x:L8):zfL zaB n x s.1 s.2.1 s.2.2.1 s.2.2.2.1 s.2.2.2.2=some (yaG 0 n x s):=by
 unfold zfL znN zaP
 rw[zaA,ysC,zaA,zaA]
 unfold yeF yaG
 cases h1:!nmB n || !nmB x with
 |true=>rfl
 |false=>
  simp only[cond_false]
  cases hg:mget keqS s.2.1 n with
  |none=>rfl
  |some g=>
   have hm:=kS.get_some hg
   have hl:RiL g.1.1:=(h.gl n g hm 0 (by decide)).1
   have hn:g.1.1.length<=64:=h.lst_len hm (i:=0) (by decide)
   have hv:=(h.gn n g hm).2
   simp only
   cases h2:hasK 0 s x with
   |false=>rfl
   |true=>
    simp only[Bool.not_true,cond_false]
    unfold znR znD
    simp only[bne_self_eq_false,cond_false,lst]
    rw[show zaW zaB g.1.1 x=_ from ybR x hl (by omega),zaA,zaA]
    simp only
    cases h3:g.1.1.contains x with
    |true=>rfl
    |false=>
     have hx:x∉g.1.1:=fun hx=>by rw[List.contains_iff_mem.2 hx]at h3;cases h3
     simp only[cond_false]
     rw[if_neg fun hh=>absurd hh.1 (by decide),zaA]
     simp only
     unfold zoB
     rw[show zeL zaB g.1.1 x=_ from ypJ x hl (by omega),zaA,zaA]
     simp only
     rw[show w64 (g.2+1)=g.2+1 from zrL (by omega) (by omega)]
     rfl
theorem yzE{B:Int}(hB:B<=1099511627776){s:PS}(h:PInv B s)(n x:L8):zfO zaB n x s.1 s.2.1 s.2.2.1 s.2.2.2.1 s.2.2.2.2=some (zrO 0 n x s):=by
 unfold zfO zoA zaP
 rw[zaA,ysC,zaA,zaA]
 unfold yeF zrO
 cases h1:!nmB n || !nmB x with
 |true=>rfl
 |false=>
  simp only[cond_false]
  cases hg:mget keqS s.2.1 n with
  |none=>rfl
  |some g=>
   have hm:=kS.get_some hg
   have hl:RiL g.1.1:=(h.gl n g hm 0 (by decide)).1
   have hn:g.1.1.length<=64:=h.lst_len hm (i:=0) (by decide)
   have hv:=(h.gn n g hm).2
   simp only
   cases h2:hasK 0 s x with
   |false=>rfl
   |true=>
    simp only[Bool.not_true,cond_false]
    unfold zoD
    simp only[bne_self_eq_false,cond_false,lst]
    rw[show zaW zaB g.1.1 x=_ from ybR x hl (by omega),zaA]
    cases h3:g.1.1.contains x with
    |false=>rfl
    |true=>
     simp only[Bool.not_true,cond_false,zaA]
     unfold znT
     rw[show zaX zaB g.1.1 x=_ from zzE _ x (by omega),zaA,zaA]
     simp only
     rw[show w64 (g.2+1)=g.2+1 from zrL (by omega) (by omega)]
     rfl
theorem ytS(n x:L8)(s:PS):zdY zaB n x s.1 s.2.1 s.2.2.1 s.2.2.2.1 s.2.2.2.2=some (yeF 1 n x s):=by
 unfold zdY zpU yeF
 rw[zxE,zaA]
 cases nmB n with
 |false=>rfl
 |true=>
  rw[Bool.not_true,cond_false,zxE,zaA]
  cases nmB x with
  |false=>rfl
  |true=>
   simp only[Bool.not_true,cond_false,zaA,Bool.or_false]
   rw[zfW,zgY]
   cases mget keqS s.2.1 n with
   |none=>rfl
   |some g=>
    simp only[Option.isSome_some,Bool.not_true,cond_false]
    unfold zeK
    rw[zaA]
    simp only[hasK]
    cases mhas keqS s.2.1 x<;>rfl
theorem puts1_ok{B:Int}(hB:B<=1099511627776){s:PS}(h:PInv B s)(n x:L8):zgE zaB n x s.1 s.2.1 s.2.2.1 s.2.2.2.1 s.2.2.2.2=some (yaG 1 n x s):=by
 unfold zgE zpR zaP
 rw[zaA,ytS,zaA,zaA]
 unfold yeF yaG
 cases h1:!nmB n || !nmB x with
 |true=>rfl
 |false=>
  simp only[cond_false]
  cases hg:mget keqS s.2.1 n with
  |none=>rfl
  |some g=>
   have hm:=kS.get_some hg
   have hl:RiL g.1.2.1:=(h.gl n g hm 1 (by decide)).1
   have hn:g.1.2.1.length<=64:=h.lst_len hm (i:=1) (by decide)
   have hv:=(h.gn n g hm).2
   simp only
   cases h2:hasK 1 s x with
   |false=>rfl
   |true=>
    simp only[Bool.not_true,cond_false]
    unfold zpI zpT
    simp only[bne_self_eq_false,cond_false,lst]
    rw[show zaW zaB g.1.2.1 x=_ from ybR x hl (by omega),zaA,zaA]
    simp only
    cases h3:g.1.2.1.contains x with
    |true=>rfl
    |false=>
     have hx:x∉g.1.2.1:=fun hx=>by rw[List.contains_iff_mem.2 hx]at h3;cases h3
     simp only[cond_false]
     obtain⟨r,hr,hr2⟩:=ywE h x n
     rw[hr,zaA]
     cases r with
     |true=>rw[if_pos ⟨rfl,hr2.1 rfl⟩];rfl
     |false=>
      rw[if_neg fun hh=>by have:=hr2.2 hh.2;cases this]
      simp only[cond_false,zaA]
      unfold zpA
      rw[show zeL zaB g.1.2.1 x=_ from ypJ x hl (by omega),zaA,zaA]
      simp only
      rw[show w64 (g.2+1)=g.2+1 from zrL (by omega) (by omega)]
      rfl
theorem yzX{B:Int}(hB:B<=1099511627776){s:PS}(h:PInv B s)(n x:L8):zfA zaB n x s.1 s.2.1 s.2.2.1 s.2.2.2.1 s.2.2.2.2=some (zrO 1 n x s):=by
 unfold zfA zmD zaP
 rw[zaA,ytS,zaA,zaA]
 unfold yeF zrO
 cases h1:!nmB n || !nmB x with
 |true=>rfl
 |false=>
  simp only[cond_false]
  cases hg:mget keqS s.2.1 n with
  |none=>rfl
  |some g=>
   have hm:=kS.get_some hg
   have hl:RiL g.1.2.1:=(h.gl n g hm 1 (by decide)).1
   have hn:g.1.2.1.length<=64:=h.lst_len hm (i:=1) (by decide)
   have hv:=(h.gn n g hm).2
   simp only
   cases h2:hasK 1 s x with
   |false=>rfl
   |true=>
    simp only[Bool.not_true,cond_false]
    unfold zmC
    simp only[bne_self_eq_false,cond_false,lst]
    rw[show zaW zaB g.1.2.1 x=_ from ybR x hl (by omega),zaA]
    cases h3:g.1.2.1.contains x with
    |false=>rfl
    |true=>
     simp only[Bool.not_true,cond_false,zaA]
     unfold zlY
     rw[show zaX zaB g.1.2.1 x=_ from zzE _ x (by omega),zaA,zaA]
     simp only
     rw[show w64 (g.2+1)=g.2+1 from zrL (by omega) (by omega)]
     rfl
theorem ysE(n x:L8)(s:PS):zdJ zaB n x s.1 s.2.1 s.2.2.1 s.2.2.2.1 s.2.2.2.2=some (yeF 2 n x s):=by
 unfold zdJ znW yeF
 rw[zxE,zaA]
 cases nmB n with
 |false=>rfl
 |true=>
  rw[Bool.not_true,cond_false,zxE,zaA]
  cases nmB x with
  |false=>rfl
  |true=>
   simp only[Bool.not_true,cond_false,zaA,Bool.or_false]
   rw[zfW,zgY]
   cases mget keqS s.2.1 n with
   |none=>rfl
   |some g=>
    simp only[Option.isSome_some,Bool.not_true,cond_false]
    unfold zeF
    rw[zaA]
    simp only[hasK]
    cases mhas keqS s.2.2.1 x<;>rfl
theorem xeQ{B:Int}(hB:B<=1099511627776){s:PS}(h:PInv B s)(n x:L8):zfS zaB n x s.1 s.2.1 s.2.2.1 s.2.2.2.1 s.2.2.2.2=some (yaG 2 n x s):=by
 unfold zfS zoF zaP
 rw[zaA,ysE,zaA,zaA]
 unfold yeF yaG
 cases h1:!nmB n || !nmB x with
 |true=>rfl
 |false=>
  simp only[cond_false]
  cases hg:mget keqS s.2.1 n with
  |none=>rfl
  |some g=>
   have hm:=kS.get_some hg
   have hl:RiL g.1.2.2:=(h.gl n g hm 2 (by decide)).1
   have hn:g.1.2.2.length<=64:=h.lst_len hm (i:=2) (by decide)
   have hv:=(h.gn n g hm).2
   simp only
   cases h2:hasK 2 s x with
   |false=>rfl
   |true=>
    simp only[Bool.not_true,cond_false]
    unfold zoG znH
    simp only[bne_self_eq_false,cond_false,lst]
    rw[show zaW zaB g.1.2.2 x=_ from ybR x hl (by omega),zaA,zaA]
    simp only
    cases h3:g.1.2.2.contains x with
    |true=>rfl
    |false=>
     have hx:x∉g.1.2.2:=fun hx=>by rw[List.contains_iff_mem.2 hx]at h3;cases h3
     simp only[cond_false]
     rw[if_neg fun hh=>absurd hh.1 (by decide),zaA]
     simp only
     unfold znQ
     rw[show zeL zaB g.1.2.2 x=_ from ypJ x hl (by omega),zaA,zaA]
     simp only
     rw[show w64 (g.2+1)=g.2+1 from zrL (by omega) (by omega)]
     rfl
theorem xaG{B:Int}(hB:B<=1099511627776){s:PS}(h:PInv B s)(n x:L8):zeY zaB n x s.1 s.2.1 s.2.2.1 s.2.2.2.1 s.2.2.2.2=some (zrO 2 n x s):=by
 unfold zeY zmQ zaP
 rw[zaA,ysE,zaA,zaA]
 unfold yeF zrO
 cases h1:!nmB n || !nmB x with
 |true=>rfl
 |false=>
  simp only[cond_false]
  cases hg:mget keqS s.2.1 n with
  |none=>rfl
  |some g=>
   have hm:=kS.get_some hg
   have hl:RiL g.1.2.2:=(h.gl n g hm 2 (by decide)).1
   have hn:g.1.2.2.length<=64:=h.lst_len hm (i:=2) (by decide)
   have hv:=(h.gn n g hm).2
   simp only
   cases h2:hasK 2 s x with
   |false=>rfl
   |true=>
    simp only[Bool.not_true,cond_false]
    unfold zmH
    simp only[bne_self_eq_false,cond_false,lst]
    rw[show zaW zaB g.1.2.2 x=_ from ybR x hl (by omega),zaA]
    cases h3:g.1.2.2.contains x with
    |false=>rfl
    |true=>
     simp only[Bool.not_true,cond_false,zaA]
     unfold zmX
     rw[show zaX zaB g.1.2.2 x=_ from zzE _ x (by omega),zaA,zaA]
     simp only
     rw[show w64 (g.2+1)=g.2+1 from zrL (by omega) (by omega)]
     rfl
theorem putR_ok{r:Ro}(hr:r.2.length<=1048576)(s:PS):zcI zaB r s.1 s.2.1 s.2.2.1 s.2.2.2.1 s.2.2.2.2=some (yvX r s):=by
 unfold zcI zkX yvX
 rw[role_ok hr,zaA]
 cases yjV r with
 |false=>rfl
 |true=>
  simp only[Bool.not_true,cond_false]
  cases mhas keqS s.2.2.1 r.1 with
  |true=>
   simp only[Bool.not_true,cond_false,zaA,Bool.false_and]
   rw[yqR hr,zaA]
  |false=>
   simp only[Bool.not_false,cond_true,Bool.true_and]
   by_cases h:32<=s.2.2.1.length
   ·rw[zhQ (show(s.2.2.1.length:Int)≥32 by omega),decide_eq_true h];rfl
   ·rw[ziI (show ¬(s.2.2.1.length:Int)≥32 by omega),decide_eq_false h,zaA]
    simp only[cond_false]
    rw[yqR hr,zaA]
theorem putC_ok{c:Cl}(h0:c.2.1.length<=1048576)(h1:c.2.2.1.length<=1048576)(h2:c.2.2.2.1.length<=1048576)(s:PS):zdD zaB c s.1 s.2.1 s.2.2.1 s.2.2.2.1 s.2.2.2.2=some (yuH c s):=by
 unfold zdD zjO yuH
 rw[cli_ok h0 h1 h2,zaA]
 cases cliB c with
 |false=>rfl
 |true=>
  simp only[Bool.not_true,cond_false]
  cases mhas keqS s.2.2.2.1 c.1 with
  |true=>
   simp only[Bool.not_true,cond_false,zaA,Bool.false_and]
   rw[ypL h1 h2,zaA]
  |false=>
   simp only[Bool.not_false,cond_true,Bool.true_and]
   by_cases h:32<=s.2.2.2.1.length
   ·rw[zhQ (show(s.2.2.2.1.length:Int)≥32 by omega),decide_eq_true h];rfl
   ·rw[ziI (show ¬(s.2.2.2.1.length:Int)≥32 by omega),decide_eq_false h,zaA]
    simp only[cond_false]
    rw[ypL h1 h2,zaA]
theorem ysB{p:L8}(hp:prB p=true)(s:PS):zbM zaB p s.1 s.2.1 s.2.2.1 s.2.2.2.1 s.2.2.2.2=some (thB s p,s):=by
 obtain⟨c,l,rfl,hc,_⟩:=yfH hp
 unfold zbM
 rw[show idx (c::58::l) (0:Int)=some c from rfl,zaA]
 have e2:subL (c::58::l) (2:Int)=some l:=by
  unfold subL
  rw[decide_eq_true (show(0:Int)<=2 by decide),decide_eq_true (show(2:Int)<=((c::58::l).length:Int) by simp only[List.length_cons];omega)]
  rfl
 rcases hc with rfl|rfl
 ·rw[show(((117:UInt8).toNat:Int)==((99:UInt8).toNat:Int))=false from rfl,cond_false,e2,zaA];rfl
 ·rw[show(((99:UInt8).toNat:Int)==((99:UInt8).toNat:Int))=true from rfl,cond_true,e2,zaA];rfl
def xfP(a b:L8)(s:PS):Int:=bif !prB a || !prB b then 120 else bif !thB s a || !thB s b then 122 else 0
theorem xaK(a b:L8)(s:PS):zeA zaB a b s.1 s.2.1 s.2.2.1 s.2.2.2.1 s.2.2.2.2=some (xfP a b s,s):=by
 unfold zeA zpM xfP
 rw[pr_ok,zaA]
 cases ha:prB a with
 |false=>rfl
 |true=>
  rw[Bool.not_true,cond_false,pr_ok,zaA]
  cases hb:prB b with
  |false=>rfl
  |true=>
   simp only[Bool.not_true,cond_false,zaA,Bool.or_false]
   rw[ysB ha,zaA]
   cases thB s a with
   |false=>rfl
   |true=>
    simp only[Bool.not_true,cond_false]
    rw[ysB hb,zaA]
    cases thB s b<;>rfl
theorem xeF(a b:L8)(s:PS):zfI zaB a b s.1 s.2.1 s.2.2.1 s.2.2.2.1 s.2.2.2.2=some (yiI a b s):=by
 unfold zfI yiI
 rw[xaK,zaA]
 unfold xfP
 cases !prB a || !prB b with
 |true=>rfl
 |false=>
  cases !thB s a || !thB s b with
  |true=>rfl
  |false=>
   simp only[cond_false,bne_self_eq_false]
   unfold zeP
   simp only
   rw[zaA]
   simp only
   cases h:mhas keqM s.2.2.2.2 (a,b) with
   |true=>rw[show mhas (keq (.pr .s .s)) s.2.2.2.2 (a,b)=true from h];rfl
   |false=>
    rw[show mhas (keq (.pr .s .s)) s.2.2.2.2 (a,b)=false from h,cond_false,cond_false]
    by_cases h:64<=s.2.2.2.2.length
    ·rw[zhQ (show(s.2.2.2.2.length:Int)≥64 by omega),decide_eq_true h];rfl
    ·rw[ziI (show ¬(s.2.2.2.2.length:Int)≥64 by omega),decide_eq_false h];rfl
theorem deny_ok(a b:L8)(s:PS):zgF zaB a b s.1 s.2.1 s.2.2.1 s.2.2.2.1 s.2.2.2.2=some (yvM a b s):=by
 unfold zgF yvM
 rw[xaK,zaA]
 unfold xfP
 cases !prB a || !prB b with
 |true=>rfl
 |false=>
  cases !thB s a || !thB s b with
  |true=>rfl
  |false=>
   simp only[cond_false,bne_self_eq_false]
   unfold zeP
   simp only
   rw[zaA]
   simp only
   cases h:mhas keqM s.2.2.2.2 (a,b) with
   |true=>rw[show mhas (keq (.pr .s .s)) s.2.2.2.2 (a,b)=true from h];rfl
   |false=>rw[show mhas (keq (.pr .s .s)) s.2.2.2.2 (a,b)=false from h];rfl
abbrev Opr:Type:=Int×Int×L8×L8×Bool×Ro×Cl
noncomputable def zqQ(o:Opr)(s:PS):Int×PS:=
 bif o.2.1==0 then ynG o.2.2.1 o.2.2.2.1 s else bif o.2.1==1 then yvG o.2.2.1 o.2.2.2.1 s else bif o.2.1==2 then yvR o.2.2.1 o.2.2.2.2.1 s else bif o.2.1==3 then ydD o.2.2.1 s else bif o.2.1==4 then ymP o.2.2.1 s else bif o.2.1==5 then ydK o.2.2.1 s else
 bif o.2.1==6 then yaG 0 o.2.2.1 o.2.2.2.1 s else bif o.2.1==7 then zrO 0 o.2.2.1 o.2.2.2.1 s else bif o.2.1==8 then yaG 1 o.2.2.1 o.2.2.2.1 s else bif o.2.1==9 then zrO 1 o.2.2.1 o.2.2.2.1 s else bif o.2.1==10 then yaG 2 o.2.2.1 o.2.2.2.1 s else bif o.2.1==11 then zrO 2 o.2.2.1 o.2.2.2.1 s else
 bif o.2.1==12 then yvX o.2.2.2.2.2.1 s else bif o.2.1==13 then ydF o.2.2.1 s else bif o.2.1==14 then yuH o.2.2.2.2.2.2 s else bif o.2.1==15 then yiK o.2.2.1 s else bif o.2.1==16 then yiI o.2.2.1 o.2.2.2.1 s else bif o.2.1==17 then yvM o.2.2.1 o.2.2.2.1 s else(0,s)
def Opok(o:Opr):Prop:=o.2.2.2.2.2.1.2.length<=1048576/\o.2.2.2.2.2.2.2.1.length<=1048576/\o.2.2.2.2.2.2.2.2.1.length<=1048576/\o.2.2.2.2.2.2.2.2.2.1.length<=1048576
theorem znI{α:Type}{c:Bool}{a b:Option α}{x y:α}(h:a=some x)(k:b=some y):(bif c then a else b)=some (bif c then x else y):=by cases c<;>assumption
theorem does_ok{B:Int}(hB:B<=1099511627776){s:PS}(h:PInv B s){o:Opr}(ho:Opok o):zfK zaB o s.1 s.2.1 s.2.2.1 s.2.2.2.1 s.2.2.2.2=some (zqQ o s):=by
 obtain⟨h1,h2,h3,h4⟩:=ho
 unfold zfK zqQ
 refine znI (by rw[addU_ok];rfl) (znI (by rw[setM_ok hB h];rfl) (znI (by rw[setA_ok hB h];rfl) (znI (by rw[xdZ hB h];rfl) (znI (by rw[addG_ok];rfl) (znI (by rw[xeA hB h];rfl) ?_)))))
 unfold zgD ziV zdX zhS zgB zjR
 refine znI (by rw[xdW hB h];rfl) (znI (by rw[yzE hB h];rfl) (znI (by rw[puts1_ok hB h];rfl) (znI (by rw[yzX hB h];rfl) (znI (by rw[xeQ hB h];rfl) (znI (by rw[xaG hB h];rfl) ?_)))))
 exact znI (by rw[putR_ok h1];rfl) (znI (by rw[xfL hB h];rfl) (znI (by rw[putC_ok h2 h3 h4];rfl) (znI (by rw[xcS h];rfl) (znI (by rw[xeF];rfl) (znI (by rw[deny_ok];rfl) rfl)))))
theorem zvF{α:Type}{P:α->Prop}{c:Bool}{x y:α}(h:P x)(k:P y):P (bif c then x else y):=by cases c<;>assumption
theorem yrL{B:Int}(hB:1<=B){s:PS}(h:PInv B s)(o:Opr):PInv (B+1) (zqQ o s).2:=by
 have m:∀{t:PS},PInv B t->PInv (B+1) t:=fun h=>h.mono (by omega)
 unfold zqQ
 let P:Int×PS->Prop:=fun r=>PInv (B+1) r.2
 refine zvF (P:=P) (m (xdP h hB)) (zvF (P:=P) (xcY h) (zvF (P:=P) (xdX h) (zvF (P:=P) (yzJ h) (zvF (P:=P) (addG_inv h hB) (zvF (P:=P) (xbG h) ?_)))))
 refine zvF (P:=P) (yjX (by decide) h hB) (zvF (P:=P) (ygB (by decide) h hB) (zvF (P:=P) (yjX (by decide) h hB) (zvF (P:=P) (ygB (by decide) h hB) (zvF (P:=P) (yjX (by decide) h hB) (zvF (P:=P) (ygB (by decide) h hB) ?_)))))
 exact zvF (P:=P) (m (putR_inv h)) (zvF (P:=P) (ywI h) (zvF (P:=P) (m (xeP h)) (zvF (P:=P) (m (xcJ h)) (zvF (P:=P) (m (yxF h)) (zvF (P:=P) (m (xeJ h)) (m h))))))
end Go.Proofs.YtopanhneegpgcaaGreatDoor.Am
