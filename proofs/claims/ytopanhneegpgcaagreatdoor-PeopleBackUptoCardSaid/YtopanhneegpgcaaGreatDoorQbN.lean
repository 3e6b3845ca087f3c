/- Parts of one proof. Conditions: as each theorem says. -/
import Derived.KernelRfl
import Derived.Test.YtopanhneegpgcaaGreatDoorQbM
namespace Go.Proofs.YtopanhneegpgcaaGreatDoor.Am
open Go Go.RowKit
def τWkD:TE:=[(3,⟨.int .i64,1,[.v (.i .i64) (show Int from 0)],(.i .i64),8⟩),
 (4,⟨.b,1,[.v .b (show Bool from false)],.b,1⟩),
 (9,⟨.s,1,[.v .s (show Bs from [])],.s,16⟩),
 (22,⟨.sl 9,1,[.nils],(.sl .s),24⟩),
 (34,⟨.pt 128,1,[.nilp],.un,8⟩),
 (45,⟨.sl 53,1,[.nils],(.sl (.pr (.i .i64) (.pr (.i .i64) (.pr .s (.pr .s (.pr .b (.pr (.pr .s (.sl .s)) (.pr .s (.pr .s (.pr (.sl .s) (.pr (.sl .s) (.pr .b (.pr .b (.pr .b .b)))))))))))))),24⟩),
 (49,⟨.st [(9,0),(22,1)],2,[.v .s (show Bs from []),.nils],(.pr .s (.sl .s)),40⟩),
 (51,⟨.st [(9,0),(9,1),(22,2),(22,3),(4,4),(4,5),(4,6),(4,7)],8,[.v .s (show Bs from []),.v .s (show Bs from []),.nils,.nils,.v .b (show Bool from false),.v .b (show Bool from false),.v .b (show Bool from false),.v .b (show Bool from false)],(.pr .s (.pr .s (.pr (.sl .s) (.pr (.sl .s) (.pr .b (.pr .b (.pr .b .b))))))),88⟩),
 (53,⟨.st [(3,0),(3,1),(9,2),(9,3),(4,4),(49,5),(51,7)],15,[.v (.i .i64) (show Int from 0),.v (.i .i64) (show Int from 0),.v .s (show Bs from []),.v .s (show Bs from []),.v .b (show Bool from false),.v .s (show Bs from []),.nils,.v .s (show Bs from []),.v .s (show Bs from []),.nils,.nils,.v .b (show Bool from false),.v .b (show Bool from false),.v .b (show Bool from false),.v .b (show Bool from false)],(.pr (.i .i64) (.pr (.i .i64) (.pr .s (.pr .s (.pr .b (.pr (.pr .s (.sl .s)) (.pr .s (.pr .s (.pr (.sl .s) (.pr (.sl .s) (.pr .b (.pr .b (.pr .b .b))))))))))))),184⟩),
 (54,⟨.sl 57,1,[.nils],(.sl (.pr .s (.pr (.sl .s) (.pr (.sl .s) (.pr (.sl .s) (.i .i64)))))),24⟩),
 (57,⟨.st [(9,0),(22,1),(22,2),(22,3),(3,4)],5,[.v .s (show Bs from []),.nils,.nils,.nils,.v (.i .i64) (show Int from 0)],(.pr .s (.pr (.sl .s) (.pr (.sl .s) (.pr (.sl .s) (.i .i64))))),96⟩),
 (64,⟨.sl 51,1,[.nils],(.sl (.pr .s (.pr .s (.pr (.sl .s) (.pr (.sl .s) (.pr .b (.pr .b (.pr .b .b)))))))),24⟩),
 (67,⟨.sl 77,1,[.nils],(.sl (.pr .s (.pr .s (.pr .b (.i .i64))))),24⟩),
 (69,⟨.sl 49,1,[.nils],(.sl (.pr .s (.sl .s))),24⟩),
 (72,⟨.sl 75,1,[.nils],(.sl (.pr .s .s)),24⟩),
 (75,⟨.st [(9,0),(9,1)],2,[.v .s (show Bs from []),.v .s (show Bs from [])],(.pr .s .s),32⟩),
 (77,⟨.st [(9,0),(9,1),(4,2),(3,3)],4,[.v .s (show Bs from []),.v .s (show Bs from []),.v .b (show Bool from false),.v (.i .i64) (show Int from 0)],(.pr .s (.pr .s (.pr .b (.i .i64)))),48⟩),
 (122,⟨.map 9 77,1,[.nilm],(.mp .s (.pr .s (.pr .s (.pr .b (.i .i64))))),8⟩),
 (123,⟨.map 9 133,1,[.nilm],(.mp .s (.pr (.pr (.sl .s) (.pr (.sl .s) (.sl .s))) (.i .i64))),8⟩),
 (124,⟨.map 9 49,1,[.nilm],(.mp .s (.pr .s (.sl .s))),8⟩),
 (125,⟨.map 9 51,1,[.nilm],(.mp .s (.pr .s (.pr .s (.pr (.sl .s) (.pr (.sl .s) (.pr .b (.pr .b (.pr .b .b)))))))),8⟩),
 (126,⟨.map 75 157,1,[.nilm],(.mp (.pr .s .s) .un),8⟩),
 (128,⟨.st [(122,0),(123,1),(124,2),(125,3),(126,4)],5,[.nilm,.nilm,.nilm,.nilm,.nilm],(.pr (.mp .s (.pr .s (.pr .s (.pr .b (.i .i64))))) (.pr (.mp .s (.pr (.pr (.sl .s) (.pr (.sl .s) (.sl .s))) (.i .i64))) (.pr (.mp .s (.pr .s (.sl .s))) (.pr (.mp .s (.pr .s (.pr .s (.pr (.sl .s) (.pr (.sl .s) (.pr .b (.pr .b (.pr .b .b)))))))) (.mp (.pr .s .s) .un))))),40⟩),
 (131,⟨.ar 3 22,3,[.nils,.nils,.nils],(.pr (.sl .s) (.pr (.sl .s) (.sl .s))),72⟩),
 (133,⟨.st [(131,0),(3,3)],4,[.nils,.nils,.nils,.v (.i .i64) (show Int from 0)],(.pr (.pr (.sl .s) (.pr (.sl .s) (.sl .s))) (.i .i64)),80⟩),
 (157,⟨.st [],0,[],.un,0⟩),
 (187,⟨.st [(3,0),(25,1)],2,[.v (.i .i64) (show Int from 0),.nilf],.un,16⟩),
 (188,⟨.ar 3 187,6,[.v (.i .i64) (show Int from 0),.nilf,.v (.i .i64) (show Int from 0),.nilf,.v (.i .i64) (show Int from 0),.nilf],.un,48⟩)]
theorem τ_okWkD:TEok Tryz.prog τWkD:=yvR (by kernel_rfl) (by kernel_rfl)
theorem xkA:Tryz.prog.follows .mixedOrders=true:=by kernel_rfl
theorem zdN {G : List (Nat × Obj)} {o : Ops} [zrE G] [zoV G o] {Γ : CT} {η : HT} {f : FuncId} {fn : Func} {c : SC} (hΓ : ∀ B, GB G B -> CTok Tryz.prog Γ B) (hf : Tryz.prog.funcs[f]? = some fn) (i : (fn.name == "runtime.NumGoroutine") = false := by kernel_rfl) (j : fn.body.isNone = false := by kernel_rfl) (l : Nat.ble c.I.sl.length fn.ntmps = true := by kernel_rfl) (r : Nat.beq fn.results.toList.length c.nr = true := by kernel_rfl) (e : fnS τWkD Γ η fn c.I c.outs = c.p := by kernel_rfl) : SCok Tryz.prog G f c := witO (G := G) (o := o) <| xeL xkA τ_okWkD hΓ hf (isFn hf i j) l r e
theorem xsT {G : List (Nat × Obj)} {o : Ops} [zrE G] [zoV G o] {Γ : CT} {η : HT} {f : FuncId} {fn : Func} {c : PC} (hΓ : ∀ B, GB G B -> CTok Tryz.prog Γ B) (hf : Tryz.prog.funcs[f]? = some fn) (i : (fn.name == "runtime.NumGoroutine") = false := by kernel_rfl) (j : fn.body.isNone = false := by kernel_rfl) (l : Nat.ble c.ash.length fn.ntmps = true := by kernel_rfl) (r : c.cl = false := by kernel_rfl) (e : fnP τWkD Γ η fn c.ash c.rts = c.p := by kernel_rfl) : PCok Tryz.prog G f c := witO (G := G) (o := o) <| xgV xkA τ_okWkD hΓ hf (isFn hf i j) l r e
abbrev xgY:Type:=Bs×List Bs
abbrev xnG:Ty:=.pr .s (.sl .s)
abbrev ylF:Type:=Bs×Bs×Bool×Int
abbrev xpL:Ty:=.pr .s (.pr .s (.pr .b (.i .i64)))
abbrev zbR:Type:=Bs×xgY
abbrev qcW:Type:=List zbR
abbrev zbO:Type:=Bs×ylF
abbrev qcY:Type:=List zbO
abbrev yvY:Type:=((List Bs)×(List Bs)×List Bs)×Int
abbrev xpR:Ty:=.pr (.pr (.sl .s) (.pr (.sl .s) (.sl .s))) (.i .i64)
abbrev zbH:Type:=Bs×yvY
abbrev qcX:Type:=List zbH
abbrev yoF:Type:=Bs×Bs×(List Bs)×(List Bs)×Bool×Bool×Bool×Bool
abbrev yzQ:Ty:=.pr .s (.pr .s (.pr (.sl .s) (.pr (.sl .s) (.pr .b (.pr .b (.pr .b .b))))))
abbrev zbQ:Type:=Bs×yoF
abbrev qcZ:Type:=List zbQ
abbrev xtZ:Type:=Int×Int×Bs×Bs×Bool×xgY×yoF
abbrev xuI:Ty:=.pr (.i .i64) (.pr (.i .i64) (.pr .s (.pr .s (.pr .b (.pr xnG yzQ)))))
abbrev zdJ:Type:=(List (Bs×ylF))×(List (Bs×yvY))×(List (Bs×xgY))×(List (Bs×yoF))×List ((Bs×Bs)×Unit)
abbrev ywB:OSh:=.blk 128 [(.mpr 2),(.mpr 3),(.mpr 4),(.mpr 5),(.mpr 6)]
abbrev zbZ:OSh:=.blk 128 [(.mpr 1),(.mpr 2),(.mpr 3),(.mpr 4),(.mpr 5)]
abbrev ynF:OSh:=.blk 128 [(.mpr 3),(.mpr 4),(.mpr 5),(.mpr 6),(.mpr 7)]
abbrev yaC:OSh:=.blk 133 [(.h (.sl .s)),(.h (.sl .s)),(.h (.sl .s)),hI]
abbrev yuM:OSh:=.blk 77 [hS,hS,hB,hI]
abbrev yoT:OSh:=.blk 34 [(.ptr 2 0)]
abbrev ymJ:OSh:=.blk 34 [(.ptr 3 0)]
abbrev yyP:OSh:=.mp false .s xpL
abbrev yqC:OSh:=.mp false .s xpR
abbrev zaQ:OSh:=.mp true .s xpL
abbrev zaR:OSh:=.mp true .s xpR
abbrev zaN:OSh:=.mp true .s xnG
abbrev zaP:OSh:=.mp true .s yzQ
section
variable {tabs:List (Nat×Obj)}[zrE tabs]{o:Ops}[zoV tabs o]
def zgI(_o:Ops)(v0:Bs)(_v1:Bs)(v2:Bool)(v3:Int)(v4:Bs):Option ((Bs×Bs×Bool×Int×Bs)):=
 some (v0,v4,v2,v3,v4)
def zjV(o:Ops):SC:=⟨⟨[(0,(.ptr 0 0)),(1,(.ptr 1 0))],[yuM,.blk 9 [hS]]⟩,0,[(none,⟨[],[yuM,.blk 9 [hS]]⟩)],fun x=>zgI o x.1 x.2.1 x.2.2.1 x.2.2.2.1 x.2.2.2.2⟩
theorem zsQ:SCok Tryz.prog tabs 192 (zjV o):=zdN (o:=o) (η:=[]) (Γ:=⟨[],[],false,[]⟩) (ctok trivial trivial) Tryz.func192
def zjD(_o:Ops)(v2:qcY)(v3:qcX)(v4:qcW)(v5:qcZ)(v6:List ((Bs×Bs)×Unit))(v8:ylF)(v9:(Bs×Bs×Bool×Int×Bs)):Option ((Bs×qcY×qcX×qcW×qcZ×(List ((Bs×Bs)×Unit))×ylF)):=
 let v10:Bool:=(!((v9.1==v8.1)&&((v9.2.1==v8.2.1)&&((v9.2.2.1==v8.2.2.1)&&(decide (v9.2.2.2.1=v8.2.2.2))))))
 bif v10 then some (v9.2.2.2.2,v2,v3,v4,v5,v6,v9.1,v9.2.1,v9.2.2.1,w64 (v9.2.2.2.1+1))else some (v9.2.2.2.2,v2,v3,v4,v5,v6,v9.1,v9.2.1,v9.2.2.1,v9.2.2.2.1)
def zgR(o:Ops)(v0:Bs)(v1:Bs)(v2:qcY)(v3:qcX)(v4:qcW)(v5:qcZ)(v6:List ((Bs×Bs)×Unit)):Option ((Int×Bs×zdJ)):=
 (zaO o v0).bind fun v7=>bif(!v7)then some ((120:Int),v1,v2,v3,v4,v5,v6)else(let v8:ylF:=zfA keqS v2 v0 (([]:Bs),([]:Bs),false,(0:Int))
 bif(!(mhas keqS v2 v0))then some ((122:Int),v1,v2,v3,v4,v5,v6)else((zgI o v8.1 v8.2.1 v8.2.2.1 v8.2.2.2 v1).bind fun v9=>(zjD o v2 v3 v4 v5 v6 v8 v9).bind fun v11=>let v12:qcY:=mset keqS kltS v11.2.1 v0 v11.2.2.2.2.2.2
 some ((0:Int),v11.1,v12,v11.2.2.1,v11.2.2.2.1,v11.2.2.2.2.1,v11.2.2.2.2.2.1)))
def zqE(o:Ops):SC:=⟨⟨[(0,(.ptr 0 0)),(1,hS),(2,(.fn 192 [] [(.ptr 1 0)]))],[ywB,.blk 9 [hS],zaQ,zaR,zaN,zaP,qaV]⟩,1,[(none,⟨[(0,hI)],[ywB,.blk 9 [hS],yyP,zaR,zaN,zaP,qaV]⟩)],fun x=>zgR o x.1 x.2.1 x.2.2.1 x.2.2.2.1 x.2.2.2.2.1 x.2.2.2.2.2.1 x.2.2.2.2.2.2⟩
theorem zxJ:SCok Tryz.prog tabs 191 (zqE o):=zdN (o:=o) (η:=[(2000010,.join [] [1] [(none,⟨[(0,(.ptr 0 0)),(7,(.ptr 7 0))],[ywB,.blk 9 [hS],zaQ,zaR,zaN,zaP,qaV,yuM]⟩)]),
 (4000010,.sch [(.pu,0,[]),(.pu,1,[]),(.pu,2,[]),(.pu,3,[]),(.pu,4,[]),(.pu,5,[]),(.mn,6,[0,1,2,3,4,5,6,7])])]) (Γ:=⟨[(13,(zbE o))],[(192,(zjV o))],false,[]⟩) (ctok ⟨zbK,trivial⟩ ⟨zsQ,trivial⟩) Tryz.func191
def zeK(o:Ops)(v0:Bs)(v1:Bs)(v2:qcY)(v3:qcX)(v4:qcW)(v5:qcZ)(v6:List ((Bs×Bs)×Unit)):Option ((Int×zdJ)):=
 (zcV o v1).bind fun v7=>bif(!v7)then some ((120:Int),v2,v3,v4,v5,v6)else((zgR o v0 v1 v2 v3 v4 v5 v6).bind fun v8=>some (v8.1,v8.2.2))
def zlY(o:Ops):SC:=⟨⟨[(0,(.ptr 0 0)),(1,hS),(2,hS)],[zbZ,zaQ,zaR,zaN,zaP,qaV]⟩,1,[(none,⟨[(0,hI)],[zbZ,yyP,zaR,zaN,zaP,qaV]⟩)],fun x=>zeK o x.1 x.2.1 x.2.2.1 x.2.2.2.1 x.2.2.2.2.1 x.2.2.2.2.2.1 x.2.2.2.2.2.2⟩
theorem zuY:SCok Tryz.prog tabs 92 (zlY o):=zdN (o:=o) (η:=[]) (Γ:=⟨[(15,(zkL o))],[(191,(zqE o))],false,[]⟩) (ctok ⟨zpF,trivial⟩ ⟨zxJ,trivial⟩) Tryz.func92
def zeX(_o:Ops)(v0:Bs)(v1:Bs)(_v2:Bool)(v3:Int)(v4:Bool):Option ((Bs×Bs×Bool×Int×Bool)):=
 some (v0,v1,v4,v3,v4)
def ziL(o:Ops):SC:=⟨⟨[(0,(.ptr 0 0)),(1,(.ptr 1 0))],[yuM,.blk 4 [hB]]⟩,0,[(none,⟨[],[yuM,.blk 4 [hB]]⟩)],fun x=>zeX o x.1 x.2.1 x.2.2.1 x.2.2.2.1 x.2.2.2.2⟩
theorem zrD:SCok Tryz.prog tabs 193 (ziL o):=zdN (o:=o) (η:=[]) (Γ:=⟨[],[],false,[]⟩) (ctok trivial trivial) Tryz.func193
def zhZ(_o:Ops)(v2:qcY)(v3:qcX)(v4:qcW)(v5:qcZ)(v6:List ((Bs×Bs)×Unit))(v8:ylF)(v9:(Bs×Bs×Bool×Int×Bool)):Option ((Bool×qcY×qcX×qcW×qcZ×(List ((Bs×Bs)×Unit))×ylF)):=
 let v10:Bool:=(!((v9.1==v8.1)&&((v9.2.1==v8.2.1)&&((v9.2.2.1==v8.2.2.1)&&(decide (v9.2.2.2.1=v8.2.2.2))))))
 bif v10 then some (v9.2.2.2.2,v2,v3,v4,v5,v6,v9.1,v9.2.1,v9.2.2.1,w64 (v9.2.2.2.1+1))else some (v9.2.2.2.2,v2,v3,v4,v5,v6,v9.1,v9.2.1,v9.2.2.1,v9.2.2.2.1)
def zgD(o:Ops)(v0:Bs)(v1:Bool)(v2:qcY)(v3:qcX)(v4:qcW)(v5:qcZ)(v6:List ((Bs×Bs)×Unit)):Option ((Int×Bool×zdJ)):=
 (zaO o v0).bind fun v7=>bif(!v7)then some ((120:Int),v1,v2,v3,v4,v5,v6)else(let v8:ylF:=zfA keqS v2 v0 (([]:Bs),([]:Bs),false,(0:Int))
 bif(!(mhas keqS v2 v0))then some ((122:Int),v1,v2,v3,v4,v5,v6)else((zeX o v8.1 v8.2.1 v8.2.2.1 v8.2.2.2 v1).bind fun v9=>(zhZ o v2 v3 v4 v5 v6 v8 v9).bind fun v11=>let v12:qcY:=mset keqS kltS v11.2.1 v0 v11.2.2.2.2.2.2
 some ((0:Int),v11.1,v12,v11.2.2.1,v11.2.2.2.1,v11.2.2.2.2.1,v11.2.2.2.2.2.1)))
def znX(o:Ops):SC:=⟨⟨[(0,(.ptr 0 0)),(1,hS),(2,(.fn 193 [] [(.ptr 1 0)]))],[ywB,.blk 4 [hB],zaQ,zaR,zaN,zaP,qaV]⟩,1,[(none,⟨[(0,hI)],[ywB,.blk 4 [hB],yyP,zaR,zaN,zaP,qaV]⟩)],fun x=>zgD o x.1 x.2.1 x.2.2.1 x.2.2.2.1 x.2.2.2.2.1 x.2.2.2.2.2.1 x.2.2.2.2.2.2⟩
theorem zxD:SCok Tryz.prog tabs 191 (znX o):=zdN (o:=o) (η:=[(2000010,.join [] [1] [(none,⟨[(0,(.ptr 0 0)),(7,(.ptr 7 0))],[ywB,.blk 4 [hB],zaQ,zaR,zaN,zaP,qaV,yuM]⟩)]),
 (4000010,.sch [(.pu,0,[]),(.pu,1,[]),(.pu,2,[]),(.pu,3,[]),(.pu,4,[]),(.pu,5,[]),(.mn,6,[0,1,2,3,4,5,6,7])])]) (Γ:=⟨[(13,(zbE o))],[(193,(ziL o))],false,[]⟩) (ctok ⟨zbK,trivial⟩ ⟨zrD,trivial⟩) Tryz.func191
def zdR(o:Ops)(v0:Bs)(v1:Bool)(v2:qcY)(v3:qcX)(v4:qcW)(v5:qcZ)(v6:List ((Bs×Bs)×Unit)):Option ((Int×zdJ)):=
 (zgD o v0 v1 v2 v3 v4 v5 v6).bind fun v7=>some (v7.1,v7.2.2)
def zkC(o:Ops):SC:=⟨⟨[(0,(.ptr 0 0)),(1,hS),(2,hB)],[zbZ,zaQ,zaR,zaN,zaP,qaV]⟩,1,[(none,⟨[(0,hI)],[zbZ,yyP,zaR,zaN,zaP,qaV]⟩)],fun x=>zdR o x.1 x.2.1 x.2.2.1 x.2.2.2.1 x.2.2.2.2.1 x.2.2.2.2.2.1 x.2.2.2.2.2.2⟩
theorem zsU:SCok Tryz.prog tabs 93 (zkC o):=zdN (o:=o) (η:=[]) (Γ:=⟨[],[(191,(znX o))],false,[]⟩) (ctok trivial ⟨zxD,trivial⟩) Tryz.func93
def xaB:SC:=⟨⟨[(0,(.own 0)),(1,(.fn 275 [] [(.ptr 1 0)]))],[.osl .s 9,.blk 9 [hS]]⟩,1,[(none,⟨[(0,(.h (.sl .s)))],[.dead,.blk 9 [hS]]⟩)],fun(x:List Bs×Bs)=>delP x.1 x.2⟩
theorem xkU:SCok Tryz.prog tabs 274 xaB:=wit (G:=tabs)<|xgX
def zaW(_o:Ops)(v0:List Bs)(v1:Bs):Option (List Bs):=
 (app ([]:List Bs) v0).bind fun v2=>((fun(xs:List Bs) (s:Bs)=>bif decide (xs.length<1152921504606846976)then some (xs.filter fun x=>!(x==s),s)else none) v2 v1).bind fun v3=>some v3.1
def zdM(o:Ops):PC:=⟨[(.h (.sl .s)),hS],[(.sl .s)],fun x=>zaW o x.1 x.2,false⟩
theorem zeU:PCok Tryz.prog tabs 206 (zdM o):=xsT (o:=o) (η:=[]) (Γ:=⟨[],[(198,zvZ),(274,xaB)],false,[]⟩) (ctok trivial ⟨zzF,⟨xkU,trivial⟩⟩) Tryz.func206
noncomputable def znG(o:Ops)(v0:Bs)(v6:qcY)(v7:qcX)(v8:qcW)(v9:qcZ)(v10:List ((Bs×Bs)×Unit))(v11:List Bs)(v12:zbH)(v13:yvY):Option ((Bool×qcY×qcX×qcW×qcZ×(List ((Bs×Bs)×Unit))×(List Bs)×(List Bs)×(List Bs)×Int×List Bs)):=
 (zaY o v13.1.1 v0).bind fun v14=>some (v14,v6,v7,v8,v9,v10,v13.1.1,v13.1.2.1,v13.1.2.2,v13.2,rngD keqS v11 v12.1)
noncomputable def zmF(o:Ops)(v0:Bs)(v15:Bool×qcY×qcX×qcW×qcZ×(List ((Bs×Bs)×Unit))×(List Bs)×(List Bs)×(List Bs)×Int×List Bs):Option ((qcY×qcX×qcW×qcZ×(List ((Bs×Bs)×Unit))×(List Bs)×(List Bs)×(List Bs)×Int×List Bs)):=
 (zaW o v15.2.2.2.2.2.2.1 v0).bind fun v16=>some (v15.2.1,v15.2.2.1,v15.2.2.2.1,v15.2.2.2.2.1,v15.2.2.2.2.2.1,v16,v15.2.2.2.2.2.2.2)
noncomputable def zmW(o:Ops)(v0:Bs)(v6:qcY)(v7:qcX)(v8:qcW)(v9:qcZ)(v10:List ((Bs×Bs)×Unit))(v11:List Bs):List (Option ((qcY×qcX×qcW×qcZ×(List ((Bs×Bs)×Unit))×List Bs)⊕(zdJ))):=
 rngL (rngC keqS v7 v11) (some (.inr (v6,v7,v8,v9,v10))) fun v12=>(mget keqS v7 v12.1).bind fun v13=>(znG o v0 v6 v7 v8 v9 v10 v11 v12 v13).bind fun v15=>bif v15.1 then((zmF o v0 v15).bind fun v17=>(chk (mhas keqS v17.2.1 v12.1)).bind fun _=>let v18:qcX:=mrep keqS v17.2.1 v12.1 ((v17.2.2.2.2.2.1,v17.2.2.2.2.2.2.1,v17.2.2.2.2.2.2.2.1),w64 (v17.2.2.2.2.2.2.2.2.1+1))
 some (.inl (v17.1,v18,v17.2.2.1,v17.2.2.2.1,v17.2.2.2.2.1,v17.2.2.2.2.2.2.2.2.2)))else some (.inl (v15.2.1,v15.2.2.1,v15.2.2.2.1,v15.2.2.2.2.1,v15.2.2.2.2.2.1,v15.2.2.2.2.2.2.2.2.2.2))
noncomputable def zfE(o:Ops)(v0:Bs)(v1:qcY)(v2:qcX)(v3:qcW)(v4:qcZ)(v5:List ((Bs×Bs)×Unit)):Option (zdJ):=
 (rngA (fun x=>zmW o v0 x.1 x.2.1 x.2.2.1 x.2.2.2.1 x.2.2.2.2.1 x.2.2.2.2.2) (v1,v2,v3,v4,v5,List.map Prod.fst v2)).bind fun v19=>some v19
noncomputable def znE(o:Ops):SC:=⟨⟨[(0,(.ptr 0 0)),(1,(.kn .i64 0)),(2,hS)],[zbZ,zaQ,zaR,zaN,zaP,qaV]⟩,0,[(none,⟨[],[zbZ,zaQ,zaR,zaN,zaP,qaV]⟩)],fun x=>zfE o x.1 x.2.1 x.2.2.1 x.2.2.2.1 x.2.2.2.2.1 x.2.2.2.2.2⟩
theorem zvF:SCok Tryz.prog tabs 116 (znE o):=zdN (o:=o) (η:=[(2300004,.join [] [1,2,6] [(none,⟨[(0,(.ptr 0 0)),(7,(.ptr 6 0)),(12,(.ptr 7 0)),(23,hB)],[zbZ,zaQ,zaR,zaN,zaP,qaV,yaC,.it 2 true .s]⟩)]),
 (2000005,.join [] [1,2,6] [(none,⟨[(0,(.ptr 0 0)),(7,(.ptr 6 0)),(12,(.ptr 7 0))],[zbZ,zaQ,zaR,zaN,zaP,qaV,yaC,.it 2 true .s]⟩)]),
 (200001,.rng [] ⟨[(0,(.ptr 0 0)),(12,(.ptr 6 0))],[zbZ,zaQ,zaR,zaN,zaP,qaV,.it 2 true .s]⟩ [1,2] [(some 0,⟨[],[zbZ,zaQ,zaR,zaN,zaP,qaV]⟩)]),
 (4000006,.sch [(.pu,0,[]),(.pu,1,[]),(.pu,2,[]),(.pu,3,[]),(.pu,4,[]),(.pu,5,[]),(.mn,6,[0,1,2,3,4,5,6,7])])]) (Γ:=⟨[(131,(zcY o)),(206,(zdM o))],[],true,[]⟩) (ctok ⟨zdP,⟨zeU,trivial⟩⟩ trivial) Tryz.func116
def zgX(_o:Ops)(v0:Bs×Bs)(_v1:Unit)(v2:Bs):Option ((Bool×Bs)):=
 bif(v0.1==v2)then some (true,v2)else some ((v0.2==v2),v2)
def zkO(o:Ops):SC:=⟨⟨[(0,(.h (.pr .s .s))),(1,(.h .un)),(2,(.ptr 0 0))],[.blk 9 [hS]]⟩,1,[(none,⟨[(0,hB)],[.blk 9 [hS]]⟩)],fun x=>zgX o x.1 x.2.1 x.2.2⟩
theorem ztH:SCok Tryz.prog tabs 208 (zkO o):=zdN (o:=o) (η:=[]) (Γ:=⟨[],[],false,[]⟩) (ctok trivial trivial) Tryz.func208
noncomputable def ztA(o:Ops)(v2:List ((Bs×Bs)×Unit))(v3:Bs)(v4:List (Bs×Bs)):List (Option (((List ((Bs×Bs)×Unit))×Bs×List (Bs×Bs))⊕(((List ((Bs×Bs)×Unit))×Bs)))):=
 rngL (rngC (keq (.pr .s .s)) v2 v4) (some (.inr (v2,v3))) fun v5=>(mget (keq (.pr .s .s)) v2 v5.1).bind fun _v6=>(zgX o v5.1 () v3).bind fun v7=>bif v7.1 then some (.inl (mdel (keq (.pr .s .s)) v2 v5.1,v7.2,rngD (keq (.pr .s .s)) v4 v5.1))else some (.inl (v2,v7.2,rngD (keq (.pr .s .s)) v4 v5.1))
noncomputable def zoU(o:Ops)(v0:List ((Bs×Bs)×Unit))(v1:Bs):Option (((List ((Bs×Bs)×Unit))×Bs)):=
 (rngA (fun x=>ztA o x.1 x.2.1 x.2.2) (v0,v1,List.map Prod.fst v0)).bind fun v8=>some v8
noncomputable def ztC(o:Ops):SC:=⟨⟨[(0,(.mpr 0)),(1,(.fn 208 [] [(.ptr 1 0)]))],[qaV,.blk 9 [hS]]⟩,0,[(none,⟨[],[qaV,.blk 9 [hS]]⟩)],fun x=>zoU o x.1 x.2⟩
theorem ybN:SCok Tryz.prog tabs 207 (ztC o):=zdN (o:=o) (η:=[(200001,.rng [] ⟨[(0,(.mpr 0)),(1,(.fn 208 [] [(.ptr 1 0)])),(7,(.ptr 2 0))],[qaV,.blk 9 [hS],.it 0 true (.pr .s .s)]⟩ [] [(some 0,⟨[],[qaV,.blk 9 [hS]]⟩)])]) (Γ:=⟨[],[(208,(zkO o))],false,[]⟩) (ctok trivial ⟨ztH,trivial⟩) Tryz.func207
noncomputable def zdF(o:Ops)(v0:Bs)(v1:qcY)(v2:qcX)(v3:qcW)(v4:qcZ)(v5:List ((Bs×Bs)×Unit)):Option (zdJ):=
 (zoU o v5 v0).bind fun v6=>some (v1,v2,v3,v4,v6.1)
noncomputable def zhQ(o:Ops):SC:=⟨⟨[(0,(.ptr 0 0)),(1,hS)],[zbZ,zaQ,zaR,zaN,zaP,qaV]⟩,0,[(none,⟨[],[zbZ,zaQ,zaR,zaN,zaP,qaV]⟩)],fun x=>zdF o x.1 x.2.1 x.2.2.1 x.2.2.2.1 x.2.2.2.2.1 x.2.2.2.2.2⟩
theorem znD:SCok Tryz.prog tabs 117 (zhQ o):=zdN (o:=o) (η:=[]) (Γ:=⟨[],[(207,(ztC o))],false,[]⟩) (ctok trivial ⟨ybN,trivial⟩) Tryz.func117
noncomputable def zfS(o:Ops)(v0:Bs)(v1:qcY)(v2:qcX)(v3:qcW)(v4:qcZ)(v5:List ((Bs×Bs)×Unit)):Option ((Bs×zdJ)):=
 (zfE o v0 v1 v2 v3 v4 v5).bind fun v6=>(app ([117,58]:Bs) v0).bind fun v7=>(zdF o v7 v6.1 v6.2.1 v6.2.2.1 v6.2.2.2.1 v6.2.2.2.2).bind fun v8=>some (v0,v8)
noncomputable def zjB(o:Ops):SC:=⟨⟨[(0,(.ptr 0 0)),(1,(.ptr 1 0))],[yoT,.blk 9 [hS],ynF,zaQ,zaR,zaN,zaP,qaV]⟩,0,[(none,⟨[],[yoT,.blk 9 [hS],ynF,zaQ,zaR,zaN,zaP,qaV]⟩)],fun x=>zfS o x.1 x.2.1 x.2.2.1 x.2.2.2.1 x.2.2.2.2.1 x.2.2.2.2.2⟩
theorem zrW:SCok Tryz.prog tabs 115 (zjB o):=zdN (o:=o) (η:=[]) (Γ:=⟨[],[(116,(znE o)),(117,(zhQ o))],false,[]⟩) (ctok trivial ⟨zvF,⟨znD,trivial⟩⟩) Tryz.func115
noncomputable def zvE(o:Ops)(v0:Bs)(v1:qcY)(v2:Bs)(v3:qcX)(v4:qcW)(v5:qcZ)(v6:List ((Bs×Bs)×Unit)):Option ((Int×qcY×Bs×qcX×qcW×qcZ×List ((Bs×Bs)×Unit))):=
 (zaO o v0).bind fun v7=>bif(!v7)then some ((120:Int),v1,v2,v3,v4,v5,v6)else(let _v8:ylF:=zfA keqS v1 v0 (([]:Bs),([]:Bs),false,(0:Int))
 bif(!(mhas keqS v1 v0))then some ((122:Int),v1,v2,v3,v4,v5,v6)else((zfS o v2 (mdel keqS v1 v0) v3 v4 v5 v6).bind fun v9=>some ((0:Int),v9.2.1,v9.1,v9.2.2)))
noncomputable def zzU(o:Ops):SC:=⟨⟨[(0,(.mpr 0)),(1,hS),(2,(.fn 115 [] [(.ptr 1 0),(.ptr 2 0)]))],[zaQ,ymJ,.blk 9 [hS],.blk 128 [(.mpr 0),(.mpr 4),(.mpr 5),(.mpr 6),(.mpr 7)],zaR,zaN,zaP,qaV]⟩,1,[(none,⟨[(0,hI)],[zaQ,ymJ,.blk 9 [hS],.blk 128 [(.mpr 0),(.mpr 4),(.mpr 5),(.mpr 6),(.mpr 7)],zaR,zaN,zaP,qaV]⟩)],fun x=>zvE o x.1 x.2.1 x.2.2.1 x.2.2.2.1 x.2.2.2.2.1 x.2.2.2.2.2.1 x.2.2.2.2.2.2⟩
theorem yhS:SCok Tryz.prog tabs 114 (zzU o):=zdN (o:=o) (η:=[]) (Γ:=⟨[(13,(zbE o))],[(115,(zjB o))],false,[]⟩) (ctok ⟨zbK,trivial⟩ ⟨zrW,trivial⟩) Tryz.func114
noncomputable def zeC(o:Ops)(v0:Bs)(v1:qcY)(v2:qcX)(v3:qcW)(v4:qcZ)(v5:List ((Bs×Bs)×Unit)):Option ((Int×zdJ)):=
 (zvE o v0 v1 v0 v2 v3 v4 v5).bind fun v6=>some (v6.1,v6.2.1,v6.2.2.2)
noncomputable def zkJ(o:Ops):SC:=⟨⟨[(0,(.ptr 0 0)),(1,hS)],[zbZ,zaQ,zaR,zaN,zaP,qaV]⟩,1,[(none,⟨[(0,hI)],[zbZ,zaQ,zaR,zaN,zaP,qaV]⟩)],fun x=>zeC o x.1 x.2.1 x.2.2.1 x.2.2.2.1 x.2.2.2.2.1 x.2.2.2.2.2⟩
theorem ztO:SCok Tryz.prog tabs 41 (zkJ o):=zdN (o:=o) (η:=[(4000001,.sch [(.pu,0,[]),(.pu,1,[]),(.pu,2,[]),(.pu,3,[]),(.pu,4,[]),(.pu,5,[]),(.mn,6,[0,1,2,3,4,5,6,7]),(.pu,7,[])])]) (Γ:=⟨[],[(114,(zzU o))],false,[]⟩) (ctok trivial ⟨yhS,trivial⟩) Tryz.func41
noncomputable def zlR(o:Ops)(v0:Bs)(v6:qcY)(v7:qcX)(v8:qcW)(v9:qcZ)(v10:List ((Bs×Bs)×Unit))(v11:List Bs)(v12:zbH)(v13:yvY):Option ((Bool×qcY×qcX×qcW×qcZ×(List ((Bs×Bs)×Unit))×(List Bs)×(List Bs)×(List Bs)×Int×List Bs)):=
 (zaY o v13.1.2.1 v0).bind fun v14=>some (v14,v6,v7,v8,v9,v10,v13.1.1,v13.1.2.1,v13.1.2.2,v13.2,rngD keqS v11 v12.1)
noncomputable def zlL(o:Ops)(v0:Bs)(v15:Bool×qcY×qcX×qcW×qcZ×(List ((Bs×Bs)×Unit))×(List Bs)×(List Bs)×(List Bs)×Int×List Bs):Option ((qcY×qcX×qcW×qcZ×(List ((Bs×Bs)×Unit))×(List Bs)×(List Bs)×(List Bs)×Int×List Bs)):=
 (zaW o v15.2.2.2.2.2.2.2.1 v0).bind fun v16=>some (v15.2.1,v15.2.2.1,v15.2.2.2.1,v15.2.2.2.2.1,v15.2.2.2.2.2.1,v15.2.2.2.2.2.2.1,v16,v15.2.2.2.2.2.2.2.2)
noncomputable def zmB(o:Ops)(v0:Bs)(v6:qcY)(v7:qcX)(v8:qcW)(v9:qcZ)(v10:List ((Bs×Bs)×Unit))(v11:List Bs):List (Option ((qcY×qcX×qcW×qcZ×(List ((Bs×Bs)×Unit))×List Bs)⊕(zdJ))):=
 rngL (rngC keqS v7 v11) (some (.inr (v6,v7,v8,v9,v10))) fun v12=>(mget keqS v7 v12.1).bind fun v13=>(zlR o v0 v6 v7 v8 v9 v10 v11 v12 v13).bind fun v15=>bif v15.1 then((zlL o v0 v15).bind fun v17=>(chk (mhas keqS v17.2.1 v12.1)).bind fun _=>let v18:qcX:=mrep keqS v17.2.1 v12.1 ((v17.2.2.2.2.2.1,v17.2.2.2.2.2.2.1,v17.2.2.2.2.2.2.2.1),w64 (v17.2.2.2.2.2.2.2.2.1+1))
 some (.inl (v17.1,v18,v17.2.2.1,v17.2.2.2.1,v17.2.2.2.2.1,v17.2.2.2.2.2.2.2.2.2)))else some (.inl (v15.2.1,v15.2.2.1,v15.2.2.2.1,v15.2.2.2.2.1,v15.2.2.2.2.2.1,v15.2.2.2.2.2.2.2.2.2.2))
noncomputable def zeM(o:Ops)(v0:Bs)(v1:qcY)(v2:qcX)(v3:qcW)(v4:qcZ)(v5:List ((Bs×Bs)×Unit)):Option (zdJ):=
 (rngA (fun x=>zmB o v0 x.1 x.2.1 x.2.2.1 x.2.2.2.1 x.2.2.2.2.1 x.2.2.2.2.2) (v1,v2,v3,v4,v5,List.map Prod.fst v2)).bind fun v19=>some v19
noncomputable def zmA(o:Ops):SC:=⟨⟨[(0,(.ptr 0 0)),(1,(.kn .i64 1)),(2,hS)],[zbZ,zaQ,zaR,zaN,zaP,qaV]⟩,0,[(none,⟨[],[zbZ,zaQ,zaR,zaN,zaP,qaV]⟩)],fun x=>zeM o x.1 x.2.1 x.2.2.1 x.2.2.2.1 x.2.2.2.2.1 x.2.2.2.2.2⟩
theorem zuB:SCok Tryz.prog tabs 116 (zmA o):=zdN (o:=o) (η:=[(2300004,.join [] [1,2,6] [(none,⟨[(0,(.ptr 0 0)),(7,(.ptr 6 0)),(12,(.ptr 7 0)),(23,hB)],[zbZ,zaQ,zaR,zaN,zaP,qaV,yaC,.it 2 true .s]⟩)]),
 (2000005,.join [] [1,2,6] [(none,⟨[(0,(.ptr 0 0)),(7,(.ptr 6 0)),(12,(.ptr 7 0))],[zbZ,zaQ,zaR,zaN,zaP,qaV,yaC,.it 2 true .s]⟩)]),
 (200001,.rng [] ⟨[(0,(.ptr 0 0)),(12,(.ptr 6 0))],[zbZ,zaQ,zaR,zaN,zaP,qaV,.it 2 true .s]⟩ [1,2] [(some 0,⟨[],[zbZ,zaQ,zaR,zaN,zaP,qaV]⟩)]),
 (4000006,.sch [(.pu,0,[]),(.pu,1,[]),(.pu,2,[]),(.pu,3,[]),(.pu,4,[]),(.pu,5,[]),(.mn,6,[0,1,2,3,4,5,6,7])])]) (Γ:=⟨[(131,(zcY o)),(206,(zdM o))],[],true,[]⟩) (ctok ⟨zdP,⟨zeU,trivial⟩⟩ trivial) Tryz.func116
noncomputable def zeY(o:Ops)(v0:Bs)(v1:qcY)(v2:qcX)(v3:qcW)(v4:qcZ)(v5:List ((Bs×Bs)×Unit)):Option ((Bs×zdJ)):=
 (zeM o v0 v1 v2 v3 v4 v5).bind fun v6=>some (v0,v6)
noncomputable def ziN(o:Ops):SC:=⟨⟨[(0,(.ptr 0 0)),(1,(.ptr 1 0))],[yoT,.blk 9 [hS],ynF,zaQ,zaR,zaN,zaP,qaV]⟩,0,[(none,⟨[],[yoT,.blk 9 [hS],ynF,zaQ,zaR,zaN,zaP,qaV]⟩)],fun x=>zeY o x.1 x.2.1 x.2.2.1 x.2.2.2.1 x.2.2.2.2.1 x.2.2.2.2.2⟩
theorem zrP:SCok Tryz.prog tabs 119 (ziN o):=zdN (o:=o) (η:=[]) (Γ:=⟨[],[(116,(zmA o))],false,[]⟩) (ctok trivial ⟨zuB,trivial⟩) Tryz.func119
noncomputable def ztG(o:Ops)(v0:Bs)(v1:qcX)(v2:Bs)(v3:qcY)(v4:qcW)(v5:qcZ)(v6:List ((Bs×Bs)×Unit)):Option ((Int×qcX×Bs×qcY×qcW×qcZ×List ((Bs×Bs)×Unit))):=
 (zaO o v0).bind fun v7=>bif(!v7)then some ((120:Int),v1,v2,v3,v4,v5,v6)else(let _v8:yvY:=zfA keqS v1 v0 ((([]:List Bs),([]:List Bs),([]:List Bs)),(0:Int))
 bif(!(mhas keqS v1 v0))then some ((122:Int),v1,v2,v3,v4,v5,v6)else((zeY o v2 v3 (mdel keqS v1 v0) v4 v5 v6).bind fun v9=>some ((0:Int),v9.2.2.1,v9.1,v9.2.1,v9.2.2.2)))
noncomputable def zyS(o:Ops):SC:=⟨⟨[(0,(.mpr 0)),(1,hS),(2,(.fn 119 [] [(.ptr 1 0),(.ptr 2 0)]))],[zaR,ymJ,.blk 9 [hS],.blk 128 [(.mpr 4),(.mpr 0),(.mpr 5),(.mpr 6),(.mpr 7)],zaQ,zaN,zaP,qaV]⟩,1,[(none,⟨[(0,hI)],[zaR,ymJ,.blk 9 [hS],.blk 128 [(.mpr 4),(.mpr 0),(.mpr 5),(.mpr 6),(.mpr 7)],zaQ,zaN,zaP,qaV]⟩)],fun x=>ztG o x.1 x.2.1 x.2.2.1 x.2.2.2.1 x.2.2.2.2.1 x.2.2.2.2.2.1 x.2.2.2.2.2.2⟩
theorem yfB:SCok Tryz.prog tabs 118 (zyS o):=zdN (o:=o) (η:=[]) (Γ:=⟨[(13,(zbE o))],[(119,(ziN o))],false,[]⟩) (ctok ⟨zbK,trivial⟩ ⟨zrP,trivial⟩) Tryz.func118
noncomputable def zdO(o:Ops)(v0:Bs)(v1:qcY)(v2:qcX)(v3:qcW)(v4:qcZ)(v5:List ((Bs×Bs)×Unit)):Option ((Int×zdJ)):=
 (ztG o v0 v2 v0 v1 v3 v4 v5).bind fun v6=>some (v6.1,v6.2.2.2.1,v6.2.1,v6.2.2.2.2)
noncomputable def zjY(o:Ops):SC:=⟨⟨[(0,(.ptr 0 0)),(1,hS)],[zbZ,zaQ,zaR,zaN,zaP,qaV]⟩,1,[(none,⟨[(0,hI)],[zbZ,zaQ,zaR,zaN,zaP,qaV]⟩)],fun x=>zdO o x.1 x.2.1 x.2.2.1 x.2.2.2.1 x.2.2.2.2.1 x.2.2.2.2.2⟩
theorem zsP:SCok Tryz.prog tabs 42 (zjY o):=zdN (o:=o) (η:=[(4000001,.sch [(.pu,0,[]),(.pu,1,[]),(.pu,2,[]),(.pu,3,[]),(.pu,4,[]),(.pu,5,[]),(.mn,6,[0,1,2,3,4,5,6,7]),(.pu,7,[])])]) (Γ:=⟨[],[(118,(zyS o))],false,[]⟩) (ctok trivial ⟨yfB,trivial⟩) Tryz.func42
def zoC(o:Ops)(v0:Bs)(v1:Bs)(v2:qcY)(v3:qcX)(v4:qcW)(v5:qcZ)(v6:List ((Bs×Bs)×Unit)):Option ((Int×qcY×qcX×qcW×qcZ×(List ((Bs×Bs)×Unit))×(List Bs)×(List Bs)×(List Bs)×Int)):=
 (zaM o v2 v3 v4 v5 v6).bind fun v7=>(zdY o v0 v1 v7.1 v7.2.1 v7.2.2.1 v7.2.2.2.1 v7.2.2.2.2).bind fun v8=>some (v8.2.1,v8.2.2.1,v8.2.2.2.1,v8.2.2.2.2.1,v8.2.2.2.2.2.1,v8.2.2.2.2.2.2,v8.1.1.1,v8.1.1.2.1,v8.1.1.2.2,v8.1.2)
def znO(o:Ops)(v1:Bs)(v9:Int×qcY×qcX×qcW×qcZ×(List ((Bs×Bs)×Unit))×(List Bs)×(List Bs)×(List Bs)×Int):Option ((Int×zdJ)⊕(qcY×qcX×qcW×qcZ×(List ((Bs×Bs)×Unit))×(List Bs)×(List Bs)×(List Bs)×Int)):=
 bif(v9.1 != 0)then some (.inl (v9.1,v9.2.1,v9.2.2.1,v9.2.2.2.1,v9.2.2.2.2.1,v9.2.2.2.2.2.1))else((zaY o v9.2.2.2.2.2.2.1 v1).bind fun v10=>bif(!v10)then some (.inl ((122:Int),v9.2.1,v9.2.2.1,v9.2.2.2.1,v9.2.2.2.2.1,v9.2.2.2.2.2.1))else some (.inr v9.2))
def zoP(o:Ops)(v1:Bs)(v13:qcY×qcX×qcW×qcZ×(List ((Bs×Bs)×Unit))×(List Bs)×(List Bs)×(List Bs)×Int):Option ((qcY×qcX×qcW×qcZ×(List ((Bs×Bs)×Unit))×(List Bs)×(List Bs)×(List Bs)×Int)):=
 (zaW o v13.2.2.2.2.2.1 v1).bind fun v14=>some (v13.1,v13.2.1,v13.2.2.1,v13.2.2.2.1,v13.2.2.2.2.1,v14,v13.2.2.2.2.2.2)
def zgA(o:Ops)(v0:Bs)(v1:Bs)(v2:qcY)(v3:qcX)(v4:qcW)(v5:qcZ)(v6:List ((Bs×Bs)×Unit)):Option ((Int×zdJ)):=
 (zoC o v0 v1 v2 v3 v4 v5 v6).bind fun v9=>(znO o v1 v9).bind fun v11=>match v11 with
 |.inl v12=>some v12
 |.inr v13=>((zoP o v1 v13).bind fun v15=>let v16:qcX:=mset keqS kltS v15.2.1 v0 ((v15.2.2.2.2.2.1,v15.2.2.2.2.2.2.1,v15.2.2.2.2.2.2.2.1),w64 (v15.2.2.2.2.2.2.2.2+1))
 some ((0:Int),v15.1,v16,v15.2.2.1,v15.2.2.2.1,v15.2.2.2.2.1))
def znV(o:Ops):SC:=⟨⟨[(0,(.ptr 0 0)),(1,hS),(2,(.kn .i64 0)),(3,hS)],[zbZ,zaQ,zaR,zaN,zaP,qaV]⟩,1,[(none,⟨[(0,hI)],[zbZ,zaQ,yqC,zaN,zaP,qaV]⟩)],fun x=>zgA o x.1 x.2.1 x.2.2.1 x.2.2.2.1 x.2.2.2.2.1 x.2.2.2.2.2.1 x.2.2.2.2.2.2⟩
theorem zxE:SCok Tryz.prog tabs 194 (znV o):=zdN (o:=o) (η:=[(2100000,.join [] [1,2,3] [(none,⟨[(0,(.ptr 0 0)),(9,(.ptr 6 0)),(10,hI)],[zbZ,zaQ,zaR,zaN,zaP,qaV,yaC]⟩)]),
 (2000006,.join [] [1,2,3] [(some 1000000,⟨[(8,hI)],[zbZ,zaQ,zaR,zaN,zaP,qaV]⟩),(none,⟨[(0,(.ptr 0 0)),(9,(.ptr 6 0))],[zbZ,zaQ,zaR,zaN,zaP,qaV,yaC]⟩)]),
 (2000007,.join [] [1] [(none,⟨[(0,(.ptr 0 0)),(9,(.ptr 6 0))],[zbZ,zaQ,zaR,zaN,zaP,qaV,yaC]⟩)]),
 (4000008,.sch [(.pu,0,[]),(.pu,1,[]),(.pu,2,[]),(.pu,3,[]),(.pu,4,[]),(.pu,5,[]),(.mn,6,[0,1,2,3,4,5,6])])]) (Γ:=⟨[(131,(zcY o)),(206,(zdM o))],[(173,(zbL o)),(199,(ziH o))],false,[]⟩) (ctok ⟨zdP,⟨zeU,trivial⟩⟩ ⟨zbW,⟨zoB,trivial⟩⟩) Tryz.func194
def zjQ(o:Ops)(v0:Bs)(v1:Bs)(v2:qcY)(v3:qcX)(v4:qcW)(v5:qcZ)(v6:List ((Bs×Bs)×Unit)):Option ((Int×zdJ)):=
 (zgA o v0 v1 v2 v3 v4 v5 v6).bind fun v7=>some v7
def znP(o:Ops):SC:=⟨⟨[(0,(.ptr 0 0)),(1,hS),(2,hS)],[zbZ,zaQ,zaR,zaN,zaP,qaV]⟩,1,[(none,⟨[(0,hI)],[zbZ,zaQ,yqC,zaN,zaP,qaV]⟩)],fun x=>zjQ o x.1 x.2.1 x.2.2.1 x.2.2.2.1 x.2.2.2.2.1 x.2.2.2.2.2.1 x.2.2.2.2.2.2⟩
theorem zwR:SCok Tryz.prog tabs 94 (znP o):=zdN (o:=o) (η:=[]) (Γ:=⟨[],[(194,(znV o))],false,[]⟩) (ctok trivial ⟨zxE,trivial⟩) Tryz.func94
def zmH(o:Ops)(v0:Bs)(v1:Bs)(v2:qcY)(v3:qcX)(v4:qcW)(v5:qcZ)(v6:List ((Bs×Bs)×Unit)):Option ((Int×qcY×qcX×qcW×qcZ×(List ((Bs×Bs)×Unit))×(List Bs)×(List Bs)×(List Bs)×Int)):=
 (zaM o v2 v3 v4 v5 v6).bind fun v7=>(zeH o v0 v1 v7.1 v7.2.1 v7.2.2.1 v7.2.2.2.1 v7.2.2.2.2).bind fun v8=>some (v8.2.1,v8.2.2.1,v8.2.2.2.1,v8.2.2.2.2.1,v8.2.2.2.2.2.1,v8.2.2.2.2.2.2,v8.1.1.1,v8.1.1.2.1,v8.1.1.2.2,v8.1.2)
def zmE(o:Ops)(v1:Bs)(v9:Int×qcY×qcX×qcW×qcZ×(List ((Bs×Bs)×Unit))×(List Bs)×(List Bs)×(List Bs)×Int):Option ((Int×zdJ)⊕(qcY×qcX×qcW×qcZ×(List ((Bs×Bs)×Unit))×(List Bs)×(List Bs)×(List Bs)×Int)):=
 bif(v9.1 != 0)then some (.inl (v9.1,v9.2.1,v9.2.2.1,v9.2.2.2.1,v9.2.2.2.2.1,v9.2.2.2.2.2.1))else((zaY o v9.2.2.2.2.2.2.2.1 v1).bind fun v10=>bif(!v10)then some (.inl ((122:Int),v9.2.1,v9.2.2.1,v9.2.2.2.1,v9.2.2.2.2.1,v9.2.2.2.2.2.1))else some (.inr v9.2))
def znJ(o:Ops)(v1:Bs)(v13:qcY×qcX×qcW×qcZ×(List ((Bs×Bs)×Unit))×(List Bs)×(List Bs)×(List Bs)×Int):Option ((qcY×qcX×qcW×qcZ×(List ((Bs×Bs)×Unit))×(List Bs)×(List Bs)×(List Bs)×Int)):=
 (zaW o v13.2.2.2.2.2.2.1 v1).bind fun v14=>some (v13.1,v13.2.1,v13.2.2.1,v13.2.2.2.1,v13.2.2.2.2.1,v13.2.2.2.2.2.1,v14,v13.2.2.2.2.2.2.2)
def zfK(o:Ops)(v0:Bs)(v1:Bs)(v2:qcY)(v3:qcX)(v4:qcW)(v5:qcZ)(v6:List ((Bs×Bs)×Unit)):Option ((Int×zdJ)):=
 (zmH o v0 v1 v2 v3 v4 v5 v6).bind fun v9=>(zmE o v1 v9).bind fun v11=>match v11 with
 |.inl v12=>some v12
 |.inr v13=>((znJ o v1 v13).bind fun v15=>let v16:qcX:=mset keqS kltS v15.2.1 v0 ((v15.2.2.2.2.2.1,v15.2.2.2.2.2.2.1,v15.2.2.2.2.2.2.2.1),w64 (v15.2.2.2.2.2.2.2.2+1))
 some ((0:Int),v15.1,v16,v15.2.2.1,v15.2.2.2.1,v15.2.2.2.2.1))
def zmV(o:Ops):SC:=⟨⟨[(0,(.ptr 0 0)),(1,hS),(2,(.kn .i64 1)),(3,hS)],[zbZ,zaQ,zaR,zaN,zaP,qaV]⟩,1,[(none,⟨[(0,hI)],[zbZ,zaQ,yqC,zaN,zaP,qaV]⟩)],fun x=>zfK o x.1 x.2.1 x.2.2.1 x.2.2.2.1 x.2.2.2.2.1 x.2.2.2.2.2.1 x.2.2.2.2.2.2⟩
theorem zvX:SCok Tryz.prog tabs 194 (zmV o):=zdN (o:=o) (η:=[(2100000,.join [] [1,2,3] [(none,⟨[(0,(.ptr 0 0)),(9,(.ptr 6 0)),(10,hI)],[zbZ,zaQ,zaR,zaN,zaP,qaV,yaC]⟩)]),
 (2000006,.join [] [1,2,3] [(some 1000000,⟨[(8,hI)],[zbZ,zaQ,zaR,zaN,zaP,qaV]⟩),(none,⟨[(0,(.ptr 0 0)),(9,(.ptr 6 0))],[zbZ,zaQ,zaR,zaN,zaP,qaV,yaC]⟩)]),
 (2000007,.join [] [1] [(none,⟨[(0,(.ptr 0 0)),(9,(.ptr 6 0))],[zbZ,zaQ,zaR,zaN,zaP,qaV,yaC]⟩)]),
 (4000008,.sch [(.pu,0,[]),(.pu,1,[]),(.pu,2,[]),(.pu,3,[]),(.pu,4,[]),(.pu,5,[]),(.mn,6,[0,1,2,3,4,5,6])])]) (Γ:=⟨[(131,(zcY o)),(206,(zdM o))],[(173,(zbL o)),(199,(ziQ o))],false,[]⟩) (ctok ⟨zdP,⟨zeU,trivial⟩⟩ ⟨zbW,⟨zpQ,trivial⟩⟩) Tryz.func194
def zhY(o:Ops)(v0:Bs)(v1:Bs)(v2:qcY)(v3:qcX)(v4:qcW)(v5:qcZ)(v6:List ((Bs×Bs)×Unit)):Option ((Int×zdJ)):=
 (zfK o v0 v1 v2 v3 v4 v5 v6).bind fun v7=>some v7
def znI(o:Ops):SC:=⟨⟨[(0,(.ptr 0 0)),(1,hS),(2,hS)],[zbZ,zaQ,zaR,zaN,zaP,qaV]⟩,1,[(none,⟨[(0,hI)],[zbZ,zaQ,yqC,zaN,zaP,qaV]⟩)],fun x=>zhY o x.1 x.2.1 x.2.2.1 x.2.2.2.1 x.2.2.2.2.1 x.2.2.2.2.2.1 x.2.2.2.2.2.2⟩
theorem zvV:SCok Tryz.prog tabs 95 (znI o):=zdN (o:=o) (η:=[]) (Γ:=⟨[],[(194,(zmV o))],false,[]⟩) (ctok trivial ⟨zvX,trivial⟩) Tryz.func95
def znL(o:Ops)(v0:Bs)(v1:Bs)(v2:qcY)(v3:qcX)(v4:qcW)(v5:qcZ)(v6:List ((Bs×Bs)×Unit)):Option ((Int×qcY×qcX×qcW×qcZ×(List ((Bs×Bs)×Unit))×(List Bs)×(List Bs)×(List Bs)×Int)):=
 (zaM o v2 v3 v4 v5 v6).bind fun v7=>(zdZ o v0 v1 v7.1 v7.2.1 v7.2.2.1 v7.2.2.2.1 v7.2.2.2.2).bind fun v8=>some (v8.2.1,v8.2.2.1,v8.2.2.2.1,v8.2.2.2.2.1,v8.2.2.2.2.2.1,v8.2.2.2.2.2.2,v8.1.1.1,v8.1.1.2.1,v8.1.1.2.2,v8.1.2)
def zmJ(o:Ops)(v1:Bs)(v9:Int×qcY×qcX×qcW×qcZ×(List ((Bs×Bs)×Unit))×(List Bs)×(List Bs)×(List Bs)×Int):Option ((Int×zdJ)⊕(qcY×qcX×qcW×qcZ×(List ((Bs×Bs)×Unit))×(List Bs)×(List Bs)×(List Bs)×Int)):=
 bif(v9.1 != 0)then some (.inl (v9.1,v9.2.1,v9.2.2.1,v9.2.2.2.1,v9.2.2.2.2.1,v9.2.2.2.2.2.1))else((zaY o v9.2.2.2.2.2.2.2.2.1 v1).bind fun v10=>bif(!v10)then some (.inl ((122:Int),v9.2.1,v9.2.2.1,v9.2.2.2.1,v9.2.2.2.2.1,v9.2.2.2.2.2.1))else some (.inr v9.2))
def zmS(o:Ops)(v1:Bs)(v13:qcY×qcX×qcW×qcZ×(List ((Bs×Bs)×Unit))×(List Bs)×(List Bs)×(List Bs)×Int):Option ((qcY×qcX×qcW×qcZ×(List ((Bs×Bs)×Unit))×(List Bs)×(List Bs)×(List Bs)×Int)):=
 (zaW o v13.2.2.2.2.2.2.2.1 v1).bind fun v14=>some (v13.1,v13.2.1,v13.2.2.1,v13.2.2.2.1,v13.2.2.2.2.1,v13.2.2.2.2.2.1,v13.2.2.2.2.2.2.1,v14,v13.2.2.2.2.2.2.2.2)
def zfF(o:Ops)(v0:Bs)(v1:Bs)(v2:qcY)(v3:qcX)(v4:qcW)(v5:qcZ)(v6:List ((Bs×Bs)×Unit)):Option ((Int×zdJ)):=
 (znL o v0 v1 v2 v3 v4 v5 v6).bind fun v9=>(zmJ o v1 v9).bind fun v11=>match v11 with
 |.inl v12=>some v12
 |.inr v13=>((zmS o v1 v13).bind fun v15=>let v16:qcX:=mset keqS kltS v15.2.1 v0 ((v15.2.2.2.2.2.1,v15.2.2.2.2.2.2.1,v15.2.2.2.2.2.2.2.1),w64 (v15.2.2.2.2.2.2.2.2+1))
 some ((0:Int),v15.1,v16,v15.2.2.1,v15.2.2.2.1,v15.2.2.2.2.1))
def znH(o:Ops):SC:=⟨⟨[(0,(.ptr 0 0)),(1,hS),(2,(.kn .i64 2)),(3,hS)],[zbZ,zaQ,zaR,zaN,zaP,qaV]⟩,1,[(none,⟨[(0,hI)],[zbZ,zaQ,yqC,zaN,zaP,qaV]⟩)],fun x=>zfF o x.1 x.2.1 x.2.2.1 x.2.2.2.1 x.2.2.2.2.1 x.2.2.2.2.2.1 x.2.2.2.2.2.2⟩
theorem zvR:SCok Tryz.prog tabs 194 (znH o):=zdN (o:=o) (η:=[(2100000,.join [] [1,2,3] [(none,⟨[(0,(.ptr 0 0)),(9,(.ptr 6 0)),(10,hI)],[zbZ,zaQ,zaR,zaN,zaP,qaV,yaC]⟩)]),
 (2000006,.join [] [1,2,3] [(some 1000000,⟨[(8,hI)],[zbZ,zaQ,zaR,zaN,zaP,qaV]⟩),(none,⟨[(0,(.ptr 0 0)),(9,(.ptr 6 0))],[zbZ,zaQ,zaR,zaN,zaP,qaV,yaC]⟩)]),
 (2000007,.join [] [1] [(none,⟨[(0,(.ptr 0 0)),(9,(.ptr 6 0))],[zbZ,zaQ,zaR,zaN,zaP,qaV,yaC]⟩)]),
 (4000008,.sch [(.pu,0,[]),(.pu,1,[]),(.pu,2,[]),(.pu,3,[]),(.pu,4,[]),(.pu,5,[]),(.mn,6,[0,1,2,3,4,5,6])])]) (Γ:=⟨[(131,(zcY o)),(206,(zdM o))],[(173,(zbL o)),(199,(ziG o))],false,[]⟩) (ctok ⟨zdP,⟨zeU,trivial⟩⟩ ⟨zbW,⟨zoM,trivial⟩⟩) Tryz.func194
def zkH(o:Ops)(v0:Bs)(v1:Bs)(v2:qcY)(v3:qcX)(v4:qcW)(v5:qcZ)(v6:List ((Bs×Bs)×Unit)):Option ((Int×zdJ)):=
 (zfF o v0 v1 v2 v3 v4 v5 v6).bind fun v7=>some v7
def zpO(o:Ops):SC:=⟨⟨[(0,(.ptr 0 0)),(1,hS),(2,hS)],[zbZ,zaQ,zaR,zaN,zaP,qaV]⟩,1,[(none,⟨[(0,hI)],[zbZ,zaQ,yqC,zaN,zaP,qaV]⟩)],fun x=>zkH o x.1 x.2.1 x.2.2.1 x.2.2.2.1 x.2.2.2.2.1 x.2.2.2.2.2.1 x.2.2.2.2.2.2⟩
theorem zxM:SCok Tryz.prog tabs 96 (zpO o):=zdN (o:=o) (η:=[]) (Γ:=⟨[],[(194,(znH o))],false,[]⟩) (ctok trivial ⟨zvR,trivial⟩) Tryz.func96
noncomputable def zlM(o:Ops)(v0:Bs)(v6:qcY)(v7:qcX)(v8:qcW)(v9:qcZ)(v10:List ((Bs×Bs)×Unit))(v11:List Bs)(v12:zbH)(v13:yvY):Option ((Bool×qcY×qcX×qcW×qcZ×(List ((Bs×Bs)×Unit))×(List Bs)×(List Bs)×(List Bs)×Int×List Bs)):=
 (zaY o v13.1.2.2 v0).bind fun v14=>some (v14,v6,v7,v8,v9,v10,v13.1.1,v13.1.2.1,v13.1.2.2,v13.2,rngD keqS v11 v12.1)
noncomputable def zlF(o:Ops)(v0:Bs)(v15:Bool×qcY×qcX×qcW×qcZ×(List ((Bs×Bs)×Unit))×(List Bs)×(List Bs)×(List Bs)×Int×List Bs):Option ((qcY×qcX×qcW×qcZ×(List ((Bs×Bs)×Unit))×(List Bs)×(List Bs)×(List Bs)×Int×List Bs)):=
 (zaW o v15.2.2.2.2.2.2.2.2.1 v0).bind fun v16=>some (v15.2.1,v15.2.2.1,v15.2.2.2.1,v15.2.2.2.2.1,v15.2.2.2.2.2.1,v15.2.2.2.2.2.2.1,v15.2.2.2.2.2.2.2.1,v16,v15.2.2.2.2.2.2.2.2.2)
noncomputable def zlN(o:Ops)(v0:Bs)(v6:qcY)(v7:qcX)(v8:qcW)(v9:qcZ)(v10:List ((Bs×Bs)×Unit))(v11:List Bs):List (Option ((qcY×qcX×qcW×qcZ×(List ((Bs×Bs)×Unit))×List Bs)⊕(zdJ))):=
 rngL (rngC keqS v7 v11) (some (.inr (v6,v7,v8,v9,v10))) fun v12=>(mget keqS v7 v12.1).bind fun v13=>(zlM o v0 v6 v7 v8 v9 v10 v11 v12 v13).bind fun v15=>bif v15.1 then((zlF o v0 v15).bind fun v17=>(chk (mhas keqS v17.2.1 v12.1)).bind fun _=>let v18:qcX:=mrep keqS v17.2.1 v12.1 ((v17.2.2.2.2.2.1,v17.2.2.2.2.2.2.1,v17.2.2.2.2.2.2.2.1),w64 (v17.2.2.2.2.2.2.2.2.1+1))
 some (.inl (v17.1,v18,v17.2.2.1,v17.2.2.2.1,v17.2.2.2.2.1,v17.2.2.2.2.2.2.2.2.2)))else some (.inl (v15.2.1,v15.2.2.1,v15.2.2.2.1,v15.2.2.2.2.1,v15.2.2.2.2.2.1,v15.2.2.2.2.2.2.2.2.2.2))
noncomputable def zeQ(o:Ops)(v0:Bs)(v1:qcY)(v2:qcX)(v3:qcW)(v4:qcZ)(v5:List ((Bs×Bs)×Unit)):Option (zdJ):=
 (rngA (fun x=>zlN o v0 x.1 x.2.1 x.2.2.1 x.2.2.2.1 x.2.2.2.2.1 x.2.2.2.2.2) (v1,v2,v3,v4,v5,List.map Prod.fst v2)).bind fun v19=>some v19
noncomputable def zlH(o:Ops):SC:=⟨⟨[(0,(.ptr 0 0)),(1,(.kn .i64 2)),(2,hS)],[zbZ,zaQ,zaR,zaN,zaP,qaV]⟩,0,[(none,⟨[],[zbZ,zaQ,zaR,zaN,zaP,qaV]⟩)],fun x=>zeQ o x.1 x.2.1 x.2.2.1 x.2.2.2.1 x.2.2.2.2.1 x.2.2.2.2.2⟩
theorem zuG:SCok Tryz.prog tabs 116 (zlH o):=zdN (o:=o) (η:=[(2300004,.join [] [1,2,6] [(none,⟨[(0,(.ptr 0 0)),(7,(.ptr 6 0)),(12,(.ptr 7 0)),(23,hB)],[zbZ,zaQ,zaR,zaN,zaP,qaV,yaC,.it 2 true .s]⟩)]),
 (2000005,.join [] [1,2,6] [(none,⟨[(0,(.ptr 0 0)),(7,(.ptr 6 0)),(12,(.ptr 7 0))],[zbZ,zaQ,zaR,zaN,zaP,qaV,yaC,.it 2 true .s]⟩)]),
 (200001,.rng [] ⟨[(0,(.ptr 0 0)),(12,(.ptr 6 0))],[zbZ,zaQ,zaR,zaN,zaP,qaV,.it 2 true .s]⟩ [1,2] [(some 0,⟨[],[zbZ,zaQ,zaR,zaN,zaP,qaV]⟩)]),
 (4000006,.sch [(.pu,0,[]),(.pu,1,[]),(.pu,2,[]),(.pu,3,[]),(.pu,4,[]),(.pu,5,[]),(.mn,6,[0,1,2,3,4,5,6,7])])]) (Γ:=⟨[(131,(zcY o)),(206,(zdM o))],[],true,[]⟩) (ctok ⟨zdP,⟨zeU,trivial⟩⟩ trivial) Tryz.func116
noncomputable def zfR(o:Ops)(v0:Bs)(v1:qcY)(v2:qcX)(v3:qcW)(v4:qcZ)(v5:List ((Bs×Bs)×Unit)):Option ((Bs×zdJ)):=
 (zeQ o v0 v1 v2 v3 v4 v5).bind fun v6=>some (v0,v6)
noncomputable def zjJ(o:Ops):SC:=⟨⟨[(0,(.ptr 0 0)),(1,(.ptr 1 0))],[yoT,.blk 9 [hS],ynF,zaQ,zaR,zaN,zaP,qaV]⟩,0,[(none,⟨[],[yoT,.blk 9 [hS],ynF,zaQ,zaR,zaN,zaP,qaV]⟩)],fun x=>zfR o x.1 x.2.1 x.2.2.1 x.2.2.2.1 x.2.2.2.2.1 x.2.2.2.2.2⟩
theorem zrZ:SCok Tryz.prog tabs 121 (zjJ o):=zdN (o:=o) (η:=[]) (Γ:=⟨[],[(116,(zlH o))],false,[]⟩) (ctok trivial ⟨zuG,trivial⟩) Tryz.func121
noncomputable def ztV(o:Ops)(v0:Bs)(v1:qcW)(v2:Bs)(v3:qcY)(v4:qcX)(v5:qcZ)(v6:List ((Bs×Bs)×Unit)):Option ((Int×qcW×Bs×qcY×qcX×qcZ×List ((Bs×Bs)×Unit))):=
 (zaO o v0).bind fun v7=>bif(!v7)then some ((120:Int),v1,v2,v3,v4,v5,v6)else(let _v8:xgY:=zfA keqS v1 v0 (([]:Bs),([]:List Bs))
 bif(!(mhas keqS v1 v0))then some ((122:Int),v1,v2,v3,v4,v5,v6)else((zfR o v2 v3 v4 (mdel keqS v1 v0) v5 v6).bind fun v9=>some ((0:Int),v9.2.2.2.1,v9.1,v9.2.1,v9.2.2.1,v9.2.2.2.2)))
noncomputable def zyI(o:Ops):SC:=⟨⟨[(0,(.mpr 0)),(1,hS),(2,(.fn 121 [] [(.ptr 1 0),(.ptr 2 0)]))],[zaN,ymJ,.blk 9 [hS],.blk 128 [(.mpr 4),(.mpr 5),(.mpr 0),(.mpr 6),(.mpr 7)],zaQ,zaR,zaP,qaV]⟩,1,[(none,⟨[(0,hI)],[zaN,ymJ,.blk 9 [hS],.blk 128 [(.mpr 4),(.mpr 5),(.mpr 0),(.mpr 6),(.mpr 7)],zaQ,zaR,zaP,qaV]⟩)],fun x=>ztV o x.1 x.2.1 x.2.2.1 x.2.2.2.1 x.2.2.2.2.1 x.2.2.2.2.2.1 x.2.2.2.2.2.2⟩
theorem yhD:SCok Tryz.prog tabs 120 (zyI o):=zdN (o:=o) (η:=[]) (Γ:=⟨[(13,(zbE o))],[(121,(zjJ o))],false,[]⟩) (ctok ⟨zbK,trivial⟩ ⟨zrZ,trivial⟩) Tryz.func120
noncomputable def zeF(o:Ops)(v0:Bs)(v1:qcY)(v2:qcX)(v3:qcW)(v4:qcZ)(v5:List ((Bs×Bs)×Unit)):Option ((Int×zdJ)):=
 (ztV o v0 v3 v0 v1 v2 v4 v5).bind fun v6=>some (v6.1,v6.2.2.2.1,v6.2.2.2.2.1,v6.2.1,v6.2.2.2.2.2)
noncomputable def zkK(o:Ops):SC:=⟨⟨[(0,(.ptr 0 0)),(1,hS)],[zbZ,zaQ,zaR,zaN,zaP,qaV]⟩,1,[(none,⟨[(0,hI)],[zbZ,zaQ,zaR,zaN,zaP,qaV]⟩)],fun x=>zeF o x.1 x.2.1 x.2.2.1 x.2.2.2.1 x.2.2.2.2.1 x.2.2.2.2.2⟩
theorem ztY:SCok Tryz.prog tabs 43 (zkK o):=zdN (o:=o) (η:=[(4000001,.sch [(.pu,0,[]),(.pu,1,[]),(.pu,2,[]),(.pu,3,[]),(.pu,4,[]),(.pu,5,[]),(.mn,6,[0,1,2,3,4,5,6,7]),(.pu,7,[])])]) (Γ:=⟨[],[(120,(zyI o))],false,[]⟩) (ctok trivial ⟨yhD,trivial⟩) Tryz.func43
def zkA(_o:Ops)(v0:yoF)(v1:qcY)(v2:qcX)(v3:qcW)(v4:qcZ)(v5:List ((Bs×Bs)×Unit)):Option ((Int×zdJ)⊕(qcY×qcX×qcW×qcZ×(List ((Bs×Bs)×Unit))×yoF)):=
 let _v7:yoF:=zfA keqS v4 v0.1 (([]:Bs),([]:Bs),([]:List Bs),([]:List Bs),false,false,false,false)
 bif(!(mhas keqS v4 v0.1))then(bif decide ((v4.length:Int)≥32)then some (.inl ((124:Int),v1,v2,v3,v4,v5))else some (.inr (v1,v2,v3,v4,v5,v0)))else some (.inr (v1,v2,v3,v4,v5,v0))
def zdS(o:Ops)(v0:yoF)(v1:qcY)(v2:qcX)(v3:qcW)(v4:qcZ)(v5:List ((Bs×Bs)×Unit)):Option ((Int×zdJ)):=
 (zjC o v0).bind fun v6=>bif(!v6)then some ((120:Int),v1,v2,v3,v4,v5)else((zkA o v0 v1 v2 v3 v4 v5).bind fun v8=>match v8 with
 |.inl v9=>some v9
 |.inr v10=>((ziS o v10.2.2.2.2.2).bind fun v11=>let v12:qcZ:=mset keqS kltS v10.2.2.2.1 v10.2.2.2.2.2.1 v11
 some ((0:Int),v10.1,v10.2.1,v10.2.2.1,v12,v10.2.2.2.2.1)))
def zjX(o:Ops):SC:=⟨⟨[(0,(.ptr 0 0)),(1,(.h yzQ))],[zbZ,zaQ,zaR,zaN,zaP,qaV]⟩,1,[(none,⟨[(0,hI)],[zbZ,zaQ,zaR,zaN,.mp false .s yzQ,qaV]⟩)],fun x=>zdS o x.1 x.2.1 x.2.2.1 x.2.2.2.1 x.2.2.2.2.1 x.2.2.2.2.2⟩
theorem zsR:SCok Tryz.prog tabs 37 (zjX o):=zdN (o:=o) (η:=[(2000006,.join [] [] [(some 1000000,⟨[(4,hI)],[zbZ,zaQ,zaR,zaN,zaP,qaV]⟩),(none,⟨[(0,(.ptr 0 0)),(3,(.ptr 6 0))],[zbZ,zaQ,zaR,zaN,zaP,qaV,.blk 51 [hS,hS,(.h (.sl .s)),(.h (.sl .s)),hB,hB,hB,hB]]⟩)]),
 (4000003,.sch [(.pu,0,[]),(.pu,1,[]),(.pu,2,[]),(.pu,3,[]),(.pu,4,[]),(.pu,5,[]),(.pu,6,[]),(.pu,7,[]),(.pu,8,[]),(.pu,9,[7]),(.mn,10,[]),(.mn,11,[7]),(.pu,12,[])]),
 (4000006,.sch [(.pu,0,[]),(.pu,1,[]),(.pu,2,[]),(.pu,3,[]),(.pu,4,[]),(.pu,5,[]),(.pu,6,[]),(.mn,7,[]),(.mn,8,[0,1,2,3,4,5,6])])]) (Γ:=⟨[(106,(zqR o)),(107,(zqN o))],[],false,[]⟩) (ctok ⟨zwN,⟨zwJ,trivial⟩⟩ trivial) Tryz.func37
noncomputable def zeS(o:Ops)(v0:Bs)(v1:qcY)(v2:qcX)(v3:qcW)(v4:qcZ)(v5:List ((Bs×Bs)×Unit)):Option ((Bs×zdJ)):=
 (app ([99,58]:Bs) v0).bind fun v6=>(zdF o v6 v1 v2 v3 v4 v5).bind fun v7=>some (v0,v7)
noncomputable def zhV(o:Ops):SC:=⟨⟨[(0,(.ptr 0 0)),(1,(.ptr 1 0))],[yoT,.blk 9 [hS],ynF,zaQ,zaR,zaN,zaP,qaV]⟩,0,[(none,⟨[],[yoT,.blk 9 [hS],ynF,zaQ,zaR,zaN,zaP,qaV]⟩)],fun x=>zeS o x.1 x.2.1 x.2.2.1 x.2.2.2.1 x.2.2.2.2.1 x.2.2.2.2.2⟩
theorem zqL:SCok Tryz.prog tabs 123 (zhV o):=zdN (o:=o) (η:=[]) (Γ:=⟨[],[(117,(zhQ o))],false,[]⟩) (ctok trivial ⟨znD,trivial⟩) Tryz.func123
noncomputable def ztQ(o:Ops)(v0:Bs)(v1:qcZ)(v2:Bs)(v3:qcY)(v4:qcX)(v5:qcW)(v6:List ((Bs×Bs)×Unit)):Option ((Int×qcZ×Bs×qcY×qcX×qcW×List ((Bs×Bs)×Unit))):=
 (zaO o v0).bind fun v7=>bif(!v7)then some ((120:Int),v1,v2,v3,v4,v5,v6)else(let _v8:yoF:=zfA keqS v1 v0 (([]:Bs),([]:Bs),([]:List Bs),([]:List Bs),false,false,false,false)
 bif(!(mhas keqS v1 v0))then some ((122:Int),v1,v2,v3,v4,v5,v6)else((zeS o v2 v3 v4 v5 (mdel keqS v1 v0) v6).bind fun v9=>some ((0:Int),v9.2.2.2.2.1,v9.1,v9.2.1,v9.2.2.1,v9.2.2.2.1,v9.2.2.2.2.2)))
noncomputable def zxU(o:Ops):SC:=⟨⟨[(0,(.mpr 0)),(1,hS),(2,(.fn 123 [] [(.ptr 1 0),(.ptr 2 0)]))],[zaP,ymJ,.blk 9 [hS],.blk 128 [(.mpr 4),(.mpr 5),(.mpr 6),(.mpr 0),(.mpr 7)],zaQ,zaR,zaN,qaV]⟩,1,[(none,⟨[(0,hI)],[zaP,ymJ,.blk 9 [hS],.blk 128 [(.mpr 4),(.mpr 5),(.mpr 6),(.mpr 0),(.mpr 7)],zaQ,zaR,zaN,qaV]⟩)],fun x=>ztQ o x.1 x.2.1 x.2.2.1 x.2.2.2.1 x.2.2.2.2.1 x.2.2.2.2.2.1 x.2.2.2.2.2.2⟩
theorem yfP:SCok Tryz.prog tabs 122 (zxU o):=zdN (o:=o) (η:=[]) (Γ:=⟨[(13,(zbE o))],[(123,(zhV o))],false,[]⟩) (ctok ⟨zbK,trivial⟩ ⟨zqL,trivial⟩) Tryz.func122
noncomputable def zdE(o:Ops)(v0:Bs)(v1:qcY)(v2:qcX)(v3:qcW)(v4:qcZ)(v5:List ((Bs×Bs)×Unit)):Option ((Int×zdJ)):=
 (ztQ o v0 v4 v0 v1 v2 v3 v5).bind fun v6=>some (v6.1,v6.2.2.2.1,v6.2.2.2.2.1,v6.2.2.2.2.2.1,v6.2.1,v6.2.2.2.2.2.2)
noncomputable def ziW(o:Ops):SC:=⟨⟨[(0,(.ptr 0 0)),(1,hS)],[zbZ,zaQ,zaR,zaN,zaP,qaV]⟩,1,[(none,⟨[(0,hI)],[zbZ,zaQ,zaR,zaN,zaP,qaV]⟩)],fun x=>zdE o x.1 x.2.1 x.2.2.1 x.2.2.2.1 x.2.2.2.2.1 x.2.2.2.2.2⟩
theorem zsJ:SCok Tryz.prog tabs 44 (ziW o):=zdN (o:=o) (η:=[(4000001,.sch [(.pu,0,[]),(.pu,1,[]),(.pu,2,[]),(.pu,3,[]),(.pu,4,[]),(.pu,5,[]),(.mn,6,[0,1,2,3,4,5,6,7]),(.pu,7,[])])]) (Γ:=⟨[],[(122,(zxU o))],false,[]⟩) (ctok trivial ⟨yfP,trivial⟩) Tryz.func44
def zpY(o:Ops)(v0:Bs)(v1:Bs)(v2:qcY)(v3:qcX)(v4:qcW)(v5:qcZ)(v6:List ((Bs×Bs)×Unit)):Option ((Int×zdJ)⊕zdJ):=
 (zbG o v0).bind fun v7=>bif(!v7)then some (.inl ((120:Int),v2,v3,v4,v5,v6))else((zbG o v1).bind fun v8=>bif(!v8)then some (.inl ((120:Int),v2,v3,v4,v5,v6))else some (.inr (v2,v3,v4,v5,v6)))
def zeG(o:Ops)(v0:Bs)(v1:Bs)(v2:qcY)(v3:qcX)(v4:qcW)(v5:qcZ)(v6:List ((Bs×Bs)×Unit)):Option ((Int×zdJ)):=
 (zpY o v0 v1 v2 v3 v4 v5 v6).bind fun v9=>match v9 with
 |.inl v10=>some v10
 |.inr v11=>((zbP o v0 v11.1 v11.2.1 v11.2.2.1 v11.2.2.2.1 v11.2.2.2.2).bind fun v12=>bif(!v12.1)then some ((122:Int),v12.2)else((zbP o v1 v12.2.1 v12.2.2.1 v12.2.2.2.1 v12.2.2.2.2.1 v12.2.2.2.2.2).bind fun v13=>bif(!v13.1)then some ((122:Int),v13.2)else some ((0:Int),v13.2)))
def zjN(o:Ops):SC:=⟨⟨[(0,(.ptr 0 0)),(1,hS),(2,hS)],[zbZ,zaQ,zaR,zaN,zaP,qaV]⟩,1,[(none,⟨[(0,hI)],[zbZ,zaQ,zaR,zaN,zaP,qaV]⟩)],fun x=>zeG o x.1 x.2.1 x.2.2.1 x.2.2.2.1 x.2.2.2.2.1 x.2.2.2.2.2.1 x.2.2.2.2.2.2⟩
theorem zpU:SCok Tryz.prog tabs 195 (zjN o):=zdN (o:=o) (η:=[(2000003,.join [] [1,2] [(some 1000000,⟨[(6,hI)],[zbZ,zaQ,zaR,zaN,zaP,qaV]⟩),(none,⟨[(0,(.ptr 0 0))],[zbZ,zaQ,zaR,zaN,zaP,qaV]⟩)])]) (Γ:=⟨[(19,(zhO o))],[(128,(zfD o))],false,[]⟩) (ctok ⟨zkW,trivial⟩ ⟨ziB,trivial⟩) Tryz.func195
def zeW(_o:Ops)(v0:Bs)(v1:Bs)(v2:qcY)(v3:qcX)(v4:qcW)(v5:qcZ)(v6:List ((Bs×Bs)×Unit)):Option ((Bool×zdJ)):=
 let _v7:Unit:=zfA (keq (.pr .s .s)) v6 (v0,v1) ()
 some (mhas (keq (.pr .s .s)) v6 (v0,v1),v2,v3,v4,v5,v6)
def zkI(o:Ops):SC:=⟨⟨[(0,(.ptr 0 0)),(1,hS),(2,hS)],[zbZ,zaQ,zaR,zaN,zaP,qaV]⟩,1,[(none,⟨[(0,hB)],[zbZ,zaQ,zaR,zaN,zaP,qaV]⟩)],fun x=>zeW o x.1 x.2.1 x.2.2.1 x.2.2.2.1 x.2.2.2.2.1 x.2.2.2.2.2.1 x.2.2.2.2.2.2⟩
theorem zqY:SCok Tryz.prog tabs 56 (zkI o):=zdN (o:=o) (η:=[]) (Γ:=⟨[],[],false,[]⟩) (ctok trivial trivial) Tryz.func56
def zfW(o:Ops)(v0:Bs)(v1:Bs)(v2:qcY)(v3:qcX)(v4:qcW)(v5:qcZ)(v6:List ((Bs×Bs)×Unit)):Option ((Int×zdJ)):=
 (zeG o v0 v1 v2 v3 v4 v5 v6).bind fun v7=>bif(v7.1 != 0)then some v7 else((zeW o v0 v1 v7.2.1 v7.2.2.1 v7.2.2.2.1 v7.2.2.2.2.1 v7.2.2.2.2.2).bind fun v8=>bif v8.1 then some ((121:Int),v8.2)else(bif decide ((v8.2.2.2.2.2.length:Int)≥64)then some ((124:Int),v8.2)else(let v9:List ((Bs×Bs)×Unit):=mset (keq (.pr .s .s)) (klt (.pr .s .s)) v8.2.2.2.2.2 (v0,v1) ()
 some ((0:Int),v8.2.1,v8.2.2.1,v8.2.2.2.1,v8.2.2.2.2.1,v9))))
def zoF(o:Ops):SC:=⟨⟨[(0,(.ptr 0 0)),(1,hS),(2,hS)],[zbZ,zaQ,zaR,zaN,zaP,qaV]⟩,1,[(none,⟨[(0,hI)],[zbZ,zaQ,zaR,zaN,zaP,.mp false (.pr .s .s) .un]⟩)],fun x=>zfW o x.1 x.2.1 x.2.2.1 x.2.2.2.1 x.2.2.2.2.1 x.2.2.2.2.2.1 x.2.2.2.2.2.2⟩
theorem zxA:SCok Tryz.prog tabs 97 (zoF o):=zdN (o:=o) (η:=[]) (Γ:=⟨[],[(195,(zjN o)),(56,(zkI o))],false,[]⟩) (ctok trivial ⟨zpU,⟨zqY,trivial⟩⟩) Tryz.func97
def zgM(o:Ops)(v0:Bs)(v1:Bs)(v2:qcY)(v3:qcX)(v4:qcW)(v5:qcZ)(v6:List ((Bs×Bs)×Unit)):Option ((Int×zdJ)):=
 (zeG o v0 v1 v2 v3 v4 v5 v6).bind fun v7=>bif(v7.1 != 0)then some v7 else((zeW o v0 v1 v7.2.1 v7.2.2.1 v7.2.2.2.1 v7.2.2.2.2.1 v7.2.2.2.2.2).bind fun v8=>bif(!v8.1)then some ((122:Int),v8.2)else some ((0:Int),v8.2.1,v8.2.2.1,v8.2.2.2.1,v8.2.2.2.2.1,mdel (keq (.pr .s .s)) v8.2.2.2.2.2 (v0,v1)))
def zpR(o:Ops):SC:=⟨⟨[(0,(.ptr 0 0)),(1,hS),(2,hS)],[zbZ,zaQ,zaR,zaN,zaP,qaV]⟩,1,[(none,⟨[(0,hI)],[zbZ,zaQ,zaR,zaN,zaP,qaV]⟩)],fun x=>zgM o x.1 x.2.1 x.2.2.1 x.2.2.2.1 x.2.2.2.2.1 x.2.2.2.2.2.1 x.2.2.2.2.2.2⟩
theorem zyE:SCok Tryz.prog tabs 98 (zpR o):=zdN (o:=o) (η:=[]) (Γ:=⟨[],[(195,(zjN o)),(56,(zkI o))],false,[]⟩) (ctok trivial ⟨zpU,⟨zqY,trivial⟩⟩) Tryz.func98
noncomputable def zcA(o:Ops)(v0:xtZ)(v1:qcY)(v2:qcX)(v3:qcW)(v4:qcZ)(v5:List ((Bs×Bs)×Unit)):Option ((Int×zdJ)):=
 bif(v0.2.1==0)then((zcD o v0.2.2.1 v0.2.2.2.1 v1 v2 v3 v4 v5).bind fun v6=>some v6)else(bif(v0.2.1==1)then((zeK o v0.2.2.1 v0.2.2.2.1 v1 v2 v3 v4 v5).bind fun v7=>some v7)else(bif(v0.2.1==2)then((zdR o v0.2.2.1 v0.2.2.2.2.1 v1 v2 v3 v4 v5).bind fun v8=>some v8)else(bif(v0.2.1==3)then((zeC o v0.2.2.1 v1 v2 v3 v4 v5).bind fun v9=>some v9)else(bif(v0.2.1==4)then((zbY o v0.2.2.1 v1 v2 v3 v4 v5).bind fun v10=>some v10)else(bif(v0.2.1==5)then((zdO o v0.2.2.1 v1 v2 v3 v4 v5).bind fun v11=>some v11)else(bif(v0.2.1==6)then((zgQ o v0.2.2.1 v0.2.2.2.1 v1 v2 v3 v4 v5).bind fun v12=>some v12)else(bif(v0.2.1==7)then((zjQ o v0.2.2.1 v0.2.2.2.1 v1 v2 v3 v4 v5).bind fun v13=>some v13)else(bif(v0.2.1==8)then((zbN o v0.2.2.1 v0.2.2.2.1 v1 v2 v3 v4 v5).bind fun v14=>some v14)else(bif(v0.2.1==9)then((zhY o v0.2.2.1 v0.2.2.2.1 v1 v2 v3 v4 v5).bind fun v15=>some v15)else(bif(v0.2.1==10)then((zgO o v0.2.2.1 v0.2.2.2.1 v1 v2 v3 v4 v5).bind fun v16=>some v16)else(bif(v0.2.1==11)then((zkH o v0.2.2.1 v0.2.2.2.1 v1 v2 v3 v4 v5).bind fun v17=>some v17)else(bif(v0.2.1==12)then((zcT o v0.2.2.2.2.2.1 v1 v2 v3 v4 v5).bind fun v18=>some v18)else(bif(v0.2.1==13)then((zeF o v0.2.2.1 v1 v2 v3 v4 v5).bind fun v19=>some v19)else(bif(v0.2.1==14)then((zdS o v0.2.2.2.2.2.2 v1 v2 v3 v4 v5).bind fun v20=>some v20)else(bif(v0.2.1==15)then((zdE o v0.2.2.1 v1 v2 v3 v4 v5).bind fun v21=>some v21)else(bif(v0.2.1==16)then((zfW o v0.2.2.1 v0.2.2.2.1 v1 v2 v3 v4 v5).bind fun v22=>some v22)else(bif(v0.2.1==17)then((zgM o v0.2.2.1 v0.2.2.2.1 v1 v2 v3 v4 v5).bind fun v23=>some v23)else some ((0:Int),v1,v2,v3,v4,v5))))))))))))))))))
noncomputable def zoJ(o:Ops):SC:=⟨⟨[(0,(.ptr 0 0)),(1,(.h xuI))],[zbZ,zaQ,zaR,zaN,zaP,qaV]⟩,1,[(none,⟨[(0,hI)],[zbZ,yyP,yqC,.mp false .s xnG,.mp false .s yzQ,.mp false (.pr .s .s) .un]⟩)],fun x=>zcA o x.1 x.2.1 x.2.2.1 x.2.2.2.1 x.2.2.2.2.1 x.2.2.2.2.2⟩
theorem zwV:SCok Tryz.prog tabs 31 (zoJ o):=zdN (o:=o) (η:=[]) (Γ:=⟨[],[(71,(zgZ o)),(92,(zlY o)),(93,(zkC o)),(41,(zkJ o)),(72,(zgF o)),(42,(zjY o)),(73,(zjF o)),(94,(znP o)),(33,(zgB o)),(95,(znI o)),(74,(ziT o)),(96,(zpO o)),(36,(zgV o)),(43,(zkK o)),(37,(zjX o)),(44,(ziW o)),(97,(zoF o)),(98,(zpR o))],false,[]⟩) (ctok trivial ⟨zlU,⟨zuY,⟨zsU,⟨ztO,⟨zkR,⟨zsP,⟨zpJ,⟨zwR,⟨zjM,⟨zvV,⟨zpX,⟨zxM,⟨zmC,⟨ztY,⟨zsR,⟨zsJ,⟨zxA,⟨zyE,trivial⟩⟩⟩⟩⟩⟩⟩⟩⟩⟩⟩⟩⟩⟩⟩⟩⟩⟩) Tryz.func31
end
theorem xmF{a b:Nat}(h:a+b<1099511627776):w64 ((i64 (shrI .u64 ((i64 (w64 ((a:Int)+(b:Int)))).toNat:Int) ((1:UInt64).toNat:Int))).toNat:Int)=(((a+b)/2:Nat):Int):=by
 have e1:w64 ((a:Int)+(b:Int))=((a+b:Nat):Int):=by rw[zqB (by omega) (by omega)];omega
 have e2:((i64 ((a+b:Nat):Int)).toNat:Int)=((a+b:Nat):Int):=ymO (by omega) (by omega)
 rw[e1,e2]
 have e3:shrI .u64 ((a+b:Nat):Int) ((1:UInt64).toNat:Int)=(((a+b)/2:Nat):Int):=by
  unfold shrI
  rw[show(min ((1:UInt64).toNat:Int).toNat IntKind.u64.bits)=1 from rfl,yeK]
 rw[e3,ymO (by omega) (by omega),zqB (by omega) (by omega)]
theorem xpF(x y:L8):zyZ zaB x y=some (kltS x y):=by
 unfold zyZ zvT
 rw[zaA,bne_self_eq_false]
 rfl
def zpN(x:L8)(l:List L8):Nat:=(l.takeWhile fun y=>kltS y x).length
theorem xaF(x:L8)(l:List L8):zpN x l<=l.length:=(List.takeWhile_sublist _).length_le
theorem yjX{x:L8}:∀{l:List L8},RiL l->∀{m:Nat} (hm:m<l.length),kltS l[m] x=decide (m<zpN x l)
 |y::l,h,m,hm=>by
  have hc:=List.pairwise_cons.1 h
  cases hy:kltS y x with
  |true=>
   have e:zpN x (y::l)=zpN x l+1:=by unfold zpN;rw[List.takeWhile_cons,if_pos hy];rfl
   rw[e]
   cases m with
   |zero=>rw[decide_eq_true (by omega)];exact hy
   |succ m=>
    have hm':m<l.length:=by simpa using hm
    rw[List.getElem_cons_succ,yjX (x:=x) hc.2 hm']
    exact decide_eq_decide.2 (by omega)
  |false=>
   have e:zpN x (y::l)=0:=by unfold zpN;rw[List.takeWhile_cons,if_neg (by rw[hy];simp)];rfl
   rw[e,decide_eq_false (by omega)]
   cases m with
   |zero=>exact hy
   |succ m=>
    have hm':m<l.length:=by simpa using hm
    rw[List.getElem_cons_succ]
    cases hz:kltS l[m] x with
    |false=>rfl
    |true=>
     have:=kS.tr (hc.1 _ (List.getElem_mem hm')) hz
     rw[hy]at this;cases this
theorem xlU{x:L8}{l:List L8}(h:RiL l):l.contains x=match l[zpN x l]? with
  |some y=>y==x
  |none=>false:=by
 cases hc:l.contains x with
 |true=>
  obtain⟨m,hm,e⟩:=List.getElem_of_mem (List.contains_iff_mem.1 hc)
  have h1:=yjX (x:=x) h hm
  rw[e,kS.irr]at h1
  have h1:¬m<zpN x l:=of_decide_eq_false h1.symm
  have h2:zpN x l=m:=by
   refine Nat.le_antisymm (by omega) (Nat.le_of_not_lt fun hl=>?_)
   have h3:kltS l[zpN x l] l[m]=true:=List.pairwise_iff_getElem.1 h _ _ (by omega) hm hl
   rw[e]at h3
   rw[yjX h (by omega)]at h3
   have:=of_decide_eq_true h3
   omega
  rw[h2,List.getElem?_eq_getElem hm,e]
  simp
 |false=>
  cases hg:l[zpN x l]? with
  |none=>rfl
  |some y=>
   have hy:=List.mem_of_getElem? hg
   show false=(y==x)
   cases hb:y==x with
   |false=>rfl
   |true=>
    rw[beq_iff_eq.1 hb]at hy
    rw[List.contains_iff_mem.2 hy]at hc;cases hc
theorem xtF{l:List L8}(x:L8)(h:RiL l)(hl:l.length<=1048576):zdX zaB l x=some ((zpN x l:Int),l.contains x):=by
 have hr:=xaF x l
 have hi:iter (fun s:Int×Int=>zfC zaB l x s.1 s.2) ((0:Int),(l.length:Int))=some (zpN x l:Int):=by
  have ht:T (iter (fun s:Int×Int=>zfC zaB l x s.1 s.2) ((0:Int),(l.length:Int))) fun r=>r=(zpN x l:Int):=by
   refine T.iter (fun s=>∃i j:Nat,s=((i:Int),(j:Int))/\i<=zpN x l/\zpN x l<=j/\j<=l.length) (fun s=>(s.2-s.1).toNat) _ ?_ ⟨0,l.length,rfl,by omega,hr,by omega⟩ (by simp;omega)
   rintro s ⟨i,j,rfl,h1,h2,h3⟩
   unfold zfC
   simp only
   refine T.dif (fun hij=>?_) fun hij=>T.ok (by show(i:Int)=_;omega)
   have hij:i<j:=by omega
   rw[show chk (decide ((0:Int)<=((1:UInt64).toNat:Int)))=some ()from rfl,zaA,xmF (by omega)]
   have hm:(i+j)/2<l.length:=by omega
   rw[zfO rfl hm,zaA,xpF,zaA,yjX h hm]
   refine T.dif (fun hlt=>?_) fun hlt=>?_
   ·refine T.ok ⟨⟨(i+j)/2+1,j,?_,by omega,h2,h3⟩,?_⟩
    ·rw[zrK (by omega)]
    ·rw[zrK (by omega)];simp only;omega
   ·exact T.ok ⟨⟨i,(i+j)/2,rfl,h1,by omega,by omega⟩,by simp only;omega⟩
  obtain⟨r,h1,rfl⟩:=ht
  exact h1
 unfold zdX
 rw[hi,zaA,xlU h]
 by_cases hlt:zpN x l<l.length
 ·rw[zdU (show(zpN x l:Int)<(l.length:Int) by omega),zfO rfl hlt,zaA,List.getElem?_eq_getElem hlt]
  simp only
  cases hb:l[zpN x l]==x with
  |true=>rfl
  |false=>
   rw[cond_false,zaA]
   unfold zpE
   rw[zaA,bne_self_eq_false]
   rfl
 ·rw[zdG (show ¬(zpN x l:Int)<(l.length:Int) by omega),List.getElem?_eq_none (by omega)]
theorem ydM{l:List L8}(x:L8)(h:RiL l)(hl:l.length<=1048576):zaY zaB l x=some (l.contains x):=by
 unfold zaY
 rw[xtF x h hl,zaA]
theorem yvX(x:L8)(l:List L8):l.take (zpN x l)++[x]++l.drop (zpN x l)=ynQ x l:=by
 have e:=List.takeWhile_append_dropWhile (p:=fun y=>kltS y x) (l:=l)
 unfold ynQ zpN
 generalize l.takeWhile (fun y=>kltS y x)=a at e ⊢
 generalize l.dropWhile (fun y=>kltS y x)=b at e ⊢
 subst e
 rw[List.take_left' rfl,List.drop_left' rfl,List.append_assoc];rfl
theorem yqZ{l:List L8}(x:L8)(h:RiL l)(hl:l.length<=1048575):zeP zaB l x=some (ynQ x l):=by
 have hr:=xaF x l
 unfold zeP
 rw[xtF x h (by omega),zaA,zvY _ (by omega),zaA]
 simp only[xhY,insP]
 rw[show(decide ((0:Int)<=(zpN x l:Int))&&decide ((zpN x l:Int).toNat<=l.length)&&decide (1<=[x].length)&&decide (l.length+[x].length<=1048576))=true by simp;omega,cond_true,zaA,Int.toNat_natCast,yvX]
theorem zzH(l:List L8)(x:L8)(hl:l.length<=1048576):zaW zaB l x=some (woL x l):=by
 unfold zaW
 rw[zvY _ (by omega),zaA]
 simp only
 rw[zdU (by omega)]
 rfl
theorem xiK{l:List L8}{may:L8->Bool}{n:Nat}{body:Int->Option (Int⊕(Bool⊕Unit))}(hl:l.length<=1048576)
  (hb:∀(k:Nat) (hk:k<l.length),body (k:Int)=bif !may l[k]then some (.inr (.inl false))else bif decide ((k:Int)>(0:Int))then(idx l (w64 ((k:Int)-(1:Int)))).bind fun v5=>bif(Op.bytesLess l[k] v5||l[k]==v5)then some (.inr (.inl false))else some (.inl (w64 ((k:Int)+(1:Int))))else some (.inl (w64 ((k:Int)+(1:Int)))))
  (he:body (l.length:Int)=some (.inr (.inr ()))):
  ((iter body (0:Int)).bind fun v6=>match v6 with
   |.inl v7=>some v7
   |.inr _=>some (decide ((l.length:Int)<=(n:Int))))=some (ybY n may l):=by
 have key:∀(f k:Nat),f+k=l.length->∀g,f<g->(0<k->∀y,l[k-1]? = some y->True)->zoW body g (k:Int)=some (bif(l.drop k).all may&&zsN (l.drop (k-1))then .inr ()else .inl false):=by
  intro f
  induction f with
  |zero=>
   intro k hk g hg _
   obtain⟨g,rfl⟩:∃m,g=m+1:=⟨g-1,by omega⟩
   have hk:k=l.length:=by omega
   subst hk
   rw[zdA he,List.drop_length]
   have:zsN (l.drop (l.length-1))=true:=by
    have hlen:(l.drop (l.length-1)).length<=1:=by rw[List.length_drop];omega
    match l.drop (l.length-1),hlen with
    |[],_=>rfl
    |[_],_=>rfl
   rw[this];rfl
  |succ f ih=>
   intro k hk g hg _
   obtain⟨g,rfl⟩:∃m,g=m+1:=⟨g-1,by omega⟩
   have hlt:k<l.length:=by omega
   have hd:l.drop k=l[k]::l.drop (k+1):=List.drop_eq_getElem_cons hlt
   have hb':=hb k hlt
   cases hm:may l[k] with
   |false=>
    rw[hm]at hb'
    rw[zdA (b:=.inl false) hb',hd,List.all_cons,hm]
    rfl
   |true=>
    rw[hm]at hb'
    simp only[Bool.not_true,cond_false]at hb'
    cases k with
    |zero=>
     rw[show decide (((0:Nat):Int)>(0:Int))=false from rfl,cond_false]at hb'
     rw[zcE (s':=((1:Nat):Int)) (by rw[hb'];rfl),ih 1 (by omega) g (by omega) (fun _ _ _=>trivial),hd,List.all_cons,hm,Bool.true_and,<-hd]
    |succ k=>
     have hp:k<l.length:=by omega
     have hd2:l.drop k=l[k]::l.drop (k+1):=List.drop_eq_getElem_cons hp
     rw[decide_eq_true (show(((k+1:Nat):Int))>0 by omega),cond_true,show w64 (((k+1:Nat):Int)-1)=(k:Int) by rw[zqB (by omega) (by omega)];omega,zfO rfl hp,zaA,zrK (by omega)]at hb'
     have hr:zsN (l.drop k)=(Op.bytesLess l[k] l[k+1]&&zsN (l.drop (k+1))):=by rw[hd2,hd];rfl
     have hq:(Op.bytesLess l[k+1] l[k]||l[k+1]==l[k]) = !(Op.bytesLess l[k] l[k+1]):=by
      have h1:Op.bytesLess l[k] l[k+1]=kltS l[k] l[k+1]:=rfl
      have h2:Op.bytesLess l[k+1] l[k]=kltS l[k+1] l[k]:=rfl
      rw[h1,h2]
      by_cases e:l[k+1]=l[k]
      ·rw[e,kS.irr];simp
      ·rw[beq_false_of_ne e,Bool.or_false]
       cases hx:kltS l[k] l[k+1] with
       |true=>
        cases hy:kltS l[k+1] l[k] with
        |false=>rfl
        |true=>have:=kS.tr hx hy;rw[kS.irr]at this;cases this
       |false=>exact kS.tri hx fun e'=>e e'.symm
     rw[hq]at hb'
     rw[Nat.add_sub_cancel,hr,hd,List.all_cons,hm,Bool.true_and]
     cases hx:Op.bytesLess l[k] l[k+1] with
     |false=>
      rw[hx]at hb'
      rw[zdA (b:=.inl false) hb']
      simp
     |true=>
      rw[hx]at hb'
      rw[zcE (s':=((k+1+1:Nat):Int)) hb',ih (k+1+1) (by omega) g (by omega) (fun _ _ _=>trivial),Nat.add_sub_cancel,Bool.true_and,hd]
 have h0:=key l.length 0 (by omega) FU (by unfold FU;omega) (fun h=>by omega)
 unfold iter
 rw[show((0:Nat):Int)=0 from rfl]at h0
 rw[h0,zaA]
 unfold ybY
 rw[Nat.zero_sub,List.drop_zero]
 cases l.all may&&zsN l with
 |false=>rfl
 |true=>
  show some (decide ((l.length:Int)<=(n:Int)))=_
  rw[Bool.true_and]
  congr 1
  exact decide_eq_decide.2 (by omega)
theorem yoH{l:List L8}(hl:l.length<=1048576)(n:Nat):zkN zaB l (n:Int)=some (ybY n scB l):=by
 unfold zkN
 refine xiK hl (fun k hk=>?_) ?_
 ·unfold zsD
  rw[zdU (by omega),zfO rfl hk,zaA,xrO,zaA]
 ·unfold zsD
  rw[zdG (by omega)]
theorem yxE{l:List L8}(hl:l.length<=1048576)(n:Nat):zmQ zaB l (n:Int)=some (ybY n txB l):=by
 unfold zmQ
 refine xiK hl (fun k hk=>?_) ?_
 ·unfold zqJ
  rw[zdU (by omega),zfO rfl hk,zaA,yvL,zaA]
 ·unfold zqJ
  rw[zdG (by omega)]
theorem ywL{r:Ro}(h:r.2.length<=1048576):zmO zaB r=some (ydQ r):=by
 unfold zmO ydQ
 rw[zuD,zaA]
 cases nmB r.1 with
 |false=>rfl
 |true=>
  rw[cond_true,show((16:Int))=((16:Nat):Int)from rfl,yoH h,zaA]
  rfl
theorem yqB{r:Ro}(h:r.2.length<=1048576):zfB zaB r=some r:=by
 unfold zfB
 rw[zvY _ (by omega),zaA]
theorem yqJ{c:Cl}(h:c.2.2.1.length<=1048576)(k:c.2.2.2.1.length<=1048576):ziS zaB c=some c:=by
 unfold ziS
 rw[zvY _ (by omega),zaA,zvY _ (by omega),zaA]
abbrev hexL:L8:=[48,49,50,51,52,53,54,55,56,57,97,98,99,100,101,102]
theorem xsQ(b:UInt8):hexL.contains b=hexB b:=by
 have:=ykR (fun b=>hexL.contains b==hexB b) (by kernel_rfl) b
 simpa using this
theorem xjR{c:Cl}(h0:c.2.1.length<=1048576)(h:c.2.2.1.length<=1048576)(k:c.2.2.2.1.length<=1048576):zjC zaB c=some (cliB c):=by
 have hj:zqO zaB c=some (c.2.1==[]||(decide (c.2.1.length=64)&&c.2.1.all hexB),c):=by
  unfold zqO
  cases h1:c.2.1==([]:L8) with
  |true=>rfl
  |false=>
   rw[cond_false,Bool.false_or]
   by_cases h2:c.2.1.length=64
   ·rw[show((c.2.1.length:Int)==(64:Int))=true by rw[h2];rfl,cond_true,show zaB.trim c.2.1 hexL=some (Lib.trimS c.2.1 hexL)from xkI (by omega) (by decide) (by decide),zaA,decide_eq_true h2,Bool.true_and]
    congr 2
    rw[Bool.eq_iff_iff,beq_iff_eq,ynR,List.all_eq_true]
    exact forall_congr' fun b=>imp_congr Iff.rfl (by rw[xsQ])
   ·rw[show((c.2.1.length:Int)==(64:Int))=false by rw[beq_eq_false_iff_ne];omega,decide_eq_false h2]
    rfl
 unfold zjC cliB
 rw[hj,zaA,zuD,zaA]
 cases nmB c.1 with
 |false=>rfl
 |true=>
  rw[cond_true,Bool.true_and]
  cases (c.2.1==[]||(decide (c.2.1.length=64)&&c.2.1.all hexB)) with
  |false=>rfl
  |true=>
   rw[cond_true,Bool.true_and,show((16:Int))=((16:Nat):Int)from rfl,yxE h,zaA]
   cases ybY 16 txB c.2.2.1 with
   |false=>rfl
   |true=>
    rw[cond_true,yoH k,zaA]
    rfl
theorem xmW{G:GM}(_hR:Ri kltS G){a x:L8}(h:x∈lst 1 (zfA keqS G a zG)):∃g,(a,g)∈G/\x∈lst 1 g:=by
 rw[zrR]at h
 cases hg:mget keqS G a with
 |none=>rw[hg]at h;cases h
 |some g=>rw[hg]at h;exact⟨g,kS.get_some hg,h⟩
theorem xhC{G:GM}(hR:Ri kltS G){a:L8}{g:Gr}(h:(a,g)∈G):zfA keqS G a zG=g:=by rw[zrR,kS.get_mem hR h];rfl
abbrev SM:Type:=List (L8×Unit)
def ybA(z:SM×List L8)(x:L8):SM×List L8:=bif mhas keqS z.1 x then z else(mset keqS kltS z.1 x (),z.2++[x])
theorem yjM:∀(l:List L8) (z:SM×List L8),Ri kltS z.1->Ri kltS (l.foldl ybA z).1/\(∀x,mhas keqS (l.foldl ybA z).1 x=true↔mhas keqS z.1 x=true∨x∈l)/\∃n,(l.foldl ybA z).2=z.2++n/\(l.foldl ybA z).1.length=z.1.length+n.length/\(∀x∈n,x∈l)/\∀x,mhas keqS (l.foldl ybA z).1 x=true->mhas keqS z.1 x=true∨x∈n
 |[],z,h=>⟨h,fun x=>by simp,[],by simp,rfl,fun _ h=>h,fun _ h=>.inl h⟩
 |y::l,z,h=>by
  rw[List.foldl_cons]
  cases hy:mhas keqS z.1 y with
  |true=>
   have e:ybA z y=z:=by unfold ybA;rw[hy];rfl
   rw[e]
   obtain⟨h1,h2,n,h3,h4,h5,h6⟩:=yjM l z h
   refine⟨h1,fun x=>?_,n,h3,h4,fun x hx=>List.mem_cons_of_mem _ (h5 x hx),h6⟩
   rw[h2,List.mem_cons]
   constructor
   ·rintro(h|h)
    ·exact .inl h
    ·exact .inr (.inr h)
   ·rintro(h|rfl|h)
    ·exact .inl h
    ·exact .inl hy
    ·exact .inr h
  |false=>
   have e:ybA z y=(mset keqS kltS z.1 y (),z.2++[y]):=by unfold ybA;rw[hy];rfl
   have hs:∀x,mhas keqS (mset keqS kltS z.1 y ()) x=true↔x=y∨mhas keqS z.1 x=true:=fun x=>by
    rw[ziV,kS.set_get h,ziV]
    by_cases hk:keqS y x=true
    ·rw[if_pos hk]
     have:=kS.e.1 hk
     subst this
     simp
    ·rw[if_neg hk]
     have:x≠y:=fun e=>hk (kS.e.2 e.symm)
     simp[this]
   rw[e]
   obtain⟨h1,h2,n,h3,h4,h5,h6⟩:=yjM l (mset keqS kltS z.1 y (),z.2++[y]) (kS.set_ri h)
   refine⟨h1,fun x=>?_,y::n,by rw[h3,List.append_assoc];rfl,?_,fun x hx=>?_,fun x hx=>?_⟩
   ·rw[h2,List.mem_cons,hs]
    constructor
    ·rintro((h|h)|h)
     ·exact .inr (.inl h)
     ·exact .inl h
     ·exact .inr (.inr h)
    ·rintro(h|h|h)
     ·exact .inl (.inr h)
     ·exact .inl (.inl h)
     ·exact .inr h
   ·rw[h4]
    show(mset keqS kltS z.1 y ()).length+n.length=_
    rw[zyR,hy,if_neg (by simp),List.length_cons];omega
   ·rcases List.mem_cons.1 hx with rfl|hx
    ·exact List.mem_cons_self
    ·exact List.mem_cons_of_mem _ (h5 x hx)
   ·rcases h6 x hx with h|h
    ·rcases(hs x).1 h with rfl|h
     ·exact .inr List.mem_cons_self
     ·exact .inl h
    ·exact .inr (List.mem_cons_of_mem _ h)
def ynH(G:GM):List L8:=G.flatMap fun p=>lst 1 p.2
theorem ynL{s:PS}{g:Gr}(hl:(lst 1 g).length<=1048576):∀(f k:Nat) (z:SM×List L8),f+k=(lst 1 g).length->z.2.length+f<=68719476736->∀n,f<n ->
  zoW (fun x:Int×UM×GM×RM×CM×MM×SM×List L8=>zeD zaB g x.1 x.2.1 x.2.2.1 x.2.2.2.1 x.2.2.2.2.1 x.2.2.2.2.2.1 x.2.2.2.2.2.2.1 x.2.2.2.2.2.2.2) n ((k:Int),s.1,s.2.1,s.2.2.1,s.2.2.2.1,s.2.2.2.2,z.1,z.2)=some (s.1,s.2.1,s.2.2.1,s.2.2.2.1,s.2.2.2.2,((lst 1 g).drop k).foldl ybA z)
 |0,k,z,hk,_,n+1,_=>by
  have hk:k=(lst 1 g).length:=by omega
  subst hk
  rw[List.drop_length]
  refine zdA ?_
  unfold zeD
  simp only
  rw[zdG (by show ¬((lst 1 g).length:Int)<((lst 1 g).length:Int);omega)]
  rfl
 |f+1,k,z,hk,hz,n+1,hn=>by
  have hlt:k<(lst 1 g).length:=by omega
  rw[List.drop_eq_getElem_cons hlt,List.foldl_cons]
  have e:=ynL (s:=s) hl f (k+1) (ybA z (lst 1 g)[k]) (by omega) (by
   unfold ybA
   cases mhas keqS z.1 (lst 1 g)[k] with
   |true=>rw[cond_true];omega
   |false=>rw[cond_false];simp;omega) n (by omega)
  rw[<-e]
  refine zcE ?_
  unfold zeD
  simp only
  rw[zdU (by show(k:Int)<((lst 1 g).length:Int);omega),show idx g.1.2.1 (k:Int)=some (lst 1 g)[k]from zfO rfl hlt,zaA,zrK (by omega)]
  unfold ybA
  cases mhas keqS z.1 (lst 1 g)[k] with
  |true=>rfl
  |false=>
   rw[Bool.not_false,cond_true,zlJ (by simp;omega),zaA]
   rfl
theorem yxN{B:Int}{s:PS}(h:PInv B s)(a b:L8):∃r:Bool,zfN zaB a b s.1 s.2.1 s.2.2.1 s.2.2.2.1 s.2.2.2.2=some (r,s)/\(r=true↔Reach s.2.1 a b):=by
 have hlen:∀k g,(k,g)∈s.2.1->(lst 1 g).length<=32:=fun k g hg=>by
  obtain⟨h1,h2⟩:=h.gl k g hg 1 (by decide)
  have:=h1.sub_len (m:=s.2.1.map (·.1)) fun x hx=>by
   obtain⟨v,hv⟩:=kS.has_iff.1 (show mhas keqS s.2.1 x=true from h2 x hx)
   exact List.mem_map.2 ⟨_,hv,rfl⟩
  rw[List.length_map]at this
  exact Nat.le_trans this h.gL
 have hlenD:∀k,(lst 1 (zfA keqS s.2.1 k zG)).length<=32:=fun k=>by
  rw[zrR]
  cases hg:mget keqS s.2.1 k with
  |none=>exact Nat.zero_le _
  |some g=>exact hlen k g (kS.get_some hg)
 have hU:(a::ynH s.2.1).length<=1100:=by
  have:∀G:GM,(∀k g,(k,g)∈G->(lst 1 g).length<=32)->(ynH G).length<=32*G.length:=by
   intro G
   induction G with
   |nil=>intro _;exact Nat.le_refl _
   |cons p G ih=>
    intro hg
    have h1:=ih fun k g hk=>hg k g (List.mem_cons_of_mem _ hk)
    have h2:=hg p.1 p.2 List.mem_cons_self
    unfold ynH at *
    rw[List.flatMap_cons,List.length_append,List.length_cons];omega
  have:=this s.2.1 hlen
  have:=h.gL
  rw[List.length_cons];omega
 let I:UM×GM×RM×CM×MM×SM×List L8->Prop:=fun t=>(t.1,t.2.1,t.2.2.1,t.2.2.2.1,t.2.2.2.2.1)=s/\Ri kltS t.2.2.2.2.2.1/\(∀x,mhas keqS t.2.2.2.2.2.1 x=true->x∈a::ynH s.2.1/\Reach s.2.1 a x)/\(∀x∈t.2.2.2.2.2.2,mhas keqS t.2.2.2.2.2.1 x=true)/\mhas keqS t.2.2.2.2.2.1 a=true /\
  (∀x,mhas keqS t.2.2.2.2.2.1 x=true->x∈t.2.2.2.2.2.2∨(x≠b/\∀y∈lst 1 (zfA keqS s.2.1 x zG),mhas keqS t.2.2.2.2.2.1 y=true))/\t.2.2.2.2.2.2.length<=t.2.2.2.2.2.1.length
 have hseen:∀t,I t->t.2.2.2.2.2.1.length<=1100:=fun t hI=>by
  obtain⟨_,h1,h2,_⟩:=hI
  have hn:(t.2.2.2.2.2.1.map (·.1)).Nodup:=(List.pairwise_map.2 (h1.imp fun {p q} hpq=>kS.lt_ne hpq):(t.2.2.2.2.2.1.map (·.1)).Pairwise (· ≠ ·))
  have:=zrI hn (m:=a::ynH s.2.1) fun x hx=>by
   obtain⟨p,hp,rfl⟩:=List.mem_map.1 hx
   exact(h2 p.1 (kS.has_iff.2 ⟨p.2,hp⟩)).1
  rw[List.length_map]at this
  omega
 have ht:T (iter (fun x:UM×GM×RM×CM×MM×SM×List L8=>zeL zaB b x.1 x.2.1 x.2.2.1 x.2.2.2.1 x.2.2.2.2.1 x.2.2.2.2.2.1 x.2.2.2.2.2.2) (s.1,s.2.1,s.2.2.1,s.2.2.2.1,s.2.2.2.2,mset keqS kltS ([]:SM) a (),[a])) fun r=>match r with
   |.inl v=>v.2=s/\v.1=true/\Reach s.2.1 a b
   |.inr v=>v=s/\¬Reach s.2.1 a b:=by
  refine T.iter I (fun t=>2*(1100-t.2.2.2.2.2.1.length)+t.2.2.2.2.2.2.length) _ ?_ ?_ ?_
  ·rintro t hI
   have hS:=hseen t hI
   obtain⟨u,g,r,c,m,sn,row⟩:=t
   obtain⟨hs,h1,h2,h3,h4,h5,h6⟩:=hI
   have hs:(u,g,r,c,m)=s:=hs
   subst hs
   simp only at h1 h2 h3 h4 h5 h6 hS ⊢
   unfold zeL
   cases row with
   |nil=>
    refine T.ok (P:=_) ?_
    refine⟨rfl,fun hr=>?_⟩
    have key:∀x,Reach g a x->mhas keqS sn x=true:=fun x hx=>by
     induction hx with
     |refl=>exact h4
     |step _ hg hx ih=>
      rcases h5 _ ih with hb|⟨_,hb⟩
      ·cases hb
      ·rw[xhC h.gR hg]at hb
       exact hb _ hx
    rcases h5 b (key b hr)with hb|⟨hb,_⟩
    ·cases hb
    ·exact hb rfl
   |cons y row=>
    rw[zdU (by show((y::row).length:Int)>0;rw[List.length_cons];omega)]
    have hck:chk (decide ((0:Int)<=0)&&decide ((0:Int)<((y::row).length:Int)))=some ():=by
     rw[decide_eq_true (show(0:Int)<((y::row).length:Int) by rw[List.length_cons];omega)];rfl
    have hix:idx (y::row) (0:Int)=some y:=rfl
    rw[hck,zaA,hix,zaA]
    by_cases hyb:y=b
    ·subst hyb
     rw[show(y==y)=true from beq_self_eq_true y,cond_true]
     exact T.ok ⟨rfl,rfl,(h2 y (h3 y List.mem_cons_self)).2⟩
    ·rw[beq_false_of_ne hyb,cond_false,zaA,zaA]
     have hy:=h2 y (h3 y List.mem_cons_self)
     have hq:=hlenD y
     simp only at hq
     generalize hgy:zfA keqS g y zG=gy at hq
     show T (Option.bind (iter _ ((0:Int),u,g,r,c,m,sn,y::row)) _) _
     rw[show iter _ ((0:Int),u,g,r,c,m,sn,y::row)=_ from ynL (s:=(u,g,r,c,m)) (g:=gy) (by omega) (lst 1 gy).length 0 (sn,y::row) (by omega) (by simp only[List.length_cons];simp only[List.length_cons]at h6;omega) FU (by unfold FU;omega),zaA,List.drop_zero]
     obtain⟨p1,p2,n,p3,p4,p5,p6⟩:=yjM (lst 1 gy) (sn,y::row) h1
     generalize (lst 1 gy).foldl ybA (sn,y::row)=z at p1 p2 p3 p4 p6
     obtain⟨sn',row'⟩:=z
     simp only at p1 p2 p3 p4 p6 ⊢
     subst p3
     rw[show subL (y::row++n) (1:Int)=some (row++n) by
      unfold subL
      rw[decide_eq_true (show(0:Int)<=1 by decide),decide_eq_true (show(1:Int)<=((y::row++n).length:Int) by rw[List.cons_append,List.length_cons];omega)]
      rfl,zaA]
     have hI':I (u,g,r,c,m,sn',row++n):=by
      refine⟨rfl,p1,fun x hx=>?_,fun x hx=>?_,(p2 a).2 (.inl h4),fun x hx=>?_,?_⟩
      ·rcases(p2 x).1 hx with hx|hx
       ·exact h2 x hx
       ·rw[<-hgy]at hx
        obtain⟨g',hg',hxg⟩:=xmW h.gR hx
        exact⟨List.mem_cons_of_mem _ (List.mem_flatMap.2 ⟨(y,g'),hg',hxg⟩),.step hy.2 hg' hxg⟩
      ·rcases List.mem_append.1 hx with hx|hx
       ·exact(p2 x).2 (.inl (h3 x (List.mem_cons_of_mem _ hx)))
       ·exact(p2 x).2 (.inr (p5 x hx))
      ·show x∈row++n∨(x≠b/\∀y'∈lst 1 (zfA keqS g x zG),mhas keqS sn' y'=true)
       by_cases hxy:x=y
       ·subst hxy
        refine .inr ⟨hyb,fun y' hy'=>?_⟩
        rw[hgy]at hy'
        exact(p2 y').2 (.inr hy')
       ·by_cases hxs:mhas keqS sn x=true
        ·rcases h5 x hxs with hb|⟨hb,hb2⟩
         ·exact .inl (List.mem_append_left _ ((List.mem_cons.1 hb).resolve_left hxy))
         ·exact .inr ⟨hb,fun y' hy'=>(p2 y').2 (.inl (hb2 y' hy'))⟩
        ·exact .inl (List.mem_append_right _ ((p6 x hx).resolve_left hxs))
      ·show(row++n).length<=sn'.length
       simp only[List.length_cons]at h6
       rw[p4,List.length_append];omega
     refine T.ok ⟨hI',?_⟩
     have hS':=hseen _ hI'
     simp only at hS' ⊢
     rw[p4]at hS' ⊢
     rw[List.length_append,List.length_cons];omega
  ·have hset:mset keqS kltS ([]:SM) a ()=[(a,())]:=rfl
   refine⟨rfl,kS.set_ri .nil,fun x hx=>?_,fun x hx=>?_,kS.has_iff.2 ⟨(),List.mem_cons_self⟩,fun x hx=>?_,Nat.le_refl _⟩
   ·obtain⟨v,hv⟩:=kS.has_iff.1 hx
    rw[show(mset keqS kltS ([]:SM) a (),[a]).1=[(a,())]from rfl]at hv
    cases List.mem_singleton.1 hv
    exact⟨List.mem_cons_self,.refl⟩
   ·rw[List.mem_singleton.1 hx];exact kS.has_iff.2 ⟨(),List.mem_cons_self⟩
   ·obtain⟨v,hv⟩:=kS.has_iff.1 hx
    cases List.mem_singleton.1 (show(x,v)∈[(a,())]from hv)
    exact .inl List.mem_cons_self
  ·show 2*(1100-1)+1<1099511627776;decide
 obtain⟨r,h1,h2⟩:=ht
 unfold zfN
 refine ?_
 have e:(iter (fun x:UM×GM×RM×CM×MM×SM×List L8=>zeL zaB b x.1 x.2.1 x.2.2.1 x.2.2.2.1 x.2.2.2.2.1 x.2.2.2.2.2.1 x.2.2.2.2.2.2) (s.1,s.2.1,s.2.2.1,s.2.2.2.1,s.2.2.2.2,mset keqS kltS ([]:SM) a (),[a]))=some r:=h1
 simp only
 rw[e,zaA]
 match r,h2 with
 |.inl (v1,v2),⟨q1,q2,q3⟩=>
  have q1:v2=s:=q1
  have q2:v1=true:=q2
  subst q1;subst q2
  exact⟨true,rfl,fun _=>q3,fun _=>rfl⟩
 |.inr v,⟨q1,q2⟩=>
  subst q1
  exact⟨false,rfl,fun h=>(by cases h),fun h=>absurd h q2⟩
theorem ziE{s:L8}(h:nmB s=true):s.length<=24:=by
 rw[xrY,Bool.and_eq_true,Bool.and_eq_true]at h
 exact of_decide_eq_true h.1.2
theorem PInv.lst_len{B:Int}{s:PS}(h:PInv B s){k:L8}{g:Gr}(hg:(k,g)∈s.2.1){i:Nat}(hi:i<3):(lst i g).length<=64:=by
 obtain⟨h1,h2⟩:=h.gl k g hg i hi
 have key:∀{γ:Type} {es:List (L8×γ)},(∀x∈lst i g,mhas keqS es x=true)->(lst i g).length<=es.length:=fun {γ es} hh=>by
  have:=h1.sub_len (m:=es.map (·.1)) fun x hx=>by
   obtain⟨v,hv⟩:=kS.has_iff.1 (hh x hx)
   exact List.mem_map.2 ⟨_,hv,rfl⟩
  rwa[List.length_map]at this
 match i,hi with
 |0,_=>exact Nat.le_trans (key h2) h.uL
 |1,_=>exact Nat.le_trans (key h2) (Nat.le_trans h.gL (by decide))
 |2,_=>exact Nat.le_trans (key h2) (Nat.le_trans h.rL (by decide))
abbrev T6(γ:Type):Type:=UM×GM×RM×CM×MM×γ
theorem xkX(n m:L8)(s:PS):zcD zaB n m s.1 s.2.1 s.2.2.1 s.2.2.2.1 s.2.2.2.2=some (xdN n m s):=by
 unfold zcD zlK xdN
 rw[zuD,zaA]
 cases nmB n with
 |false=>rfl
 |true=>
  rw[Bool.not_true,cond_false,yvL,zaA]
  cases txB m with
  |false=>rfl
  |true=>
   rw[Bool.not_true,cond_false,zaA]
   simp only[Bool.or_false,cond_false]
   cases mhas keqS s.1 n with
   |true=>rfl
   |false=>
    rw[cond_false,cond_false]
    by_cases h:64<=s.1.length
    ·rw[zdU (show(s.1.length:Int)≥64 by omega),decide_eq_true h];rfl
    ·rw[zdG (show ¬(s.1.length:Int)≥64 by omega),decide_eq_false h];rfl
theorem xrJ(a b:L8)(c:Bool)(d:Int)(u:Us):(!((a==u.1)&&((b==u.2.1)&&((c==u.2.2.1)&&(decide (d=u.2.2.2)))))) = !decide ((a,b,c,d)=u):=by
 congr 1
 rw[Bool.eq_iff_iff]
 simp only[Bool.and_eq_true,beq_iff_eq,decide_eq_true_eq]
 obtain⟨a',b',c',d'⟩:=u
 simp
theorem xtD(U:UM)(G:GM)(R:RM)(C:CM)(M:MM)(u:Us)(a b m:L8)(c:Bool)(d:Int):zjD zaB U G R C M u (a,b,c,d,m)=some (m,U,G,R,C,M,if(a,b,c,d)=u then(a,b,c,d)else(a,b,c,w64 (d+1))):=by
 unfold zjD
 show(bif(!((a==u.1)&&((b==u.2.1)&&((c==u.2.2.1)&&(decide (d=u.2.2.2))))))then _ else _)=_
 rw[xrJ]
 by_cases e:(a,b,c,d)=u
 ·rw[decide_eq_true e,if_pos e];rfl
 ·rw[decide_eq_false e,if_neg e];rfl
theorem xrD(U:UM)(G:GM)(R:RM)(C:CM)(M:MM)(u:Us)(a b:L8)(m c:Bool)(d:Int):zhZ zaB U G R C M u (a,b,c,d,m)=some (m,U,G,R,C,M,if(a,b,c,d)=u then(a,b,c,d)else(a,b,c,w64 (d+1))):=by
 unfold zhZ
 show(bif(!((a==u.1)&&((b==u.2.1)&&((c==u.2.2.1)&&(decide (d=u.2.2.2))))))then _ else _)=_
 rw[xrJ]
 by_cases e:(a,b,c,d)=u
 ·rw[decide_eq_true e,if_pos e];rfl
 ·rw[decide_eq_false e,if_neg e];rfl
theorem xeI{B:Int}(hB:B<=1099511627776){s:PS}(h:PInv B s)(n m:L8):zgR zaB n m s.1 s.2.1 s.2.2.1 s.2.2.2.1 s.2.2.2.2=some ((yoN n (fun u=>(u.1,m,u.2.2)) s).1,m,(yoN n (fun u=>(u.1,m,u.2.2)) s).2):=by
 unfold zgR yoN
 rw[zuD,zaA]
 cases nmB n with
 |false=>rfl
 |true=>
  simp only[Bool.not_true,cond_false]
  rw[ziV,zrR]
  cases hg:mget keqS s.1 n with
  |none=>rfl
  |some u=>
   have h1:=h.us n u (kS.get_some hg)
   simp only[Option.isSome_some,Bool.not_true,cond_false,Option.getD_some]
   unfold zgI
   rw[zaA,xtD,zaA,show w64 (u.2.2.2+1)=u.2.2.2+1 from zqB (by omega) (by omega)]
   by_cases e:(u.1,m,u.2.2.1,u.2.2.2)=u
   ·rw[if_pos e,if_pos (show(u.1,m,u.2.2)=u from e),e]
   ·rw[if_neg e,if_neg (show ¬(u.1,m,u.2.2)=u from e)]
theorem xhF{B:Int}(hB:B<=1099511627776){s:PS}(h:PInv B s)(n:L8)(b:Bool):zgD zaB n b s.1 s.2.1 s.2.2.1 s.2.2.2.1 s.2.2.2.2=some ((yuX n b s).1,b,(yuX n b s).2):=by
 unfold zgD yuX yoN
 rw[zuD,zaA]
 cases nmB n with
 |false=>rfl
 |true=>
  simp only[Bool.not_true,cond_false]
  rw[ziV,zrR]
  cases hg:mget keqS s.1 n with
  |none=>rfl
  |some u=>
   have h1:=h.us n u (kS.get_some hg)
   simp only[Option.isSome_some,Bool.not_true,cond_false,Option.getD_some]
   unfold zeX
   rw[zaA,xrD,zaA,show w64 (u.2.2.2+1)=u.2.2.2+1 from zqB (by omega) (by omega)]
   by_cases e:(u.1,u.2.1,b,u.2.2.2)=u
   ·rw[if_pos e,if_pos e,e]
   ·rw[if_neg e,if_neg e]
theorem xmN{B:Int}(hB:B<=1099511627776){s:PS}(h:PInv B s)(n m:L8):zeK zaB n m s.1 s.2.1 s.2.2.1 s.2.2.2.1 s.2.2.2.2=some (yxH n m s):=by
 unfold zeK yxH
 rw[yvL,zaA]
 cases txB m with
 |false=>rfl
 |true=>rw[Bool.not_true,cond_false,xeI hB h,zaA];rfl
theorem xlK{B:Int}(hB:B<=1099511627776){s:PS}(h:PInv B s)(n:L8)(b:Bool):zdR zaB n b s.1 s.2.1 s.2.2.1 s.2.2.2.1 s.2.2.2.2=some (yuX n b s):=by
 unfold zdR
 rw[xhF hB h,zaA]
def stW:Nat->Gr->List L8->Gr
 |0,g,l=>((l,g.1.2.1,g.1.2.2),w64 (g.2+1))
 |1,g,l=>((g.1.1,l,g.1.2.2),w64 (g.2+1))
 |_,g,l=>((g.1.1,g.1.2.1,l),w64 (g.2+1))
theorem xrA(k:Nat){g:Gr}(l:List L8)(h:1<=g.2/\g.2<=1099511627776):stW k g l=stL k g l:=by
 have e:w64 (g.2+1)=g.2+1:=zqB (by omega) (by omega)
 match k with
 |0=>show((l,g.1.2.1,g.1.2.2),w64 (g.2+1))=_;rw[e];rfl
 |1=>show((g.1.1,l,g.1.2.2),w64 (g.2+1))=_;rw[e];rfl
 |k+2=>show((g.1.1,g.1.2.1,l),w64 (g.2+1))=_;rw[e];rfl
noncomputable def fgtF(k:Nat)(n:L8)(x:T6 (List L8))(p:L8×Gr):Option (T6 (List L8)⊕PS):=
 (mget keqS x.2.1 p.1).bind fun g=>(zaY zaB (lst k g) n).bind fun q=>bif q then(zaW zaB (lst k g) n).bind fun l=>(chk (mhas keqS x.2.1 p.1)).bind fun _=>some (.inl (x.1,mrep keqS x.2.1 p.1 (stW k g l),x.2.2.1,x.2.2.2.1,x.2.2.2.2.1,rngD keqS x.2.2.2.2.2 p.1))else some (.inl (x.1,x.2.1,x.2.2.1,x.2.2.2.1,x.2.2.2.2.1,rngD keqS x.2.2.2.2.2 p.1))
def zzZ(k:Nat)(n:L8)(left:List L8)(G:GM):GM:=mmap (fun m g=>bif left.contains m then g else(bif(lst k g).contains n then stL k g (woL n (lst k g))else g)) G
theorem ydB{B:Int}(hB:B<=1099511627776){k:Nat}(_hk:k<3){n:L8}{s:PS}(G:GM)(hR:Ri kltS G)(hv:∀m g,(m,g)∈G->RiL (lst k g)/\(lst k g).length<=64/\1<=g.2/\g.2<=B){f:T6 (List L8)->List (Option (T6 (List L8)⊕PS))}(hf:∀x,f x=rngL (rngC keqS x.2.1 x.2.2.2.2.2) (some (.inr (x.1,x.2.1,x.2.2.1,x.2.2.2.1,x.2.2.2.2.1))) (fgtF k n x)):
  rngA f (s.1,G,s.2.2.1,s.2.2.2.1,s.2.2.2.2,List.map Prod.fst G)=some (s.1,zhE k n G,s.2.2):=by
 have hk0:∀m,mhas keqS G m=true->∃g,mget keqS G m=some g:=fun m hm=>by rw[ziV]at hm;exact Option.isSome_iff_exists.1 hm
 refine kS.rngA_map (fun x=>∃left:List L8,(∀m∈left,mhas keqS G m=true)/\x=(s.1,zzZ k n left G,s.2.2.1,s.2.2.2.1,s.2.2.2.2,left)) (fun x=>x.2.1) (fun x=>x.2.2.2.2.2) hf ?_ ?_ ⟨List.map Prod.fst G,fun m hm=>?_,?_⟩
 ·rintro x ⟨left,hl,rfl⟩ hno
  simp only
  have e:zzZ k n left G=zhE k n G:=by
   unfold zzZ zhE mmap
   refine List.map_congr_left fun p hp=>?_
   have:left.contains p.1=false:=by
    cases hc:left.contains p.1 with
    |false=>rfl
    |true=>
     have hin:(p.1,bif left.contains p.1 then p.2 else(bif(lst k p.2).contains n then stL k p.2 (woL n (lst k p.2))else p.2))∈zzZ k n left G:=List.mem_map.2 ⟨p,hp,rfl⟩
     have h3:=hno _ hin
     exact absurd (List.contains_iff_mem.1 hc) h3
   show(p.1,bif left.contains p.1 then p.2 else _)=_
   rw[this];rfl
  rw[e]
 ·rintro x p ⟨left,hl,rfl⟩ hp hpl
  left
  simp only at hp hpl ⊢
  obtain⟨g,hg⟩:=hk0 p.1 (hl p.1 hpl)
  have hgm:=kS.get_some hg
  obtain⟨v1,v2,v3,v4⟩:=hv p.1 g hgm
  have hget:mget keqS (zzZ k n left G) p.1=some g:=by
   unfold zzZ
   rw[zvP _ kS,hg,Option.map_some,List.contains_iff_mem.2 hpl];rfl
  have hc2:∀m,(rngD keqS left p.1).contains m=(left.contains m && !(m==p.1)):=fun m=>by
   rw[Bool.eq_iff_iff,List.contains_iff_mem,kS.rngD_mem,Bool.and_eq_true,List.contains_iff_mem,Bool.not_eq_true',<-Bool.not_eq_true,beq_iff_eq]
  have hhr:Ri kltS (zzZ k n left G):=ycS hR
  have hleft:∀m∈rngD keqS left p.1,mhas keqS G m=true:=fun m hm=>hl m (kS.rngD_mem.1 hm).1
  cases hq:(lst k g).contains n with
  |true=>
   refine⟨_,?_,⟨rngD keqS left p.1,hleft,rfl⟩,rfl⟩
   unfold fgtF
   simp only
   rw[hget,zaA,ydM n v1 (by omega),zaA,hq,cond_true,zzH _ _ (by omega),zaA,show chk (mhas keqS (zzZ k n left G) p.1)=some () by rw[ziV,hget];rfl,zaA,xrA k _ (by omega)]
   congr 4
   have hh:mhas keqS (zzZ k n left G) p.1=true:=by rw[ziV,hget];rfl
   have e1:mrep keqS (zzZ k n left G) p.1 (stL k g (woL n (lst k g)))=mset keqS kltS (zzZ k n left G) p.1 (stL k g (woL n (lst k g))):=by unfold mset;rw[hh];rfl
   rw[e1]
   refine kS.ext_get (kS.set_ri hhr) (ycS hR) fun m=>?_
   rw[kS.set_get hhr]
   unfold zzZ
   rw[zvP _ kS,zvP _ kS]
   by_cases e:keqS p.1 m=true
   ·rw[if_pos e]
    have e:=kS.e.1 e
    subst e
    rw[hg,Option.map_some,hc2,beq_self_eq_true,Bool.not_true,Bool.and_false,cond_false,hq];rfl
   ·rw[if_neg e]
    have:(m==p.1)=false:=beq_false_of_ne fun e'=>e (kS.e.2 e'.symm)
    cases mget keqS G m with
    |none=>rfl
    |some g'=>rw[Option.map_some,Option.map_some,hc2,this,Bool.not_false,Bool.and_true]
  |false=>
   refine⟨_,?_,⟨rngD keqS left p.1,hleft,rfl⟩,rfl⟩
   unfold fgtF
   simp only
   rw[hget,zaA,ydM n v1 (by omega),zaA,hq,cond_false]
   congr 4
   refine kS.ext_get hhr (ycS hR) fun m=>?_
   unfold zzZ
   rw[zvP _ kS,zvP _ kS]
   by_cases e:m=p.1
   ·subst e
    rw[hg,Option.map_some,Option.map_some,hc2,beq_self_eq_true,Bool.not_true,Bool.and_false,cond_false,hq,List.contains_iff_mem.2 hpl];rfl
   ·have:(m==p.1)=false:=beq_false_of_ne e
    cases mget keqS G m with
    |none=>rfl
    |some g'=>rw[Option.map_some,Option.map_some,hc2,this,Bool.not_false,Bool.and_true]
 ·obtain⟨p,hp,rfl⟩:=List.mem_map.1 hm
  exact kS.has_iff.2 ⟨p.2,hp⟩
 ·have e:zzZ k n (List.map Prod.fst G) G=G:=by
   unfold zzZ mmap
   refine Eq.trans (List.map_congr_left fun p hp=>?_) (List.map_id G)
   show(p.1,bif(List.map Prod.fst G).contains p.1 then p.2 else _)=p
   rw[List.contains_iff_mem.2 (List.mem_map.2 ⟨p,hp,rfl⟩)];rfl
  rw[e]
theorem PInv.fgt{B:Int}{s:PS}(h:PInv B s){k:Nat}(hk:k<3){G:GM}(hG:G.Sublist s.2.1):∀m g,(m,g)∈G->RiL (lst k g)/\(lst k g).length<=64/\1<=g.2/\g.2<=B:=fun m g hg=>
 ⟨(h.gl m g (hG.subset hg) k hk).1,h.lst_len (hG.subset hg) hk,(h.gn m g (hG.subset hg)).2⟩
theorem yvO{B:Int}(hB:B<=1099511627776){s:PS}(h:PInv B s)(n:L8){G:GM}(hG:G.Sublist s.2.1)(U:UM)(R:RM)(C:CM)(M:MM):zfE zaB n U G R C M=some (U,zhE 0 n G,R,C,M):=by
 unfold zfE
 rw[show rngA _ (U,G,R,C,M,List.map Prod.fst G)=_ from ydB hB (k:=0) (by decide) (n:=n) (s:=(U,G,R,C,M)) G (h.gR.sublist hG) (h.fgt (by decide) hG) fun x=>?_,zaA]
 unfold zmW
 congr 1
 funext p
 unfold fgtF znG zmF
 cases mget keqS x.2.1 p.1 with
 |none=>rfl
 |some g=>
  simp only[zaA,lst]
  cases zaY zaB g.1.1 n with
  |none=>rfl
  |some q=>
   simp only[zaA]
   cases q with
   |false=>rfl
   |true=>
    simp only[cond_true]
    cases zaW zaB g.1.1 n<;>rfl
theorem ywA{B:Int}(hB:B<=1099511627776){s:PS}(h:PInv B s)(n:L8){G:GM}(hG:G.Sublist s.2.1)(U:UM)(R:RM)(C:CM)(M:MM):zeM zaB n U G R C M=some (U,zhE 1 n G,R,C,M):=by
 unfold zeM
 rw[show rngA _ (U,G,R,C,M,List.map Prod.fst G)=_ from ydB hB (k:=1) (by decide) (n:=n) (s:=(U,G,R,C,M)) G (h.gR.sublist hG) (h.fgt (by decide) hG) fun x=>?_,zaA]
 unfold zmB
 congr 1
 funext p
 unfold fgtF zlR zlL
 cases mget keqS x.2.1 p.1 with
 |none=>rfl
 |some g=>
  simp only[zaA,lst]
  cases zaY zaB g.1.2.1 n with
  |none=>rfl
  |some q=>
   simp only[zaA]
   cases q with
   |false=>rfl
   |true=>
    simp only[cond_true]
    cases zaW zaB g.1.2.1 n<;>rfl
theorem yuE{B:Int}(hB:B<=1099511627776){s:PS}(h:PInv B s)(n:L8){G:GM}(hG:G.Sublist s.2.1)(U:UM)(R:RM)(C:CM)(M:MM):zeQ zaB n U G R C M=some (U,zhE 2 n G,R,C,M):=by
 unfold zeQ
 rw[show rngA _ (U,G,R,C,M,List.map Prod.fst G)=_ from ydB hB (k:=2) (by decide) (n:=n) (s:=(U,G,R,C,M)) G (h.gR.sublist hG) (h.fgt (by decide) hG) fun x=>?_,zaA]
 unfold zlN
 congr 1
 funext p
 unfold fgtF zlM zlF
 cases mget keqS x.2.1 p.1 with
 |none=>rfl
 |some g=>
  simp only[zaA,lst]
  cases zaY zaB g.1.2.2 n with
  |none=>rfl
  |some q=>
   simp only[zaA]
   cases q with
   |false=>rfl
   |true=>
    simp only[cond_true]
    cases zaW zaB g.1.2.2 n<;>rfl
def lefM(left:List (L8×L8))(p:L8)(M:MM):MM:=M.filter fun m=>left.contains m.1 || !(m.1.1==p||m.1.2==p)
theorem ypC{M:MM}(hR:Ri kltM M)(p:L8)(U:UM)(G:GM)(R:RM)(C:CM):zdF zaB p U G R C M=some (U,G,R,C,zsH p M):=by
 unfold zdF zoU
 have e:rngA (fun x:MM×L8×List (L8×L8)=>ztA zaB x.1 x.2.1 x.2.2) (M,p,List.map Prod.fst M)=some (zsH p M,p):=by
  refine kSS.rngA_map (κ:=L8×L8) (γ:=Unit) (fun x=>∃left:List (L8×L8),x=(lefM left p M,p,left)) (fun x=>x.1) (fun x=>x.2.2) (fun x=>rfl) ?_ ?_ ⟨List.map Prod.fst M,?_⟩
  ·rintro x ⟨left,rfl⟩ hno
   simp only
   congr 3
   unfold zsH lefM
   refine List.filter_congr fun m hm=>?_
   cases hc:left.contains m.1 with
   |false=>rfl
   |true=>
    have:=hno m (List.mem_filter.2 ⟨hm,by rw[hc];rfl⟩)
    exact absurd (List.contains_iff_mem.1 hc) this
  ·rintro x q ⟨left,rfl⟩ hq hql
   left
   simp only at hq hql ⊢
   have hc2:∀m,(rngD keqM left q.1).contains m=(left.contains m && !(m==q.1)):=fun m=>by
    rw[Bool.eq_iff_iff,List.contains_iff_mem,kSS.rngD_mem,Bool.and_eq_true,List.contains_iff_mem,Bool.not_eq_true',<-Bool.not_eq_true,beq_iff_eq]
   have hfr:Ri kltM (lefM left p M):=hR.sublist List.filter_sublist
   have hget:mget keqM (lefM left p M) q.1=some ():=kSS.get_mem hfr (v:=()) hq
   rw[show mget (keq (.pr .s .s)) (lefM left p M) q.1=some ()from hget,zaA]
   unfold zgX
   cases h1:q.1.1==p||q.1.2==p with
   |true=>
    refine⟨_,?_,⟨rngD keqM left q.1,rfl⟩,rfl⟩
    have:(bif q.1.1==p then some (true,p)else some ((q.1.2==p),p))=some (true,p):=by
     cases h2:q.1.1==p with
     |true=>rfl
     |false=>rw[h2,Bool.false_or]at h1;rw[h1];rfl
    rw[this,zaA]
    simp only[cond_true]
    congr 3
    refine Eq.trans (kSS.del_filter hfr q.1) ?_
    unfold lefM
    rw[List.filter_filter]
    refine List.filter_congr fun m hm=>?_
    have hq1:q.1=(q.1.1,q.1.2):=rfl
    by_cases e:m.1=q.1
    ·rw[e,hc2,beq_self_eq_true,h1,kSS.e.2 rfl];simp
    ·rw[hc2,beq_false_of_ne e,kSS.ne e];simp
   |false=>
    refine⟨_,?_,⟨rngD keqM left q.1,rfl⟩,rfl⟩
    have h1':=or_f h1
    rw[h1'.1,cond_false,zaA,h1'.2]
    simp only[cond_false]
    congr 3
    unfold lefM
    refine List.filter_congr fun m hm=>?_
    by_cases e:m.1=q.1
    ·rw[e,h1];simp
    ·rw[hc2,beq_false_of_ne e];simp
  ·congr 1
   unfold lefM
   refine(List.filter_eq_self.2 fun m hm=>?_).symm
   rw[List.contains_iff_mem.2 (List.mem_map.2 ⟨m,hm,rfl⟩)];rfl
 rw[e]
 rfl
theorem app2(a b:UInt8){n:L8}(h:n.length<=24):app ([a,b]:L8) n=some (a::b::n):=by
 rw[zlJ (by simp;omega)];rfl
theorem xfS{B:Int}(hB:B<=1099511627776){s:PS}(h:PInv B s)(n:L8):zeC zaB n s.1 s.2.1 s.2.2.1 s.2.2.2.1 s.2.2.2.2=some (ynT n s):=by
 unfold zeC zvE ynT
 rw[zuD,zaA]
 cases hn:nmB n with
 |false=>rfl
 |true=>
  simp only[Bool.not_true,cond_false]
  cases hh:mhas keqS s.1 n with
  |false=>rfl
  |true=>
   unfold zfS
   simp only[Bool.not_true,cond_false]
   rw[yvO hB h n (List.Sublist.refl _),zaA,app2 _ _ (ziE hn),zaA,ypC h.mR,zaA,zaA,zaA]
theorem xpC(n:L8)(s:PS):zbY zaB n s.1 s.2.1 s.2.2.1 s.2.2.2.1 s.2.2.2.2=some (xdD n s):=by
 unfold zbY xdD
 rw[zuD,zaA]
 cases nmB n with
 |false=>rfl
 |true=>
  simp only[Bool.not_true,cond_false]
  cases mhas keqS s.2.1 n with
  |true=>rfl
  |false=>
   rw[cond_false,cond_false]
   by_cases h:32<=s.2.1.length
   ·rw[zdU (show(s.2.1.length:Int)≥32 by omega),decide_eq_true h];rfl
   ·rw[zdG (show ¬(s.2.1.length:Int)≥32 by omega),decide_eq_false h];rfl
theorem xhG{B:Int}(hB:B<=1099511627776){s:PS}(h:PInv B s)(n:L8):zdO zaB n s.1 s.2.1 s.2.2.1 s.2.2.2.1 s.2.2.2.2=some (yoS n s):=by
 unfold zdO ztG yoS
 rw[zuD,zaA]
 cases hn:nmB n with
 |false=>rfl
 |true=>
  simp only[Bool.not_true,cond_false]
  cases hh:mhas keqS s.2.1 n with
  |false=>rfl
  |true=>
   unfold zeY
   simp only[Bool.not_true,cond_false]
   rw[ywA hB h n (zsE _ _),zaA,zaA,zaA]
theorem xgU{B:Int}(hB:B<=1099511627776){s:PS}(h:PInv B s)(n:L8):zeF zaB n s.1 s.2.1 s.2.2.1 s.2.2.2.1 s.2.2.2.2=some (yoZ n s):=by
 unfold zeF ztV yoZ
 rw[zuD,zaA]
 cases hn:nmB n with
 |false=>rfl
 |true=>
  simp only[Bool.not_true,cond_false]
  cases hh:mhas keqS s.2.2.1 n with
  |false=>rfl
  |true=>
   unfold zfR
   simp only[Bool.not_true,cond_false]
   rw[yuE hB h n (List.Sublist.refl _),zaA,zaA,zaA]
theorem xhU{B:Int}{s:PS}(h:PInv B s)(n:L8):zdE zaB n s.1 s.2.1 s.2.2.1 s.2.2.2.1 s.2.2.2.2=some (ynG n s):=by
 unfold zdE ztQ ynG
 rw[zuD,zaA]
 cases hn:nmB n with
 |false=>rfl
 |true=>
  simp only[Bool.not_true,cond_false]
  cases hh:mhas keqS s.2.2.2.1 n with
  |false=>rfl
  |true=>
   unfold zeS
   simp only[Bool.not_true,cond_false]
   rw[app2 _ _ (ziE hn),zaA,ypC h.mR,zaA,zaA,zaA]
def yeF(k:Nat)(n x:L8)(s:PS):Gr×Int×PS:=bif !nmB n || !nmB x then(zG,120,s)else match mget keqS s.2.1 n with
 |none=>(zG,122,s)
 |some g=>bif !hasK k s x then(zG,122,s)else(g,0,s)
theorem ytL(n x:L8)(s:PS):zdY zaB n x s.1 s.2.1 s.2.2.1 s.2.2.2.1 s.2.2.2.2=some (yeF 0 n x s):=by
 unfold zdY znW yeF
 rw[zuD,zaA]
 cases nmB n with
 |false=>rfl
 |true=>
  rw[Bool.not_true,cond_false,zuD,zaA]
  cases nmB x with
  |false=>rfl
  |true=>
   simp only[Bool.not_true,cond_false,zaA,Bool.or_false]
   rw[ziV,zrR]
   cases mget keqS s.2.1 n with
   |none=>rfl
   |some g=>
    simp only[Option.isSome_some,Bool.not_true,cond_false]
    unfold zcU
    rw[zaA]
    simp only[hasK]
    cases mhas keqS s.1 x<;>rfl
theorem xeK{B:Int}(hB:B<=1099511627776){s:PS}(h:PInv B s)(n x:L8):zfV zaB n x s.1 s.2.1 s.2.2.1 s.2.2.2.1 s.2.2.2.2=some (zzK 0 n x s):=by
 unfold zfV zoL zaM
 rw[zaA,ytL,zaA,zaA]
 unfold yeF zzK
 cases h1:!nmB n || !nmB x with
 |true=>rfl
 |false=>
  simp only[cond_false]
  cases hg:mget keqS s.2.1 n with
  |none=>rfl
  |some g=>
   have hm:=kS.get_some hg
   have hl:RiL g.1.1:=(h.gl n g hm 0 (by decide)).1
   have hn:g.1.1.length<=64:=h.lst_len hm (i:=0) (by decide)
   have hv:=(h.gn n g hm).2
   simp only
   cases h2:hasK 0 s x with
   |false=>rfl
   |true=>
    simp only[Bool.not_true,cond_false]
    unfold zoO zoD
    simp only[bne_self_eq_false,cond_false,lst]
    rw[show zaY zaB g.1.1 x=_ from ydM x hl (by omega),zaA,zaA]
    simp only
    cases h3:g.1.1.contains x with
    |true=>rfl
    |false=>
     have hx:x∉g.1.1:=fun hx=>by rw[List.contains_iff_mem.2 hx]at h3;cases h3
     simp only[cond_false]
     rw[if_neg fun hh=>absurd hh.1 (by decide),zaA]
     simp only
     unfold znU
     rw[show zeP zaB g.1.1 x=_ from yqZ x hl (by omega),zaA,zaA]
     simp only
     rw[show w64 (g.2+1)=g.2+1 from zqB (by omega) (by omega)]
     rfl
theorem xaW{B:Int}(hB:B<=1099511627776){s:PS}(h:PInv B s)(n x:L8):zgA zaB n x s.1 s.2.1 s.2.2.1 s.2.2.2.1 s.2.2.2.2=some (zyN 0 n x s):=by
 unfold zgA zoC zaM
 rw[zaA,ytL,zaA,zaA]
 unfold yeF zyN
 cases h1:!nmB n || !nmB x with
 |true=>rfl
 |false=>
  simp only[cond_false]
  cases hg:mget keqS s.2.1 n with
  |none=>rfl
  |some g=>
   have hm:=kS.get_some hg
   have hl:RiL g.1.1:=(h.gl n g hm 0 (by decide)).1
   have hn:g.1.1.length<=64:=h.lst_len hm (i:=0) (by decide)
   have hv:=(h.gn n g hm).2
   simp only
   cases h2:hasK 0 s x with
   |false=>rfl
   |true=>
    simp only[Bool.not_true,cond_false]
    unfold znO
    simp only[bne_self_eq_false,cond_false,lst]
    rw[show zaY zaB g.1.1 x=_ from ydM x hl (by omega),zaA]
    cases h3:g.1.1.contains x with
    |false=>rfl
    |true=>
     simp only[Bool.not_true,cond_false,zaA]
     unfold zoP
     rw[show zaW zaB g.1.1 x=_ from zzH _ x (by omega),zaA,zaA]
     simp only
     rw[show w64 (g.2+1)=g.2+1 from zqB (by omega) (by omega)]
     rfl
theorem ysE(n x:L8)(s:PS):zeH zaB n x s.1 s.2.1 s.2.2.1 s.2.2.2.1 s.2.2.2.2=some (yeF 1 n x s):=by
 unfold zeH zpV yeF
 rw[zuD,zaA]
 cases nmB n with
 |false=>rfl
 |true=>
  rw[Bool.not_true,cond_false,zuD,zaA]
  cases nmB x with
  |false=>rfl
  |true=>
   simp only[Bool.not_true,cond_false,zaA,Bool.or_false]
   rw[ziV,zrR]
   cases mget keqS s.2.1 n with
   |none=>rfl
   |some g=>
    simp only[Option.isSome_some,Bool.not_true,cond_false]
    unfold zcS
    rw[zaA]
    simp only[hasK]
    cases mhas keqS s.2.1 x<;>rfl
theorem yrU{B:Int}(hB:B<=1099511627776){s:PS}(h:PInv B s)(n x:L8):zgN zaB n x s.1 s.2.1 s.2.2.1 s.2.2.2.1 s.2.2.2.2=some (zzK 1 n x s):=by
 unfold zgN zqG zaM
 rw[zaA,ysE,zaA,zaA]
 unfold yeF zzK
 cases h1:!nmB n || !nmB x with
 |true=>rfl
 |false=>
  simp only[cond_false]
  cases hg:mget keqS s.2.1 n with
  |none=>rfl
  |some g=>
   have hm:=kS.get_some hg
   have hl:RiL g.1.2.1:=(h.gl n g hm 1 (by decide)).1
   have hn:g.1.2.1.length<=64:=h.lst_len hm (i:=1) (by decide)
   have hv:=(h.gn n g hm).2
   simp only
   cases h2:hasK 1 s x with
   |false=>rfl
   |true=>
    simp only[Bool.not_true,cond_false]
    unfold zpZ zpP
    simp only[bne_self_eq_false,cond_false,lst]
    rw[show zaY zaB g.1.2.1 x=_ from ydM x hl (by omega),zaA,zaA]
    simp only
    cases h3:g.1.2.1.contains x with
    |true=>rfl
    |false=>
     have hx:x∉g.1.2.1:=fun hx=>by rw[List.contains_iff_mem.2 hx]at h3;cases h3
     simp only[cond_false]
     obtain⟨r,hr,hr2⟩:=yxN h x n
     rw[hr,zaA]
     cases r with
     |true=>rw[if_pos ⟨rfl,hr2.1 rfl⟩];rfl
     |false=>
      rw[if_neg fun hh=>by have:=hr2.2 hh.2;cases this]
      simp only[cond_false,zaA]
      unfold zpH
      rw[show zeP zaB g.1.2.1 x=_ from yqZ x hl (by omega),zaA,zaA]
      simp only
      rw[show w64 (g.2+1)=g.2+1 from zqB (by omega) (by omega)]
      rfl
theorem xaV{B:Int}(hB:B<=1099511627776){s:PS}(h:PInv B s)(n x:L8):zfK zaB n x s.1 s.2.1 s.2.2.1 s.2.2.2.1 s.2.2.2.2=some (zyN 1 n x s):=by
 unfold zfK zmH zaM
 rw[zaA,ysE,zaA,zaA]
 unfold yeF zyN
 cases h1:!nmB n || !nmB x with
 |true=>rfl
 |false=>
  simp only[cond_false]
  cases hg:mget keqS s.2.1 n with
  |none=>rfl
  |some g=>
   have hm:=kS.get_some hg
   have hl:RiL g.1.2.1:=(h.gl n g hm 1 (by decide)).1
   have hn:g.1.2.1.length<=64:=h.lst_len hm (i:=1) (by decide)
   have hv:=(h.gn n g hm).2
   simp only
   cases h2:hasK 1 s x with
   |false=>rfl
   |true=>
    simp only[Bool.not_true,cond_false]
    unfold zmE
    simp only[bne_self_eq_false,cond_false,lst]
    rw[show zaY zaB g.1.2.1 x=_ from ydM x hl (by omega),zaA]
    cases h3:g.1.2.1.contains x with
    |false=>rfl
    |true=>
     simp only[Bool.not_true,cond_false,zaA]
     unfold znJ
     rw[show zaW zaB g.1.2.1 x=_ from zzH _ x (by omega),zaA,zaA]
     simp only
     rw[show w64 (g.2+1)=g.2+1 from zqB (by omega) (by omega)]
     rfl
theorem ytO(n x:L8)(s:PS):zdZ zaB n x s.1 s.2.1 s.2.2.1 s.2.2.2.1 s.2.2.2.2=some (yeF 2 n x s):=by
 unfold zdZ znT yeF
 rw[zuD,zaA]
 cases nmB n with
 |false=>rfl
 |true=>
  rw[Bool.not_true,cond_false,zuD,zaA]
  cases nmB x with
  |false=>rfl
  |true=>
   simp only[Bool.not_true,cond_false,zaA,Bool.or_false]
   rw[ziV,zrR]
   cases mget keqS s.2.1 n with
   |none=>rfl
   |some g=>
    simp only[Option.isSome_some,Bool.not_true,cond_false]
    unfold zcR
    rw[zaA]
    simp only[hasK]
    cases mhas keqS s.2.2.1 x<;>rfl
theorem xhX{B:Int}(hB:B<=1099511627776){s:PS}(h:PInv B s)(n x:L8):zfU zaB n x s.1 s.2.1 s.2.2.1 s.2.2.2.1 s.2.2.2.2=some (zzK 2 n x s):=by
 unfold zfU zoI zaM
 rw[zaA,ytO,zaA,zaA]
 unfold yeF zzK
 cases h1:!nmB n || !nmB x with
 |true=>rfl
 |false=>
  simp only[cond_false]
  cases hg:mget keqS s.2.1 n with
  |none=>rfl
  |some g=>
   have hm:=kS.get_some hg
   have hl:RiL g.1.2.2:=(h.gl n g hm 2 (by decide)).1
   have hn:g.1.2.2.length<=64:=h.lst_len hm (i:=2) (by decide)
   have hv:=(h.gn n g hm).2
   simp only
   cases h2:hasK 2 s x with
   |false=>rfl
   |true=>
    simp only[Bool.not_true,cond_false]
    unfold zoA znQ
    simp only[bne_self_eq_false,cond_false,lst]
    rw[show zaY zaB g.1.2.2 x=_ from ydM x hl (by omega),zaA,zaA]
    simp only
    cases h3:g.1.2.2.contains x with
    |true=>rfl
    |false=>
     have hx:x∉g.1.2.2:=fun hx=>by rw[List.contains_iff_mem.2 hx]at h3;cases h3
     simp only[cond_false]
     rw[if_neg fun hh=>absurd hh.1 (by decide),zaA]
     simp only
     unfold zoQ
     rw[show zeP zaB g.1.2.2 x=_ from yqZ x hl (by omega),zaA,zaA]
     simp only
     rw[show w64 (g.2+1)=g.2+1 from zqB (by omega) (by omega)]
     rfl
theorem ywW{B:Int}(hB:B<=1099511627776){s:PS}(h:PInv B s)(n x:L8):zfF zaB n x s.1 s.2.1 s.2.2.1 s.2.2.2.1 s.2.2.2.2=some (zyN 2 n x s):=by
 unfold zfF znL zaM
 rw[zaA,ytO,zaA,zaA]
 unfold yeF zyN
 cases h1:!nmB n || !nmB x with
 |true=>rfl
 |false=>
  simp only[cond_false]
  cases hg:mget keqS s.2.1 n with
  |none=>rfl
  |some g=>
   have hm:=kS.get_some hg
   have hl:RiL g.1.2.2:=(h.gl n g hm 2 (by decide)).1
   have hn:g.1.2.2.length<=64:=h.lst_len hm (i:=2) (by decide)
   have hv:=(h.gn n g hm).2
   simp only
   cases h2:hasK 2 s x with
   |false=>rfl
   |true=>
    simp only[Bool.not_true,cond_false]
    unfold zmJ
    simp only[bne_self_eq_false,cond_false,lst]
    rw[show zaY zaB g.1.2.2 x=_ from ydM x hl (by omega),zaA]
    cases h3:g.1.2.2.contains x with
    |false=>rfl
    |true=>
     simp only[Bool.not_true,cond_false,zaA]
     unfold zmS
     rw[show zaW zaB g.1.2.2 x=_ from zzH _ x (by omega),zaA,zaA]
     simp only
     rw[show w64 (g.2+1)=g.2+1 from zqB (by omega) (by omega)]
     rfl
theorem xlD{r:Ro}(hr:r.2.length<=1048576)(s:PS):zcT zaB r s.1 s.2.1 s.2.2.1 s.2.2.2.1 s.2.2.2.2=some (xcC r s):=by
 unfold zcT zlS xcC
 rw[ywL hr,zaA]
 cases ydQ r with
 |false=>rfl
 |true=>
  simp only[Bool.not_true,cond_false]
  cases mhas keqS s.2.2.1 r.1 with
  |true=>
   simp only[Bool.not_true,cond_false,zaA,Bool.false_and]
   rw[yqB hr,zaA]
  |false=>
   simp only[Bool.not_false,cond_true,Bool.true_and]
   by_cases h:32<=s.2.2.1.length
   ·rw[zdU (show(s.2.2.1.length:Int)≥32 by omega),decide_eq_true h];rfl
   ·rw[zdG (show ¬(s.2.2.1.length:Int)≥32 by omega),decide_eq_false h,zaA]
    simp only[cond_false]
    rw[yqB hr,zaA]
theorem xlT{c:Cl}(h0:c.2.1.length<=1048576)(h1:c.2.2.1.length<=1048576)(h2:c.2.2.2.1.length<=1048576)(s:PS):zdS zaB c s.1 s.2.1 s.2.2.1 s.2.2.2.1 s.2.2.2.2=some (yzV c s):=by
 unfold zdS zkA yzV
 rw[xjR h0 h1 h2,zaA]
 cases cliB c with
 |false=>rfl
 |true=>
  simp only[Bool.not_true,cond_false]
  cases mhas keqS s.2.2.2.1 c.1 with
  |true=>
   simp only[Bool.not_true,cond_false,zaA,Bool.false_and]
   rw[yqJ h1 h2,zaA]
  |false=>
   simp only[Bool.not_false,cond_true,Bool.true_and]
   by_cases h:32<=s.2.2.2.1.length
   ·rw[zdU (show(s.2.2.2.1.length:Int)≥32 by omega),decide_eq_true h];rfl
   ·rw[zdG (show ¬(s.2.2.2.1.length:Int)≥32 by omega),decide_eq_false h,zaA]
    simp only[cond_false]
    rw[yqJ h1 h2,zaA]
theorem yeP{p:L8}(hp:prB p=true)(s:PS):zbP zaB p s.1 s.2.1 s.2.2.1 s.2.2.2.1 s.2.2.2.2=some (thB s p,s):=by
 obtain⟨c,l,rfl,hc,_⟩:=ygF hp
 unfold zbP
 rw[show idx (c::58::l) (0:Int)=some c from rfl,zaA]
 have e2:subL (c::58::l) (2:Int)=some l:=by
  unfold subL
  rw[decide_eq_true (show(0:Int)<=2 by decide),decide_eq_true (show(2:Int)<=((c::58::l).length:Int) by simp only[List.length_cons];omega)]
  rfl
 rcases hc with rfl|rfl
 ·rw[show(((117:UInt8).toNat:Int)==((99:UInt8).toNat:Int))=false from rfl,cond_false,e2,zaA];rfl
 ·rw[show(((99:UInt8).toNat:Int)==((99:UInt8).toNat:Int))=true from rfl,cond_true,e2,zaA];rfl
def xeM(a b:L8)(s:PS):Int:=bif !prB a || !prB b then 120 else bif !thB s a || !thB s b then 122 else 0
theorem yyI(a b:L8)(s:PS):zeG zaB a b s.1 s.2.1 s.2.2.1 s.2.2.2.1 s.2.2.2.2=some (xeM a b s,s):=by
 unfold zeG zpY xeM
 rw[xbT,zaA]
 cases ha:prB a with
 |false=>rfl
 |true=>
  rw[Bool.not_true,cond_false,xbT,zaA]
  cases hb:prB b with
  |false=>rfl
  |true=>
   simp only[Bool.not_true,cond_false,zaA,Bool.or_false]
   rw[yeP ha,zaA]
   cases thB s a with
   |false=>rfl
   |true=>
    simp only[Bool.not_true,cond_false]
    rw[yeP hb,zaA]
    cases thB s b<;>rfl
theorem xfV(a b:L8)(s:PS):zfW zaB a b s.1 s.2.1 s.2.2.1 s.2.2.2.1 s.2.2.2.2=some (ymS a b s):=by
 unfold zfW ymS
 rw[yyI,zaA]
 unfold xeM
 cases !prB a || !prB b with
 |true=>rfl
 |false=>
  cases !thB s a || !thB s b with
  |true=>rfl
  |false=>
   simp only[cond_false,bne_self_eq_false]
   unfold zeW
   simp only
   rw[zaA]
   simp only
   cases h:mhas keqM s.2.2.2.2 (a,b) with
   |true=>rw[show mhas (keq (.pr .s .s)) s.2.2.2.2 (a,b)=true from h];rfl
   |false=>
    rw[show mhas (keq (.pr .s .s)) s.2.2.2.2 (a,b)=false from h,cond_false,cond_false]
    by_cases h:64<=s.2.2.2.2.length
    ·rw[zdU (show(s.2.2.2.2.length:Int)≥64 by omega),decide_eq_true h];rfl
    ·rw[zdG (show ¬(s.2.2.2.2.length:Int)≥64 by omega),decide_eq_false h];rfl
theorem xmC(a b:L8)(s:PS):zgM zaB a b s.1 s.2.1 s.2.2.1 s.2.2.2.1 s.2.2.2.2=some (yzO a b s):=by
 unfold zgM yzO
 rw[yyI,zaA]
 unfold xeM
 cases !prB a || !prB b with
 |true=>rfl
 |false=>
  cases !thB s a || !thB s b with
  |true=>rfl
  |false=>
   simp only[cond_false,bne_self_eq_false]
   unfold zeW
   simp only
   rw[zaA]
   simp only
   cases h:mhas keqM s.2.2.2.2 (a,b) with
   |true=>rw[show mhas (keq (.pr .s .s)) s.2.2.2.2 (a,b)=true from h];rfl
   |false=>rw[show mhas (keq (.pr .s .s)) s.2.2.2.2 (a,b)=false from h];rfl
abbrev Opr:Type:=Int×Int×L8×L8×Bool×Ro×Cl
noncomputable def yqT(o:Opr)(s:PS):Int×PS:=
 bif o.2.1==0 then xdN o.2.2.1 o.2.2.2.1 s else bif o.2.1==1 then yxH o.2.2.1 o.2.2.2.1 s else bif o.2.1==2 then yuX o.2.2.1 o.2.2.2.2.1 s else bif o.2.1==3 then ynT o.2.2.1 s else bif o.2.1==4 then xdD o.2.2.1 s else bif o.2.1==5 then yoS o.2.2.1 s else
 bif o.2.1==6 then zzK 0 o.2.2.1 o.2.2.2.1 s else bif o.2.1==7 then zyN 0 o.2.2.1 o.2.2.2.1 s else bif o.2.1==8 then zzK 1 o.2.2.1 o.2.2.2.1 s else bif o.2.1==9 then zyN 1 o.2.2.1 o.2.2.2.1 s else bif o.2.1==10 then zzK 2 o.2.2.1 o.2.2.2.1 s else bif o.2.1==11 then zyN 2 o.2.2.1 o.2.2.2.1 s else
 bif o.2.1==12 then xcC o.2.2.2.2.2.1 s else bif o.2.1==13 then yoZ o.2.2.1 s else bif o.2.1==14 then yzV o.2.2.2.2.2.2 s else bif o.2.1==15 then ynG o.2.2.1 s else bif o.2.1==16 then ymS o.2.2.1 o.2.2.2.1 s else bif o.2.1==17 then yzO o.2.2.1 o.2.2.2.1 s else(0,s)
def Opok(o:Opr):Prop:=o.2.2.2.2.2.1.2.length<=1048576/\o.2.2.2.2.2.2.2.1.length<=1048576/\o.2.2.2.2.2.2.2.2.1.length<=1048576/\o.2.2.2.2.2.2.2.2.2.1.length<=1048576
theorem zoH{α:Type}{c:Bool}{a b:Option α}{x y:α}(h:a=some x)(k:b=some y):(bif c then a else b)=some (bif c then x else y):=by cases c<;>assumption
theorem xdU{B:Int}(hB:B<=1099511627776){s:PS}(h:PInv B s){o:Opr}(ho:Opok o):zcA zaB o s.1 s.2.1 s.2.2.1 s.2.2.2.1 s.2.2.2.2=some (yqT o s):=by
 obtain⟨h1,h2,h3,h4⟩:=ho
 unfold zcA yqT
 refine zoH (by rw[xkX];rfl) (zoH (by rw[xmN hB h];rfl) (zoH (by rw[xlK hB h];rfl) (zoH (by rw[xfS hB h];rfl) (zoH (by rw[xpC];rfl) (zoH (by rw[xhG hB h];rfl) ?_)))))
 unfold zgQ zjQ zbN zhY zgO zkH
 refine zoH (by rw[xeK hB h];rfl) (zoH (by rw[xaW hB h];rfl) (zoH (by rw[yrU hB h];rfl) (zoH (by rw[xaV hB h];rfl) (zoH (by rw[xhX hB h];rfl) (zoH (by rw[ywW hB h];rfl) ?_)))))
 exact zoH (by rw[xlD h1];rfl) (zoH (by rw[xgU hB h];rfl) (zoH (by rw[xlT h2 h3 h4];rfl) (zoH (by rw[xhU h];rfl) (zoH (by rw[xfV];rfl) (zoH (by rw[xmC];rfl) rfl)))))
theorem zxC{α:Type}{P:α->Prop}{c:Bool}{x y:α}(h:P x)(k:P y):P (bif c then x else y):=by cases c<;>assumption
theorem ylH{B:Int}(hB:1<=B){s:PS}(h:PInv B s)(o:Opr):PInv (B+1) (yqT o s).2:=by
 have m:∀{t:PS},PInv B t->PInv (B+1) t:=fun h=>h.mono (by omega)
 unfold yqT
 let P:Int×PS->Prop:=fun r=>PInv (B+1) r.2
 refine zxC (P:=P) (m (xfB h hB)) (zxC (P:=P) (xiD h) (zxC (P:=P) (xhN h) (zxC (P:=P) (ywN h) (zxC (P:=P) (xeU h hB) (zxC (P:=P) (xaO h) ?_)))))
 refine zxC (P:=P) (ylK (by decide) h hB) (zxC (P:=P) (ygZ (by decide) h hB) (zxC (P:=P) (ylK (by decide) h hB) (zxC (P:=P) (ygZ (by decide) h hB) (zxC (P:=P) (ylK (by decide) h hB) (zxC (P:=P) (ygZ (by decide) h hB) ?_)))))
 exact zxC (P:=P) (m (xiB h)) (zxC (P:=P) (xcD h) (zxC (P:=P) (m (xfY h)) (zxC (P:=P) (m (xcH h)) (zxC (P:=P) (m (yxX h)) (zxC (P:=P) (m (xiI h)) (m h))))))
end Go.Proofs.YtopanhneegpgcaaGreatDoor.Am
