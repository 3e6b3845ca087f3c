/- What some functions compute, over plain values, and that they do. People: lists that rise, looked into and changed: what the program's functions compute. People: what hangs on a group; things that go. What the program's functions compute. People: calls that change people: what the program's functions compute. Conditions: as each theorem says. -/
import Derived.KernelRfl
import Derived.Test.YtopanhneegpgcaaGreatDoorQdM
namespace Go.Proofs.YtopanhneegpgcaaGreatDoor.Am
open Go Go.RowKit
def τWkD:TE:=[(3,⟨.int .i64,1,[.v (.i .i64) (show Int from 0)],(.i .i64),8⟩),
 (4,⟨.b,1,[.v .b (show Bool from false)],.b,1⟩),
 (9,⟨.s,1,[.v .s (show Bs from [])],.s,16⟩),
 (22,⟨.sl 9,1,[.nils],(.sl .s),24⟩),
 (34,⟨.pt 128,1,[.nilp],.un,8⟩),
 (45,⟨.sl 53,1,[.nils],(.sl (.pr (.i .i64) (.pr (.i .i64) (.pr .s (.pr .s (.pr .b (.pr (.pr .s (.sl .s)) (.pr .s (.pr .s (.pr (.sl .s) (.pr (.sl .s) (.pr .b (.pr .b (.pr .b .b)))))))))))))),24⟩),
 (49,⟨.st [(9,0),(22,1)],2,[.v .s (show Bs from []),.nils],(.pr .s (.sl .s)),40⟩),
 (51,⟨.st [(9,0),(9,1),(22,2),(22,3),(4,4),(4,5),(4,6),(4,7)],8,[.v .s (show Bs from []),.v .s (show Bs from []),.nils,.nils,.v .b (show Bool from false),.v .b (show Bool from false),.v .b (show Bool from false),.v .b (show Bool from false)],(.pr .s (.pr .s (.pr (.sl .s) (.pr (.sl .s) (.pr .b (.pr .b (.pr .b .b))))))),88⟩),
 (53,⟨.st [(3,0),(3,1),(9,2),(9,3),(4,4),(49,5),(51,7)],15,[.v (.i .i64) (show Int from 0),.v (.i .i64) (show Int from 0),.v .s (show Bs from []),.v .s (show Bs from []),.v .b (show Bool from false),.v .s (show Bs from []),.nils,.v .s (show Bs from []),.v .s (show Bs from []),.nils,.nils,.v .b (show Bool from false),.v .b (show Bool from false),.v .b (show Bool from false),.v .b (show Bool from false)],(.pr (.i .i64) (.pr (.i .i64) (.pr .s (.pr .s (.pr .b (.pr (.pr .s (.sl .s)) (.pr .s (.pr .s (.pr (.sl .s) (.pr (.sl .s) (.pr .b (.pr .b (.pr .b .b))))))))))))),184⟩),
 (54,⟨.sl 57,1,[.nils],(.sl (.pr .s (.pr (.sl .s) (.pr (.sl .s) (.pr (.sl .s) (.i .i64)))))),24⟩),
 (57,⟨.st [(9,0),(22,1),(22,2),(22,3),(3,4)],5,[.v .s (show Bs from []),.nils,.nils,.nils,.v (.i .i64) (show Int from 0)],(.pr .s (.pr (.sl .s) (.pr (.sl .s) (.pr (.sl .s) (.i .i64))))),96⟩),
 (64,⟨.sl 51,1,[.nils],(.sl (.pr .s (.pr .s (.pr (.sl .s) (.pr (.sl .s) (.pr .b (.pr .b (.pr .b .b)))))))),24⟩),
 (67,⟨.sl 77,1,[.nils],(.sl (.pr .s (.pr .s (.pr .b (.i .i64))))),24⟩),
 (69,⟨.sl 49,1,[.nils],(.sl (.pr .s (.sl .s))),24⟩),
 (72,⟨.sl 75,1,[.nils],(.sl (.pr .s .s)),24⟩),
 (75,⟨.st [(9,0),(9,1)],2,[.v .s (show Bs from []),.v .s (show Bs from [])],(.pr .s .s),32⟩),
 (77,⟨.st [(9,0),(9,1),(4,2),(3,3)],4,[.v .s (show Bs from []),.v .s (show Bs from []),.v .b (show Bool from false),.v (.i .i64) (show Int from 0)],(.pr .s (.pr .s (.pr .b (.i .i64)))),48⟩),
 (122,⟨.map 9 77,1,[.nilm],(.mp .s (.pr .s (.pr .s (.pr .b (.i .i64))))),8⟩),
 (123,⟨.map 9 133,1,[.nilm],(.mp .s (.pr (.pr (.sl .s) (.pr (.sl .s) (.sl .s))) (.i .i64))),8⟩),
 (124,⟨.map 9 49,1,[.nilm],(.mp .s (.pr .s (.sl .s))),8⟩),
 (125,⟨.map 9 51,1,[.nilm],(.mp .s (.pr .s (.pr .s (.pr (.sl .s) (.pr (.sl .s) (.pr .b (.pr .b (.pr .b .b)))))))),8⟩),
 (126,⟨.map 75 157,1,[.nilm],(.mp (.pr .s .s) .un),8⟩),
 (128,⟨.st [(122,0),(123,1),(124,2),(125,3),(126,4)],5,[.nilm,.nilm,.nilm,.nilm,.nilm],(.pr (.mp .s (.pr .s (.pr .s (.pr .b (.i .i64))))) (.pr (.mp .s (.pr (.pr (.sl .s) (.pr (.sl .s) (.sl .s))) (.i .i64))) (.pr (.mp .s (.pr .s (.sl .s))) (.pr (.mp .s (.pr .s (.pr .s (.pr (.sl .s) (.pr (.sl .s) (.pr .b (.pr .b (.pr .b .b)))))))) (.mp (.pr .s .s) .un))))),40⟩),
 (131,⟨.ar 3 22,3,[.nils,.nils,.nils],(.pr (.sl .s) (.pr (.sl .s) (.sl .s))),72⟩),
 (133,⟨.st [(131,0),(3,3)],4,[.nils,.nils,.nils,.v (.i .i64) (show Int from 0)],(.pr (.pr (.sl .s) (.pr (.sl .s) (.sl .s))) (.i .i64)),80⟩),
 (157,⟨.st [],0,[],.un,0⟩),
 (187,⟨.st [(3,0),(25,1)],2,[.v (.i .i64) (show Int from 0),.nilf],.un,16⟩),
 (188,⟨.ar 3 187,6,[.v (.i .i64) (show Int from 0),.nilf,.v (.i .i64) (show Int from 0),.nilf,.v (.i .i64) (show Int from 0),.nilf],.un,48⟩)]
theorem τ_okWkD:TEok Tryz.prog τWkD:=xcG (by kernel_rfl) (by kernel_rfl)
theorem xfA:Tryz.prog.follows .mixedOrders=true:=by kernel_rfl
theorem zcO {G : List (Nat × Obj)} {o : Ops} [zwC G] [zsQ G o] {Γ : CT} {η : HT} {f : FuncId} {fn : Func} {c : SC} (hΓ : ∀ B, GB G B → CTok Tryz.prog Γ B) (hf : Tryz.prog.funcs[f]? = some fn) (i : (fn.name == "runtime.NumGoroutine") = false := by kernel_rfl) (j : fn.body.isNone = false := by kernel_rfl) (l : Nat.ble c.I.sl.length fn.ntmps = true := by kernel_rfl) (r : Nat.beq fn.results.toList.length c.nr = true := by kernel_rfl) (e : fnS τWkD Γ η fn c.I c.outs = c.p := by kernel_rfl) : SCok Tryz.prog G f c := witO (G := G) (o := o) <| fn_sc xfA τ_okWkD hΓ hf (isFn hf i j) l r e
theorem yuY {G : List (Nat × Obj)} {o : Ops} [zwC G] [zsQ G o] {Γ : CT} {η : HT} {f : FuncId} {fn : Func} {c : PC} (hΓ : ∀ B, GB G B → CTok Tryz.prog Γ B) (hf : Tryz.prog.funcs[f]? = some fn) (i : (fn.name == "runtime.NumGoroutine") = false := by kernel_rfl) (j : fn.body.isNone = false := by kernel_rfl) (l : Nat.ble c.ash.length fn.ntmps = true := by kernel_rfl) (r : c.cl = false := by kernel_rfl) (e : fnP τWkD Γ η fn c.ash c.rts = c.p := by kernel_rfl) : PCok Tryz.prog G f c := witO (G := G) (o := o) <| fn_pc xfA τ_okWkD hΓ hf (isFn hf i j) l r e
abbrev zzW:Type:=Bs×List Bs
abbrev yhG:Ty:=.pr .s (.sl .s)
abbrev ztJ:Type:=Bs×Bs×Bool×Int
abbrev ykK:Ty:=.pr .s (.pr .s (.pr .b (.i .i64)))
abbrev zbJ:Type:=Bs×zzW
abbrev zbG:Type:=Bs×ztJ
abbrev ytJ:Type:=((List Bs)×(List Bs)×List Bs)×Int
abbrev YWkD4:Ty:=.pr (.pr (.sl .s) (.pr (.sl .s) (.sl .s))) (.i .i64)
abbrev KWkD5:Type:=Bs×(List Bs)×(List Bs)×(List Bs)×Int
abbrev YWkD5:Ty:=.pr .s (.pr (.sl .s) (.pr (.sl .s) (.pr (.sl .s) (.i .i64))))
abbrev zbC:Type:=Bs×ytJ
abbrev zvC:Type:=Bs×Bs×(List Bs)×(List Bs)×Bool×Bool×Bool×Bool
abbrev ydI:Ty:=.pr .s (.pr .s (.pr (.sl .s) (.pr (.sl .s) (.pr .b (.pr .b (.pr .b .b))))))
abbrev zbI:Type:=Bs×zvC
abbrev KWkD9:Type:=Int×Int×Bs×Bs×Bool×zzW×zvC
abbrev YWkD9:Ty:=.pr (.i .i64) (.pr (.i .i64) (.pr .s (.pr .s (.pr .b (.pr yhG ydI)))))
abbrev zbU:Type:=(List (Bs×ztJ))×(List (Bs×ytJ))×(List (Bs×zzW))×(List (Bs×zvC))×List ((Bs×Bs)×Unit)
abbrev ytS:OSh:=.blk 128 [(.mpr 2),(.mpr 3),(.mpr 4),(.mpr 5),(.mpr 6)]
abbrev zbN:OSh:=.blk 128 [(.mpr 1),(.mpr 2),(.mpr 3),(.mpr 4),(.mpr 5)]
abbrev ynR:OSh:=.blk 128 [(.mpr 3),(.mpr 4),(.mpr 5),(.mpr 6),(.mpr 7)]
abbrev xbJ:OSh:=.blk 128 [(.mpr 4),(.mpr 5),(.mpr 6),(.mpr 7),(.mpr 8)]
abbrev yaF:OSh:=.blk 133 [(.h (.sl .s)),(.h (.sl .s)),(.h (.sl .s)),hI]
abbrev ytM:OSh:=.blk 77 [hS,hS,hB,hI]
abbrev ylE:OSh:=.blk 34 [(.ptr 2 0)]
abbrev ynI:OSh:=.blk 34 [(.ptr 3 0)]
abbrev yyH:OSh:=.mp false .s ykK
abbrev yoU:OSh:=.mp false .s YWkD4
abbrev zaN:OSh:=.mp true .s ykK
abbrev zaO:OSh:=.mp true .s YWkD4
abbrev zaL:OSh:=.mp true .s yhG
abbrev zaM:OSh:=.mp true .s ydI
section
variable {tabs:List (Nat×Obj)}[zwC tabs]{o:Ops}[zsQ tabs o]
def zfO(_o:Ops)(v0:Bs)(_v1:Bs)(v2:Bool)(v3:Int)(v4:Bs):Option ((Bs×Bs×Bool×Int×Bs)):=
 some (v0,v4,v2,v3,v4)
def ziY(o:Ops):SC:=⟨⟨[(0,(.ptr 0 0)),(1,(.ptr 1 0))],[ytM,.blk 9 [hS]]⟩,0,[(none,⟨[],[ytM,.blk 9 [hS]]⟩)],fun x=>zfO o x.1 x.2.1 x.2.2.1 x.2.2.2.1 x.2.2.2.2⟩
theorem zrX:SCok Tryz.prog tabs 192 (ziY o):=zcO (o:=o) (η:=[]) (Γ:=⟨[],[],false,[]⟩) (ctok trivial trivial) Tryz.func192
def ziR(_o:Ops)(v2:List zbG)(v3:List zbC)(v4:List zbJ)(v5:List zbI)(v6:List ((Bs×Bs)×Unit))(v8:ztJ)(v9:(Bs×Bs×Bool×Int×Bs)):Option ((Bs×(List zbG)×(List zbC)×(List zbJ)×(List zbI)×(List ((Bs×Bs)×Unit))×ztJ)):=
 let v10:Bool:=(!((v9.1==v8.1)&&((v9.2.1==v8.2.1)&&((v9.2.2.1==v8.2.2.1)&&(decide (v9.2.2.2.1=v8.2.2.2))))))
 bif v10 then some (v9.2.2.2.2,v2,v3,v4,v5,v6,v9.1,v9.2.1,v9.2.2.1,w64 (v9.2.2.2.1+1))else some (v9.2.2.2.2,v2,v3,v4,v5,v6,v9.1,v9.2.1,v9.2.2.1,v9.2.2.2.1)
def zgB(o:Ops)(v0:Bs)(v1:Bs)(v2:List zbG)(v3:List zbC)(v4:List zbJ)(v5:List zbI)(v6:List ((Bs×Bs)×Unit)):Option ((Int×Bs×zbU)):=
 (zaQ o v0).bind fun v7=>bif(!v7)then some ((120:Int),v1,v2,v3,v4,v5,v6)else(let v8:ztJ:=zdY keqS v2 v0 (([]:Bs),([]:Bs),false,(0:Int))
 bif(!(mhas keqS v2 v0))then some ((122:Int),v1,v2,v3,v4,v5,v6)else((zfO o v8.1 v8.2.1 v8.2.2.1 v8.2.2.2 v1).bind fun v9=>(ziR o v2 v3 v4 v5 v6 v8 v9).bind fun v11=>let v12:List zbG:=mset keqS kltS v11.2.1 v0 v11.2.2.2.2.2.2
 some ((0:Int),v11.1,v12,v11.2.2.1,v11.2.2.2.1,v11.2.2.2.2.1,v11.2.2.2.2.2.1)))
def zoP(o:Ops):SC:=⟨⟨[(0,(.ptr 0 0)),(1,hS),(2,(.fn 192 [] [(.ptr 1 0)]))],[ytS,.blk 9 [hS],zaN,zaO,zaL,zaM,.mp true (.pr .s .s) .un]⟩,1,[(none,⟨[(0,hI)],[ytS,.blk 9 [hS],yyH,zaO,zaL,zaM,.mp true (.pr .s .s) .un]⟩)],fun x=>zgB o x.1 x.2.1 x.2.2.1 x.2.2.2.1 x.2.2.2.2.1 x.2.2.2.2.2.1 x.2.2.2.2.2.2⟩
theorem zyD:SCok Tryz.prog tabs 191 (zoP o):=zcO (o:=o) (η:=[(2000010,.join [] [1] [(none,⟨[(0,(.ptr 0 0)),(7,(.ptr 7 0))],[ytS,.blk 9 [hS],zaN,zaO,zaL,zaM,.mp true (.pr .s .s) .un,ytM]⟩)]),
 (4000010,.sch [(.pu,0,[]),(.pu,1,[]),(.pu,2,[]),(.pu,3,[]),(.pu,4,[]),(.pu,5,[]),(.mn,6,[0,1,2,3,4,5,6,7])])]) (Γ:=⟨[(13,(zbD o))],[(192,(ziY o))],false,[]⟩) (ctok ⟨zbH,trivial⟩ ⟨zrX,trivial⟩) Tryz.func191
def zeK(o:Ops)(v0:Bs)(v1:Bs)(v2:List zbG)(v3:List zbC)(v4:List zbJ)(v5:List zbI)(v6:List ((Bs×Bs)×Unit)):Option ((Int×zbU)):=
 (zeG o v1).bind fun v7=>bif(!v7)then some ((120:Int),v2,v3,v4,v5,v6)else((zgB o v0 v1 v2 v3 v4 v5 v6).bind fun v8=>some (v8.1,v8.2.2))
def zkH(o:Ops):SC:=⟨⟨[(0,(.ptr 0 0)),(1,hS),(2,hS)],[zbN,zaN,zaO,zaL,zaM,.mp true (.pr .s .s) .un]⟩,1,[(none,⟨[(0,hI)],[zbN,yyH,zaO,zaL,zaM,.mp true (.pr .s .s) .un]⟩)],fun x=>zeK o x.1 x.2.1 x.2.2.1 x.2.2.2.1 x.2.2.2.2.1 x.2.2.2.2.2.1 x.2.2.2.2.2.2⟩
theorem ztF:SCok Tryz.prog tabs 92 (zkH o):=zcO (o:=o) (η:=[]) (Γ:=⟨[(15,(zjK o))],[(191,(zoP o))],false,[]⟩) (ctok ⟨zoK,trivial⟩ ⟨zyD,trivial⟩) Tryz.func92
def zeP(_o:Ops)(v0:Bs)(v1:Bs)(_v2:Bool)(v3:Int)(v4:Bool):Option ((Bs×Bs×Bool×Int×Bool)):=
 some (v0,v1,v4,v3,v4)
def zhY(o:Ops):SC:=⟨⟨[(0,(.ptr 0 0)),(1,(.ptr 1 0))],[ytM,.blk 4 [hB]]⟩,0,[(none,⟨[],[ytM,.blk 4 [hB]]⟩)],fun x=>zeP o x.1 x.2.1 x.2.2.1 x.2.2.2.1 x.2.2.2.2⟩
theorem zqK:SCok Tryz.prog tabs 193 (zhY o):=zcO (o:=o) (η:=[]) (Γ:=⟨[],[],false,[]⟩) (ctok trivial trivial) Tryz.func193
def zhM(_o:Ops)(v2:List zbG)(v3:List zbC)(v4:List zbJ)(v5:List zbI)(v6:List ((Bs×Bs)×Unit))(v8:ztJ)(v9:(Bs×Bs×Bool×Int×Bool)):Option ((Bool×(List zbG)×(List zbC)×(List zbJ)×(List zbI)×(List ((Bs×Bs)×Unit))×ztJ)):=
 let v10:Bool:=(!((v9.1==v8.1)&&((v9.2.1==v8.2.1)&&((v9.2.2.1==v8.2.2.1)&&(decide (v9.2.2.2.1=v8.2.2.2))))))
 bif v10 then some (v9.2.2.2.2,v2,v3,v4,v5,v6,v9.1,v9.2.1,v9.2.2.1,w64 (v9.2.2.2.1+1))else some (v9.2.2.2.2,v2,v3,v4,v5,v6,v9.1,v9.2.1,v9.2.2.1,v9.2.2.2.1)
def zfK(o:Ops)(v0:Bs)(v1:Bool)(v2:List zbG)(v3:List zbC)(v4:List zbJ)(v5:List zbI)(v6:List ((Bs×Bs)×Unit)):Option ((Int×Bool×zbU)):=
 (zaQ o v0).bind fun v7=>bif(!v7)then some ((120:Int),v1,v2,v3,v4,v5,v6)else(let v8:ztJ:=zdY keqS v2 v0 (([]:Bs),([]:Bs),false,(0:Int))
 bif(!(mhas keqS v2 v0))then some ((122:Int),v1,v2,v3,v4,v5,v6)else((zeP o v8.1 v8.2.1 v8.2.2.1 v8.2.2.2 v1).bind fun v9=>(zhM o v2 v3 v4 v5 v6 v8 v9).bind fun v11=>let v12:List zbG:=mset keqS kltS v11.2.1 v0 v11.2.2.2.2.2.2
 some ((0:Int),v11.1,v12,v11.2.2.1,v11.2.2.2.1,v11.2.2.2.2.1,v11.2.2.2.2.2.1)))
def znY(o:Ops):SC:=⟨⟨[(0,(.ptr 0 0)),(1,hS),(2,(.fn 193 [] [(.ptr 1 0)]))],[ytS,.blk 4 [hB],zaN,zaO,zaL,zaM,.mp true (.pr .s .s) .un]⟩,1,[(none,⟨[(0,hI)],[ytS,.blk 4 [hB],yyH,zaO,zaL,zaM,.mp true (.pr .s .s) .un]⟩)],fun x=>zfK o x.1 x.2.1 x.2.2.1 x.2.2.2.1 x.2.2.2.2.1 x.2.2.2.2.2.1 x.2.2.2.2.2.2⟩
theorem zvX:SCok Tryz.prog tabs 191 (znY o):=zcO (o:=o) (η:=[(2000010,.join [] [1] [(none,⟨[(0,(.ptr 0 0)),(7,(.ptr 7 0))],[ytS,.blk 4 [hB],zaN,zaO,zaL,zaM,.mp true (.pr .s .s) .un,ytM]⟩)]),
 (4000010,.sch [(.pu,0,[]),(.pu,1,[]),(.pu,2,[]),(.pu,3,[]),(.pu,4,[]),(.pu,5,[]),(.mn,6,[0,1,2,3,4,5,6,7])])]) (Γ:=⟨[(13,(zbD o))],[(193,(zhY o))],false,[]⟩) (ctok ⟨zbH,trivial⟩ ⟨zqK,trivial⟩) Tryz.func191
def zcZ(o:Ops)(v0:Bs)(v1:Bool)(v2:List zbG)(v3:List zbC)(v4:List zbJ)(v5:List zbI)(v6:List ((Bs×Bs)×Unit)):Option ((Int×zbU)):=
 (zfK o v0 v1 v2 v3 v4 v5 v6).bind fun v7=>some (v7.1,v7.2.2)
def ziZ(o:Ops):SC:=⟨⟨[(0,(.ptr 0 0)),(1,hS),(2,hB)],[zbN,zaN,zaO,zaL,zaM,.mp true (.pr .s .s) .un]⟩,1,[(none,⟨[(0,hI)],[zbN,yyH,zaO,zaL,zaM,.mp true (.pr .s .s) .un]⟩)],fun x=>zcZ o x.1 x.2.1 x.2.2.1 x.2.2.2.1 x.2.2.2.2.1 x.2.2.2.2.2.1 x.2.2.2.2.2.2⟩
theorem zrT:SCok Tryz.prog tabs 93 (ziZ o):=zcO (o:=o) (η:=[]) (Γ:=⟨[],[(191,(znY o))],false,[]⟩) (ctok trivial ⟨zvX,trivial⟩) Tryz.func93
def yvV:SC:=⟨⟨[(0,(.own 0)),(1,(.fn 275 [] [(.ptr 1 0)]))],[.osl .s 9,.blk 9 [hS]]⟩,1,[(none,⟨[(0,(.h (.sl .s)))],[.dead,.blk 9 [hS]]⟩)],fun(x:List Bs×Bs)=>delP x.1 x.2⟩
theorem DelF_sk:SCok Tryz.prog tabs 274 yvV:=wit (G:=tabs)<|xdH
def zaW(_o:Ops)(v0:List Bs)(v1:Bs):Option (List Bs):=
 (app ([]:List Bs) v0).bind fun v2=>((fun(xs:List Bs) (s:Bs)=>bif decide (xs.length<1152921504606846976)then some (xs.filter fun x=>!(x==s),s)else none) v2 v1).bind fun v3=>some v3.1
def zcW(o:Ops):PC:=⟨[(.h (.sl .s)),hS],[(.sl .s)],fun x=>zaW o x.1 x.2,false⟩
theorem zeN:PCok Tryz.prog tabs 206 (zcW o):=yuY (o:=o) (η:=[]) (Γ:=⟨[],[(198,zvF),(274,yvV)],false,[]⟩) (ctok trivial ⟨zyT,⟨DelF_sk,trivial⟩⟩) Tryz.func206
noncomputable def zmH(o:Ops)(v0:Bs)(v6:List zbG)(v7:List zbC)(v8:List zbJ)(v9:List zbI)(v10:List ((Bs×Bs)×Unit))(v11:List Bs)(v12:zbC)(v13:ytJ):Option ((Bool×(List zbG)×(List zbC)×(List zbJ)×(List zbI)×(List ((Bs×Bs)×Unit))×(List Bs)×(List Bs)×(List Bs)×Int×List Bs)):=
 (zaV o v13.1.1 v0).bind fun v14=>some (v14,v6,v7,v8,v9,v10,v13.1.1,v13.1.2.1,v13.1.2.2,v13.2,rngD keqS v11 v12.1)
noncomputable def zmN(o:Ops)(v0:Bs)(v15:Bool×(List zbG)×(List zbC)×(List zbJ)×(List zbI)×(List ((Bs×Bs)×Unit))×(List Bs)×(List Bs)×(List Bs)×Int×List Bs):Option (((List zbG)×(List zbC)×(List zbJ)×(List zbI)×(List ((Bs×Bs)×Unit))×(List Bs)×(List Bs)×(List Bs)×Int×List Bs)):=
 (zaW o v15.2.2.2.2.2.2.1 v0).bind fun v16=>some (v15.2.1,v15.2.2.1,v15.2.2.2.1,v15.2.2.2.2.1,v15.2.2.2.2.2.1,v16,v15.2.2.2.2.2.2.2)
noncomputable def zmL(o:Ops)(v0:Bs)(v6:List zbG)(v7:List zbC)(v8:List zbJ)(v9:List zbI)(v10:List ((Bs×Bs)×Unit))(v11:List Bs):List (Option (((List zbG)×(List zbC)×(List zbJ)×(List zbI)×(List ((Bs×Bs)×Unit))×List Bs)⊕(zbU))):=
 rngL (rngC keqS v7 v11) (some (.inr (v6,v7,v8,v9,v10))) fun v12=>(mget keqS v7 v12.1).bind fun v13=>(zmH o v0 v6 v7 v8 v9 v10 v11 v12 v13).bind fun v15=>bif v15.1 then((zmN o v0 v15).bind fun v17=>(chk (mhas keqS v17.2.1 v12.1)).bind fun _=>let v18:List zbC:=mrep keqS v17.2.1 v12.1 ((v17.2.2.2.2.2.1,v17.2.2.2.2.2.2.1,v17.2.2.2.2.2.2.2.1),w64 (v17.2.2.2.2.2.2.2.2.1+1))
 some (.inl (v17.1,v18,v17.2.2.1,v17.2.2.2.1,v17.2.2.2.2.1,v17.2.2.2.2.2.2.2.2.2)))else some (.inl (v15.2.1,v15.2.2.1,v15.2.2.2.1,v15.2.2.2.2.1,v15.2.2.2.2.2.1,v15.2.2.2.2.2.2.2.2.2.2))
noncomputable def zeZ(o:Ops)(v0:Bs)(v1:List zbG)(v2:List zbC)(v3:List zbJ)(v4:List zbI)(v5:List ((Bs×Bs)×Unit)):Option (zbU):=
 (rngA (fun x=>zmL o v0 x.1 x.2.1 x.2.2.1 x.2.2.2.1 x.2.2.2.2.1 x.2.2.2.2.2) (v1,v2,v3,v4,v5,List.map Prod.fst v2)).bind fun v19=>some v19
noncomputable def zlV(o:Ops):SC:=⟨⟨[(0,(.ptr 0 0)),(1,(.kn .i64 0)),(2,hS)],[zbN,zaN,zaO,zaL,zaM,.mp true (.pr .s .s) .un]⟩,0,[(none,⟨[],[zbN,zaN,zaO,zaL,zaM,.mp true (.pr .s .s) .un]⟩)],fun x=>zeZ o x.1 x.2.1 x.2.2.1 x.2.2.2.1 x.2.2.2.2.1 x.2.2.2.2.2⟩
theorem zvJ:SCok Tryz.prog tabs 116 (zlV o):=zcO (o:=o) (η:=[(2300004,.join [] [1,2,6] [(none,⟨[(0,(.ptr 0 0)),(7,(.ptr 6 0)),(12,(.ptr 7 0)),(23,hB)],[zbN,zaN,zaO,zaL,zaM,.mp true (.pr .s .s) .un,yaF,.it 2 true .s]⟩)]),
 (2000005,.join [] [1,2,6] [(none,⟨[(0,(.ptr 0 0)),(7,(.ptr 6 0)),(12,(.ptr 7 0))],[zbN,zaN,zaO,zaL,zaM,.mp true (.pr .s .s) .un,yaF,.it 2 true .s]⟩)]),
 (200001,.rng [] ⟨[(0,(.ptr 0 0)),(12,(.ptr 6 0))],[zbN,zaN,zaO,zaL,zaM,.mp true (.pr .s .s) .un,.it 2 true .s]⟩ [1,2] [(some 0,⟨[],[zbN,zaN,zaO,zaL,zaM,.mp true (.pr .s .s) .un]⟩)]),
 (4000006,.sch [(.pu,0,[]),(.pu,1,[]),(.pu,2,[]),(.pu,3,[]),(.pu,4,[]),(.pu,5,[]),(.mn,6,[0,1,2,3,4,5,6,7])])]) (Γ:=⟨[(131,(zcK o)),(206,(zcW o))],[],true,[]⟩) (ctok ⟨zdC,⟨zeN,trivial⟩⟩ trivial) Tryz.func116
def zgK(_o:Ops)(v0:Bs×Bs)(_v1:Unit)(v2:Bs):Option ((Bool×Bs)):=
 bif(v0.1==v2)then some (true,v2)else some ((v0.2==v2),v2)
def zjL(o:Ops):SC:=⟨⟨[(0,(.h (.pr .s .s))),(1,(.h .un)),(2,(.ptr 0 0))],[.blk 9 [hS]]⟩,1,[(none,⟨[(0,hB)],[.blk 9 [hS]]⟩)],fun x=>zgK o x.1 x.2.1 x.2.2⟩
theorem zsS:SCok Tryz.prog tabs 208 (zjL o):=zcO (o:=o) (η:=[]) (Γ:=⟨[],[],false,[]⟩) (ctok trivial trivial) Tryz.func208
noncomputable def zsA(o:Ops)(v2:List ((Bs×Bs)×Unit))(v3:Bs)(v4:List (Bs×Bs)):List (Option (((List ((Bs×Bs)×Unit))×Bs×List (Bs×Bs))⊕(((List ((Bs×Bs)×Unit))×Bs)))):=
 rngL (rngC (keq (.pr .s .s)) v2 v4) (some (.inr (v2,v3))) fun v5=>(mget (keq (.pr .s .s)) v2 v5.1).bind fun _v6=>(zgK o v5.1 () v3).bind fun v7=>bif v7.1 then some (.inl (mdel (keq (.pr .s .s)) v2 v5.1,v7.2,rngD (keq (.pr .s .s)) v4 v5.1))else some (.inl (v2,v7.2,rngD (keq (.pr .s .s)) v4 v5.1))
noncomputable def zoF(o:Ops)(v0:List ((Bs×Bs)×Unit))(v1:Bs):Option (((List ((Bs×Bs)×Unit))×Bs)):=
 (rngA (fun x=>zsA o x.1 x.2.1 x.2.2) (v0,v1,List.map Prod.fst v0)).bind fun v8=>some v8
noncomputable def zrY(o:Ops):SC:=⟨⟨[(0,(.mpr 0)),(1,(.fn 208 [] [(.ptr 1 0)]))],[.mp true (.pr .s .s) .un,.blk 9 [hS]]⟩,0,[(none,⟨[],[.mp true (.pr .s .s) .un,.blk 9 [hS]]⟩)],fun x=>zoF o x.1 x.2⟩
theorem ybM:SCok Tryz.prog tabs 207 (zrY o):=zcO (o:=o) (η:=[(200001,.rng [] ⟨[(0,(.mpr 0)),(1,(.fn 208 [] [(.ptr 1 0)])),(7,(.ptr 2 0))],[.mp true (.pr .s .s) .un,.blk 9 [hS],.it 0 true (.pr .s .s)]⟩ [] [(some 0,⟨[],[.mp true (.pr .s .s) .un,.blk 9 [hS]]⟩)])]) (Γ:=⟨[],[(208,(zjL o))],false,[]⟩) (ctok trivial ⟨zsS,trivial⟩) Tryz.func207
noncomputable def zcV(o:Ops)(v0:Bs)(v1:List zbG)(v2:List zbC)(v3:List zbJ)(v4:List zbI)(v5:List ((Bs×Bs)×Unit)):Option (zbU):=
 (zoF o v5 v0).bind fun v6=>some (v1,v2,v3,v4,v6.1)
noncomputable def zgW(o:Ops):SC:=⟨⟨[(0,(.ptr 0 0)),(1,hS)],[zbN,zaN,zaO,zaL,zaM,.mp true (.pr .s .s) .un]⟩,0,[(none,⟨[],[zbN,zaN,zaO,zaL,zaM,.mp true (.pr .s .s) .un]⟩)],fun x=>zcV o x.1 x.2.1 x.2.2.1 x.2.2.2.1 x.2.2.2.2.1 x.2.2.2.2.2⟩
theorem zlK:SCok Tryz.prog tabs 117 (zgW o):=zcO (o:=o) (η:=[]) (Γ:=⟨[],[(207,(zrY o))],false,[]⟩) (ctok trivial ⟨ybM,trivial⟩) Tryz.func117
noncomputable def zfG(o:Ops)(v0:Bs)(v1:List zbG)(v2:List zbC)(v3:List zbJ)(v4:List zbI)(v5:List ((Bs×Bs)×Unit)):Option ((Bs×zbU)):=
 (zeZ o v0 v1 v2 v3 v4 v5).bind fun v6=>(app ([117,58]:Bs) v0).bind fun v7=>(zcV o v7 v6.1 v6.2.1 v6.2.2.1 v6.2.2.2.1 v6.2.2.2.2).bind fun v8=>some (v0,v8)
noncomputable def ziP(o:Ops):SC:=⟨⟨[(0,(.ptr 0 0)),(1,(.ptr 1 0))],[ylE,.blk 9 [hS],ynR,zaN,zaO,zaL,zaM,.mp true (.pr .s .s) .un]⟩,0,[(none,⟨[],[ylE,.blk 9 [hS],ynR,zaN,zaO,zaL,zaM,.mp true (.pr .s .s) .un]⟩)],fun x=>zfG o x.1 x.2.1 x.2.2.1 x.2.2.2.1 x.2.2.2.2.1 x.2.2.2.2.2⟩
theorem zrO:SCok Tryz.prog tabs 115 (ziP o):=zcO (o:=o) (η:=[]) (Γ:=⟨[],[(116,(zlV o)),(117,(zgW o))],false,[]⟩) (ctok trivial ⟨zvJ,⟨zlK,trivial⟩⟩) Tryz.func115
noncomputable def zuE(o:Ops)(v0:Bs)(v1:List zbG)(v2:Bs)(v3:List zbC)(v4:List zbJ)(v5:List zbI)(v6:List ((Bs×Bs)×Unit)):Option ((Int×(List zbG)×Bs×(List zbC)×(List zbJ)×(List zbI)×List ((Bs×Bs)×Unit))):=
 (zaQ o v0).bind fun v7=>bif(!v7)then some ((120:Int),v1,v2,v3,v4,v5,v6)else(let _v8:ztJ:=zdY keqS v1 v0 (([]:Bs),([]:Bs),false,(0:Int))
 bif(!(mhas keqS v1 v0))then some ((122:Int),v1,v2,v3,v4,v5,v6)else((zfG o v2 (mdel keqS v1 v0) v3 v4 v5 v6).bind fun v9=>some ((0:Int),v9.2.1,v9.1,v9.2.2)))
noncomputable def zzL(o:Ops):SC:=⟨⟨[(0,(.mpr 0)),(1,hS),(2,(.fn 115 [] [(.ptr 1 0),(.ptr 2 0)]))],[zaN,ynI,.blk 9 [hS],.blk 128 [(.mpr 0),(.mpr 4),(.mpr 5),(.mpr 6),(.mpr 7)],zaO,zaL,zaM,.mp true (.pr .s .s) .un]⟩,1,[(none,⟨[(0,hI)],[zaN,ynI,.blk 9 [hS],.blk 128 [(.mpr 0),(.mpr 4),(.mpr 5),(.mpr 6),(.mpr 7)],zaO,zaL,zaM,.mp true (.pr .s .s) .un]⟩)],fun x=>zuE o x.1 x.2.1 x.2.2.1 x.2.2.2.1 x.2.2.2.2.1 x.2.2.2.2.2.1 x.2.2.2.2.2.2⟩
theorem yhB:SCok Tryz.prog tabs 114 (zzL o):=zcO (o:=o) (η:=[]) (Γ:=⟨[(13,(zbD o))],[(115,(ziP o))],false,[]⟩) (ctok ⟨zbH,trivial⟩ ⟨zrO,trivial⟩) Tryz.func114
noncomputable def zcF(o:Ops)(v0:Bs)(v1:List zbG)(v2:List zbC)(v3:List zbJ)(v4:List zbI)(v5:List ((Bs×Bs)×Unit)):Option ((Int×zbU)):=
 (zuE o v0 v1 v0 v2 v3 v4 v5).bind fun v6=>some (v6.1,v6.2.1,v6.2.2.2)
noncomputable def zfS(o:Ops):SC:=⟨⟨[(0,(.ptr 0 0)),(1,hS)],[zbN,zaN,zaO,zaL,zaM,.mp true (.pr .s .s) .un]⟩,1,[(none,⟨[(0,hI)],[zbN,zaN,zaO,zaL,zaM,.mp true (.pr .s .s) .un]⟩)],fun x=>zcF o x.1 x.2.1 x.2.2.1 x.2.2.2.1 x.2.2.2.2.1 x.2.2.2.2.2⟩
theorem zjR:SCok Tryz.prog tabs 41 (zfS o):=zcO (o:=o) (η:=[(4000001,.sch [(.pu,0,[]),(.pu,1,[]),(.pu,2,[]),(.pu,3,[]),(.pu,4,[]),(.pu,5,[]),(.mn,6,[0,1,2,3,4,5,6,7]),(.pu,7,[])])]) (Γ:=⟨[],[(114,(zzL o))],false,[]⟩) (ctok trivial ⟨yhB,trivial⟩) Tryz.func41
noncomputable def zlB(o:Ops)(v0:Bs)(v6:List zbG)(v7:List zbC)(v8:List zbJ)(v9:List zbI)(v10:List ((Bs×Bs)×Unit))(v11:List Bs)(v12:zbC)(v13:ytJ):Option ((Bool×(List zbG)×(List zbC)×(List zbJ)×(List zbI)×(List ((Bs×Bs)×Unit))×(List Bs)×(List Bs)×(List Bs)×Int×List Bs)):=
 (zaV o v13.1.2.1 v0).bind fun v14=>some (v14,v6,v7,v8,v9,v10,v13.1.1,v13.1.2.1,v13.1.2.2,v13.2,rngD keqS v11 v12.1)
noncomputable def zlE(o:Ops)(v0:Bs)(v15:Bool×(List zbG)×(List zbC)×(List zbJ)×(List zbI)×(List ((Bs×Bs)×Unit))×(List Bs)×(List Bs)×(List Bs)×Int×List Bs):Option (((List zbG)×(List zbC)×(List zbJ)×(List zbI)×(List ((Bs×Bs)×Unit))×(List Bs)×(List Bs)×(List Bs)×Int×List Bs)):=
 (zaW o v15.2.2.2.2.2.2.2.1 v0).bind fun v16=>some (v15.2.1,v15.2.2.1,v15.2.2.2.1,v15.2.2.2.2.1,v15.2.2.2.2.2.1,v15.2.2.2.2.2.2.1,v16,v15.2.2.2.2.2.2.2.2)
noncomputable def zkG(o:Ops)(v0:Bs)(v6:List zbG)(v7:List zbC)(v8:List zbJ)(v9:List zbI)(v10:List ((Bs×Bs)×Unit))(v11:List Bs):List (Option (((List zbG)×(List zbC)×(List zbJ)×(List zbI)×(List ((Bs×Bs)×Unit))×List Bs)⊕(zbU))):=
 rngL (rngC keqS v7 v11) (some (.inr (v6,v7,v8,v9,v10))) fun v12=>(mget keqS v7 v12.1).bind fun v13=>(zlB o v0 v6 v7 v8 v9 v10 v11 v12 v13).bind fun v15=>bif v15.1 then((zlE o v0 v15).bind fun v17=>(chk (mhas keqS v17.2.1 v12.1)).bind fun _=>let v18:List zbC:=mrep keqS v17.2.1 v12.1 ((v17.2.2.2.2.2.1,v17.2.2.2.2.2.2.1,v17.2.2.2.2.2.2.2.1),w64 (v17.2.2.2.2.2.2.2.2.1+1))
 some (.inl (v17.1,v18,v17.2.2.1,v17.2.2.2.1,v17.2.2.2.2.1,v17.2.2.2.2.2.2.2.2.2)))else some (.inl (v15.2.1,v15.2.2.1,v15.2.2.2.1,v15.2.2.2.2.1,v15.2.2.2.2.2.1,v15.2.2.2.2.2.2.2.2.2.2))
noncomputable def zdZ(o:Ops)(v0:Bs)(v1:List zbG)(v2:List zbC)(v3:List zbJ)(v4:List zbI)(v5:List ((Bs×Bs)×Unit)):Option (zbU):=
 (rngA (fun x=>zkG o v0 x.1 x.2.1 x.2.2.1 x.2.2.2.1 x.2.2.2.2.1 x.2.2.2.2.2) (v1,v2,v3,v4,v5,List.map Prod.fst v2)).bind fun v19=>some v19
noncomputable def zlC(o:Ops):SC:=⟨⟨[(0,(.ptr 0 0)),(1,(.kn .i64 1)),(2,hS)],[zbN,zaN,zaO,zaL,zaM,.mp true (.pr .s .s) .un]⟩,0,[(none,⟨[],[zbN,zaN,zaO,zaL,zaM,.mp true (.pr .s .s) .un]⟩)],fun x=>zdZ o x.1 x.2.1 x.2.2.1 x.2.2.2.1 x.2.2.2.2.1 x.2.2.2.2.2⟩
theorem ztE:SCok Tryz.prog tabs 116 (zlC o):=zcO (o:=o) (η:=[(2300004,.join [] [1,2,6] [(none,⟨[(0,(.ptr 0 0)),(7,(.ptr 6 0)),(12,(.ptr 7 0)),(23,hB)],[zbN,zaN,zaO,zaL,zaM,.mp true (.pr .s .s) .un,yaF,.it 2 true .s]⟩)]),
 (2000005,.join [] [1,2,6] [(none,⟨[(0,(.ptr 0 0)),(7,(.ptr 6 0)),(12,(.ptr 7 0))],[zbN,zaN,zaO,zaL,zaM,.mp true (.pr .s .s) .un,yaF,.it 2 true .s]⟩)]),
 (200001,.rng [] ⟨[(0,(.ptr 0 0)),(12,(.ptr 6 0))],[zbN,zaN,zaO,zaL,zaM,.mp true (.pr .s .s) .un,.it 2 true .s]⟩ [1,2] [(some 0,⟨[],[zbN,zaN,zaO,zaL,zaM,.mp true (.pr .s .s) .un]⟩)]),
 (4000006,.sch [(.pu,0,[]),(.pu,1,[]),(.pu,2,[]),(.pu,3,[]),(.pu,4,[]),(.pu,5,[]),(.mn,6,[0,1,2,3,4,5,6,7])])]) (Γ:=⟨[(131,(zcK o)),(206,(zcW o))],[],true,[]⟩) (ctok ⟨zdC,⟨zeN,trivial⟩⟩ trivial) Tryz.func116
noncomputable def zeS(o:Ops)(v0:Bs)(v1:List zbG)(v2:List zbC)(v3:List zbJ)(v4:List zbI)(v5:List ((Bs×Bs)×Unit)):Option ((Bs×zbU)):=
 (zdZ o v0 v1 v2 v3 v4 v5).bind fun v6=>some (v0,v6)
noncomputable def zhX(o:Ops):SC:=⟨⟨[(0,(.ptr 0 0)),(1,(.ptr 1 0))],[ylE,.blk 9 [hS],ynR,zaN,zaO,zaL,zaM,.mp true (.pr .s .s) .un]⟩,0,[(none,⟨[],[ylE,.blk 9 [hS],ynR,zaN,zaO,zaL,zaM,.mp true (.pr .s .s) .un]⟩)],fun x=>zeS o x.1 x.2.1 x.2.2.1 x.2.2.2.1 x.2.2.2.2.1 x.2.2.2.2.2⟩
theorem zqI:SCok Tryz.prog tabs 119 (zhX o):=zcO (o:=o) (η:=[]) (Γ:=⟨[],[(116,(zlC o))],false,[]⟩) (ctok trivial ⟨ztE,trivial⟩) Tryz.func119
noncomputable def zsJ(o:Ops)(v0:Bs)(v1:List zbC)(v2:Bs)(v3:List zbG)(v4:List zbJ)(v5:List zbI)(v6:List ((Bs×Bs)×Unit)):Option ((Int×(List zbC)×Bs×(List zbG)×(List zbJ)×(List zbI)×List ((Bs×Bs)×Unit))):=
 (zaQ o v0).bind fun v7=>bif(!v7)then some ((120:Int),v1,v2,v3,v4,v5,v6)else(let _v8:ytJ:=zdY keqS v1 v0 ((([]:List Bs),([]:List Bs),([]:List Bs)),(0:Int))
 bif(!(mhas keqS v1 v0))then some ((122:Int),v1,v2,v3,v4,v5,v6)else((zeS o v2 v3 (mdel keqS v1 v0) v4 v5 v6).bind fun v9=>some ((0:Int),v9.2.2.1,v9.1,v9.2.1,v9.2.2.2)))
noncomputable def zxD(o:Ops):SC:=⟨⟨[(0,(.mpr 0)),(1,hS),(2,(.fn 119 [] [(.ptr 1 0),(.ptr 2 0)]))],[zaO,ynI,.blk 9 [hS],.blk 128 [(.mpr 4),(.mpr 0),(.mpr 5),(.mpr 6),(.mpr 7)],zaN,zaL,zaM,.mp true (.pr .s .s) .un]⟩,1,[(none,⟨[(0,hI)],[zaO,ynI,.blk 9 [hS],.blk 128 [(.mpr 4),(.mpr 0),(.mpr 5),(.mpr 6),(.mpr 7)],zaN,zaL,zaM,.mp true (.pr .s .s) .un]⟩)],fun x=>zsJ o x.1 x.2.1 x.2.2.1 x.2.2.2.1 x.2.2.2.2.1 x.2.2.2.2.2.1 x.2.2.2.2.2.2⟩
theorem yfU:SCok Tryz.prog tabs 118 (zxD o):=zcO (o:=o) (η:=[]) (Γ:=⟨[(13,(zbD o))],[(119,(zhX o))],false,[]⟩) (ctok ⟨zbH,trivial⟩ ⟨zqI,trivial⟩) Tryz.func118
noncomputable def zcA(o:Ops)(v0:Bs)(v1:List zbG)(v2:List zbC)(v3:List zbJ)(v4:List zbI)(v5:List ((Bs×Bs)×Unit)):Option ((Int×zbU)):=
 (zsJ o v0 v2 v0 v1 v3 v4 v5).bind fun v6=>some (v6.1,v6.2.2.2.1,v6.2.1,v6.2.2.2.2)
noncomputable def zfF(o:Ops):SC:=⟨⟨[(0,(.ptr 0 0)),(1,hS)],[zbN,zaN,zaO,zaL,zaM,.mp true (.pr .s .s) .un]⟩,1,[(none,⟨[(0,hI)],[zbN,zaN,zaO,zaL,zaM,.mp true (.pr .s .s) .un]⟩)],fun x=>zcA o x.1 x.2.1 x.2.2.1 x.2.2.2.1 x.2.2.2.2.1 x.2.2.2.2.2⟩
theorem ziW:SCok Tryz.prog tabs 42 (zfF o):=zcO (o:=o) (η:=[(4000001,.sch [(.pu,0,[]),(.pu,1,[]),(.pu,2,[]),(.pu,3,[]),(.pu,4,[]),(.pu,5,[]),(.mn,6,[0,1,2,3,4,5,6,7]),(.pu,7,[])])]) (Γ:=⟨[],[(118,(zxD o))],false,[]⟩) (ctok trivial ⟨yfU,trivial⟩) Tryz.func42
def znU(o:Ops)(v0:Bs)(v1:Bs)(v2:List zbG)(v3:List zbC)(v4:List zbJ)(v5:List zbI)(v6:List ((Bs×Bs)×Unit)):Option ((Int×(List zbG)×(List zbC)×(List zbJ)×(List zbI)×(List ((Bs×Bs)×Unit))×(List Bs)×(List Bs)×(List Bs)×Int)):=
 (zaR o v2 v3 v4 v5 v6).bind fun v7=>(zdD o v0 v1 v7.1 v7.2.1 v7.2.2.1 v7.2.2.2.1 v7.2.2.2.2).bind fun v8=>some (v8.2.1,v8.2.2.1,v8.2.2.2.1,v8.2.2.2.2.1,v8.2.2.2.2.2.1,v8.2.2.2.2.2.2,v8.1.1.1,v8.1.1.2.1,v8.1.1.2.2,v8.1.2)
def zmX(o:Ops)(v1:Bs)(v9:Int×(List zbG)×(List zbC)×(List zbJ)×(List zbI)×(List ((Bs×Bs)×Unit))×(List Bs)×(List Bs)×(List Bs)×Int):Option ((Int×zbU)⊕((List zbG)×(List zbC)×(List zbJ)×(List zbI)×(List ((Bs×Bs)×Unit))×(List Bs)×(List Bs)×(List Bs)×Int)):=
 bif(v9.1 != 0)then some (.inl (v9.1,v9.2.1,v9.2.2.1,v9.2.2.2.1,v9.2.2.2.2.1,v9.2.2.2.2.2.1))else((zaV o v9.2.2.2.2.2.2.1 v1).bind fun v10=>bif(!v10)then some (.inl ((122:Int),v9.2.1,v9.2.2.1,v9.2.2.2.1,v9.2.2.2.2.1,v9.2.2.2.2.2.1))else some (.inr v9.2))
def znX(o:Ops)(v1:Bs)(v13:(List zbG)×(List zbC)×(List zbJ)×(List zbI)×(List ((Bs×Bs)×Unit))×(List Bs)×(List Bs)×(List Bs)×Int):Option (((List zbG)×(List zbC)×(List zbJ)×(List zbI)×(List ((Bs×Bs)×Unit))×(List Bs)×(List Bs)×(List Bs)×Int)):=
 (zaW o v13.2.2.2.2.2.1 v1).bind fun v14=>some (v13.1,v13.2.1,v13.2.2.1,v13.2.2.2.1,v13.2.2.2.2.1,v14,v13.2.2.2.2.2.2)
def zfN(o:Ops)(v0:Bs)(v1:Bs)(v2:List zbG)(v3:List zbC)(v4:List zbJ)(v5:List zbI)(v6:List ((Bs×Bs)×Unit)):Option ((Int×zbU)):=
 (znU o v0 v1 v2 v3 v4 v5 v6).bind fun v9=>(zmX o v1 v9).bind fun v11=>match v11 with
 |.inl v12=>some v12
 |.inr v13=>((znX o v1 v13).bind fun v15=>let v16:List zbC:=mset keqS kltS v15.2.1 v0 ((v15.2.2.2.2.2.1,v15.2.2.2.2.2.2.1,v15.2.2.2.2.2.2.2.1),w64 (v15.2.2.2.2.2.2.2.2+1))
 some ((0:Int),v15.1,v16,v15.2.2.1,v15.2.2.2.1,v15.2.2.2.2.1))
def znK(o:Ops):SC:=⟨⟨[(0,(.ptr 0 0)),(1,hS),(2,(.kn .i64 0)),(3,hS)],[zbN,zaN,zaO,zaL,zaM,.mp true (.pr .s .s) .un]⟩,1,[(none,⟨[(0,hI)],[zbN,zaN,yoU,zaL,zaM,.mp true (.pr .s .s) .un]⟩)],fun x=>zfN o x.1 x.2.1 x.2.2.1 x.2.2.2.1 x.2.2.2.2.1 x.2.2.2.2.2.1 x.2.2.2.2.2.2⟩
theorem zwD:SCok Tryz.prog tabs 194 (znK o):=zcO (o:=o) (η:=[(2100000,.join [] [1,2,3] [(none,⟨[(0,(.ptr 0 0)),(9,(.ptr 6 0)),(10,hI)],[zbN,zaN,zaO,zaL,zaM,.mp true (.pr .s .s) .un,yaF]⟩)]),
 (2000006,.join [] [1,2,3] [(some 1000000,⟨[(8,hI)],[zbN,zaN,zaO,zaL,zaM,.mp true (.pr .s .s) .un]⟩),(none,⟨[(0,(.ptr 0 0)),(9,(.ptr 6 0))],[zbN,zaN,zaO,zaL,zaM,.mp true (.pr .s .s) .un,yaF]⟩)]),
 (2000007,.join [] [1] [(none,⟨[(0,(.ptr 0 0)),(9,(.ptr 6 0))],[zbN,zaN,zaO,zaL,zaM,.mp true (.pr .s .s) .un,yaF]⟩)]),
 (4000008,.sch [(.pu,0,[]),(.pu,1,[]),(.pu,2,[]),(.pu,3,[]),(.pu,4,[]),(.pu,5,[]),(.mn,6,[0,1,2,3,4,5,6])])]) (Γ:=⟨[(131,(zcK o)),(206,(zcW o))],[(173,(zbK o)),(199,(zhK o))],false,[]⟩) (ctok ⟨zdC,⟨zeN,trivial⟩⟩ ⟨zbR,⟨znJ,trivial⟩⟩) Tryz.func194
def ziL(o:Ops)(v0:Bs)(v1:Bs)(v2:List zbG)(v3:List zbC)(v4:List zbJ)(v5:List zbI)(v6:List ((Bs×Bs)×Unit)):Option ((Int×zbU)):=
 (zfN o v0 v1 v2 v3 v4 v5 v6).bind fun v7=>some v7
def znN(o:Ops):SC:=⟨⟨[(0,(.ptr 0 0)),(1,hS),(2,hS)],[zbN,zaN,zaO,zaL,zaM,.mp true (.pr .s .s) .un]⟩,1,[(none,⟨[(0,hI)],[zbN,zaN,yoU,zaL,zaM,.mp true (.pr .s .s) .un]⟩)],fun x=>ziL o x.1 x.2.1 x.2.2.1 x.2.2.2.1 x.2.2.2.2.1 x.2.2.2.2.2.1 x.2.2.2.2.2.2⟩
theorem zwI:SCok Tryz.prog tabs 94 (znN o):=zcO (o:=o) (η:=[]) (Γ:=⟨[],[(194,(znK o))],false,[]⟩) (ctok trivial ⟨zwD,trivial⟩) Tryz.func94
def zmD(o:Ops)(v0:Bs)(v1:Bs)(v2:List zbG)(v3:List zbC)(v4:List zbJ)(v5:List zbI)(v6:List ((Bs×Bs)×Unit)):Option ((Int×(List zbG)×(List zbC)×(List zbJ)×(List zbI)×(List ((Bs×Bs)×Unit))×(List Bs)×(List Bs)×(List Bs)×Int)):=
 (zaR o v2 v3 v4 v5 v6).bind fun v7=>(zdV o v0 v1 v7.1 v7.2.1 v7.2.2.1 v7.2.2.2.1 v7.2.2.2.2).bind fun v8=>some (v8.2.1,v8.2.2.1,v8.2.2.2.1,v8.2.2.2.2.1,v8.2.2.2.2.2.1,v8.2.2.2.2.2.2,v8.1.1.1,v8.1.1.2.1,v8.1.1.2.2,v8.1.2)
def zmI(o:Ops)(v1:Bs)(v9:Int×(List zbG)×(List zbC)×(List zbJ)×(List zbI)×(List ((Bs×Bs)×Unit))×(List Bs)×(List Bs)×(List Bs)×Int):Option ((Int×zbU)⊕((List zbG)×(List zbC)×(List zbJ)×(List zbI)×(List ((Bs×Bs)×Unit))×(List Bs)×(List Bs)×(List Bs)×Int)):=
 bif(v9.1 != 0)then some (.inl (v9.1,v9.2.1,v9.2.2.1,v9.2.2.2.1,v9.2.2.2.2.1,v9.2.2.2.2.2.1))else((zaV o v9.2.2.2.2.2.2.2.1 v1).bind fun v10=>bif(!v10)then some (.inl ((122:Int),v9.2.1,v9.2.2.1,v9.2.2.2.1,v9.2.2.2.2.1,v9.2.2.2.2.2.1))else some (.inr v9.2))
def zmP(o:Ops)(v1:Bs)(v13:(List zbG)×(List zbC)×(List zbJ)×(List zbI)×(List ((Bs×Bs)×Unit))×(List Bs)×(List Bs)×(List Bs)×Int):Option (((List zbG)×(List zbC)×(List zbJ)×(List zbI)×(List ((Bs×Bs)×Unit))×(List Bs)×(List Bs)×(List Bs)×Int)):=
 (zaW o v13.2.2.2.2.2.2.1 v1).bind fun v14=>some (v13.1,v13.2.1,v13.2.2.1,v13.2.2.2.1,v13.2.2.2.2.1,v13.2.2.2.2.2.1,v14,v13.2.2.2.2.2.2.2)
def zfB(o:Ops)(v0:Bs)(v1:Bs)(v2:List zbG)(v3:List zbC)(v4:List zbJ)(v5:List zbI)(v6:List ((Bs×Bs)×Unit)):Option ((Int×zbU)):=
 (zmD o v0 v1 v2 v3 v4 v5 v6).bind fun v9=>(zmI o v1 v9).bind fun v11=>match v11 with
 |.inl v12=>some v12
 |.inr v13=>((zmP o v1 v13).bind fun v15=>let v16:List zbC:=mset keqS kltS v15.2.1 v0 ((v15.2.2.2.2.2.1,v15.2.2.2.2.2.2.1,v15.2.2.2.2.2.2.2.1),w64 (v15.2.2.2.2.2.2.2.2+1))
 some ((0:Int),v15.1,v16,v15.2.2.1,v15.2.2.2.1,v15.2.2.2.2.1))
def zmS(o:Ops):SC:=⟨⟨[(0,(.ptr 0 0)),(1,hS),(2,(.kn .i64 1)),(3,hS)],[zbN,zaN,zaO,zaL,zaM,.mp true (.pr .s .s) .un]⟩,1,[(none,⟨[(0,hI)],[zbN,zaN,yoU,zaL,zaM,.mp true (.pr .s .s) .un]⟩)],fun x=>zfB o x.1 x.2.1 x.2.2.1 x.2.2.2.1 x.2.2.2.2.1 x.2.2.2.2.2.1 x.2.2.2.2.2.2⟩
theorem zuV:SCok Tryz.prog tabs 194 (zmS o):=zcO (o:=o) (η:=[(2100000,.join [] [1,2,3] [(none,⟨[(0,(.ptr 0 0)),(9,(.ptr 6 0)),(10,hI)],[zbN,zaN,zaO,zaL,zaM,.mp true (.pr .s .s) .un,yaF]⟩)]),
 (2000006,.join [] [1,2,3] [(some 1000000,⟨[(8,hI)],[zbN,zaN,zaO,zaL,zaM,.mp true (.pr .s .s) .un]⟩),(none,⟨[(0,(.ptr 0 0)),(9,(.ptr 6 0))],[zbN,zaN,zaO,zaL,zaM,.mp true (.pr .s .s) .un,yaF]⟩)]),
 (2000007,.join [] [1] [(none,⟨[(0,(.ptr 0 0)),(9,(.ptr 6 0))],[zbN,zaN,zaO,zaL,zaM,.mp true (.pr .s .s) .un,yaF]⟩)]),
 (4000008,.sch [(.pu,0,[]),(.pu,1,[]),(.pu,2,[]),(.pu,3,[]),(.pu,4,[]),(.pu,5,[]),(.mn,6,[0,1,2,3,4,5,6])])]) (Γ:=⟨[(131,(zcK o)),(206,(zcW o))],[(173,(zbK o)),(199,(ziQ o))],false,[]⟩) (ctok ⟨zdC,⟨zeN,trivial⟩⟩ ⟨zbR,⟨zoV,trivial⟩⟩) Tryz.func194
def zhQ(o:Ops)(v0:Bs)(v1:Bs)(v2:List zbG)(v3:List zbC)(v4:List zbJ)(v5:List zbI)(v6:List ((Bs×Bs)×Unit)):Option ((Int×zbU)):=
 (zfB o v0 v1 v2 v3 v4 v5 v6).bind fun v7=>some v7
def zlJ(o:Ops):SC:=⟨⟨[(0,(.ptr 0 0)),(1,hS),(2,hS)],[zbN,zaN,zaO,zaL,zaM,.mp true (.pr .s .s) .un]⟩,1,[(none,⟨[(0,hI)],[zbN,zaN,yoU,zaL,zaM,.mp true (.pr .s .s) .un]⟩)],fun x=>zhQ o x.1 x.2.1 x.2.2.1 x.2.2.2.1 x.2.2.2.2.1 x.2.2.2.2.2.1 x.2.2.2.2.2.2⟩
theorem zuJ:SCok Tryz.prog tabs 95 (zlJ o):=zcO (o:=o) (η:=[]) (Γ:=⟨[],[(194,(zmS o))],false,[]⟩) (ctok trivial ⟨zuV,trivial⟩) Tryz.func95
def zlI(o:Ops)(v0:Bs)(v1:Bs)(v2:List zbG)(v3:List zbC)(v4:List zbJ)(v5:List zbI)(v6:List ((Bs×Bs)×Unit)):Option ((Int×(List zbG)×(List zbC)×(List zbJ)×(List zbI)×(List ((Bs×Bs)×Unit))×(List Bs)×(List Bs)×(List Bs)×Int)):=
 (zaR o v2 v3 v4 v5 v6).bind fun v7=>(zdF o v0 v1 v7.1 v7.2.1 v7.2.2.1 v7.2.2.2.1 v7.2.2.2.2).bind fun v8=>some (v8.2.1,v8.2.2.1,v8.2.2.2.1,v8.2.2.2.2.1,v8.2.2.2.2.2.1,v8.2.2.2.2.2.2,v8.1.1.1,v8.1.1.2.1,v8.1.1.2.2,v8.1.2)
def zlL(o:Ops)(v1:Bs)(v9:Int×(List zbG)×(List zbC)×(List zbJ)×(List zbI)×(List ((Bs×Bs)×Unit))×(List Bs)×(List Bs)×(List Bs)×Int):Option ((Int×zbU)⊕((List zbG)×(List zbC)×(List zbJ)×(List zbI)×(List ((Bs×Bs)×Unit))×(List Bs)×(List Bs)×(List Bs)×Int)):=
 bif(v9.1 != 0)then some (.inl (v9.1,v9.2.1,v9.2.2.1,v9.2.2.2.1,v9.2.2.2.2.1,v9.2.2.2.2.2.1))else((zaV o v9.2.2.2.2.2.2.2.2.1 v1).bind fun v10=>bif(!v10)then some (.inl ((122:Int),v9.2.1,v9.2.2.1,v9.2.2.2.1,v9.2.2.2.2.1,v9.2.2.2.2.2.1))else some (.inr v9.2))
def zmO(o:Ops)(v1:Bs)(v13:(List zbG)×(List zbC)×(List zbJ)×(List zbI)×(List ((Bs×Bs)×Unit))×(List Bs)×(List Bs)×(List Bs)×Int):Option (((List zbG)×(List zbC)×(List zbJ)×(List zbI)×(List ((Bs×Bs)×Unit))×(List Bs)×(List Bs)×(List Bs)×Int)):=
 (zaW o v13.2.2.2.2.2.2.2.1 v1).bind fun v14=>some (v13.1,v13.2.1,v13.2.2.1,v13.2.2.2.1,v13.2.2.2.2.1,v13.2.2.2.2.2.1,v13.2.2.2.2.2.2.1,v14,v13.2.2.2.2.2.2.2.2)
def zeX(o:Ops)(v0:Bs)(v1:Bs)(v2:List zbG)(v3:List zbC)(v4:List zbJ)(v5:List zbI)(v6:List ((Bs×Bs)×Unit)):Option ((Int×zbU)):=
 (zlI o v0 v1 v2 v3 v4 v5 v6).bind fun v9=>(zlL o v1 v9).bind fun v11=>match v11 with
 |.inl v12=>some v12
 |.inr v13=>((zmO o v1 v13).bind fun v15=>let v16:List zbC:=mset keqS kltS v15.2.1 v0 ((v15.2.2.2.2.2.1,v15.2.2.2.2.2.2.1,v15.2.2.2.2.2.2.2.1),w64 (v15.2.2.2.2.2.2.2.2+1))
 some ((0:Int),v15.1,v16,v15.2.2.1,v15.2.2.2.1,v15.2.2.2.2.1))
def zlQ(o:Ops):SC:=⟨⟨[(0,(.ptr 0 0)),(1,hS),(2,(.kn .i64 2)),(3,hS)],[zbN,zaN,zaO,zaL,zaM,.mp true (.pr .s .s) .un]⟩,1,[(none,⟨[(0,hI)],[zbN,zaN,yoU,zaL,zaM,.mp true (.pr .s .s) .un]⟩)],fun x=>zeX o x.1 x.2.1 x.2.2.1 x.2.2.2.1 x.2.2.2.2.1 x.2.2.2.2.2.1 x.2.2.2.2.2.2⟩
theorem zuD:SCok Tryz.prog tabs 194 (zlQ o):=zcO (o:=o) (η:=[(2100000,.join [] [1,2,3] [(none,⟨[(0,(.ptr 0 0)),(9,(.ptr 6 0)),(10,hI)],[zbN,zaN,zaO,zaL,zaM,.mp true (.pr .s .s) .un,yaF]⟩)]),
 (2000006,.join [] [1,2,3] [(some 1000000,⟨[(8,hI)],[zbN,zaN,zaO,zaL,zaM,.mp true (.pr .s .s) .un]⟩),(none,⟨[(0,(.ptr 0 0)),(9,(.ptr 6 0))],[zbN,zaN,zaO,zaL,zaM,.mp true (.pr .s .s) .un,yaF]⟩)]),
 (2000007,.join [] [1] [(none,⟨[(0,(.ptr 0 0)),(9,(.ptr 6 0))],[zbN,zaN,zaO,zaL,zaM,.mp true (.pr .s .s) .un,yaF]⟩)]),
 (4000008,.sch [(.pu,0,[]),(.pu,1,[]),(.pu,2,[]),(.pu,3,[]),(.pu,4,[]),(.pu,5,[]),(.mn,6,[0,1,2,3,4,5,6])])]) (Γ:=⟨[(131,(zcK o)),(206,(zcW o))],[(173,(zbK o)),(199,(zhS o))],false,[]⟩) (ctok ⟨zdC,⟨zeN,trivial⟩⟩ ⟨zbR,⟨znV,trivial⟩⟩) Tryz.func194
def zjG(o:Ops)(v0:Bs)(v1:Bs)(v2:List zbG)(v3:List zbC)(v4:List zbJ)(v5:List zbI)(v6:List ((Bs×Bs)×Unit)):Option ((Int×zbU)):=
 (zeX o v0 v1 v2 v3 v4 v5 v6).bind fun v7=>some v7
def zpD(o:Ops):SC:=⟨⟨[(0,(.ptr 0 0)),(1,hS),(2,hS)],[zbN,zaN,zaO,zaL,zaM,.mp true (.pr .s .s) .un]⟩,1,[(none,⟨[(0,hI)],[zbN,zaN,yoU,zaL,zaM,.mp true (.pr .s .s) .un]⟩)],fun x=>zjG o x.1 x.2.1 x.2.2.1 x.2.2.2.1 x.2.2.2.2.1 x.2.2.2.2.2.1 x.2.2.2.2.2.2⟩
theorem zxC:SCok Tryz.prog tabs 96 (zpD o):=zcO (o:=o) (η:=[]) (Γ:=⟨[],[(194,(zlQ o))],false,[]⟩) (ctok trivial ⟨zuD,trivial⟩) Tryz.func96
noncomputable def zkT(o:Ops)(v0:Bs)(v6:List zbG)(v7:List zbC)(v8:List zbJ)(v9:List zbI)(v10:List ((Bs×Bs)×Unit))(v11:List Bs)(v12:zbC)(v13:ytJ):Option ((Bool×(List zbG)×(List zbC)×(List zbJ)×(List zbI)×(List ((Bs×Bs)×Unit))×(List Bs)×(List Bs)×(List Bs)×Int×List Bs)):=
 (zaV o v13.1.2.2 v0).bind fun v14=>some (v14,v6,v7,v8,v9,v10,v13.1.1,v13.1.2.1,v13.1.2.2,v13.2,rngD keqS v11 v12.1)
noncomputable def zlA(o:Ops)(v0:Bs)(v15:Bool×(List zbG)×(List zbC)×(List zbJ)×(List zbI)×(List ((Bs×Bs)×Unit))×(List Bs)×(List Bs)×(List Bs)×Int×List Bs):Option (((List zbG)×(List zbC)×(List zbJ)×(List zbI)×(List ((Bs×Bs)×Unit))×(List Bs)×(List Bs)×(List Bs)×Int×List Bs)):=
 (zaW o v15.2.2.2.2.2.2.2.2.1 v0).bind fun v16=>some (v15.2.1,v15.2.2.1,v15.2.2.2.1,v15.2.2.2.2.1,v15.2.2.2.2.2.1,v15.2.2.2.2.2.2.1,v15.2.2.2.2.2.2.2.1,v16,v15.2.2.2.2.2.2.2.2.2)
noncomputable def zkN(o:Ops)(v0:Bs)(v6:List zbG)(v7:List zbC)(v8:List zbJ)(v9:List zbI)(v10:List ((Bs×Bs)×Unit))(v11:List Bs):List (Option (((List zbG)×(List zbC)×(List zbJ)×(List zbI)×(List ((Bs×Bs)×Unit))×List Bs)⊕(zbU))):=
 rngL (rngC keqS v7 v11) (some (.inr (v6,v7,v8,v9,v10))) fun v12=>(mget keqS v7 v12.1).bind fun v13=>(zkT o v0 v6 v7 v8 v9 v10 v11 v12 v13).bind fun v15=>bif v15.1 then((zlA o v0 v15).bind fun v17=>(chk (mhas keqS v17.2.1 v12.1)).bind fun _=>let v18:List zbC:=mrep keqS v17.2.1 v12.1 ((v17.2.2.2.2.2.1,v17.2.2.2.2.2.2.1,v17.2.2.2.2.2.2.2.1),w64 (v17.2.2.2.2.2.2.2.2.1+1))
 some (.inl (v17.1,v18,v17.2.2.1,v17.2.2.2.1,v17.2.2.2.2.1,v17.2.2.2.2.2.2.2.2.2)))else some (.inl (v15.2.1,v15.2.2.1,v15.2.2.2.1,v15.2.2.2.2.1,v15.2.2.2.2.2.1,v15.2.2.2.2.2.2.2.2.2.2))
noncomputable def zeE(o:Ops)(v0:Bs)(v1:List zbG)(v2:List zbC)(v3:List zbJ)(v4:List zbI)(v5:List ((Bs×Bs)×Unit)):Option (zbU):=
 (rngA (fun x=>zkN o v0 x.1 x.2.1 x.2.2.1 x.2.2.2.1 x.2.2.2.2.1 x.2.2.2.2.2) (v1,v2,v3,v4,v5,List.map Prod.fst v2)).bind fun v19=>some v19
noncomputable def zkR(o:Ops):SC:=⟨⟨[(0,(.ptr 0 0)),(1,(.kn .i64 2)),(2,hS)],[zbN,zaN,zaO,zaL,zaM,.mp true (.pr .s .s) .un]⟩,0,[(none,⟨[],[zbN,zaN,zaO,zaL,zaM,.mp true (.pr .s .s) .un]⟩)],fun x=>zeE o x.1 x.2.1 x.2.2.1 x.2.2.2.1 x.2.2.2.2.1 x.2.2.2.2.2⟩
theorem ztQ:SCok Tryz.prog tabs 116 (zkR o):=zcO (o:=o) (η:=[(2300004,.join [] [1,2,6] [(none,⟨[(0,(.ptr 0 0)),(7,(.ptr 6 0)),(12,(.ptr 7 0)),(23,hB)],[zbN,zaN,zaO,zaL,zaM,.mp true (.pr .s .s) .un,yaF,.it 2 true .s]⟩)]),
 (2000005,.join [] [1,2,6] [(none,⟨[(0,(.ptr 0 0)),(7,(.ptr 6 0)),(12,(.ptr 7 0))],[zbN,zaN,zaO,zaL,zaM,.mp true (.pr .s .s) .un,yaF,.it 2 true .s]⟩)]),
 (200001,.rng [] ⟨[(0,(.ptr 0 0)),(12,(.ptr 6 0))],[zbN,zaN,zaO,zaL,zaM,.mp true (.pr .s .s) .un,.it 2 true .s]⟩ [1,2] [(some 0,⟨[],[zbN,zaN,zaO,zaL,zaM,.mp true (.pr .s .s) .un]⟩)]),
 (4000006,.sch [(.pu,0,[]),(.pu,1,[]),(.pu,2,[]),(.pu,3,[]),(.pu,4,[]),(.pu,5,[]),(.mn,6,[0,1,2,3,4,5,6,7])])]) (Γ:=⟨[(131,(zcK o)),(206,(zcW o))],[],true,[]⟩) (ctok ⟨zdC,⟨zeN,trivial⟩⟩ trivial) Tryz.func116
noncomputable def zfH(o:Ops)(v0:Bs)(v1:List zbG)(v2:List zbC)(v3:List zbJ)(v4:List zbI)(v5:List ((Bs×Bs)×Unit)):Option ((Bs×zbU)):=
 (zeE o v0 v1 v2 v3 v4 v5).bind fun v6=>some (v0,v6)
noncomputable def ziC(o:Ops):SC:=⟨⟨[(0,(.ptr 0 0)),(1,(.ptr 1 0))],[ylE,.blk 9 [hS],ynR,zaN,zaO,zaL,zaM,.mp true (.pr .s .s) .un]⟩,0,[(none,⟨[],[ylE,.blk 9 [hS],ynR,zaN,zaO,zaL,zaM,.mp true (.pr .s .s) .un]⟩)],fun x=>zfH o x.1 x.2.1 x.2.2.1 x.2.2.2.1 x.2.2.2.2.1 x.2.2.2.2.2⟩
theorem zrG:SCok Tryz.prog tabs 121 (ziC o):=zcO (o:=o) (η:=[]) (Γ:=⟨[],[(116,(zkR o))],false,[]⟩) (ctok trivial ⟨ztQ,trivial⟩) Tryz.func121
noncomputable def zsM(o:Ops)(v0:Bs)(v1:List zbJ)(v2:Bs)(v3:List zbG)(v4:List zbC)(v5:List zbI)(v6:List ((Bs×Bs)×Unit)):Option ((Int×(List zbJ)×Bs×(List zbG)×(List zbC)×(List zbI)×List ((Bs×Bs)×Unit))):=
 (zaQ o v0).bind fun v7=>bif(!v7)then some ((120:Int),v1,v2,v3,v4,v5,v6)else(let _v8:zzW:=zdY keqS v1 v0 (([]:Bs),([]:List Bs))
 bif(!(mhas keqS v1 v0))then some ((122:Int),v1,v2,v3,v4,v5,v6)else((zfH o v2 v3 v4 (mdel keqS v1 v0) v5 v6).bind fun v9=>some ((0:Int),v9.2.2.2.1,v9.1,v9.2.1,v9.2.2.1,v9.2.2.2.2)))
noncomputable def zyE(o:Ops):SC:=⟨⟨[(0,(.mpr 0)),(1,hS),(2,(.fn 121 [] [(.ptr 1 0),(.ptr 2 0)]))],[zaL,ynI,.blk 9 [hS],.blk 128 [(.mpr 4),(.mpr 5),(.mpr 0),(.mpr 6),(.mpr 7)],zaN,zaO,zaM,.mp true (.pr .s .s) .un]⟩,1,[(none,⟨[(0,hI)],[zaL,ynI,.blk 9 [hS],.blk 128 [(.mpr 4),(.mpr 5),(.mpr 0),(.mpr 6),(.mpr 7)],zaN,zaO,zaM,.mp true (.pr .s .s) .un]⟩)],fun x=>zsM o x.1 x.2.1 x.2.2.1 x.2.2.2.1 x.2.2.2.2.1 x.2.2.2.2.2.1 x.2.2.2.2.2.2⟩
theorem yfG:SCok Tryz.prog tabs 120 (zyE o):=zcO (o:=o) (η:=[]) (Γ:=⟨[(13,(zbD o))],[(121,(ziC o))],false,[]⟩) (ctok ⟨zbH,trivial⟩ ⟨zrG,trivial⟩) Tryz.func120
noncomputable def zcC(o:Ops)(v0:Bs)(v1:List zbG)(v2:List zbC)(v3:List zbJ)(v4:List zbI)(v5:List ((Bs×Bs)×Unit)):Option ((Int×zbU)):=
 (zsM o v0 v3 v0 v1 v2 v4 v5).bind fun v6=>some (v6.1,v6.2.2.2.1,v6.2.2.2.2.1,v6.2.1,v6.2.2.2.2.2)
noncomputable def zfQ(o:Ops):SC:=⟨⟨[(0,(.ptr 0 0)),(1,hS)],[zbN,zaN,zaO,zaL,zaM,.mp true (.pr .s .s) .un]⟩,1,[(none,⟨[(0,hI)],[zbN,zaN,zaO,zaL,zaM,.mp true (.pr .s .s) .un]⟩)],fun x=>zcC o x.1 x.2.1 x.2.2.1 x.2.2.2.1 x.2.2.2.2.1 x.2.2.2.2.2⟩
theorem zjQ:SCok Tryz.prog tabs 43 (zfQ o):=zcO (o:=o) (η:=[(4000001,.sch [(.pu,0,[]),(.pu,1,[]),(.pu,2,[]),(.pu,3,[]),(.pu,4,[]),(.pu,5,[]),(.mn,6,[0,1,2,3,4,5,6,7]),(.pu,7,[])])]) (Γ:=⟨[],[(120,(zyE o))],false,[]⟩) (ctok trivial ⟨yfG,trivial⟩) Tryz.func43
def zjA(_o:Ops)(v0:zvC)(v1:List zbG)(v2:List zbC)(v3:List zbJ)(v4:List zbI)(v5:List ((Bs×Bs)×Unit)):Option ((Int×zbU)⊕((List zbG)×(List zbC)×(List zbJ)×(List zbI)×(List ((Bs×Bs)×Unit))×zvC)):=
 let _v7:zvC:=zdY keqS v4 v0.1 (([]:Bs),([]:Bs),([]:List Bs),([]:List Bs),false,false,false,false)
 bif(!(mhas keqS v4 v0.1))then(bif decide ((v4.length:Int)≥32)then some (.inl ((124:Int),v1,v2,v3,v4,v5))else some (.inr (v1,v2,v3,v4,v5,v0)))else some (.inr (v1,v2,v3,v4,v5,v0))
def zdA(o:Ops)(v0:zvC)(v1:List zbG)(v2:List zbC)(v3:List zbJ)(v4:List zbI)(v5:List ((Bs×Bs)×Unit)):Option ((Int×zbU)):=
 (ziH o v0).bind fun v6=>bif(!v6)then some ((120:Int),v1,v2,v3,v4,v5)else((zjA o v0 v1 v2 v3 v4 v5).bind fun v8=>match v8 with
 |.inl v9=>some v9
 |.inr v10=>((zgN o v10.2.2.2.2.2).bind fun v11=>let v12:List zbI:=mset keqS kltS v10.2.2.2.1 v10.2.2.2.2.2.1 v11
 some ((0:Int),v10.1,v10.2.1,v10.2.2.1,v12,v10.2.2.2.2.1)))
def zjC(o:Ops):SC:=⟨⟨[(0,(.ptr 0 0)),(1,(.h ydI))],[zbN,zaN,zaO,zaL,zaM,.mp true (.pr .s .s) .un]⟩,1,[(none,⟨[(0,hI)],[zbN,zaN,zaO,zaL,.mp false .s ydI,.mp true (.pr .s .s) .un]⟩)],fun x=>zdA o x.1 x.2.1 x.2.2.1 x.2.2.2.1 x.2.2.2.2.1 x.2.2.2.2.2⟩
theorem zrU:SCok Tryz.prog tabs 37 (zjC o):=zcO (o:=o) (η:=[(2000006,.join [] [] [(some 1000000,⟨[(4,hI)],[zbN,zaN,zaO,zaL,zaM,.mp true (.pr .s .s) .un]⟩),(none,⟨[(0,(.ptr 0 0)),(3,(.ptr 6 0))],[zbN,zaN,zaO,zaL,zaM,.mp true (.pr .s .s) .un,.blk 51 [hS,hS,(.h (.sl .s)),(.h (.sl .s)),hB,hB,hB,hB]]⟩)]),
 (4000003,.sch [(.pu,0,[]),(.pu,1,[]),(.pu,2,[]),(.pu,3,[]),(.pu,4,[]),(.pu,5,[]),(.pu,6,[]),(.pu,7,[]),(.pu,8,[]),(.pu,9,[7]),(.mn,10,[]),(.mn,11,[7]),(.pu,12,[])]),
 (4000006,.sch [(.pu,0,[]),(.pu,1,[]),(.pu,2,[]),(.pu,3,[]),(.pu,4,[]),(.pu,5,[]),(.pu,6,[]),(.mn,7,[]),(.mn,8,[0,1,2,3,4,5,6])])]) (Γ:=⟨[(106,(zpO o)),(107,(zjU o))],[],false,[]⟩) (ctok ⟨zvW,⟨zpU,trivial⟩⟩ trivial) Tryz.func37
noncomputable def zeD(o:Ops)(v0:Bs)(v1:List zbG)(v2:List zbC)(v3:List zbJ)(v4:List zbI)(v5:List ((Bs×Bs)×Unit)):Option ((Bs×zbU)):=
 (app ([99,58]:Bs) v0).bind fun v6=>(zcV o v6 v1 v2 v3 v4 v5).bind fun v7=>some (v0,v7)
noncomputable def zhA(o:Ops):SC:=⟨⟨[(0,(.ptr 0 0)),(1,(.ptr 1 0))],[ylE,.blk 9 [hS],ynR,zaN,zaO,zaL,zaM,.mp true (.pr .s .s) .un]⟩,0,[(none,⟨[],[ylE,.blk 9 [hS],ynR,zaN,zaO,zaL,zaM,.mp true (.pr .s .s) .un]⟩)],fun x=>zeD o x.1 x.2.1 x.2.2.1 x.2.2.2.1 x.2.2.2.2.1 x.2.2.2.2.2⟩
theorem zpP:SCok Tryz.prog tabs 123 (zhA o):=zcO (o:=o) (η:=[]) (Γ:=⟨[],[(117,(zgW o))],false,[]⟩) (ctok trivial ⟨zlK,trivial⟩) Tryz.func123
noncomputable def zsP(o:Ops)(v0:Bs)(v1:List zbI)(v2:Bs)(v3:List zbG)(v4:List zbC)(v5:List zbJ)(v6:List ((Bs×Bs)×Unit)):Option ((Int×(List zbI)×Bs×(List zbG)×(List zbC)×(List zbJ)×List ((Bs×Bs)×Unit))):=
 (zaQ o v0).bind fun v7=>bif(!v7)then some ((120:Int),v1,v2,v3,v4,v5,v6)else(let _v8:zvC:=zdY keqS v1 v0 (([]:Bs),([]:Bs),([]:List Bs),([]:List Bs),false,false,false,false)
 bif(!(mhas keqS v1 v0))then some ((122:Int),v1,v2,v3,v4,v5,v6)else((zeD o v2 v3 v4 v5 (mdel keqS v1 v0) v6).bind fun v9=>some ((0:Int),v9.2.2.2.2.1,v9.1,v9.2.1,v9.2.2.1,v9.2.2.2.1,v9.2.2.2.2.2)))
noncomputable def zxP(o:Ops):SC:=⟨⟨[(0,(.mpr 0)),(1,hS),(2,(.fn 123 [] [(.ptr 1 0),(.ptr 2 0)]))],[zaM,ynI,.blk 9 [hS],.blk 128 [(.mpr 4),(.mpr 5),(.mpr 6),(.mpr 0),(.mpr 7)],zaN,zaO,zaL,.mp true (.pr .s .s) .un]⟩,1,[(none,⟨[(0,hI)],[zaM,ynI,.blk 9 [hS],.blk 128 [(.mpr 4),(.mpr 5),(.mpr 6),(.mpr 0),(.mpr 7)],zaN,zaO,zaL,.mp true (.pr .s .s) .un]⟩)],fun x=>zsP o x.1 x.2.1 x.2.2.1 x.2.2.2.1 x.2.2.2.2.1 x.2.2.2.2.2.1 x.2.2.2.2.2.2⟩
theorem ygV:SCok Tryz.prog tabs 122 (zxP o):=zcO (o:=o) (η:=[]) (Γ:=⟨[(13,(zbD o))],[(123,(zhA o))],false,[]⟩) (ctok ⟨zbH,trivial⟩ ⟨zpP,trivial⟩) Tryz.func122
noncomputable def zbX(o:Ops)(v0:Bs)(v1:List zbG)(v2:List zbC)(v3:List zbJ)(v4:List zbI)(v5:List ((Bs×Bs)×Unit)):Option ((Int×zbU)):=
 (zsP o v0 v4 v0 v1 v2 v3 v5).bind fun v6=>some (v6.1,v6.2.2.2.1,v6.2.2.2.2.1,v6.2.2.2.2.2.1,v6.2.1,v6.2.2.2.2.2.2)
noncomputable def zeO(o:Ops):SC:=⟨⟨[(0,(.ptr 0 0)),(1,hS)],[zbN,zaN,zaO,zaL,zaM,.mp true (.pr .s .s) .un]⟩,1,[(none,⟨[(0,hI)],[zbN,zaN,zaO,zaL,zaM,.mp true (.pr .s .s) .un]⟩)],fun x=>zbX o x.1 x.2.1 x.2.2.1 x.2.2.2.1 x.2.2.2.2.1 x.2.2.2.2.2⟩
theorem ziF:SCok Tryz.prog tabs 44 (zeO o):=zcO (o:=o) (η:=[(4000001,.sch [(.pu,0,[]),(.pu,1,[]),(.pu,2,[]),(.pu,3,[]),(.pu,4,[]),(.pu,5,[]),(.mn,6,[0,1,2,3,4,5,6,7]),(.pu,7,[])])]) (Γ:=⟨[],[(122,(zxP o))],false,[]⟩) (ctok trivial ⟨ygV,trivial⟩) Tryz.func44
def zpI(o:Ops)(v0:Bs)(v1:Bs)(v2:List zbG)(v3:List zbC)(v4:List zbJ)(v5:List zbI)(v6:List ((Bs×Bs)×Unit)):Option ((Int×zbU)⊕zbU):=
 (zbF o v0).bind fun v7=>bif(!v7)then some (.inl ((120:Int),v2,v3,v4,v5,v6))else((zbF o v1).bind fun v8=>bif(!v8)then some (.inl ((120:Int),v2,v3,v4,v5,v6))else some (.inr (v2,v3,v4,v5,v6)))
def zdW(o:Ops)(v0:Bs)(v1:Bs)(v2:List zbG)(v3:List zbC)(v4:List zbJ)(v5:List zbI)(v6:List ((Bs×Bs)×Unit)):Option ((Int×zbU)):=
 (zpI o v0 v1 v2 v3 v4 v5 v6).bind fun v9=>match v9 with
 |.inl v10=>some v10
 |.inr v11=>((zbM o v0 v11.1 v11.2.1 v11.2.2.1 v11.2.2.2.1 v11.2.2.2.2).bind fun v12=>bif(!v12.1)then some ((122:Int),v12.2)else((zbM o v1 v12.2.1 v12.2.2.1 v12.2.2.2.1 v12.2.2.2.2.1 v12.2.2.2.2.2).bind fun v13=>bif(!v13.1)then some ((122:Int),v13.2)else some ((0:Int),v13.2)))
def ziD(o:Ops):SC:=⟨⟨[(0,(.ptr 0 0)),(1,hS),(2,hS)],[zbN,zaN,zaO,zaL,zaM,.mp true (.pr .s .s) .un]⟩,1,[(none,⟨[(0,hI)],[zbN,zaN,zaO,zaL,zaM,.mp true (.pr .s .s) .un]⟩)],fun x=>zdW o x.1 x.2.1 x.2.2.1 x.2.2.2.1 x.2.2.2.2.1 x.2.2.2.2.2.1 x.2.2.2.2.2.2⟩
theorem zpA:SCok Tryz.prog tabs 195 (ziD o):=zcO (o:=o) (η:=[(2000003,.join [] [1,2] [(some 1000000,⟨[(6,hI)],[zbN,zaN,zaO,zaL,zaM,.mp true (.pr .s .s) .un]⟩),(none,⟨[(0,(.ptr 0 0))],[zbN,zaN,zaO,zaL,zaM,.mp true (.pr .s .s) .un]⟩)])]) (Γ:=⟨[(19,(zgP o))],[(128,(zeU o))],false,[]⟩) (ctok ⟨zkB,trivial⟩ ⟨zhI,trivial⟩) Tryz.func195
def zeT(_o:Ops)(v0:Bs)(v1:Bs)(v2:List zbG)(v3:List zbC)(v4:List zbJ)(v5:List zbI)(v6:List ((Bs×Bs)×Unit)):Option ((Bool×zbU)):=
 let _v7:Unit:=zdY (keq (.pr .s .s)) v6 (v0,v1) ()
 some (mhas (keq (.pr .s .s)) v6 (v0,v1),v2,v3,v4,v5,v6)
def zjJ(o:Ops):SC:=⟨⟨[(0,(.ptr 0 0)),(1,hS),(2,hS)],[zbN,zaN,zaO,zaL,zaM,.mp true (.pr .s .s) .un]⟩,1,[(none,⟨[(0,hB)],[zbN,zaN,zaO,zaL,zaM,.mp true (.pr .s .s) .un]⟩)],fun x=>zeT o x.1 x.2.1 x.2.2.1 x.2.2.2.1 x.2.2.2.2.1 x.2.2.2.2.2.1 x.2.2.2.2.2.2⟩
theorem zqG:SCok Tryz.prog tabs 56 (zjJ o):=zcO (o:=o) (η:=[]) (Γ:=⟨[],[],false,[]⟩) (ctok trivial trivial) Tryz.func56
def zfL(o:Ops)(v0:Bs)(v1:Bs)(v2:List zbG)(v3:List zbC)(v4:List zbJ)(v5:List zbI)(v6:List ((Bs×Bs)×Unit)):Option ((Int×zbU)):=
 (zdW o v0 v1 v2 v3 v4 v5 v6).bind fun v7=>bif(v7.1 != 0)then some v7 else((zeT o v0 v1 v7.2.1 v7.2.2.1 v7.2.2.2.1 v7.2.2.2.2.1 v7.2.2.2.2.2).bind fun v8=>bif v8.1 then some ((121:Int),v8.2)else(bif decide ((v8.2.2.2.2.2.length:Int)≥64)then some ((124:Int),v8.2)else(let v9:List ((Bs×Bs)×Unit):=mset (keq (.pr .s .s)) (klt (.pr .s .s)) v8.2.2.2.2.2 (v0,v1) ()
 some ((0:Int),v8.2.1,v8.2.2.1,v8.2.2.2.1,v8.2.2.2.2.1,v9))))
def zmY(o:Ops):SC:=⟨⟨[(0,(.ptr 0 0)),(1,hS),(2,hS)],[zbN,zaN,zaO,zaL,zaM,.mp true (.pr .s .s) .un]⟩,1,[(none,⟨[(0,hI)],[zbN,zaN,zaO,zaL,zaM,.mp false (.pr .s .s) .un]⟩)],fun x=>zfL o x.1 x.2.1 x.2.2.1 x.2.2.2.1 x.2.2.2.2.1 x.2.2.2.2.2.1 x.2.2.2.2.2.2⟩
theorem zwB:SCok Tryz.prog tabs 97 (zmY o):=zcO (o:=o) (η:=[]) (Γ:=⟨[],[(195,(ziD o)),(56,(zjJ o))],false,[]⟩) (ctok trivial ⟨zpA,⟨zqG,trivial⟩⟩) Tryz.func97
def zfU(o:Ops)(v0:Bs)(v1:Bs)(v2:List zbG)(v3:List zbC)(v4:List zbJ)(v5:List zbI)(v6:List ((Bs×Bs)×Unit)):Option ((Int×zbU)):=
 (zdW o v0 v1 v2 v3 v4 v5 v6).bind fun v7=>bif(v7.1 != 0)then some v7 else((zeT o v0 v1 v7.2.1 v7.2.2.1 v7.2.2.2.1 v7.2.2.2.2.1 v7.2.2.2.2.2).bind fun v8=>bif(!v8.1)then some ((122:Int),v8.2)else some ((0:Int),v8.2.1,v8.2.2.1,v8.2.2.2.1,v8.2.2.2.2.1,mdel (keq (.pr .s .s)) v8.2.2.2.2.2 (v0,v1)))
def zoT(o:Ops):SC:=⟨⟨[(0,(.ptr 0 0)),(1,hS),(2,hS)],[zbN,zaN,zaO,zaL,zaM,.mp true (.pr .s .s) .un]⟩,1,[(none,⟨[(0,hI)],[zbN,zaN,zaO,zaL,zaM,.mp true (.pr .s .s) .un]⟩)],fun x=>zfU o x.1 x.2.1 x.2.2.1 x.2.2.2.1 x.2.2.2.2.1 x.2.2.2.2.2.1 x.2.2.2.2.2.2⟩
theorem zyA:SCok Tryz.prog tabs 98 (zoT o):=zcO (o:=o) (η:=[]) (Γ:=⟨[],[(195,(ziD o)),(56,(zjJ o))],false,[]⟩) (ctok trivial ⟨zpA,⟨zqG,trivial⟩⟩) Tryz.func98
noncomputable def zdK(o:Ops)(v0:KWkD9)(v1:List zbG)(v2:List zbC)(v3:List zbJ)(v4:List zbI)(v5:List ((Bs×Bs)×Unit)):Option ((Int×zbU)):=
 bif(v0.2.1==0)then((zbV o v0.2.2.1 v0.2.2.2.1 v1 v2 v3 v4 v5).bind fun v6=>some v6)else(bif(v0.2.1==1)then((zeK o v0.2.2.1 v0.2.2.2.1 v1 v2 v3 v4 v5).bind fun v7=>some v7)else(bif(v0.2.1==2)then((zcZ o v0.2.2.1 v0.2.2.2.2.1 v1 v2 v3 v4 v5).bind fun v8=>some v8)else(bif(v0.2.1==3)then((zcF o v0.2.2.1 v1 v2 v3 v4 v5).bind fun v9=>some v9)else(bif(v0.2.1==4)then((zbT o v0.2.2.1 v1 v2 v3 v4 v5).bind fun v10=>some v10)else(bif(v0.2.1==5)then((zcA o v0.2.2.1 v1 v2 v3 v4 v5).bind fun v11=>some v11)else(bif(v0.2.1==6)then((zgA o v0.2.2.1 v0.2.2.2.1 v1 v2 v3 v4 v5).bind fun v12=>some v12)else(bif(v0.2.1==7)then((ziL o v0.2.2.1 v0.2.2.2.1 v1 v2 v3 v4 v5).bind fun v13=>some v13)else(bif(v0.2.1==8)then((zdS o v0.2.2.1 v0.2.2.2.1 v1 v2 v3 v4 v5).bind fun v14=>some v14)else(bif(v0.2.1==9)then((zhQ o v0.2.2.1 v0.2.2.2.1 v1 v2 v3 v4 v5).bind fun v15=>some v15)else(bif(v0.2.1==10)then((zfY o v0.2.2.1 v0.2.2.2.1 v1 v2 v3 v4 v5).bind fun v16=>some v16)else(bif(v0.2.1==11)then((zjG o v0.2.2.1 v0.2.2.2.1 v1 v2 v3 v4 v5).bind fun v17=>some v17)else(bif(v0.2.1==12)then((zcJ o v0.2.2.2.2.2.1 v1 v2 v3 v4 v5).bind fun v18=>some v18)else(bif(v0.2.1==13)then((zcC o v0.2.2.1 v1 v2 v3 v4 v5).bind fun v19=>some v19)else(bif(v0.2.1==14)then((zdA o v0.2.2.2.2.2.2 v1 v2 v3 v4 v5).bind fun v20=>some v20)else(bif(v0.2.1==15)then((zbX o v0.2.2.1 v1 v2 v3 v4 v5).bind fun v21=>some v21)else(bif(v0.2.1==16)then((zfL o v0.2.2.1 v0.2.2.2.1 v1 v2 v3 v4 v5).bind fun v22=>some v22)else(bif(v0.2.1==17)then((zfU o v0.2.2.1 v0.2.2.2.1 v1 v2 v3 v4 v5).bind fun v23=>some v23)else some ((0:Int),v1,v2,v3,v4,v5))))))))))))))))))
noncomputable def znW(o:Ops):SC:=⟨⟨[(0,(.ptr 0 0)),(1,(.h YWkD9))],[zbN,zaN,zaO,zaL,zaM,.mp true (.pr .s .s) .un]⟩,1,[(none,⟨[(0,hI)],[zbN,yyH,yoU,.mp false .s yhG,.mp false .s ydI,.mp false (.pr .s .s) .un]⟩)],fun x=>zdK o x.1 x.2.1 x.2.2.1 x.2.2.2.1 x.2.2.2.2.1 x.2.2.2.2.2⟩
theorem zwM:SCok Tryz.prog tabs 31 (znW o):=zcO (o:=o) (η:=[]) (Γ:=⟨[],[(71,(zgD o)),(92,(zkH o)),(93,(ziZ o)),(41,(zfS o)),(72,(zfR o)),(42,(zfF o)),(73,(zhZ o)),(94,(znN o)),(33,(ziK o)),(95,(zlJ o)),(74,(ziM o)),(96,(zpD o)),(36,(zgC o)),(43,(zfQ o)),(37,(zjC o)),(44,(zeO o)),(97,(zmY o)),(98,(zoT o))],false,[]⟩) (ctok trivial ⟨zkL,⟨ztF,⟨zrT,⟨zjR,⟨zjP,⟨ziW,⟨zoS,⟨zwI,⟨zoR,⟨zuJ,⟨zpE,⟨zxC,⟨zkI,⟨zjQ,⟨zrU,⟨ziF,⟨zwB,⟨zyA,trivial⟩⟩⟩⟩⟩⟩⟩⟩⟩⟩⟩⟩⟩⟩⟩⟩⟩⟩) Tryz.func31
def zcE(_o:Ops)(v0:List Bs)(v1:Bs)(v2:Int):Option (Int⊕(Bool⊕Unit)):=
 bif decide (v2<(v0.length:Int))then((idx v0 v2).bind fun v3=>bif(v3==v1)then some (.inr (.inl true))else some (.inl (w64 (v2+1))))else some (.inr (.inr ()))
def zcM(o:Ops)(v0:List Bs)(v1:Bs):Option (Bool):=
 (iter (zcE o v0 v1) (0:Int)).bind fun v4=>match v4 with
 |.inl v5=>(some v5)
 |.inr _v6=>(some false)
def zpH(o:Ops):PC:=⟨[(.h (.sl .s)),hS],[.b],fun x=>zcM o x.1 x.2,false⟩
theorem zxV:PCok Tryz.prog tabs 46 (zpH o):=yuY (o:=o) (η:=[(200002,.loop [] ⟨[(5,hI)],[]⟩ [0,1] [(some 1000000,⟨[(4,hB)],[]⟩),(some 0,⟨[],[]⟩)])]) (Γ:=⟨[],[],false,[]⟩) (ctok trivial trivial) Tryz.func46
def zfX(o:Ops)(v0:Bs)(v1:List zbG)(v2:List zbC)(v3:List zbJ)(v4:List zbI)(v5:List ((Bs×Bs)×Unit)):Option ((zzW×Bool×zbU)):=
 let v6:zzW:=zdY keqS v3 v0 (([]:Bs),([]:List Bs))
 (zcY o v6).bind fun v7=>some (v7,mhas keqS v3 v0,v1,v2,v3,v4,v5)
def zoU(o:Ops):SC:=⟨⟨[(0,(.ptr 0 0)),(1,hS)],[zbN,zaN,zaO,zaL,zaM,.mp true (.pr .s .s) .un]⟩,2,[(none,⟨[(0,(.h yhG)),(1,hB)],[zbN,zaN,zaO,zaL,zaM,.mp true (.pr .s .s) .un]⟩)],fun x=>zfX o x.1 x.2.1 x.2.2.1 x.2.2.2.1 x.2.2.2.2.1 x.2.2.2.2.2⟩
theorem zyM:SCok Tryz.prog tabs 47 (zoU o):=zcO (o:=o) (η:=[]) (Γ:=⟨[(105,(zfW o))],[],false,[]⟩) (ctok ⟨zjF,trivial⟩ trivial) Tryz.func47
def zfA(o:Ops)(v0:Bs)(v1:List zbG)(v2:List zbC)(v3:List zbJ)(v4:List zbI)(v5:List ((Bs×Bs)×Unit)):Option ((zvC×Bool×zbU)):=
 let v6:zvC:=zdY keqS v4 v0 (([]:Bs),([]:Bs),([]:List Bs),([]:List Bs),false,false,false,false)
 (zgN o v6).bind fun v7=>some (v7,mhas keqS v4 v0,v1,v2,v3,v4,v5)
def zmB(o:Ops):SC:=⟨⟨[(0,(.ptr 0 0)),(1,hS)],[zbN,zaN,zaO,zaL,zaM,.mp true (.pr .s .s) .un]⟩,2,[(none,⟨[(0,(.h ydI)),(1,hB)],[zbN,zaN,zaO,zaL,zaM,.mp true (.pr .s .s) .un]⟩)],fun x=>zfA o x.1 x.2.1 x.2.2.1 x.2.2.2.1 x.2.2.2.2.1 x.2.2.2.2.2⟩
theorem zuO:SCok Tryz.prog tabs 48 (zmB o):=zcO (o:=o) (η:=[]) (Γ:=⟨[(107,(zjU o))],[],false,[]⟩) (ctok ⟨zpU,trivial⟩ trivial) Tryz.func48
noncomputable def zdR(o:Ops)(v0:List KWkD9)(v3:Int)(v4:List zbG)(v5:List zbC)(v6:List zbJ)(v7:List zbI)(v8:List ((Bs×Bs)×Unit)):Option ((Int×zbU)⊕(zbU)):=
 bif decide (v3<(v0.length:Int))then((idx v0 v3).bind fun v9=>(zdK o v9 v4 v5 v6 v7 v8).bind fun v10=>some (.inl (w64 (v3+1),v10.2)))else some (.inr (v4,v5,v6,v7,v8))
noncomputable def zdP(o:Ops)(v1:Bs)(v21:Int)(v22:List ztJ)(v23:List zzW)(v24:List zvC)(v25:List KWkD5)(v26:List zbG)(v27:List zbC)(v28:List zbJ)(v29:List zbI)(v30:List ((Bs×Bs)×Unit)):Option ((Int×(List ztJ)×(List zzW)×(List zvC)×(List KWkD5)×zbU)⊕(Bool⊕((List ztJ)×(List zzW)×(List zvC)×zbU))):=
 bif decide (v21<(v25.length:Int))then((chk (decide ((0:Int)≤v21)&&decide (v21<(v25.length:Int)))).bind fun _=>(idx v25 v21).bind fun v31=>bif(v31.1==v1)then some (.inr (.inl false))else((chk (decide ((0:Int)≤v21)&&decide (v21<(v25.length:Int)))).bind fun _=>(idx v25 v21).bind fun v32=>(zcM o v32.2.1 v1).bind fun v33=>bif v33 then some (.inr (.inl false))else((chk (decide ((0:Int)≤v21)&&decide (v21<(v25.length:Int)))).bind fun _=>(idx v25 v21).bind fun v34=>(zcM o v34.2.2.1 v1).bind fun v35=>bif v35 then some (.inr (.inl false))else((chk (decide ((0:Int)≤v21)&&decide (v21<(v25.length:Int)))).bind fun _=>(idx v25 v21).bind fun v36=>(zcM o v36.2.2.2.1 v1).bind fun v37=>bif v37 then some (.inr (.inl false))else some (.inl (w64 (v21+1),v22,v23,v24,v25,v26,v27,v28,v29,v30))))))else some (.inr (.inr (v22,v23,v24,v26,v27,v28,v29,v30)))
noncomputable def zdQ(_o:Ops)(v1:Bs)(v20:((List (Bs×Bs))×zbU))(v41:Int)(v42:List ztJ)(v43:List zzW)(v44:List zvC)(v45:List zbG)(v46:List zbC)(v47:List zbJ)(v48:List zbI)(v49:List ((Bs×Bs)×Unit)):Option ((Int×(List ztJ)×(List zzW)×(List zvC)×zbU)⊕(Bool⊕((List ztJ)×(List zzW)×(List zvC)×zbU))):=
 bif decide (v41<(v20.1.length:Int))then((idx v20.1 v41).bind fun v50=>(app ([117,58]:Bs) v1).bind fun v51=>bif(v50.1==v51)then some (.inr (.inl false))else((idx v20.1 v41).bind fun v52=>(app ([99,58]:Bs) v1).bind fun v53=>bif(v52.1==v53)then some (.inr (.inl false))else((idx v20.1 v41).bind fun v54=>(app ([117,58]:Bs) v1).bind fun v55=>bif(v54.2==v55)then some (.inr (.inl false))else((idx v20.1 v41).bind fun v56=>(app ([99,58]:Bs) v1).bind fun v57=>bif(v56.2==v57)then some (.inr (.inl false))else some (.inl (w64 (v41+1),v42,v43,v44,v45,v46,v47,v48,v49))))))else some (.inr (.inr (v42,v43,v44,v45,v46,v47,v48,v49)))
noncomputable def zbP(_o:Ops)(v1:Bs)(v62:Int)(v63:Int)(v64:List ztJ)(v65:List zzW)(v66:List zvC)(v67:List ztJ)(v68:List zbG)(v69:List zbC)(v70:List zbJ)(v71:List zbI)(v72:List ((Bs×Bs)×Unit)):Option ((Int×Int×(List ztJ)×(List zzW)×(List zvC)×(List ztJ)×zbU)⊕(Bool⊕(Int×(List zzW)×(List zvC)×(List ztJ)×zbU))):=
 bif decide (v63<(v64.length:Int))then((chk (decide ((0:Int)≤v63)&&decide (v63<(v64.length:Int)))).bind fun _=>(idx v64 v63).bind fun v73=>bif(v73.1==v1)then some (.inl (v62,w64 (v63+1),v64,v65,v66,v67,v68,v69,v70,v71,v72))else(bif decide (v62≥(v67.length:Int))then some (.inr (.inl false))else((chk (decide ((0:Int)≤v62)&&decide (v62<(v67.length:Int)))).bind fun _=>(idx v67 v62).bind fun v74=>(chk (decide ((0:Int)≤v63)&&decide (v63<(v64.length:Int)))).bind fun _=>(idx v64 v63).bind fun v75=>let v76:Bool:=(!((v74.1==v75.1)&&((v74.2.1==v75.2.1)&&((v74.2.2.1==v75.2.2.1)&&(decide (v74.2.2.2=v75.2.2.2))))))
 bif v76 then some (.inr (.inl false))else some (.inl (w64 (v62+1),w64 (v63+1),v64,v65,v66,v67,v68,v69,v70,v71,v72)))))else some (.inr (.inr (v62,v65,v66,v67,v68,v69,v70,v71,v72)))
noncomputable def zeL(o:Ops)(v0:List KWkD9)(v1:Bs):Option (Bool):=
 (ziA o).bind fun v2=>(iter (fun x=>zdR o v0 x.1 x.2.1 x.2.2.1 x.2.2.2.1 x.2.2.2.2.1 x.2.2.2.2.2) ((0:Int),v2)).bind fun v11=>(zcG o v11.1 v11.2.1 v11.2.2.1 v11.2.2.2.1 v11.2.2.2.2).bind fun v12=>(zcD o v12.1 v12.2.1 v12.2.2.1 v12.2.2.2.1 v12.2.2.2.2.1).bind fun v13=>(zbW o v13.1 v13.2.1 v13.2.2.1 v13.2.2.2.1 v13.2.2.2.2.1).bind fun v14=>(zcF o v1 v14.1 v14.2.1 v14.2.2.1 v14.2.2.2.1 v14.2.2.2.2.1).bind fun v15=>(zcA o v1 v15.2.1 v15.2.2.1 v15.2.2.2.1 v15.2.2.2.2.1 v15.2.2.2.2.2).bind fun v16=>(zcC o v1 v16.2.1 v16.2.2.1 v16.2.2.2.1 v16.2.2.2.2.1 v16.2.2.2.2.2).bind fun v17=>(zbX o v1 v17.2.1 v17.2.2.1 v17.2.2.2.1 v17.2.2.2.2.1 v17.2.2.2.2.2).bind fun v18=>(zcS o v18.2.1 v18.2.2.1 v18.2.2.2.1 v18.2.2.2.2.1 v18.2.2.2.2.2).bind fun v19=>(zdT o v19.1 v19.2.1 v19.2.2.1 v19.2.2.2.1 v19.2.2.2.2.1).bind fun v20=>(iter (fun x=>zdP o v1 x.1 x.2.1 x.2.2.1 x.2.2.2.1 x.2.2.2.2.1 x.2.2.2.2.2.1 x.2.2.2.2.2.2.1 x.2.2.2.2.2.2.2.1 x.2.2.2.2.2.2.2.2.1 x.2.2.2.2.2.2.2.2.2) ((0:Int),v12.2.2.2.2.2,v13.2.2.2.2.2,v14.2.2.2.2.2,v19.2.2.2.2.2,v20.2)).bind fun v38=>match v38 with
 |.inl v39=>(some v39)
 |.inr v40=>((iter (fun x=>zdQ o v1 v20 x.1 x.2.1 x.2.2.1 x.2.2.2.1 x.2.2.2.2.1 x.2.2.2.2.2.1 x.2.2.2.2.2.2.1 x.2.2.2.2.2.2.2.1 x.2.2.2.2.2.2.2.2) ((0:Int),v40)).bind fun v58=>match v58 with
 |.inl v59=>(some v59)
 |.inr v60=>((zcG o v60.2.2.2.1 v60.2.2.2.2.1 v60.2.2.2.2.2.1 v60.2.2.2.2.2.2.1 v60.2.2.2.2.2.2.2).bind fun v61=>(iter (fun x=>zbP o v1 x.1 x.2.1 x.2.2.1 x.2.2.2.1 x.2.2.2.2.1 x.2.2.2.2.2.1 x.2.2.2.2.2.2.1 x.2.2.2.2.2.2.2.1 x.2.2.2.2.2.2.2.2.1 x.2.2.2.2.2.2.2.2.2.1 x.2.2.2.2.2.2.2.2.2.2) ((0:Int),(0:Int),v60.1,v60.2.1,v60.2.2.1,v61.2.2.2.2.2,v61.1,v61.2.1,v61.2.2.1,v61.2.2.2.1,v61.2.2.2.2.1)).bind fun v77=>match v77 with
 |.inl v78=>(some v78)
 |.inr v79=>((zfX o v1 v79.2.2.2.2.1 v79.2.2.2.2.2.1 v79.2.2.2.2.2.2.1 v79.2.2.2.2.2.2.2.1 v79.2.2.2.2.2.2.2.2).bind fun v80=>(zfA o v1 v80.2.2.1 v80.2.2.2.1 v80.2.2.2.2.1 v80.2.2.2.2.2.1 v80.2.2.2.2.2.2).bind fun v81=>bif(v79.1==(v79.2.2.2.1.length:Int))then(bif(!v80.2.1)then(bif(!v81.2.1)then((zcD o v81.2.2.1 v81.2.2.2.1 v81.2.2.2.2.1 v81.2.2.2.2.2.1 v81.2.2.2.2.2.2).bind fun v82=>let v83:Bool:=decide ((v82.2.2.2.2.2.length:Int)≤(v79.2.1.length:Int))
 bif v83 then((zbW o v82.1 v82.2.1 v82.2.2.1 v82.2.2.2.1 v82.2.2.2.2.1).bind fun v84=>let v85:Bool:=decide ((v84.2.2.2.2.2.length:Int)≤(v79.2.2.1.length:Int))
 bif v85 then((app ([117,58]:Bs) v1).bind fun v86=>(zcU o v86 v84.1 v84.2.1 v84.2.2.1 v84.2.2.2.1 v84.2.2.2.2.1).bind fun v87=>bif(!v87.1)then((zbS o v1 v87.2.1 v87.2.2.1 v87.2.2.2.1 v87.2.2.2.2.1 v87.2.2.2.2.2).bind fun v88=>bif((v88.1.length:Int)==0)then((some true).bind fun v89=>some v89)else(some false))else(some false))else(some false))else(some false))else(some false))else(some false))else(some false))))
noncomputable def zqA(o:Ops):PC:=⟨[(.h (.sl YWkD9)),hS],[.b],fun x=>zeL o x.1 x.2,false⟩
theorem ydG:PCok Tryz.prog tabs 9 (zqA o):=yuY (o:=o) (η:=[(200005,.loop [] ⟨[(5,(.ptr 0 0)),(6,hI)],[zbN,zaN,zaO,zaL,zaM,.mp true (.pr .s .s) .un]⟩ [0,1,4] [(some 0,⟨[(5,(.ptr 0 0))],[zbN,zaN,zaO,zaL,zaM,.mp true (.pr .s .s) .un]⟩)]),
 (200015,.loop [] ⟨[(5,(.ptr 0 0)),(7,(.own 1)),(8,(.own 2)),(9,(.own 3)),(10,(.own 4)),(12,hI)],[.blk 128 [(.mpr 5),(.mpr 6),(.mpr 7),(.mpr 8),(.mpr 9)],.osl ykK 77,.osl yhG 49,.osl ydI 51,.osl YWkD5 57,zaN,zaO,zaL,zaM,.mp true (.pr .s .s) .un]⟩ [1,11] [(some 1000000,⟨[(4,hB)],[]⟩),(some 2,⟨[(5,(.ptr 0 0)),(7,(.own 1)),(8,(.own 2)),(9,(.own 3))],[xbJ,.osl ykK 77,.osl yhG 49,.osl ydI 51,zaN,zaO,zaL,zaM,.mp true (.pr .s .s) .un]⟩)]),
 (200020,.loop [] ⟨[(5,(.ptr 0 0)),(7,(.own 1)),(8,(.own 2)),(9,(.own 3)),(13,hI)],[xbJ,.osl ykK 77,.osl yhG 49,.osl ydI 51,zaN,zaO,zaL,zaM,.mp true (.pr .s .s) .un]⟩ [1,11] [(some 1000000,⟨[(4,hB)],[]⟩),(some 4,⟨[(5,(.ptr 0 0)),(7,(.own 1)),(8,(.own 2)),(9,(.own 3))],[xbJ,.osl ykK 77,.osl yhG 49,.osl ydI 51,zaN,zaO,zaL,zaM,.mp true (.pr .s .s) .un]⟩)]),
 (200026,.loop [] ⟨[(5,(.ptr 0 0)),(7,(.own 1)),(8,(.own 2)),(9,(.own 3)),(14,(.own 4)),(15,hI),(16,hI)],[.blk 128 [(.mpr 5),(.mpr 6),(.mpr 7),(.mpr 8),(.mpr 9)],.osl ykK 77,.osl yhG 49,.osl ydI 51,.osl ykK 77,zaN,zaO,zaL,zaM,.mp true (.pr .s .s) .un]⟩ [1] [(some 1000000,⟨[(4,hB)],[]⟩),(some 6,⟨[(5,(.ptr 0 0)),(8,(.own 1)),(9,(.own 2)),(14,(.own 3)),(15,hI)],[xbJ,.osl yhG 49,.osl ydI 51,.osl ykK 77,zaN,zaO,zaL,zaM,.mp true (.pr .s .s) .un]⟩)]),
 (4000029,.sch [(.pu,0,[]),(.pu,1,[]),(.pu,2,[]),(.pu,3,[]),(.pu,4,[]),(.pu,5,[]),(.pu,6,[]),(.pu,7,[]),(.pu,8,[]),(.pu,9,[]),(.pu,10,[]),(.pu,11,[]),(.pu,12,[]),(.pu,13,[]),(.pu,14,[])])]) (Γ:=⟨[(46,(zpH o)),(24,yqK)],[(30,(zqQ o)),(31,(znW o)),(39,(zhR o)),(40,(zhP o)),(38,(zgF o)),(41,(zfS o)),(42,(zfF o)),(43,(zfQ o)),(44,(zeO o)),(32,(zgY o)),(45,(ziO o)),(47,(zoU o)),(48,(zmB o)),(49,(zgX o)),(50,(zgZ o))],false,[]⟩) (ctok ⟨zxV,⟨xbO,trivial⟩⟩ ⟨zuU,⟨zwM,⟨znR,⟨znM,⟨zkS,⟨zjR,⟨ziW,⟨zjQ,⟨ziF,⟨zlO,⟨zpK,⟨zyM,⟨zuO,⟨zlG,⟨zkD,trivial⟩⟩⟩⟩⟩⟩⟩⟩⟩⟩⟩⟩⟩⟩⟩) Tryz.func9
end
theorem half_ok{a b:Nat}(h:a+b<1099511627776):w64 ((i64 (shrI .u64 ((i64 (w64 ((a:Int)+(b:Int)))).toNat:Int) ((1:UInt64).toNat:Int))).toNat:Int)=(((a+b)/2:Nat):Int):=by
 have e1:w64 ((a:Int)+(b:Int))=((a+b:Nat):Int):=by rw[ztN (by omega) (by omega)];omega
 have e2:((i64 ((a+b:Nat):Int)).toNat:Int)=((a+b:Nat):Int):=ylK (by omega) (by omega)
 rw[e1,e2]
 have e3:shrI .u64 ((a+b:Nat):Int) ((1:UInt64).toNat:Int)=(((a+b)/2:Nat):Int):=by
  unfold shrI
  rw[show(min ((1:UInt64).toNat:Int).toNat IntKind.u64.bits)=1 from rfl,yeB]
 rw[e3,ylK (by omega) (by omega),ztN (by omega) (by omega)]
theorem less_ok(x y:L8):zyS zaB x y=some (kltS x y):=by
 unfold zyS zuK
 rw[zaA,bne_self_eq_false]
 rfl
def zoO(x:L8)(l:List L8):Nat:=(l.takeWhile fun y=>kltS y x).length
theorem xaT(x:L8)(l:List L8):zoO x l≤l.length:=(List.takeWhile_sublist _).length_le
theorem yjN{x:L8}:∀{l:List L8},RiL l→∀{m:Nat} (hm:m<l.length),kltS l[m] x=decide (m<zoO x l)
 |y::l,h,m,hm=>by
  have hc:=List.pairwise_cons.1 h
  cases hy:kltS y x with
  |true=>
   have e:zoO x (y::l)=zoO x l+1:=by unfold zoO;rw[List.takeWhile_cons,if_pos hy];rfl
   rw[e]
   cases m with
   |zero=>rw[decide_eq_true (by omega)];exact hy
   |succ m=>
    have hm':m<l.length:=by simpa using hm
    rw[List.getElem_cons_succ,yjN (x:=x) hc.2 hm']
    exact decide_eq_decide.2 (by omega)
  |false=>
   have e:zoO x (y::l)=0:=by unfold zoO;rw[List.takeWhile_cons,if_neg (by rw[hy];simp)];rfl
   rw[e,decide_eq_false (by omega)]
   cases m with
   |zero=>exact hy
   |succ m=>
    have hm':m<l.length:=by simpa using hm
    rw[List.getElem_cons_succ]
    cases hz:kltS l[m] x with
    |false=>rfl
    |true=>
     have:=kS.tr (hc.1 _ (List.getElem_mem hm')) hz
     rw[hy]at this;cases this
theorem rank_at{x:L8}{l:List L8}(h:RiL l):l.contains x=match l[zoO x l]? with
  |some y=>y==x
  |none=>false:=by
 cases hc:l.contains x with
 |true=>
  obtain⟨m,hm,e⟩:=List.getElem_of_mem (List.contains_iff_mem.1 hc)
  have h1:=yjN (x:=x) h hm
  rw[e,kS.irr]at h1
  have h1:¬m<zoO x l:=of_decide_eq_false h1.symm
  have h2:zoO x l=m:=by
   refine Nat.le_antisymm (by omega) (Nat.le_of_not_lt fun hl=>?_)
   have h3:kltS l[zoO x l] l[m]=true:=List.pairwise_iff_getElem.1 h _ _ (by omega) hm hl
   rw[e]at h3
   rw[yjN h (by omega)]at h3
   have:=of_decide_eq_true h3
   omega
  rw[h2,List.getElem?_eq_getElem hm,e]
  simp
 |false=>
  cases hg:l[zoO x l]? with
  |none=>rfl
  |some y=>
   have hy:=List.mem_of_getElem? hg
   show false=(y==x)
   cases hb:y==x with
   |false=>rfl
   |true=>
    rw[beq_iff_eq.1 hb]at hy
    rw[List.contains_iff_mem.2 hy]at hc;cases hc
theorem bs_ok{l:List L8}(x:L8)(h:RiL l)(hl:l.length≤1048576):zdH zaB l x=some ((zoO x l:Int),l.contains x):=by
 have hr:=xaT x l
 have hi:iter (fun s:Int×Int=>zfC zaB l x s.1 s.2) ((0:Int),(l.length:Int))=some (zoO x l:Int):=by
  have ht:T (iter (fun s:Int×Int=>zfC zaB l x s.1 s.2) ((0:Int),(l.length:Int))) fun r=>r=(zoO x l:Int):=by
   refine T.iter (fun s=>∃i j:Nat,s=((i:Int),(j:Int))∧i≤zoO x l∧zoO x l≤j∧j≤l.length) (fun s=>(s.2-s.1).toNat) _ ?_ ⟨0,l.length,rfl,by omega,hr,by omega⟩ (by simp;omega)
   rintro s ⟨i,j,rfl,h1,h2,h3⟩
   unfold zfC
   simp only
   refine T.dif (fun hij=>?_) fun hij=>T.ok (by show(i:Int)=_;omega)
   have hij:i<j:=by omega
   rw[show chk (decide ((0:Int)≤((1:UInt64).toNat:Int)))=some ()from rfl,zaA,half_ok (by omega)]
   have hm:(i+j)/2<l.length:=by omega
   rw[zrA rfl hm,zaA,less_ok,zaA,yjN h hm]
   refine T.dif (fun hlt=>?_) fun hlt=>?_
   ·refine T.ok ⟨⟨(i+j)/2+1,j,?_,by omega,h2,h3⟩,?_⟩
    ·rw[zzE (by omega)]
    ·rw[zzE (by omega)];simp only;omega
   ·exact T.ok ⟨⟨i,(i+j)/2,rfl,h1,by omega,by omega⟩,by simp only;omega⟩
  obtain⟨r,h1,rfl⟩:=ht
  exact h1
 unfold zdH
 rw[hi,zaA,rank_at h]
 by_cases hlt:zoO x l<l.length
 ·rw[zoE (show(zoO x l:Int)<(l.length:Int) by omega),zrA rfl hlt,zaA,List.getElem?_eq_getElem hlt]
  simp only
  cases hb:l[zoO x l]==x with
  |true=>rfl
  |false=>
   rw[cond_false,zaA]
   unfold zoL
   rw[zaA,bne_self_eq_false]
   rfl
 ·rw[zrW (show ¬(zoO x l:Int)<(l.length:Int) by omega),List.getElem?_eq_none (by omega)]
theorem ybF{l:List L8}(x:L8)(h:RiL l)(hl:l.length≤1048576):zaV zaB l x=some (l.contains x):=by
 unfold zaV
 rw[bs_ok x h hl,zaA]
theorem yuH(x:L8)(l:List L8):l.take (zoO x l)++[x]++l.drop (zoO x l)=ynT x l:=by
 have e:=List.takeWhile_append_dropWhile (p:=fun y=>kltS y x) (l:=l)
 unfold ynT zoO
 generalize l.takeWhile (fun y=>kltS y x)=a at e ⊢
 generalize l.dropWhile (fun y=>kltS y x)=b at e ⊢
 subst e
 rw[List.take_left' rfl,List.drop_left' rfl,List.append_assoc];rfl
theorem yoW{l:List L8}(x:L8)(h:RiL l)(hl:l.length≤1048575):zeC zaB l x=some (ynT x l):=by
 have hr:=xaT x l
 unfold zeC
 rw[bs_ok x h (by omega),zaA,zyV _ (by omega),zaA]
 simp only[xeJ,insP]
 rw[show(decide ((0:Int)≤(zoO x l:Int))&&decide ((zoO x l:Int).toNat≤l.length)&&decide (1≤[x].length)&&decide (l.length+[x].length≤1048576))=true by simp;omega,cond_true,zaA,Int.toNat_natCast,yuH]
theorem zyW(l:List L8)(x:L8)(hl:l.length≤1048576):zaW zaB l x=some (woL x l):=by
 unfold zaW
 rw[zyV _ (by omega),zaA]
 simp only
 rw[zoE (by omega)]
 rfl
theorem ris_ok{l:List L8}{may:L8→Bool}{n:Nat}{body:Int→Option (Int⊕(Bool⊕Unit))}(hl:l.length≤1048576)
  (hb:∀(k:Nat) (hk:k<l.length),body (k:Int)=bif !may l[k]then some (.inr (.inl false))else bif decide ((k:Int)>(0:Int))then(idx l (w64 ((k:Int)-(1:Int)))).bind fun v5=>bif(Op.bytesLess l[k] v5||l[k]==v5)then some (.inr (.inl false))else some (.inl (w64 ((k:Int)+(1:Int))))else some (.inl (w64 ((k:Int)+(1:Int)))))
  (he:body (l.length:Int)=some (.inr (.inr ()))):
  ((iter body (0:Int)).bind fun v6=>match v6 with
   |.inl v7=>some v7
   |.inr _=>some (decide ((l.length:Int)≤(n:Int))))=some (yhD n may l):=by
 have key:∀(f k:Nat),f+k=l.length→∀g,f<g→(0<k→∀y,l[k-1]? = some y→True)→ztZ body g (k:Int)=some (bif(l.drop k).all may&&zrM (l.drop (k-1))then .inr ()else .inl false):=by
  intro f
  induction f with
  |zero=>
   intro k hk g hg _
   obtain⟨g,rfl⟩:∃m,g=m+1:=⟨g-1,by omega⟩
   have hk:k=l.length:=by omega
   subst hk
   rw[zgH he,List.drop_length]
   have:zrM (l.drop (l.length-1))=true:=by
    have hlen:(l.drop (l.length-1)).length≤1:=by rw[List.length_drop];omega
    match l.drop (l.length-1),hlen with
    |[],_=>rfl
    |[_],_=>rfl
   rw[this];rfl
  |succ f ih=>
   intro k hk g hg _
   obtain⟨g,rfl⟩:∃m,g=m+1:=⟨g-1,by omega⟩
   have hlt:k<l.length:=by omega
   have hd:l.drop k=l[k]::l.drop (k+1):=List.drop_eq_getElem_cons hlt
   have hb':=hb k hlt
   cases hm:may l[k] with
   |false=>
    rw[hm]at hb'
    rw[zgH (b:=.inl false) hb',hd,List.all_cons,hm]
    rfl
   |true=>
    rw[hm]at hb'
    simp only[Bool.not_true,cond_false]at hb'
    cases k with
    |zero=>
     rw[show decide (((0:Nat):Int)>(0:Int))=false from rfl,cond_false]at hb'
     rw[zhE (s':=((1:Nat):Int)) (by rw[hb'];rfl),ih 1 (by omega) g (by omega) (fun _ _ _=>trivial),hd,List.all_cons,hm,Bool.true_and,←hd]
    |succ k=>
     have hp:k<l.length:=by omega
     have hd2:l.drop k=l[k]::l.drop (k+1):=List.drop_eq_getElem_cons hp
     rw[decide_eq_true (show(((k+1:Nat):Int))>0 by omega),cond_true,show w64 (((k+1:Nat):Int)-1)=(k:Int) by rw[ztN (by omega) (by omega)];omega,zrA rfl hp,zaA,zzE (by omega)]at hb'
     have hr:zrM (l.drop k)=(Op.bytesLess l[k] l[k+1]&&zrM (l.drop (k+1))):=by rw[hd2,hd];rfl
     have hq:(Op.bytesLess l[k+1] l[k]||l[k+1]==l[k]) = !(Op.bytesLess l[k] l[k+1]):=by
      have h1:Op.bytesLess l[k] l[k+1]=kltS l[k] l[k+1]:=rfl
      have h2:Op.bytesLess l[k+1] l[k]=kltS l[k+1] l[k]:=rfl
      rw[h1,h2]
      by_cases e:l[k+1]=l[k]
      ·rw[e,kS.irr];simp
      ·rw[beq_false_of_ne e,Bool.or_false]
       cases hx:kltS l[k] l[k+1] with
       |true=>
        cases hy:kltS l[k+1] l[k] with
        |false=>rfl
        |true=>have:=kS.tr hx hy;rw[kS.irr]at this;cases this
       |false=>exact kS.tri hx fun e'=>e e'.symm
     rw[hq]at hb'
     rw[Nat.add_sub_cancel,hr,hd,List.all_cons,hm,Bool.true_and]
     cases hx:Op.bytesLess l[k] l[k+1] with
     |false=>
      rw[hx]at hb'
      rw[zgH (b:=.inl false) hb']
      simp
     |true=>
      rw[hx]at hb'
      rw[zhE (s':=((k+1+1:Nat):Int)) hb',ih (k+1+1) (by omega) g (by omega) (fun _ _ _=>trivial),Nat.add_sub_cancel,Bool.true_and,hd]
 have h0:=key l.length 0 (by omega) FU (by unfold FU;omega) (fun h=>by omega)
 unfold iter
 rw[show((0:Nat):Int)=0 from rfl]at h0
 rw[h0,zaA]
 unfold yhD
 rw[Nat.zero_sub,List.drop_zero]
 cases l.all may&&zrM l with
 |false=>rfl
 |true=>
  show some (decide ((l.length:Int)≤(n:Int)))=_
  rw[Bool.true_and]
  congr 1
  exact decide_eq_decide.2 (by omega)
theorem ynE{l:List L8}(hl:l.length≤1048576)(n:Nat):zjT zaB l (n:Int)=some (yhD n scB l):=by
 unfold zjT
 refine ris_ok hl (fun k hk=>?_) ?_
 ·unfold zrI
  rw[zoE (by omega),zrA rfl hk,zaA,sc_ok,zaA]
 ·unfold zrI
  rw[zrW (by omega)]
theorem yyC{l:List L8}(hl:l.length≤1048576)(n:Nat):zlY zaB l (n:Int)=some (yhD n txB l):=by
 unfold zlY
 refine ris_ok hl (fun k hk=>?_) ?_
 ·unfold zpS
  rw[zoE (by omega),zrA rfl hk,zaA,tx_ok,zaA]
 ·unfold zpS
  rw[zrW (by omega)]
theorem role_ok{r:Ro}(h:r.2.length≤1048576):zmQ zaB r=some (ylL r):=by
 unfold zmQ ylL
 rw[zvY,zaA]
 cases nmB r.1 with
 |false=>rfl
 |true=>
  rw[cond_true,show((16:Int))=((16:Nat):Int)from rfl,ynE h,zaA]
  rfl
theorem yoD{r:Ro}(h:r.2.length≤1048576):zcY zaB r=some r:=by
 unfold zcY
 rw[zyV _ (by omega),zaA]
theorem ypE{c:Cl}(h:c.2.2.1.length≤1048576)(k:c.2.2.2.1.length≤1048576):zgN zaB c=some c:=by
 unfold zgN
 rw[zyV _ (by omega),zaA,zyV _ (by omega),zaA]
abbrev hexL:L8:=[48,49,50,51,52,53,54,55,56,57,97,98,99,100,101,102]
theorem hex_is(b:UInt8):hexL.contains b=hexB b:=by
 have:=ysC (fun b=>hexL.contains b==hexB b) (by kernel_rfl) b
 simpa using this
theorem cli_ok{c:Cl}(h0:c.2.1.length≤1048576)(h:c.2.2.1.length≤1048576)(k:c.2.2.2.1.length≤1048576):ziH zaB c=some (cliB c):=by
 have hj:zpZ zaB c=some (c.2.1==[]||(decide (c.2.1.length=64)&&c.2.1.all hexB),c):=by
  unfold zpZ
  cases h1:c.2.1==([]:L8) with
  |true=>rfl
  |false=>
   rw[cond_false,Bool.false_or]
   by_cases h2:c.2.1.length=64
   ·rw[show((c.2.1.length:Int)==(64:Int))=true by rw[h2];rfl,cond_true,show zaB.trim c.2.1 hexL=some (Lib.trimS c.2.1 hexL)from trim_is (by omega) (by decide) (by decide),zaA,decide_eq_true h2,Bool.true_and]
    congr 2
    rw[Bool.eq_iff_iff,beq_iff_eq,ylC,List.all_eq_true]
    exact forall_congr' fun b=>imp_congr Iff.rfl (by rw[hex_is])
   ·rw[show((c.2.1.length:Int)==(64:Int))=false by rw[beq_eq_false_iff_ne];omega,decide_eq_false h2]
    rfl
 unfold ziH cliB
 rw[hj,zaA,zvY,zaA]
 cases nmB c.1 with
 |false=>rfl
 |true=>
  rw[cond_true,Bool.true_and]
  cases (c.2.1==[]||(decide (c.2.1.length=64)&&c.2.1.all hexB)) with
  |false=>rfl
  |true=>
   rw[cond_true,Bool.true_and,show((16:Int))=((16:Nat):Int)from rfl,yyC h,zaA]
   cases yhD 16 txB c.2.2.1 with
   |false=>rfl
   |true=>
    rw[cond_true,ynE k,zaA]
    rfl
theorem no_subs{G:GM}(hR:Ri kltS G){a x:L8}(h:x∈lst 1 (zdY keqS G a zG)):∃g,(a,g)∈G∧x∈lst 1 g:=by
 rw[zjV]at h
 cases hg:mget keqS G a with
 |none=>rw[hg]at h;cases h
 |some g=>rw[hg]at h;exact⟨g,kS.get_some hg,h⟩
theorem xdM{G:GM}(hR:Ri kltS G){a:L8}{g:Gr}(h:(a,g)∈G):zdY keqS G a zG=g:=by rw[zjV,kS.get_mem hR h];rfl
abbrev SM:Type:=List (L8×Unit)
def ybN(z:SM×List L8)(x:L8):SM×List L8:=bif mhas keqS z.1 x then z else(mset keqS kltS z.1 x (),z.2++[x])
theorem yjR:∀(l:List L8) (z:SM×List L8),Ri kltS z.1→Ri kltS (l.foldl ybN z).1∧(∀x,mhas keqS (l.foldl ybN z).1 x=true↔mhas keqS z.1 x=true∨x∈l)∧∃n,(l.foldl ybN z).2=z.2++n∧(l.foldl ybN z).1.length=z.1.length+n.length∧(∀x∈n,x∈l)∧∀x,mhas keqS (l.foldl ybN z).1 x=true→mhas keqS z.1 x=true∨x∈n
 |[],z,h=>⟨h,fun x=>by simp,[],by simp,rfl,fun _ h=>h,fun _ h=>.inl h⟩
 |y::l,z,h=>by
  rw[List.foldl_cons]
  cases hy:mhas keqS z.1 y with
  |true=>
   have e:ybN z y=z:=by unfold ybN;rw[hy];rfl
   rw[e]
   obtain⟨h1,h2,n,h3,h4,h5,h6⟩:=yjR l z h
   refine⟨h1,fun x=>?_,n,h3,h4,fun x hx=>List.mem_cons_of_mem _ (h5 x hx),h6⟩
   rw[h2,List.mem_cons]
   constructor
   ·rintro(h|h)
    ·exact .inl h
    ·exact .inr (.inr h)
   ·rintro(h|rfl|h)
    ·exact .inl h
    ·exact .inl hy
    ·exact .inr h
  |false=>
   have e:ybN z y=(mset keqS kltS z.1 y (),z.2++[y]):=by unfold ybN;rw[hy];rfl
   have hs:∀x,mhas keqS (mset keqS kltS z.1 y ()) x=true↔x=y∨mhas keqS z.1 x=true:=fun x=>by
    rw[zeI,kS.set_get h,zeI]
    by_cases hk:keqS y x=true
    ·rw[if_pos hk]
     have:=kS.e.1 hk
     subst this
     simp
    ·rw[if_neg hk]
     have:x≠y:=fun e=>hk (kS.e.2 e.symm)
     simp[this]
   rw[e]
   obtain⟨h1,h2,n,h3,h4,h5,h6⟩:=yjR l (mset keqS kltS z.1 y (),z.2++[y]) (kS.set_ri h)
   refine⟨h1,fun x=>?_,y::n,by rw[h3,List.append_assoc];rfl,?_,fun x hx=>?_,fun x hx=>?_⟩
   ·rw[h2,List.mem_cons,hs]
    constructor
    ·rintro((h|h)|h)
     ·exact .inr (.inl h)
     ·exact .inl h
     ·exact .inr (.inr h)
    ·rintro(h|h|h)
     ·exact .inl (.inr h)
     ·exact .inl (.inl h)
     ·exact .inr h
   ·rw[h4]
    show(mset keqS kltS z.1 y ()).length+n.length=_
    rw[zuG,hy,if_neg (by simp),List.length_cons];omega
   ·rcases List.mem_cons.1 hx with rfl|hx
    ·exact List.mem_cons_self
    ·exact List.mem_cons_of_mem _ (h5 x hx)
   ·rcases h6 x hx with h|h
    ·rcases(hs x).1 h with rfl|h
     ·exact .inr List.mem_cons_self
     ·exact .inl h
    ·exact .inr (List.mem_cons_of_mem _ h)
def ynL(G:GM):List L8:=G.flatMap fun p=>lst 1 p.2
theorem ynK{s:PS}{g:Gr}(hl:(lst 1 g).length≤1048576):∀(f k:Nat) (z:SM×List L8),f+k=(lst 1 g).length→z.2.length+f≤68719476736→∀n,f<n →
  ztZ (fun x:Int×UM×GM×RM×CM×MM×SM×List L8=>zdN zaB g x.1 x.2.1 x.2.2.1 x.2.2.2.1 x.2.2.2.2.1 x.2.2.2.2.2.1 x.2.2.2.2.2.2.1 x.2.2.2.2.2.2.2) n ((k:Int),s.1,s.2.1,s.2.2.1,s.2.2.2.1,s.2.2.2.2,z.1,z.2)=some (s.1,s.2.1,s.2.2.1,s.2.2.2.1,s.2.2.2.2,((lst 1 g).drop k).foldl ybN z)
 |0,k,z,hk,_,n+1,_=>by
  have hk:k=(lst 1 g).length:=by omega
  subst hk
  rw[List.drop_length]
  refine zgH ?_
  unfold zdN
  simp only
  rw[zrW (by show ¬((lst 1 g).length:Int)<((lst 1 g).length:Int);omega)]
  rfl
 |f+1,k,z,hk,hz,n+1,hn=>by
  have hlt:k<(lst 1 g).length:=by omega
  rw[List.drop_eq_getElem_cons hlt,List.foldl_cons]
  have e:=ynK (s:=s) hl f (k+1) (ybN z (lst 1 g)[k]) (by omega) (by
   unfold ybN
   cases mhas keqS z.1 (lst 1 g)[k] with
   |true=>rw[cond_true];omega
   |false=>rw[cond_false];simp;omega) n (by omega)
  rw[←e]
  refine zhE ?_
  unfold zdN
  simp only
  rw[zoE (by show(k:Int)<((lst 1 g).length:Int);omega),show idx g.1.2.1 (k:Int)=some (lst 1 g)[k]from zrA rfl hlt,zaA,zzE (by omega)]
  unfold ybN
  cases mhas keqS z.1 (lst 1 g)[k] with
  |true=>rfl
  |false=>
   rw[Bool.not_false,cond_true,yaW (by simp;omega),zaA]
   rfl
theorem xaI{B:Int}{s:PS}(h:PInv B s)(a b:L8):∃r:Bool,zeW zaB a b s.1 s.2.1 s.2.2.1 s.2.2.2.1 s.2.2.2.2=some (r,s)∧(r=true↔Reach s.2.1 a b):=by
 have hlen:∀k g,(k,g)∈s.2.1→(lst 1 g).length≤32:=fun k g hg=>by
  obtain⟨h1,h2⟩:=h.gl k g hg 1 (by decide)
  have:=h1.sub_len (m:=s.2.1.map (·.1)) fun x hx=>by
   obtain⟨v,hv⟩:=kS.has_iff.1 (show mhas keqS s.2.1 x=true from h2 x hx)
   exact List.mem_map.2 ⟨_,hv,rfl⟩
  rw[List.length_map]at this
  exact Nat.le_trans this h.gL
 have hlenD:∀k,(lst 1 (zdY keqS s.2.1 k zG)).length≤32:=fun k=>by
  rw[zjV]
  cases hg:mget keqS s.2.1 k with
  |none=>exact Nat.zero_le _
  |some g=>exact hlen k g (kS.get_some hg)
 have hU:(a::ynL s.2.1).length≤1100:=by
  have:∀G:GM,(∀k g,(k,g)∈G→(lst 1 g).length≤32)→(ynL G).length≤32*G.length:=by
   intro G
   induction G with
   |nil=>intro _;exact Nat.le_refl _
   |cons p G ih=>
    intro hg
    have h1:=ih fun k g hk=>hg k g (List.mem_cons_of_mem _ hk)
    have h2:=hg p.1 p.2 List.mem_cons_self
    unfold ynL at *
    rw[List.flatMap_cons,List.length_append,List.length_cons];omega
  have:=this s.2.1 hlen
  have:=h.gL
  rw[List.length_cons];omega
 let I:UM×GM×RM×CM×MM×SM×List L8→Prop:=fun t=>(t.1,t.2.1,t.2.2.1,t.2.2.2.1,t.2.2.2.2.1)=s∧Ri kltS t.2.2.2.2.2.1∧(∀x,mhas keqS t.2.2.2.2.2.1 x=true→x∈a::ynL s.2.1∧Reach s.2.1 a x)∧(∀x∈t.2.2.2.2.2.2,mhas keqS t.2.2.2.2.2.1 x=true)∧mhas keqS t.2.2.2.2.2.1 a=true ∧
  (∀x,mhas keqS t.2.2.2.2.2.1 x=true→x∈t.2.2.2.2.2.2∨(x≠b∧∀y∈lst 1 (zdY keqS s.2.1 x zG),mhas keqS t.2.2.2.2.2.1 y=true))∧t.2.2.2.2.2.2.length≤t.2.2.2.2.2.1.length
 have hseen:∀t,I t→t.2.2.2.2.2.1.length≤1100:=fun t hI=>by
  obtain⟨_,h1,h2,_⟩:=hI
  have hn:(t.2.2.2.2.2.1.map (·.1)).Nodup:=(List.pairwise_map.2 (h1.imp fun {p q} hpq=>kS.lt_ne hpq):(t.2.2.2.2.2.1.map (·.1)).Pairwise (· ≠ ·))
  have:=ziU hn (m:=a::ynL s.2.1) fun x hx=>by
   obtain⟨p,hp,rfl⟩:=List.mem_map.1 hx
   exact(h2 p.1 (kS.has_iff.2 ⟨p.2,hp⟩)).1
  rw[List.length_map]at this
  omega
 have ht:T (iter (fun x:UM×GM×RM×CM×MM×SM×List L8=>zeM zaB b x.1 x.2.1 x.2.2.1 x.2.2.2.1 x.2.2.2.2.1 x.2.2.2.2.2.1 x.2.2.2.2.2.2) (s.1,s.2.1,s.2.2.1,s.2.2.2.1,s.2.2.2.2,mset keqS kltS ([]:SM) a (),[a])) fun r=>match r with
   |.inl v=>v.2=s∧v.1=true∧Reach s.2.1 a b
   |.inr v=>v=s∧¬Reach s.2.1 a b:=by
  refine T.iter I (fun t=>2*(1100-t.2.2.2.2.2.1.length)+t.2.2.2.2.2.2.length) _ ?_ ?_ ?_
  ·rintro t hI
   have hS:=hseen t hI
   obtain⟨u,g,r,c,m,sn,row⟩:=t
   obtain⟨hs,h1,h2,h3,h4,h5,h6⟩:=hI
   have hs:(u,g,r,c,m)=s:=hs
   subst hs
   simp only at h1 h2 h3 h4 h5 h6 hS ⊢
   unfold zeM
   cases row with
   |nil=>
    refine T.ok (P:=_) ?_
    refine⟨rfl,fun hr=>?_⟩
    have key:∀x,Reach g a x→mhas keqS sn x=true:=fun x hx=>by
     induction hx with
     |refl=>exact h4
     |step _ hg hx ih=>
      rcases h5 _ ih with hb|⟨_,hb⟩
      ·cases hb
      ·rw[xdM h.gR hg]at hb
       exact hb _ hx
    rcases h5 b (key b hr)with hb|⟨hb,_⟩
    ·cases hb
    ·exact hb rfl
   |cons y row=>
    rw[zoE (by show((y::row).length:Int)>0;rw[List.length_cons];omega)]
    have hck:chk (decide ((0:Int)≤0)&&decide ((0:Int)<((y::row).length:Int)))=some ():=by
     rw[decide_eq_true (show(0:Int)<((y::row).length:Int) by rw[List.length_cons];omega)];rfl
    have hix:idx (y::row) (0:Int)=some y:=rfl
    rw[hck,zaA,hix,zaA]
    by_cases hyb:y=b
    ·subst hyb
     rw[show(y==y)=true from beq_self_eq_true y,cond_true]
     exact T.ok ⟨rfl,rfl,(h2 y (h3 y List.mem_cons_self)).2⟩
    ·rw[beq_false_of_ne hyb,cond_false,zaA,zaA]
     have hy:=h2 y (h3 y List.mem_cons_self)
     have hq:=hlenD y
     simp only at hq
     generalize hgy:zdY keqS g y zG=gy at hq
     show T (Option.bind (iter _ ((0:Int),u,g,r,c,m,sn,y::row)) _) _
     rw[show iter _ ((0:Int),u,g,r,c,m,sn,y::row)=_ from ynK (s:=(u,g,r,c,m)) (g:=gy) (by omega) (lst 1 gy).length 0 (sn,y::row) (by omega) (by simp only[List.length_cons];simp only[List.length_cons]at h6;omega) FU (by unfold FU;omega),zaA,List.drop_zero]
     obtain⟨p1,p2,n,p3,p4,p5,p6⟩:=yjR (lst 1 gy) (sn,y::row) h1
     generalize (lst 1 gy).foldl ybN (sn,y::row)=z at p1 p2 p3 p4 p6
     obtain⟨sn',row'⟩:=z
     simp only at p1 p2 p3 p4 p6 ⊢
     subst p3
     rw[show subL (y::row++n) (1:Int)=some (row++n) by
      unfold subL
      rw[decide_eq_true (show(0:Int)≤1 by decide),decide_eq_true (show(1:Int)≤((y::row++n).length:Int) by rw[List.cons_append,List.length_cons];omega)]
      rfl,zaA]
     have hI':I (u,g,r,c,m,sn',row++n):=by
      refine⟨rfl,p1,fun x hx=>?_,fun x hx=>?_,(p2 a).2 (.inl h4),fun x hx=>?_,?_⟩
      ·rcases(p2 x).1 hx with hx|hx
       ·exact h2 x hx
       ·rw[←hgy]at hx
        obtain⟨g',hg',hxg⟩:=no_subs h.gR hx
        exact⟨List.mem_cons_of_mem _ (List.mem_flatMap.2 ⟨(y,g'),hg',hxg⟩),.step hy.2 hg' hxg⟩
      ·rcases List.mem_append.1 hx with hx|hx
       ·exact(p2 x).2 (.inl (h3 x (List.mem_cons_of_mem _ hx)))
       ·exact(p2 x).2 (.inr (p5 x hx))
      ·show x∈row++n∨(x≠b∧∀y'∈lst 1 (zdY keqS g x zG),mhas keqS sn' y'=true)
       by_cases hxy:x=y
       ·subst hxy
        refine .inr ⟨hyb,fun y' hy'=>?_⟩
        rw[hgy]at hy'
        exact(p2 y').2 (.inr hy')
       ·by_cases hxs:mhas keqS sn x=true
        ·rcases h5 x hxs with hb|⟨hb,hb2⟩
         ·exact .inl (List.mem_append_left _ ((List.mem_cons.1 hb).resolve_left hxy))
         ·exact .inr ⟨hb,fun y' hy'=>(p2 y').2 (.inl (hb2 y' hy'))⟩
        ·exact .inl (List.mem_append_right _ ((p6 x hx).resolve_left hxs))
      ·show(row++n).length≤sn'.length
       simp only[List.length_cons]at h6
       rw[p4,List.length_append];omega
     refine T.ok ⟨hI',?_⟩
     have hS':=hseen _ hI'
     simp only at hS' ⊢
     rw[p4]at hS' ⊢
     rw[List.length_append,List.length_cons];omega
  ·have hset:mset keqS kltS ([]:SM) a ()=[(a,())]:=rfl
   refine⟨rfl,kS.set_ri .nil,fun x hx=>?_,fun x hx=>?_,kS.has_iff.2 ⟨(),List.mem_cons_self⟩,fun x hx=>?_,Nat.le_refl _⟩
   ·obtain⟨v,hv⟩:=kS.has_iff.1 hx
    rw[show(mset keqS kltS ([]:SM) a (),[a]).1=[(a,())]from rfl]at hv
    cases List.mem_singleton.1 hv
    exact⟨List.mem_cons_self,.refl⟩
   ·rw[List.mem_singleton.1 hx];exact kS.has_iff.2 ⟨(),List.mem_cons_self⟩
   ·obtain⟨v,hv⟩:=kS.has_iff.1 hx
    cases List.mem_singleton.1 (show(x,v)∈[(a,())]from hv)
    exact .inl List.mem_cons_self
  ·show 2*(1100-1)+1<1099511627776;decide
 obtain⟨r,h1,h2⟩:=ht
 unfold zeW
 refine ?_
 have e:(iter (fun x:UM×GM×RM×CM×MM×SM×List L8=>zeM zaB b x.1 x.2.1 x.2.2.1 x.2.2.2.1 x.2.2.2.2.1 x.2.2.2.2.2.1 x.2.2.2.2.2.2) (s.1,s.2.1,s.2.2.1,s.2.2.2.1,s.2.2.2.2,mset keqS kltS ([]:SM) a (),[a]))=some r:=h1
 simp only
 rw[e,zaA]
 match r,h2 with
 |.inl (v1,v2),⟨q1,q2,q3⟩=>
  have q1:v2=s:=q1
  have q2:v1=true:=q2
  subst q1;subst q2
  exact⟨true,rfl,fun _=>q3,fun _=>rfl⟩
 |.inr v,⟨q1,q2⟩=>
  subst q1
  exact⟨false,rfl,fun h=>(by cases h),fun h=>absurd h q2⟩
theorem zzS{s:L8}(h:nmB s=true):s.length≤24:=by
 rw[nm_is,Bool.and_eq_true,Bool.and_eq_true]at h
 exact of_decide_eq_true h.1.2
theorem PInv.lst_len{B:Int}{s:PS}(h:PInv B s){k:L8}{g:Gr}(hg:(k,g)∈s.2.1){i:Nat}(hi:i<3):(lst i g).length≤64:=by
 obtain⟨h1,h2⟩:=h.gl k g hg i hi
 have key:∀{γ:Type} {es:List (L8×γ)},(∀x∈lst i g,mhas keqS es x=true)→(lst i g).length≤es.length:=fun {γ es} hh=>by
  have:=h1.sub_len (m:=es.map (·.1)) fun x hx=>by
   obtain⟨v,hv⟩:=kS.has_iff.1 (hh x hx)
   exact List.mem_map.2 ⟨_,hv,rfl⟩
  rwa[List.length_map]at this
 match i,hi with
 |0,_=>exact Nat.le_trans (key h2) h.uL
 |1,_=>exact Nat.le_trans (key h2) (Nat.le_trans h.gL (by decide))
 |2,_=>exact Nat.le_trans (key h2) (Nat.le_trans h.rL (by decide))
abbrev T6(γ:Type):Type:=UM×GM×RM×CM×MM×γ
theorem addU_ok(n m:L8)(s:PS):zbV zaB n m s.1 s.2.1 s.2.2.1 s.2.2.2.1 s.2.2.2.2=some (xaX n m s):=by
 unfold zbV zkM xaX
 rw[zvY,zaA]
 cases nmB n with
 |false=>rfl
 |true=>
  rw[Bool.not_true,cond_false,tx_ok,zaA]
  cases txB m with
  |false=>rfl
  |true=>
   rw[Bool.not_true,cond_false,zaA]
   simp only[Bool.or_false,cond_false]
   cases mhas keqS s.1 n with
   |true=>rfl
   |false=>
    rw[cond_false,cond_false]
    by_cases h:64≤s.1.length
    ·rw[zoE (show(s.1.length:Int)≥64 by omega),decide_eq_true h];rfl
    ·rw[zrW (show ¬(s.1.length:Int)≥64 by omega),decide_eq_false h];rfl
theorem us_eq(a b:L8)(c:Bool)(d:Int)(u:Us):(!((a==u.1)&&((b==u.2.1)&&((c==u.2.2.1)&&(decide (d=u.2.2.2)))))) = !decide ((a,b,c,d)=u):=by
 congr 1
 rw[Bool.eq_iff_iff]
 simp only[Bool.and_eq_true,beq_iff_eq,decide_eq_true_eq]
 obtain⟨a',b',c',d'⟩:=u
 simp
theorem turnJ1(U:UM)(G:GM)(R:RM)(C:CM)(M:MM)(u:Us)(a b m:L8)(c:Bool)(d:Int):ziR zaB U G R C M u (a,b,c,d,m)=some (m,U,G,R,C,M,if(a,b,c,d)=u then(a,b,c,d)else(a,b,c,w64 (d+1))):=by
 unfold ziR
 show(bif(!((a==u.1)&&((b==u.2.1)&&((c==u.2.2.1)&&(decide (d=u.2.2.2))))))then _ else _)=_
 rw[us_eq]
 by_cases e:(a,b,c,d)=u
 ·rw[decide_eq_true e,if_pos e];rfl
 ·rw[decide_eq_false e,if_neg e];rfl
theorem turnJ2(U:UM)(G:GM)(R:RM)(C:CM)(M:MM)(u:Us)(a b:L8)(m c:Bool)(d:Int):zhM zaB U G R C M u (a,b,c,d,m)=some (m,U,G,R,C,M,if(a,b,c,d)=u then(a,b,c,d)else(a,b,c,w64 (d+1))):=by
 unfold zhM
 show(bif(!((a==u.1)&&((b==u.2.1)&&((c==u.2.2.1)&&(decide (d=u.2.2.2))))))then _ else _)=_
 rw[us_eq]
 by_cases e:(a,b,c,d)=u
 ·rw[decide_eq_true e,if_pos e];rfl
 ·rw[decide_eq_false e,if_neg e];rfl
theorem xdR{B:Int}(hB:B≤1099511627776){s:PS}(h:PInv B s)(n m:L8):zgB zaB n m s.1 s.2.1 s.2.2.1 s.2.2.2.1 s.2.2.2.2=some ((ylN n (fun u=>(u.1,m,u.2.2)) s).1,m,(ylN n (fun u=>(u.1,m,u.2.2)) s).2):=by
 unfold zgB ylN
 rw[zvY,zaA]
 cases nmB n with
 |false=>rfl
 |true=>
  simp only[Bool.not_true,cond_false]
  rw[zeI,zjV]
  cases hg:mget keqS s.1 n with
  |none=>rfl
  |some u=>
   have h1:=h.us n u (kS.get_some hg)
   simp only[Option.isSome_some,Bool.not_true,cond_false,Option.getD_some]
   unfold zfO
   rw[zaA,turnJ1,zaA,show w64 (u.2.2.2+1)=u.2.2.2+1 from ztN (by omega) (by omega)]
   by_cases e:(u.1,m,u.2.2.1,u.2.2.2)=u
   ·rw[if_pos e,if_pos (show(u.1,m,u.2.2)=u from e),e]
   ·rw[if_neg e,if_neg (show ¬(u.1,m,u.2.2)=u from e)]
theorem xeD{B:Int}(hB:B≤1099511627776){s:PS}(h:PInv B s)(n:L8)(b:Bool):zfK zaB n b s.1 s.2.1 s.2.2.1 s.2.2.2.1 s.2.2.2.2=some ((ytV n b s).1,b,(ytV n b s).2):=by
 unfold zfK ytV ylN
 rw[zvY,zaA]
 cases nmB n with
 |false=>rfl
 |true=>
  simp only[Bool.not_true,cond_false]
  rw[zeI,zjV]
  cases hg:mget keqS s.1 n with
  |none=>rfl
  |some u=>
   have h1:=h.us n u (kS.get_some hg)
   simp only[Option.isSome_some,Bool.not_true,cond_false,Option.getD_some]
   unfold zeP
   rw[zaA,turnJ2,zaA,show w64 (u.2.2.2+1)=u.2.2.2+1 from ztN (by omega) (by omega)]
   by_cases e:(u.1,u.2.1,b,u.2.2.2)=u
   ·rw[if_pos e,if_pos e,e]
   ·rw[if_neg e,if_neg e]
theorem setM_ok{B:Int}(hB:B≤1099511627776){s:PS}(h:PInv B s)(n m:L8):zeK zaB n m s.1 s.2.1 s.2.2.1 s.2.2.2.1 s.2.2.2.2=some (yxW n m s):=by
 unfold zeK yxW
 rw[tx_ok,zaA]
 cases txB m with
 |false=>rfl
 |true=>rw[Bool.not_true,cond_false,xdR hB h,zaA];rfl
theorem setA_ok{B:Int}(hB:B≤1099511627776){s:PS}(h:PInv B s)(n:L8)(b:Bool):zcZ zaB n b s.1 s.2.1 s.2.2.1 s.2.2.2.1 s.2.2.2.2=some (ytV n b s):=by
 unfold zcZ
 rw[xeD hB h,zaA]
def stW:Nat→Gr→List L8→Gr
 |0,g,l=>((l,g.1.2.1,g.1.2.2),w64 (g.2+1))
 |1,g,l=>((g.1.1,l,g.1.2.2),w64 (g.2+1))
 |_,g,l=>((g.1.1,g.1.2.1,l),w64 (g.2+1))
theorem stW_ok(k:Nat){g:Gr}(l:List L8)(h:1≤g.2∧g.2≤1099511627776):stW k g l=stL k g l:=by
 have e:w64 (g.2+1)=g.2+1:=ztN (by omega) (by omega)
 match k with
 |0=>show((l,g.1.2.1,g.1.2.2),w64 (g.2+1))=_;rw[e];rfl
 |1=>show((g.1.1,l,g.1.2.2),w64 (g.2+1))=_;rw[e];rfl
 |k+2=>show((g.1.1,g.1.2.1,l),w64 (g.2+1))=_;rw[e];rfl
noncomputable def fgtF(k:Nat)(n:L8)(x:T6 (List L8))(p:L8×Gr):Option (T6 (List L8)⊕PS):=
 (mget keqS x.2.1 p.1).bind fun g=>(zaV zaB (lst k g) n).bind fun q=>bif q then(zaW zaB (lst k g) n).bind fun l=>(chk (mhas keqS x.2.1 p.1)).bind fun _=>some (.inl (x.1,mrep keqS x.2.1 p.1 (stW k g l),x.2.2.1,x.2.2.2.1,x.2.2.2.2.1,rngD keqS x.2.2.2.2.2 p.1))else some (.inl (x.1,x.2.1,x.2.2.1,x.2.2.2.1,x.2.2.2.2.1,rngD keqS x.2.2.2.2.2 p.1))
def yaG(k:Nat)(n:L8)(left:List L8)(G:GM):GM:=mmap (fun m g=>bif left.contains m then g else(bif(lst k g).contains n then stL k g (woL n (lst k g))else g)) G
theorem ycN{B:Int}(hB:B≤1099511627776){k:Nat}(hk:k<3){n:L8}{s:PS}(G:GM)(hR:Ri kltS G)(hv:∀m g,(m,g)∈G→RiL (lst k g)∧(lst k g).length≤64∧1≤g.2∧g.2≤B){f:T6 (List L8)→List (Option (T6 (List L8)⊕PS))}(hf:∀x,f x=rngL (rngC keqS x.2.1 x.2.2.2.2.2) (some (.inr (x.1,x.2.1,x.2.2.1,x.2.2.2.1,x.2.2.2.2.1))) (fgtF k n x)):
  rngA f (s.1,G,s.2.2.1,s.2.2.2.1,s.2.2.2.2,List.map Prod.fst G)=some (s.1,zgS k n G,s.2.2):=by
 have hk0:∀m,mhas keqS G m=true→∃g,mget keqS G m=some g:=fun m hm=>by rw[zeI]at hm;exact Option.isSome_iff_exists.1 hm
 refine kS.rngA_map (fun x=>∃left:List L8,(∀m∈left,mhas keqS G m=true)∧x=(s.1,yaG k n left G,s.2.2.1,s.2.2.2.1,s.2.2.2.2,left)) (fun x=>x.2.1) (fun x=>x.2.2.2.2.2) hf ?_ ?_ ⟨List.map Prod.fst G,fun m hm=>?_,?_⟩
 ·rintro x ⟨left,hl,rfl⟩ hno
  simp only
  have e:yaG k n left G=zgS k n G:=by
   unfold yaG zgS mmap
   refine List.map_congr_left fun p hp=>?_
   have:left.contains p.1=false:=by
    cases hc:left.contains p.1 with
    |false=>rfl
    |true=>
     have hin:(p.1,bif left.contains p.1 then p.2 else(bif(lst k p.2).contains n then stL k p.2 (woL n (lst k p.2))else p.2))∈yaG k n left G:=List.mem_map.2 ⟨p,hp,rfl⟩
     have h3:=hno _ hin
     exact absurd (List.contains_iff_mem.1 hc) h3
   show(p.1,bif left.contains p.1 then p.2 else _)=_
   rw[this];rfl
  rw[e]
 ·rintro x p ⟨left,hl,rfl⟩ hp hpl
  left
  simp only at hp hpl ⊢
  obtain⟨g,hg⟩:=hk0 p.1 (hl p.1 hpl)
  have hgm:=kS.get_some hg
  obtain⟨v1,v2,v3,v4⟩:=hv p.1 g hgm
  have hget:mget keqS (yaG k n left G) p.1=some g:=by
   unfold yaG
   rw[zvK _ kS,hg,Option.map_some,List.contains_iff_mem.2 hpl];rfl
  have hc2:∀m,(rngD keqS left p.1).contains m=(left.contains m && !(m==p.1)):=fun m=>by
   rw[Bool.eq_iff_iff,List.contains_iff_mem,kS.rngD_mem,Bool.and_eq_true,List.contains_iff_mem,Bool.not_eq_true',←Bool.not_eq_true,beq_iff_eq]
  have hhr:Ri kltS (yaG k n left G):=ykB hR
  have hleft:∀m∈rngD keqS left p.1,mhas keqS G m=true:=fun m hm=>hl m (kS.rngD_mem.1 hm).1
  cases hq:(lst k g).contains n with
  |true=>
   refine⟨_,?_,⟨rngD keqS left p.1,hleft,rfl⟩,rfl⟩
   unfold fgtF
   simp only
   rw[hget,zaA,ybF n v1 (by omega),zaA,hq,cond_true,zyW _ _ (by omega),zaA,show chk (mhas keqS (yaG k n left G) p.1)=some () by rw[zeI,hget];rfl,zaA,stW_ok k _ (by omega)]
   congr 4
   have hh:mhas keqS (yaG k n left G) p.1=true:=by rw[zeI,hget];rfl
   have e1:mrep keqS (yaG k n left G) p.1 (stL k g (woL n (lst k g)))=mset keqS kltS (yaG k n left G) p.1 (stL k g (woL n (lst k g))):=by unfold mset;rw[hh];rfl
   rw[e1]
   refine kS.ext_get (kS.set_ri hhr) (ykB hR) fun m=>?_
   rw[kS.set_get hhr]
   unfold yaG
   rw[zvK _ kS,zvK _ kS]
   by_cases e:keqS p.1 m=true
   ·rw[if_pos e]
    have e:=kS.e.1 e
    subst e
    rw[hg,Option.map_some,hc2,beq_self_eq_true,Bool.not_true,Bool.and_false,cond_false,hq];rfl
   ·rw[if_neg e]
    have:(m==p.1)=false:=beq_false_of_ne fun e'=>e (kS.e.2 e'.symm)
    cases mget keqS G m with
    |none=>rfl
    |some g'=>rw[Option.map_some,Option.map_some,hc2,this,Bool.not_false,Bool.and_true]
  |false=>
   refine⟨_,?_,⟨rngD keqS left p.1,hleft,rfl⟩,rfl⟩
   unfold fgtF
   simp only
   rw[hget,zaA,ybF n v1 (by omega),zaA,hq,cond_false]
   congr 4
   refine kS.ext_get hhr (ykB hR) fun m=>?_
   unfold yaG
   rw[zvK _ kS,zvK _ kS]
   by_cases e:m=p.1
   ·subst e
    rw[hg,Option.map_some,Option.map_some,hc2,beq_self_eq_true,Bool.not_true,Bool.and_false,cond_false,hq,List.contains_iff_mem.2 hpl];rfl
   ·have:(m==p.1)=false:=beq_false_of_ne e
    cases mget keqS G m with
    |none=>rfl
    |some g'=>rw[Option.map_some,Option.map_some,hc2,this,Bool.not_false,Bool.and_true]
 ·obtain⟨p,hp,rfl⟩:=List.mem_map.1 hm
  exact kS.has_iff.2 ⟨p.2,hp⟩
 ·have e:yaG k n (List.map Prod.fst G) G=G:=by
   unfold yaG mmap
   refine Eq.trans (List.map_congr_left fun p hp=>?_) (List.map_id G)
   show(p.1,bif(List.map Prod.fst G).contains p.1 then p.2 else _)=p
   rw[List.contains_iff_mem.2 (List.mem_map.2 ⟨p,hp,rfl⟩)];rfl
  rw[e]
theorem PInv.fgt{B:Int}{s:PS}(h:PInv B s){k:Nat}(hk:k<3){G:GM}(hG:G.Sublist s.2.1):∀m g,(m,g)∈G→RiL (lst k g)∧(lst k g).length≤64∧1≤g.2∧g.2≤B:=fun m g hg=>
 ⟨(h.gl m g (hG.subset hg) k hk).1,h.lst_len (hG.subset hg) hk,(h.gn m g (hG.subset hg)).2⟩
theorem ysZ{B:Int}(hB:B≤1099511627776){s:PS}(h:PInv B s)(n:L8){G:GM}(hG:G.Sublist s.2.1)(U:UM)(R:RM)(C:CM)(M:MM):zeZ zaB n U G R C M=some (U,zgS 0 n G,R,C,M):=by
 unfold zeZ
 rw[show rngA _ (U,G,R,C,M,List.map Prod.fst G)=_ from ycN hB (k:=0) (by decide) (n:=n) (s:=(U,G,R,C,M)) G (h.gR.sublist hG) (h.fgt (by decide) hG) fun x=>?_,zaA]
 unfold zmL
 congr 1
 funext p
 unfold fgtF zmH zmN
 cases mget keqS x.2.1 p.1 with
 |none=>rfl
 |some g=>
  simp only[zaA,lst]
  cases zaV zaB g.1.1 n with
  |none=>rfl
  |some q=>
   simp only[zaA]
   cases q with
   |false=>rfl
   |true=>
    simp only[cond_true]
    cases zaW zaB g.1.1 n<;>rfl
theorem yuK{B:Int}(hB:B≤1099511627776){s:PS}(h:PInv B s)(n:L8){G:GM}(hG:G.Sublist s.2.1)(U:UM)(R:RM)(C:CM)(M:MM):zdZ zaB n U G R C M=some (U,zgS 1 n G,R,C,M):=by
 unfold zdZ
 rw[show rngA _ (U,G,R,C,M,List.map Prod.fst G)=_ from ycN hB (k:=1) (by decide) (n:=n) (s:=(U,G,R,C,M)) G (h.gR.sublist hG) (h.fgt (by decide) hG) fun x=>?_,zaA]
 unfold zkG
 congr 1
 funext p
 unfold fgtF zlB zlE
 cases mget keqS x.2.1 p.1 with
 |none=>rfl
 |some g=>
  simp only[zaA,lst]
  cases zaV zaB g.1.2.1 n with
  |none=>rfl
  |some q=>
   simp only[zaA]
   cases q with
   |false=>rfl
   |true=>
    simp only[cond_true]
    cases zaW zaB g.1.2.1 n<;>rfl
theorem ytB{B:Int}(hB:B≤1099511627776){s:PS}(h:PInv B s)(n:L8){G:GM}(hG:G.Sublist s.2.1)(U:UM)(R:RM)(C:CM)(M:MM):zeE zaB n U G R C M=some (U,zgS 2 n G,R,C,M):=by
 unfold zeE
 rw[show rngA _ (U,G,R,C,M,List.map Prod.fst G)=_ from ycN hB (k:=2) (by decide) (n:=n) (s:=(U,G,R,C,M)) G (h.gR.sublist hG) (h.fgt (by decide) hG) fun x=>?_,zaA]
 unfold zkN
 congr 1
 funext p
 unfold fgtF zkT zlA
 cases mget keqS x.2.1 p.1 with
 |none=>rfl
 |some g=>
  simp only[zaA,lst]
  cases zaV zaB g.1.2.2 n with
  |none=>rfl
  |some q=>
   simp only[zaA]
   cases q with
   |false=>rfl
   |true=>
    simp only[cond_true]
    cases zaW zaB g.1.2.2 n<;>rfl
def lefM(left:List (L8×L8))(p:L8)(M:MM):MM:=M.filter fun m=>left.contains m.1 || !(m.1.1==p||m.1.2==p)
theorem ylJ{M:MM}(hR:Ri kltM M)(p:L8)(U:UM)(G:GM)(R:RM)(C:CM):zcV zaB p U G R C M=some (U,G,R,C,zrE p M):=by
 unfold zcV zoF
 have e:rngA (fun x:MM×L8×List (L8×L8)=>zsA zaB x.1 x.2.1 x.2.2) (M,p,List.map Prod.fst M)=some (zrE p M,p):=by
  refine kSS.rngA_map (κ:=L8×L8) (γ:=Unit) (fun x=>∃left:List (L8×L8),x=(lefM left p M,p,left)) (fun x=>x.1) (fun x=>x.2.2) (fun x=>rfl) ?_ ?_ ⟨List.map Prod.fst M,?_⟩
  ·rintro x ⟨left,rfl⟩ hno
   simp only
   congr 3
   unfold zrE lefM
   refine List.filter_congr fun m hm=>?_
   cases hc:left.contains m.1 with
   |false=>rfl
   |true=>
    have:=hno m (List.mem_filter.2 ⟨hm,by rw[hc];rfl⟩)
    exact absurd (List.contains_iff_mem.1 hc) this
  ·rintro x q ⟨left,rfl⟩ hq hql
   left
   simp only at hq hql ⊢
   have hc2:∀m,(rngD keqM left q.1).contains m=(left.contains m && !(m==q.1)):=fun m=>by
    rw[Bool.eq_iff_iff,List.contains_iff_mem,kSS.rngD_mem,Bool.and_eq_true,List.contains_iff_mem,Bool.not_eq_true',←Bool.not_eq_true,beq_iff_eq]
   have hfr:Ri kltM (lefM left p M):=hR.sublist List.filter_sublist
   have hget:mget keqM (lefM left p M) q.1=some ():=kSS.get_mem hfr (v:=()) hq
   rw[show mget (keq (.pr .s .s)) (lefM left p M) q.1=some ()from hget,zaA]
   unfold zgK
   cases h1:q.1.1==p||q.1.2==p with
   |true=>
    refine⟨_,?_,⟨rngD keqM left q.1,rfl⟩,rfl⟩
    have:(bif q.1.1==p then some (true,p)else some ((q.1.2==p),p))=some (true,p):=by
     cases h2:q.1.1==p with
     |true=>rfl
     |false=>rw[h2,Bool.false_or]at h1;rw[h1];rfl
    rw[this,zaA]
    simp only[cond_true]
    congr 3
    refine Eq.trans (kSS.del_filter hfr q.1) ?_
    unfold lefM
    rw[List.filter_filter]
    refine List.filter_congr fun m hm=>?_
    have hq1:q.1=(q.1.1,q.1.2):=rfl
    by_cases e:m.1=q.1
    ·rw[e,hc2,beq_self_eq_true,h1,kSS.e.2 rfl];simp
    ·rw[hc2,beq_false_of_ne e,kSS.ne e];simp
   |false=>
    refine⟨_,?_,⟨rngD keqM left q.1,rfl⟩,rfl⟩
    have h1':=or_f h1
    rw[h1'.1,cond_false,zaA,h1'.2]
    simp only[cond_false]
    congr 3
    unfold lefM
    refine List.filter_congr fun m hm=>?_
    by_cases e:m.1=q.1
    ·rw[e,h1];simp
    ·rw[hc2,beq_false_of_ne e];simp
  ·congr 1
   unfold lefM
   refine(List.filter_eq_self.2 fun m hm=>?_).symm
   rw[List.contains_iff_mem.2 (List.mem_map.2 ⟨m,hm,rfl⟩)];rfl
 rw[e]
 rfl
end Go.Proofs.YtopanhneegpgcaaGreatDoor.Am
