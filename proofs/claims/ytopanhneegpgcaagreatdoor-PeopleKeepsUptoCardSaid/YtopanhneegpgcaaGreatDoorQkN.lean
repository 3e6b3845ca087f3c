/- Parts of one proof. Conditions: as each theorem says. -/
import Derived.KernelRfl
import Derived.Test.YtopanhneegpgcaaGreatDoorQkM
open Bool renaming and_eq_true->aH,and_false->gM,eq_iff_iff->dX,false_and->fN,false_or->fB,not_eq_true'->bE,not_eq_true->cB,not_false->eO,not_true->aW,or_false->eJ,true_and->cP
open List renaming all_cons->cC,append_assoc->aV,contains_iff_mem->bO,drop_eq_getElem_cons->cG,drop_length->dU,drop_zero->cO,filter_congr->gW,getElem?_eq_getElem->aJ,getElem_cons_succ->iC,length_append->aD,length_cons->aS,length_map->aI,map->cH,map_congr_left->eB,mem_cons->aL,mem_cons_of_mem->aN,mem_cons_self->aO,mem_map->bF,mem_singleton->aZ,takeWhile_cons->gI
open Nat renaming add_sub_cancel->iN,le_refl->aK,le_trans->aY
open Option renaming getD_some->dG,isSome_some->eY,map_some->bA
open Go.Proofs.Tryz renaming prog->aB
namespace Go.Proofs.YtopanhneegpgcaaGreatDoor.Am
open Go Go.RowKit
def τWkD:TE:=[(3,⟨.int .i64,1,[.v (.i .i64) (show Int from 0)],(.i .i64),8⟩),
 (4,⟨.b,1,[.v .b (show Bool from false)],.b,1⟩),
 (9,⟨.s,1,[.v .s (show Bs from [])],.s,16⟩),
 (22,⟨.sl 9,1,[.nils],(.sl .s),24⟩),
 (34,⟨.pt 128,1,[.nilp],.un,8⟩),
 (45,⟨.sl 53,1,[.nils],(.sl (.pr (.i .i64) (.pr (.i .i64) (.pr .s (.pr .s (.pr .b (.pr (.pr .s (.sl .s)) (.pr .s (.pr .s (.pr (.sl .s) (.pr (.sl .s) (.pr .b (.pr .b (.pr .b .b)))))))))))))),24⟩),
 (49,⟨.st [(9,0),(22,1)],2,[.v .s (show Bs from []),.nils],(.pr .s (.sl .s)),40⟩),
 (51,⟨.st [(9,0),(9,1),(22,2),(22,3),(4,4),(4,5),(4,6),(4,7)],8,[.v .s (show Bs from []),.v .s (show Bs from []),.nils,.nils,.v .b (show Bool from false),.v .b (show Bool from false),.v .b (show Bool from false),.v .b (show Bool from false)],(.pr .s (.pr .s (.pr (.sl .s) (.pr (.sl .s) (.pr .b (.pr .b (.pr .b .b))))))),88⟩),
 (53,⟨.st [(3,0),(3,1),(9,2),(9,3),(4,4),(49,5),(51,7)],15,[.v (.i .i64) (show Int from 0),.v (.i .i64) (show Int from 0),.v .s (show Bs from []),.v .s (show Bs from []),.v .b (show Bool from false),.v .s (show Bs from []),.nils,.v .s (show Bs from []),.v .s (show Bs from []),.nils,.nils,.v .b (show Bool from false),.v .b (show Bool from false),.v .b (show Bool from false),.v .b (show Bool from false)],(.pr (.i .i64) (.pr (.i .i64) (.pr .s (.pr .s (.pr .b (.pr (.pr .s (.sl .s)) (.pr .s (.pr .s (.pr (.sl .s) (.pr (.sl .s) (.pr .b (.pr .b (.pr .b .b))))))))))))),184⟩),
 (54,⟨.sl 57,1,[.nils],(.sl (.pr .s (.pr (.sl .s) (.pr (.sl .s) (.pr (.sl .s) (.i .i64)))))),24⟩),
 (57,⟨.st [(9,0),(22,1),(22,2),(22,3),(3,4)],5,[.v .s (show Bs from []),.nils,.nils,.nils,.v (.i .i64) (show Int from 0)],(.pr .s (.pr (.sl .s) (.pr (.sl .s) (.pr (.sl .s) (.i .i64))))),96⟩),
 (64,⟨.sl 51,1,[.nils],(.sl (.pr .s (.pr .s (.pr (.sl .s) (.pr (.sl .s) (.pr .b (.pr .b (.pr .b .b)))))))),24⟩),
 (67,⟨.sl 77,1,[.nils],(.sl (.pr .s (.pr .s (.pr .b (.i .i64))))),24⟩),
 (69,⟨.sl 49,1,[.nils],(.sl (.pr .s (.sl .s))),24⟩),
 (72,⟨.sl 75,1,[.nils],(.sl (.pr .s .s)),24⟩),
 (75,⟨.st [(9,0),(9,1)],2,[.v .s (show Bs from []),.v .s (show Bs from [])],(.pr .s .s),32⟩),
 (77,⟨.st [(9,0),(9,1),(4,2),(3,3)],4,[.v .s (show Bs from []),.v .s (show Bs from []),.v .b (show Bool from false),.v (.i .i64) (show Int from 0)],(.pr .s (.pr .s (.pr .b (.i .i64)))),48⟩),
 (122,⟨.map 9 77,1,[.nilm],(.mp .s (.pr .s (.pr .s (.pr .b (.i .i64))))),8⟩),
 (123,⟨.map 9 133,1,[.nilm],(.mp .s (.pr (.pr (.sl .s) (.pr (.sl .s) (.sl .s))) (.i .i64))),8⟩),
 (124,⟨.map 9 49,1,[.nilm],(.mp .s (.pr .s (.sl .s))),8⟩),
 (125,⟨.map 9 51,1,[.nilm],(.mp .s (.pr .s (.pr .s (.pr (.sl .s) (.pr (.sl .s) (.pr .b (.pr .b (.pr .b .b)))))))),8⟩),
 (126,⟨.map 75 157,1,[.nilm],(.mp (.pr .s .s) .un),8⟩),
 (128,⟨.st [(122,0),(123,1),(124,2),(125,3),(126,4)],5,[.nilm,.nilm,.nilm,.nilm,.nilm],(.pr (.mp .s (.pr .s (.pr .s (.pr .b (.i .i64))))) (.pr (.mp .s (.pr (.pr (.sl .s) (.pr (.sl .s) (.sl .s))) (.i .i64))) (.pr (.mp .s (.pr .s (.sl .s))) (.pr (.mp .s (.pr .s (.pr .s (.pr (.sl .s) (.pr (.sl .s) (.pr .b (.pr .b (.pr .b .b)))))))) (.mp (.pr .s .s) .un))))),40⟩),
 (131,⟨.ar 3 22,3,[.nils,.nils,.nils],(.pr (.sl .s) (.pr (.sl .s) (.sl .s))),72⟩),
 (133,⟨.st [(131,0),(3,3)],4,[.nils,.nils,.nils,.v (.i .i64) (show Int from 0)],(.pr (.pr (.sl .s) (.pr (.sl .s) (.sl .s))) (.i .i64)),80⟩),
 (157,⟨.st [],0,[],.un,0⟩),
 (187,⟨.st [(3,0),(25,1)],2,[.v (.i .i64) (show Int from 0),.nilf],.un,16⟩),
 (188,⟨.ar 3 187,6,[.v (.i .i64) (show Int from 0),.nilf,.v (.i .i64) (show Int from 0),.nilf,.v (.i .i64) (show Int from 0),.nilf],.un,48⟩)]
theorem τ_okWkD:TEok aB τWkD:=yrP (by kernel_rfl) (by kernel_rfl)
theorem mixWkD:Tryz.prog.follows .mixedOrders=true:=by kernel_rfl
theorem zcY {G : List (Nat × Obj)} {o : Ops} [zoW G] [zmE G o] {Γ : CT} {η : HT} {f : FuncId} {fn : Func} {c : SC} (hΓ : ∀ B, GB G B -> CTok aB Γ B) (hf : Tryz.prog.funcs[f]? = some fn) (i : (fn.name == "runtime.NumGoroutine") = false := by kernel_rfl) (j : fn.body.isNone = false := by kernel_rfl) (l : Nat.ble c.I.sl.length fn.ntmps = true := by kernel_rfl) (r : Nat.beq fn.results.toList.length c.nr = true := by kernel_rfl) (e : fnS τWkD Γ η fn c.I c.outs = c.p := by kernel_rfl) : SCok aB G f c := witO (G := G) (o := o) <| xbM mixWkD τ_okWkD hΓ hf (isFn hf i j) l r e
theorem fpcWkD {G : List (Nat × Obj)} {o : Ops} [zoW G] [zmE G o] {Γ : CT} {η : HT} {f : FuncId} {fn : Func} {c : PC} (hΓ : ∀ B, GB G B -> CTok aB Γ B) (hf : Tryz.prog.funcs[f]? = some fn) (i : (fn.name == "runtime.NumGoroutine") = false := by kernel_rfl) (j : fn.body.isNone = false := by kernel_rfl) (l : Nat.ble c.ash.length fn.ntmps = true := by kernel_rfl) (r : c.cl = false := by kernel_rfl) (e : fnP τWkD Γ η fn c.ash c.rts = c.p := by kernel_rfl) : PCok aB G f c := witO (G := G) (o := o) <| xdN mixWkD τ_okWkD hΓ hf (isFn hf i j) l r e
abbrev KWkD0:Type:=Bs×List Bs
abbrev YWkD0:Ty:=.pr .s (.sl .s)
abbrev ymR:Type:=Bs×Bs×Bool×Int
abbrev YWkD1:Ty:=.pr .s (.pr .s (.pr .b (.i .i64)))
abbrev zbO:Type:=Bs×KWkD0
abbrev qcW:Type:=List zbO
abbrev zbK:Type:=Bs×ymR
abbrev qcY:Type:=List zbK
abbrev yyA:Type:=((List Bs)×(List Bs)×List Bs)×Int
abbrev YWkD4:Ty:=.pr (.pr (.sl .s) (.pr (.sl .s) (.sl .s))) (.i .i64)
abbrev zbH:Type:=Bs×yyA
abbrev qcX:Type:=List zbH
abbrev ypI:Type:=Bs×Bs×(List Bs)×(List Bs)×Bool×Bool×Bool×Bool
abbrev xcV:Ty:=.pr .s (.pr .s (.pr (.sl .s) (.pr (.sl .s) (.pr .b (.pr .b (.pr .b .b))))))
abbrev zbM:Type:=Bs×ypI
abbrev qcZ:Type:=List zbM
abbrev KWkD9:Type:=Int×Int×Bs×Bs×Bool×KWkD0×ypI
abbrev YWkD9:Ty:=.pr (.i .i64) (.pr (.i .i64) (.pr .s (.pr .s (.pr .b (.pr YWkD0 xcV)))))
abbrev zcU:Type:=(List (Bs×ymR))×(List (Bs×yyA))×(List (Bs×KWkD0))×(List (Bs×ypI))×List ((Bs×Bs)×Unit)
abbrev yxV:OSh:=.blk 128 [(.mpr 2),(.mpr 3),(.mpr 4),(.mpr 5),(.mpr 6)]
abbrev zbS:OSh:=.blk 128 [(.mpr 1),(.mpr 2),(.mpr 3),(.mpr 4),(.mpr 5)]
abbrev yoQ:OSh:=.blk 128 [(.mpr 3),(.mpr 4),(.mpr 5),(.mpr 6),(.mpr 7)]
abbrev ycC:OSh:=.blk 133 [(.h (.sl .s)),(.h (.sl .s)),(.h (.sl .s)),hI]
abbrev yxC:OSh:=.blk 77 [hS,hS,hB,hI]
abbrev ypQ:OSh:=.blk 34 [(.ptr 2 0)]
abbrev yqZ:OSh:=.blk 34 [(.ptr 3 0)]
abbrev yzD:OSh:=.mp false .s YWkD1
abbrev ysW:OSh:=.mp false .s YWkD4
abbrev zaP:OSh:=.mp true .s YWkD1
abbrev zaT:OSh:=.mp true .s YWkD4
abbrev zaM:OSh:=.mp true .s YWkD0
abbrev zaO:OSh:=.mp true .s xcV
section
variable {tabs:List (Nat×Obj)}[zoW tabs]{o:Ops}[zmE tabs o]
def zgD(_o:Ops)(v0:Bs)(_v1:Bs)(v2:Bool)(v3:Int)(v4:Bs):Option ((Bs×Bs×Bool×Int×Bs)):=
 some (v0,v4,v2,v3,v4)
def zjW(o:Ops):SC:=⟨⟨[(0,(.ptr 0 0)),(1,(.ptr 1 0))],[yxC,.blk 9 [hS]]⟩,0,[(none,⟨[],[yxC,.blk 9 [hS]]⟩)],fun x=>zgD o x.1 x.2.1 x.2.2.1 x.2.2.2.1 x.2.2.2.2⟩
theorem ztB:SCok aB tabs 192 (zjW o):=zcY (o:=o) (η:=[]) (Γ:=⟨[],[],false,[]⟩) (ctok trivial trivial) Tryz.func192
def zjC(_o:Ops)(v2:qcY)(v3:qcX)(v4:qcW)(v5:qcZ)(v6:List ((Bs×Bs)×Unit))(v8:ymR)(v9:(Bs×Bs×Bool×Int×Bs)):Option ((Bs×qcY×qcX×qcW×qcZ×(List ((Bs×Bs)×Unit))×ymR)):=
 let v10:Bool:=(!((v9.1==v8.1)&&((v9.2.1==v8.2.1)&&((v9.2.2.1==v8.2.2.1)&&(decide (v9.2.2.2.1=v8.2.2.2))))))
 bif v10 then some (v9.2.2.2.2,v2,v3,v4,v5,v6,v9.1,v9.2.1,v9.2.2.1,w64 (v9.2.2.2.1+1))else some (v9.2.2.2.2,v2,v3,v4,v5,v6,v9.1,v9.2.1,v9.2.2.1,v9.2.2.2.1)
def zgK(o:Ops)(v0:Bs)(v1:Bs)(v2:qcY)(v3:qcX)(v4:qcW)(v5:qcZ)(v6:List ((Bs×Bs)×Unit)):Option ((Int×Bs×zcU)):=
 (zaN o v0).bind fun v7=>bif(!v7)then some ((120:Int),v1,v2,v3,v4,v5,v6)else(let v8:ymR:=zdW keqS v2 v0 (([]:Bs),([]:Bs),false,(0:Int))
 bif(!(mhas keqS v2 v0))then some ((122:Int),v1,v2,v3,v4,v5,v6)else((zgD o v8.1 v8.2.1 v8.2.2.1 v8.2.2.2 v1).bind fun v9=>(zjC o v2 v3 v4 v5 v6 v8 v9).bind fun v11=>let v12:qcY:=mset keqS kltS v11.2.1 v0 v11.2.2.2.2.2.2
 some ((0:Int),v11.1,v12,v11.2.2.1,v11.2.2.2.1,v11.2.2.2.2.1,v11.2.2.2.2.2.1)))
def zpX(o:Ops):SC:=⟨⟨[(0,(.ptr 0 0)),(1,hS),(2,(.fn 192 [] [(.ptr 1 0)]))],[yxV,.blk 9 [hS],zaP,zaT,zaM,zaO,qaV]⟩,1,[(none,⟨[(0,hI)],[yxV,.blk 9 [hS],yzD,zaT,zaM,zaO,qaV]⟩)],fun x=>zgK o x.1 x.2.1 x.2.2.1 x.2.2.2.1 x.2.2.2.2.1 x.2.2.2.2.2.1 x.2.2.2.2.2.2⟩
theorem zzL:SCok aB tabs 191 (zpX o):=zcY (o:=o) (η:=[(2000010,.join [] [1] [(none,⟨[(0,(.ptr 0 0)),(7,(.ptr 7 0))],[yxV,.blk 9 [hS],zaP,zaT,zaM,zaO,qaV,yxC]⟩)]),
 (4000010,.sch (zpu 0 6++[(.mn,6,[0,1,2,3,4,5,6,7])]))]) (Γ:=⟨[(13,(zbE o))],[(192,(zjW o))],false,[]⟩) (ctok ⟨zbI,trivial⟩ ⟨ztB,trivial⟩) Tryz.func191
def zeH(o:Ops)(v0:Bs)(v1:Bs)(v2:qcY)(v3:qcX)(v4:qcW)(v5:qcZ)(v6:List ((Bs×Bs)×Unit)):Option ((Int×zcU)):=
 (zcK o v1).bind fun v7=>bif(!v7)then some ((120:Int),v2,v3,v4,v5,v6)else((zgK o v0 v1 v2 v3 v4 v5 v6).bind fun v8=>some (v8.1,v8.2.2))
def zmB(o:Ops):SC:=⟨⟨[(0,(.ptr 0 0)),(1,hS),(2,hS)],[zbS,zaP,zaT,zaM,zaO,qaV]⟩,1,[(none,⟨[(0,hI)],[zbS,yzD,zaT,zaM,zaO,qaV]⟩)],fun x=>zeH o x.1 x.2.1 x.2.2.1 x.2.2.2.1 x.2.2.2.2.1 x.2.2.2.2.2.1 x.2.2.2.2.2.2⟩
theorem zvA:SCok aB tabs 92 (zmB o):=zcY (o:=o) (η:=[]) (Γ:=⟨[(15,(zkP o))],[(191,(zpX o))],false,[]⟩) (ctok ⟨zpH,trivial⟩ ⟨zzL,trivial⟩) Tryz.func92
def zeU(_o:Ops)(v0:Bs)(v1:Bs)(_v2:Bool)(v3:Int)(v4:Bool):Option ((Bs×Bs×Bool×Int×Bool)):=
 some (v0,v1,v4,v3,v4)
def ziC(o:Ops):SC:=⟨⟨[(0,(.ptr 0 0)),(1,(.ptr 1 0))],[yxC,.blk 4 [hB]]⟩,0,[(none,⟨[],[yxC,.blk 4 [hB]]⟩)],fun x=>zeU o x.1 x.2.1 x.2.2.1 x.2.2.2.1 x.2.2.2.2⟩
theorem zrN:SCok aB tabs 193 (ziC o):=zcY (o:=o) (η:=[]) (Γ:=⟨[],[],false,[]⟩) (ctok trivial trivial) Tryz.func193
def zhP(_o:Ops)(v2:qcY)(v3:qcX)(v4:qcW)(v5:qcZ)(v6:List ((Bs×Bs)×Unit))(v8:ymR)(v9:(Bs×Bs×Bool×Int×Bool)):Option ((Bool×qcY×qcX×qcW×qcZ×(List ((Bs×Bs)×Unit))×ymR)):=
 let v10:Bool:=(!((v9.1==v8.1)&&((v9.2.1==v8.2.1)&&((v9.2.2.1==v8.2.2.1)&&(decide (v9.2.2.2.1=v8.2.2.2))))))
 bif v10 then some (v9.2.2.2.2,v2,v3,v4,v5,v6,v9.1,v9.2.1,v9.2.2.1,w64 (v9.2.2.2.1+1))else some (v9.2.2.2.2,v2,v3,v4,v5,v6,v9.1,v9.2.1,v9.2.2.1,v9.2.2.2.1)
def zfV(o:Ops)(v0:Bs)(v1:Bool)(v2:qcY)(v3:qcX)(v4:qcW)(v5:qcZ)(v6:List ((Bs×Bs)×Unit)):Option ((Int×Bool×zcU)):=
 (zaN o v0).bind fun v7=>bif(!v7)then some ((120:Int),v1,v2,v3,v4,v5,v6)else(let v8:ymR:=zdW keqS v2 v0 (([]:Bs),([]:Bs),false,(0:Int))
 bif(!(mhas keqS v2 v0))then some ((122:Int),v1,v2,v3,v4,v5,v6)else((zeU o v8.1 v8.2.1 v8.2.2.1 v8.2.2.2 v1).bind fun v9=>(zhP o v2 v3 v4 v5 v6 v8 v9).bind fun v11=>let v12:qcY:=mset keqS kltS v11.2.1 v0 v11.2.2.2.2.2.2
 some ((0:Int),v11.1,v12,v11.2.2.1,v11.2.2.2.1,v11.2.2.2.2.1,v11.2.2.2.2.2.1)))
def zoO(o:Ops):SC:=⟨⟨[(0,(.ptr 0 0)),(1,hS),(2,(.fn 193 [] [(.ptr 1 0)]))],[yxV,.blk 4 [hB],zaP,zaT,zaM,zaO,qaV]⟩,1,[(none,⟨[(0,hI)],[yxV,.blk 4 [hB],yzD,zaT,zaM,zaO,qaV]⟩)],fun x=>zfV o x.1 x.2.1 x.2.2.1 x.2.2.2.1 x.2.2.2.2.1 x.2.2.2.2.2.1 x.2.2.2.2.2.2⟩
theorem zyH:SCok aB tabs 191 (zoO o):=zcY (o:=o) (η:=[(2000010,.join [] [1] [(none,⟨[(0,(.ptr 0 0)),(7,(.ptr 7 0))],[yxV,.blk 4 [hB],zaP,zaT,zaM,zaO,qaV,yxC]⟩)]),
 (4000010,.sch (zpu 0 6++[(.mn,6,[0,1,2,3,4,5,6,7])]))]) (Γ:=⟨[(13,(zbE o))],[(193,(ziC o))],false,[]⟩) (ctok ⟨zbI,trivial⟩ ⟨zrN,trivial⟩) Tryz.func191
def zdD(o:Ops)(v0:Bs)(v1:Bool)(v2:qcY)(v3:qcX)(v4:qcW)(v5:qcZ)(v6:List ((Bs×Bs)×Unit)):Option ((Int×zcU)):=
 (zfV o v0 v1 v2 v3 v4 v5 v6).bind fun v7=>some (v7.1,v7.2.2)
def zjU(o:Ops):SC:=⟨⟨[(0,(.ptr 0 0)),(1,hS),(2,hB)],[zbS,zaP,zaT,zaM,zaO,qaV]⟩,1,[(none,⟨[(0,hI)],[zbS,yzD,zaT,zaM,zaO,qaV]⟩)],fun x=>zdD o x.1 x.2.1 x.2.2.1 x.2.2.2.1 x.2.2.2.2.1 x.2.2.2.2.2.1 x.2.2.2.2.2.2⟩
theorem ztA:SCok aB tabs 93 (zjU o):=zcY (o:=o) (η:=[]) (Γ:=⟨[],[(191,(zoO o))],false,[]⟩) (ctok trivial ⟨zyH,trivial⟩) Tryz.func93
def yzS:SC:=⟨⟨[(0,(.own 0)),(1,(.fn 275 [] [(.ptr 1 0)]))],[.osl .s 9,.blk 9 [hS]]⟩,1,[(none,⟨[(0,(.h (.sl .s)))],[.dead,.blk 9 [hS]]⟩)],fun(x:List Bs×Bs)=>delP x.1 x.2⟩
theorem DelF_sk:SCok aB tabs 274 yzS:=wit (G:=tabs)<|delF275K
def zaX(_o:Ops)(v0:List Bs)(v1:Bs):Option (List Bs):=
 (app ([]:List Bs) v0).bind fun v2=>((fun(xs:List Bs) (s:Bs)=>bif decide (xs.length<1152921504606846976)then some (xs.filter fun x=>!(x==s),s)else none) v2 v1).bind fun v3=>some v3.1
def zcX(o:Ops):PC:=⟨[(.h (.sl .s)),hS],[(.sl .s)],fun x=>zaX o x.1 x.2,false⟩
theorem zeR:PCok aB tabs 206 (zcX o):=fpcWkD (o:=o) (η:=[]) (Γ:=⟨[],[(198,zwI),(274,yzS)],false,[]⟩) (ctok trivial ⟨ztI,⟨DelF_sk,trivial⟩⟩) Tryz.func206
noncomputable def znJ(o:Ops)(v0:Bs)(v6:qcY)(v7:qcX)(v8:qcW)(v9:qcZ)(v10:List ((Bs×Bs)×Unit))(v11:List Bs)(v12:zbH)(v13:yyA):Option ((Bool×qcY×qcX×qcW×qcZ×(List ((Bs×Bs)×Unit))×(List Bs)×(List Bs)×(List Bs)×Int×List Bs)):=
 (zaY o v13.1.1 v0).bind fun v14=>some (v14,v6,v7,v8,v9,v10,v13.1.1,v13.1.2.1,v13.1.2.2,v13.2,rngD keqS v11 v12.1)
noncomputable def znK(o:Ops)(v0:Bs)(v15:Bool×qcY×qcX×qcW×qcZ×(List ((Bs×Bs)×Unit))×(List Bs)×(List Bs)×(List Bs)×Int×List Bs):Option ((qcY×qcX×qcW×qcZ×(List ((Bs×Bs)×Unit))×(List Bs)×(List Bs)×(List Bs)×Int×List Bs)):=
 (zaX o v15.2.2.2.2.2.2.1 v0).bind fun v16=>some (v15.2.1,v15.2.2.1,v15.2.2.2.1,v15.2.2.2.2.1,v15.2.2.2.2.2.1,v16,v15.2.2.2.2.2.2.2)
noncomputable def zmX(o:Ops)(v0:Bs)(v6:qcY)(v7:qcX)(v8:qcW)(v9:qcZ)(v10:List ((Bs×Bs)×Unit))(v11:List Bs):List (Option ((qcY×qcX×qcW×qcZ×(List ((Bs×Bs)×Unit))×List Bs)⊕(zcU))):=
 rngL (rngC keqS v7 v11) (some (.inr (v6,v7,v8,v9,v10))) fun v12=>(mget keqS v7 v12.1).bind fun v13=>(znJ o v0 v6 v7 v8 v9 v10 v11 v12 v13).bind fun v15=>bif v15.1 then((znK o v0 v15).bind fun v17=>(chk (mhas keqS v17.2.1 v12.1)).bind fun _=>let v18:qcX:=mrep keqS v17.2.1 v12.1 ((v17.2.2.2.2.2.1,v17.2.2.2.2.2.2.1,v17.2.2.2.2.2.2.2.1),w64 (v17.2.2.2.2.2.2.2.2.1+1))
 some (.inl (v17.1,v18,v17.2.2.1,v17.2.2.2.1,v17.2.2.2.2.1,v17.2.2.2.2.2.2.2.2.2)))else some (.inl (v15.2.1,v15.2.2.1,v15.2.2.2.1,v15.2.2.2.2.1,v15.2.2.2.2.2.1,v15.2.2.2.2.2.2.2.2.2.2))
noncomputable def zeZ(o:Ops)(v0:Bs)(v1:qcY)(v2:qcX)(v3:qcW)(v4:qcZ)(v5:List ((Bs×Bs)×Unit)):Option (zcU):=
 (rngA (fun x=>zmX o v0 x.1 x.2.1 x.2.2.1 x.2.2.2.1 x.2.2.2.2.1 x.2.2.2.2.2) (v1,v2,v3,v4,v5,cH Prod.fst v2)).bind fun v19=>some v19
noncomputable def znC(o:Ops):SC:=⟨⟨[(0,(.ptr 0 0)),(1,(.kn .i64 0)),(2,hS)],[zbS,zaP,zaT,zaM,zaO,qaV]⟩,0,[(none,⟨[],[zbS,zaP,zaT,zaM,zaO,qaV]⟩)],fun x=>zeZ o x.1 x.2.1 x.2.2.1 x.2.2.2.1 x.2.2.2.2.1 x.2.2.2.2.2⟩
theorem zwF:SCok aB tabs 116 (znC o):=zcY (o:=o) (η:=[(2300004,.join [] [1,2,6] [(none,⟨[(0,(.ptr 0 0)),(7,(.ptr 6 0)),(12,(.ptr 7 0)),(23,hB)],[zbS,zaP,zaT,zaM,zaO,qaV,ycC,.it 2 true .s]⟩)]),
 (2000005,.join [] [1,2,6] [(none,⟨[(0,(.ptr 0 0)),(7,(.ptr 6 0)),(12,(.ptr 7 0))],[zbS,zaP,zaT,zaM,zaO,qaV,ycC,.it 2 true .s]⟩)]),
 (200001,.rng [] ⟨[(0,(.ptr 0 0)),(12,(.ptr 6 0))],[zbS,zaP,zaT,zaM,zaO,qaV,.it 2 true .s]⟩ [1,2] [(some 0,⟨[],[zbS,zaP,zaT,zaM,zaO,qaV]⟩)]),
 (4000006,.sch (zpu 0 6++[(.mn,6,[0,1,2,3,4,5,6,7])]))]) (Γ:=⟨[(131,(zcJ o)),(206,(zcX o))],[],true,[]⟩) (ctok ⟨zdA,⟨zeR,trivial⟩⟩ trivial) Tryz.func116
def zgR(_o:Ops)(v0:Bs×Bs)(_v1:Unit)(v2:Bs):Option ((Bool×Bs)):=
 bif(v0.1==v2)then some (true,v2)else some ((v0.2==v2),v2)
def zkH(o:Ops):SC:=⟨⟨[(0,(.h (.pr .s .s))),(1,(.h .un)),(2,(.ptr 0 0))],[.blk 9 [hS]]⟩,1,[(none,⟨[(0,hB)],[.blk 9 [hS]]⟩)],fun x=>zgR o x.1 x.2.1 x.2.2⟩
theorem ztZ:SCok aB tabs 208 (zkH o):=zcY (o:=o) (η:=[]) (Γ:=⟨[],[],false,[]⟩) (ctok trivial trivial) Tryz.func208
noncomputable def ztN(o:Ops)(v2:List ((Bs×Bs)×Unit))(v3:Bs)(v4:List (Bs×Bs)):List (Option (((List ((Bs×Bs)×Unit))×Bs×List (Bs×Bs))⊕(((List ((Bs×Bs)×Unit))×Bs)))):=
 rngL (rngC (keq (.pr .s .s)) v2 v4) (some (.inr (v2,v3))) fun v5=>(mget (keq (.pr .s .s)) v2 v5.1).bind fun _v6=>(zgR o v5.1 () v3).bind fun v7=>bif v7.1 then some (.inl (mdel (keq (.pr .s .s)) v2 v5.1,v7.2,rngD (keq (.pr .s .s)) v4 v5.1))else some (.inl (v2,v7.2,rngD (keq (.pr .s .s)) v4 v5.1))
noncomputable def zoY(o:Ops)(v0:List ((Bs×Bs)×Unit))(v1:Bs):Option (((List ((Bs×Bs)×Unit))×Bs)):=
 (rngA (fun x=>ztN o x.1 x.2.1 x.2.2) (v0,v1,cH Prod.fst v0)).bind fun v8=>some v8
noncomputable def ztH(o:Ops):SC:=⟨⟨[(0,(.mpr 0)),(1,(.fn 208 [] [(.ptr 1 0)]))],[qaV,.blk 9 [hS]]⟩,0,[(none,⟨[],[qaV,.blk 9 [hS]]⟩)],fun x=>zoY o x.1 x.2⟩
theorem ydE:SCok aB tabs 207 (ztH o):=zcY (o:=o) (η:=[(200001,.rng [] ⟨[(0,(.mpr 0)),(1,(.fn 208 [] [(.ptr 1 0)])),(7,(.ptr 2 0))],[qaV,.blk 9 [hS],.it 0 true (.pr .s .s)]⟩ [] [(some 0,⟨[],[qaV,.blk 9 [hS]]⟩)])]) (Γ:=⟨[],[(208,(zkH o))],false,[]⟩) (ctok trivial ⟨ztZ,trivial⟩) Tryz.func207
noncomputable def zcS(o:Ops)(v0:Bs)(v1:qcY)(v2:qcX)(v3:qcW)(v4:qcZ)(v5:List ((Bs×Bs)×Unit)):Option (zcU):=
 (zoY o v5 v0).bind fun v6=>some (v1,v2,v3,v4,v6.1)
noncomputable def zhH(o:Ops):SC:=⟨⟨[(0,(.ptr 0 0)),(1,hS)],[zbS,zaP,zaT,zaM,zaO,qaV]⟩,0,[(none,⟨[],[zbS,zaP,zaT,zaM,zaO,qaV]⟩)],fun x=>zcS o x.1 x.2.1 x.2.2.1 x.2.2.2.1 x.2.2.2.2.1 x.2.2.2.2.2⟩
theorem zmT:SCok aB tabs 117 (zhH o):=zcY (o:=o) (η:=[]) (Γ:=⟨[],[(207,(ztH o))],false,[]⟩) (ctok trivial ⟨ydE,trivial⟩) Tryz.func117
noncomputable def zfL(o:Ops)(v0:Bs)(v1:qcY)(v2:qcX)(v3:qcW)(v4:qcZ)(v5:List ((Bs×Bs)×Unit)):Option ((Bs×zcU)):=
 (zeZ o v0 v1 v2 v3 v4 v5).bind fun v6=>(app ([117,58]:Bs) v0).bind fun v7=>(zcS o v7 v6.1 v6.2.1 v6.2.2.1 v6.2.2.2.1 v6.2.2.2.2).bind fun v8=>some (v0,v8)
noncomputable def ziP(o:Ops):SC:=⟨⟨[(0,(.ptr 0 0)),(1,(.ptr 1 0))],[ypQ,.blk 9 [hS],yoQ,zaP,zaT,zaM,zaO,qaV]⟩,0,[(none,⟨[],[ypQ,.blk 9 [hS],yoQ,zaP,zaT,zaM,zaO,qaV]⟩)],fun x=>zfL o x.1 x.2.1 x.2.2.1 x.2.2.2.1 x.2.2.2.2.1 x.2.2.2.2.2⟩
theorem zsS:SCok aB tabs 115 (ziP o):=zcY (o:=o) (η:=[]) (Γ:=⟨[],[(116,(znC o)),(117,(zhH o))],false,[]⟩) (ctok trivial ⟨zwF,⟨zmT,trivial⟩⟩) Tryz.func115
noncomputable def zwL(o:Ops)(v0:Bs)(v1:qcY)(v2:Bs)(v3:qcX)(v4:qcW)(v5:qcZ)(v6:List ((Bs×Bs)×Unit)):Option ((Int×qcY×Bs×qcX×qcW×qcZ×List ((Bs×Bs)×Unit))):=
 (zaN o v0).bind fun v7=>bif(!v7)then some ((120:Int),v1,v2,v3,v4,v5,v6)else(let _v8:ymR:=zdW keqS v1 v0 (([]:Bs),([]:Bs),false,(0:Int))
 bif(!(mhas keqS v1 v0))then some ((122:Int),v1,v2,v3,v4,v5,v6)else((zfL o v2 (mdel keqS v1 v0) v3 v4 v5 v6).bind fun v9=>some ((0:Int),v9.2.1,v9.1,v9.2.2)))
noncomputable def ybD(o:Ops):SC:=⟨⟨[(0,(.mpr 0)),(1,hS),(2,(.fn 115 [] [(.ptr 1 0),(.ptr 2 0)]))],[zaP,yqZ,.blk 9 [hS],.blk 128 [(.mpr 0),(.mpr 4),(.mpr 5),(.mpr 6),(.mpr 7)],zaT,zaM,zaO,qaV]⟩,1,[(none,⟨[(0,hI)],[zaP,yqZ,.blk 9 [hS],.blk 128 [(.mpr 0),(.mpr 4),(.mpr 5),(.mpr 6),(.mpr 7)],zaT,zaM,zaO,qaV]⟩)],fun x=>zwL o x.1 x.2.1 x.2.2.1 x.2.2.2.1 x.2.2.2.2.1 x.2.2.2.2.2.1 x.2.2.2.2.2.2⟩
theorem yjI:SCok aB tabs 114 (ybD o):=zcY (o:=o) (η:=[]) (Γ:=⟨[(13,(zbE o))],[(115,(ziP o))],false,[]⟩) (ctok ⟨zbI,trivial⟩ ⟨zsS,trivial⟩) Tryz.func114
noncomputable def zdT(o:Ops)(v0:Bs)(v1:qcY)(v2:qcX)(v3:qcW)(v4:qcZ)(v5:List ((Bs×Bs)×Unit)):Option ((Int×zcU)):=
 (zwL o v0 v1 v0 v2 v3 v4 v5).bind fun v6=>some (v6.1,v6.2.1,v6.2.2.2)
noncomputable def zkI(o:Ops):SC:=⟨⟨[(0,(.ptr 0 0)),(1,hS)],[zbS,zaP,zaT,zaM,zaO,qaV]⟩,1,[(none,⟨[(0,hI)],[zbS,zaP,zaT,zaM,zaO,qaV]⟩)],fun x=>zdT o x.1 x.2.1 x.2.2.1 x.2.2.2.1 x.2.2.2.2.1 x.2.2.2.2.2⟩
theorem zuP:SCok aB tabs 41 (zkI o):=zcY (o:=o) (η:=[(4000001,.sch (zpu 0 6++[(.mn,6,[0,1,2,3,4,5,6,7]),(.pu,7,[])]))]) (Γ:=⟨[],[(114,(ybD o))],false,[]⟩) (ctok trivial ⟨yjI,trivial⟩) Tryz.func41
noncomputable def zlS(o:Ops)(v0:Bs)(v6:qcY)(v7:qcX)(v8:qcW)(v9:qcZ)(v10:List ((Bs×Bs)×Unit))(v11:List Bs)(v12:zbH)(v13:yyA):Option ((Bool×qcY×qcX×qcW×qcZ×(List ((Bs×Bs)×Unit))×(List Bs)×(List Bs)×(List Bs)×Int×List Bs)):=
 (zaY o v13.1.2.1 v0).bind fun v14=>some (v14,v6,v7,v8,v9,v10,v13.1.1,v13.1.2.1,v13.1.2.2,v13.2,rngD keqS v11 v12.1)
noncomputable def zmC(o:Ops)(v0:Bs)(v15:Bool×qcY×qcX×qcW×qcZ×(List ((Bs×Bs)×Unit))×(List Bs)×(List Bs)×(List Bs)×Int×List Bs):Option ((qcY×qcX×qcW×qcZ×(List ((Bs×Bs)×Unit))×(List Bs)×(List Bs)×(List Bs)×Int×List Bs)):=
 (zaX o v15.2.2.2.2.2.2.2.1 v0).bind fun v16=>some (v15.2.1,v15.2.2.1,v15.2.2.2.1,v15.2.2.2.2.1,v15.2.2.2.2.2.1,v15.2.2.2.2.2.2.1,v16,v15.2.2.2.2.2.2.2.2)
noncomputable def zlX(o:Ops)(v0:Bs)(v6:qcY)(v7:qcX)(v8:qcW)(v9:qcZ)(v10:List ((Bs×Bs)×Unit))(v11:List Bs):List (Option ((qcY×qcX×qcW×qcZ×(List ((Bs×Bs)×Unit))×List Bs)⊕(zcU))):=
 rngL (rngC keqS v7 v11) (some (.inr (v6,v7,v8,v9,v10))) fun v12=>(mget keqS v7 v12.1).bind fun v13=>(zlS o v0 v6 v7 v8 v9 v10 v11 v12 v13).bind fun v15=>bif v15.1 then((zmC o v0 v15).bind fun v17=>(chk (mhas keqS v17.2.1 v12.1)).bind fun _=>let v18:qcX:=mrep keqS v17.2.1 v12.1 ((v17.2.2.2.2.2.1,v17.2.2.2.2.2.2.1,v17.2.2.2.2.2.2.2.1),w64 (v17.2.2.2.2.2.2.2.2.1+1))
 some (.inl (v17.1,v18,v17.2.2.1,v17.2.2.2.1,v17.2.2.2.2.1,v17.2.2.2.2.2.2.2.2.2)))else some (.inl (v15.2.1,v15.2.2.1,v15.2.2.2.1,v15.2.2.2.2.1,v15.2.2.2.2.2.1,v15.2.2.2.2.2.2.2.2.2.2))
noncomputable def zeP(o:Ops)(v0:Bs)(v1:qcY)(v2:qcX)(v3:qcW)(v4:qcZ)(v5:List ((Bs×Bs)×Unit)):Option (zcU):=
 (rngA (fun x=>zlX o v0 x.1 x.2.1 x.2.2.1 x.2.2.2.1 x.2.2.2.2.1 x.2.2.2.2.2) (v1,v2,v3,v4,v5,cH Prod.fst v2)).bind fun v19=>some v19
noncomputable def zlD(o:Ops):SC:=⟨⟨[(0,(.ptr 0 0)),(1,(.kn .i64 1)),(2,hS)],[zbS,zaP,zaT,zaM,zaO,qaV]⟩,0,[(none,⟨[],[zbS,zaP,zaT,zaM,zaO,qaV]⟩)],fun x=>zeP o x.1 x.2.1 x.2.2.1 x.2.2.2.1 x.2.2.2.2.1 x.2.2.2.2.2⟩
theorem zuW:SCok aB tabs 116 (zlD o):=zcY (o:=o) (η:=[(2300004,.join [] [1,2,6] [(none,⟨[(0,(.ptr 0 0)),(7,(.ptr 6 0)),(12,(.ptr 7 0)),(23,hB)],[zbS,zaP,zaT,zaM,zaO,qaV,ycC,.it 2 true .s]⟩)]),
 (2000005,.join [] [1,2,6] [(none,⟨[(0,(.ptr 0 0)),(7,(.ptr 6 0)),(12,(.ptr 7 0))],[zbS,zaP,zaT,zaM,zaO,qaV,ycC,.it 2 true .s]⟩)]),
 (200001,.rng [] ⟨[(0,(.ptr 0 0)),(12,(.ptr 6 0))],[zbS,zaP,zaT,zaM,zaO,qaV,.it 2 true .s]⟩ [1,2] [(some 0,⟨[],[zbS,zaP,zaT,zaM,zaO,qaV]⟩)]),
 (4000006,.sch (zpu 0 6++[(.mn,6,[0,1,2,3,4,5,6,7])]))]) (Γ:=⟨[(131,(zcJ o)),(206,(zcX o))],[],true,[]⟩) (ctok ⟨zdA,⟨zeR,trivial⟩⟩ trivial) Tryz.func116
noncomputable def zeX(o:Ops)(v0:Bs)(v1:qcY)(v2:qcX)(v3:qcW)(v4:qcZ)(v5:List ((Bs×Bs)×Unit)):Option ((Bs×zcU)):=
 (zeP o v0 v1 v2 v3 v4 v5).bind fun v6=>some (v0,v6)
noncomputable def ziA(o:Ops):SC:=⟨⟨[(0,(.ptr 0 0)),(1,(.ptr 1 0))],[ypQ,.blk 9 [hS],yoQ,zaP,zaT,zaM,zaO,qaV]⟩,0,[(none,⟨[],[ypQ,.blk 9 [hS],yoQ,zaP,zaT,zaM,zaO,qaV]⟩)],fun x=>zeX o x.1 x.2.1 x.2.2.1 x.2.2.2.1 x.2.2.2.2.1 x.2.2.2.2.2⟩
theorem zrU:SCok aB tabs 119 (ziA o):=zcY (o:=o) (η:=[]) (Γ:=⟨[],[(116,(zlD o))],false,[]⟩) (ctok trivial ⟨zuW,trivial⟩) Tryz.func119
noncomputable def zuN(o:Ops)(v0:Bs)(v1:qcX)(v2:Bs)(v3:qcY)(v4:qcW)(v5:qcZ)(v6:List ((Bs×Bs)×Unit)):Option ((Int×qcX×Bs×qcY×qcW×qcZ×List ((Bs×Bs)×Unit))):=
 (zaN o v0).bind fun v7=>bif(!v7)then some ((120:Int),v1,v2,v3,v4,v5,v6)else(let _v8:yyA:=zdW keqS v1 v0 ((([]:List Bs),([]:List Bs),([]:List Bs)),(0:Int))
 bif(!(mhas keqS v1 v0))then some ((122:Int),v1,v2,v3,v4,v5,v6)else((zeX o v2 v3 (mdel keqS v1 v0) v4 v5 v6).bind fun v9=>some ((0:Int),v9.2.2.1,v9.1,v9.2.1,v9.2.2.2)))
noncomputable def zzU(o:Ops):SC:=⟨⟨[(0,(.mpr 0)),(1,hS),(2,(.fn 119 [] [(.ptr 1 0),(.ptr 2 0)]))],[zaT,yqZ,.blk 9 [hS],.blk 128 [(.mpr 4),(.mpr 0),(.mpr 5),(.mpr 6),(.mpr 7)],zaP,zaM,zaO,qaV]⟩,1,[(none,⟨[(0,hI)],[zaT,yqZ,.blk 9 [hS],.blk 128 [(.mpr 4),(.mpr 0),(.mpr 5),(.mpr 6),(.mpr 7)],zaP,zaM,zaO,qaV]⟩)],fun x=>zuN o x.1 x.2.1 x.2.2.1 x.2.2.2.1 x.2.2.2.2.1 x.2.2.2.2.2.1 x.2.2.2.2.2.2⟩
theorem yiN:SCok aB tabs 118 (zzU o):=zcY (o:=o) (η:=[]) (Γ:=⟨[(13,(zbE o))],[(119,(ziA o))],false,[]⟩) (ctok ⟨zbI,trivial⟩ ⟨zrU,trivial⟩) Tryz.func118
noncomputable def zdB(o:Ops)(v0:Bs)(v1:qcY)(v2:qcX)(v3:qcW)(v4:qcZ)(v5:List ((Bs×Bs)×Unit)):Option ((Int×zcU)):=
 (zuN o v0 v2 v0 v1 v3 v4 v5).bind fun v6=>some (v6.1,v6.2.2.2.1,v6.2.1,v6.2.2.2.2)
noncomputable def zjZ(o:Ops):SC:=⟨⟨[(0,(.ptr 0 0)),(1,hS)],[zbS,zaP,zaT,zaM,zaO,qaV]⟩,1,[(none,⟨[(0,hI)],[zbS,zaP,zaT,zaM,zaO,qaV]⟩)],fun x=>zdB o x.1 x.2.1 x.2.2.1 x.2.2.2.1 x.2.2.2.2.1 x.2.2.2.2.2⟩
theorem ztF:SCok aB tabs 42 (zjZ o):=zcY (o:=o) (η:=[(4000001,.sch (zpu 0 6++[(.mn,6,[0,1,2,3,4,5,6,7]),(.pu,7,[])]))]) (Γ:=⟨[],[(118,(zzU o))],false,[]⟩) (ctok trivial ⟨yiN,trivial⟩) Tryz.func42
def znQ(o:Ops)(v0:Bs)(v1:Bs)(v2:qcY)(v3:qcX)(v4:qcW)(v5:qcZ)(v6:List ((Bs×Bs)×Unit)):Option ((Int×qcY×qcX×qcW×qcZ×(List ((Bs×Bs)×Unit))×(List Bs)×(List Bs)×(List Bs)×Int)):=
 (zaQ o v2 v3 v4 v5 v6).bind fun v7=>(zdE o v0 v1 v7.1 v7.2.1 v7.2.2.1 v7.2.2.2.1 v7.2.2.2.2).bind fun v8=>some (v8.2.1,v8.2.2.1,v8.2.2.2.1,v8.2.2.2.2.1,v8.2.2.2.2.2.1,v8.2.2.2.2.2.2,v8.1.1.1,v8.1.1.2.1,v8.1.1.2.2,v8.1.2)
def zoG(o:Ops)(v1:Bs)(v9:Int×qcY×qcX×qcW×qcZ×(List ((Bs×Bs)×Unit))×(List Bs)×(List Bs)×(List Bs)×Int):Option ((Int×zcU)⊕(qcY×qcX×qcW×qcZ×(List ((Bs×Bs)×Unit))×(List Bs)×(List Bs)×(List Bs)×Int)):=
 bif(v9.1 != 0)then some (.inl (v9.1,v9.2.1,v9.2.2.1,v9.2.2.2.1,v9.2.2.2.2.1,v9.2.2.2.2.2.1))else((zaY o v9.2.2.2.2.2.2.1 v1).bind fun v10=>bif(!v10)then some (.inl ((122:Int),v9.2.1,v9.2.2.1,v9.2.2.2.1,v9.2.2.2.2.1,v9.2.2.2.2.2.1))else some (.inr v9.2))
def zoS(o:Ops)(v1:Bs)(v13:qcY×qcX×qcW×qcZ×(List ((Bs×Bs)×Unit))×(List Bs)×(List Bs)×(List Bs)×Int):Option ((qcY×qcX×qcW×qcZ×(List ((Bs×Bs)×Unit))×(List Bs)×(List Bs)×(List Bs)×Int)):=
 (zaX o v13.2.2.2.2.2.1 v1).bind fun v14=>some (v13.1,v13.2.1,v13.2.2.1,v13.2.2.2.1,v13.2.2.2.2.1,v14,v13.2.2.2.2.2.2)
def zfW(o:Ops)(v0:Bs)(v1:Bs)(v2:qcY)(v3:qcX)(v4:qcW)(v5:qcZ)(v6:List ((Bs×Bs)×Unit)):Option ((Int×zcU)):=
 (znQ o v0 v1 v2 v3 v4 v5 v6).bind fun v9=>(zoG o v1 v9).bind fun v11=>match v11 with
 |.inl v12=>some v12|.inr v13=>((zoS o v1 v13).bind fun v15=>let v16:qcX:=mset keqS kltS v15.2.1 v0 ((v15.2.2.2.2.2.1,v15.2.2.2.2.2.2.1,v15.2.2.2.2.2.2.2.1),w64 (v15.2.2.2.2.2.2.2.2+1))
 some ((0:Int),v15.1,v16,v15.2.2.1,v15.2.2.2.1,v15.2.2.2.2.1))
def znR(o:Ops):SC:=⟨⟨[(0,(.ptr 0 0)),(1,hS),(2,(.kn .i64 0)),(3,hS)],[zbS,zaP,zaT,zaM,zaO,qaV]⟩,1,[(none,⟨[(0,hI)],[zbS,zaP,ysW,zaM,zaO,qaV]⟩)],fun x=>zfW o x.1 x.2.1 x.2.2.1 x.2.2.2.1 x.2.2.2.2.1 x.2.2.2.2.2.1 x.2.2.2.2.2.2⟩
theorem zxT:SCok aB tabs 194 (znR o):=zcY (o:=o) (η:=[(2100000,.join [] [1,2,3] [(none,⟨[(0,(.ptr 0 0)),(9,(.ptr 6 0)),(10,hI)],[zbS,zaP,zaT,zaM,zaO,qaV,ycC]⟩)]),
 (2000006,.join [] [1,2,3] [(some 1000000,⟨[(8,hI)],[zbS,zaP,zaT,zaM,zaO,qaV]⟩),(none,⟨[(0,(.ptr 0 0)),(9,(.ptr 6 0))],[zbS,zaP,zaT,zaM,zaO,qaV,ycC]⟩)]),
 (2000007,.join [] [1] [(none,⟨[(0,(.ptr 0 0)),(9,(.ptr 6 0))],[zbS,zaP,zaT,zaM,zaO,qaV,ycC]⟩)]),
 (4000008,.sch (zpu 0 6++[(.mn,6,[0,1,2,3,4,5,6])]))]) (Γ:=⟨[(131,(zcJ o)),(206,(zcX o))],[(173,(zbJ o)),(199,(zhV o))],false,[]⟩) (ctok ⟨zdA,⟨zeR,trivial⟩⟩ ⟨zbQ,⟨znT,trivial⟩⟩) Tryz.func194
def ziG(o:Ops)(v0:Bs)(v1:Bs)(v2:qcY)(v3:qcX)(v4:qcW)(v5:qcZ)(v6:List ((Bs×Bs)×Unit)):Option ((Int×zcU)):=
 (zfW o v0 v1 v2 v3 v4 v5 v6).bind fun v7=>some v7
def znZ(o:Ops):SC:=⟨⟨[(0,(.ptr 0 0)),(1,hS),(2,hS)],[zbS,zaP,zaT,zaM,zaO,qaV]⟩,1,[(none,⟨[(0,hI)],[zbS,zaP,ysW,zaM,zaO,qaV]⟩)],fun x=>ziG o x.1 x.2.1 x.2.2.1 x.2.2.2.1 x.2.2.2.2.1 x.2.2.2.2.2.1 x.2.2.2.2.2.2⟩
theorem zyC:SCok aB tabs 94 (znZ o):=zcY (o:=o) (η:=[]) (Γ:=⟨[],[(194,(znR o))],false,[]⟩) (ctok trivial ⟨zxT,trivial⟩) Tryz.func94
def zmZ(o:Ops)(v0:Bs)(v1:Bs)(v2:qcY)(v3:qcX)(v4:qcW)(v5:qcZ)(v6:List ((Bs×Bs)×Unit)):Option ((Int×qcY×qcX×qcW×qcZ×(List ((Bs×Bs)×Unit))×(List Bs)×(List Bs)×(List Bs)×Int)):=
 (zaQ o v2 v3 v4 v5 v6).bind fun v7=>(zeC o v0 v1 v7.1 v7.2.1 v7.2.2.1 v7.2.2.2.1 v7.2.2.2.2).bind fun v8=>some (v8.2.1,v8.2.2.1,v8.2.2.2.1,v8.2.2.2.2.1,v8.2.2.2.2.2.1,v8.2.2.2.2.2.2,v8.1.1.1,v8.1.1.2.1,v8.1.1.2.2,v8.1.2)
def znH(o:Ops)(v1:Bs)(v9:Int×qcY×qcX×qcW×qcZ×(List ((Bs×Bs)×Unit))×(List Bs)×(List Bs)×(List Bs)×Int):Option ((Int×zcU)⊕(qcY×qcX×qcW×qcZ×(List ((Bs×Bs)×Unit))×(List Bs)×(List Bs)×(List Bs)×Int)):=
 bif(v9.1 != 0)then some (.inl (v9.1,v9.2.1,v9.2.2.1,v9.2.2.2.1,v9.2.2.2.2.1,v9.2.2.2.2.2.1))else((zaY o v9.2.2.2.2.2.2.2.1 v1).bind fun v10=>bif(!v10)then some (.inl ((122:Int),v9.2.1,v9.2.2.1,v9.2.2.2.1,v9.2.2.2.2.1,v9.2.2.2.2.2.1))else some (.inr v9.2))
def zmY(o:Ops)(v1:Bs)(v13:qcY×qcX×qcW×qcZ×(List ((Bs×Bs)×Unit))×(List Bs)×(List Bs)×(List Bs)×Int):Option ((qcY×qcX×qcW×qcZ×(List ((Bs×Bs)×Unit))×(List Bs)×(List Bs)×(List Bs)×Int)):=
 (zaX o v13.2.2.2.2.2.2.1 v1).bind fun v14=>some (v13.1,v13.2.1,v13.2.2.1,v13.2.2.2.1,v13.2.2.2.2.1,v13.2.2.2.2.2.1,v14,v13.2.2.2.2.2.2.2)
def zeY(o:Ops)(v0:Bs)(v1:Bs)(v2:qcY)(v3:qcX)(v4:qcW)(v5:qcZ)(v6:List ((Bs×Bs)×Unit)):Option ((Int×zcU)):=
 (zmZ o v0 v1 v2 v3 v4 v5 v6).bind fun v9=>(znH o v1 v9).bind fun v11=>match v11 with
 |.inl v12=>some v12|.inr v13=>((zmY o v1 v13).bind fun v15=>let v16:qcX:=mset keqS kltS v15.2.1 v0 ((v15.2.2.2.2.2.1,v15.2.2.2.2.2.2.1,v15.2.2.2.2.2.2.2.1),w64 (v15.2.2.2.2.2.2.2.2+1))
 some ((0:Int),v15.1,v16,v15.2.2.1,v15.2.2.2.1,v15.2.2.2.2.1))
def znI(o:Ops):SC:=⟨⟨[(0,(.ptr 0 0)),(1,hS),(2,(.kn .i64 1)),(3,hS)],[zbS,zaP,zaT,zaM,zaO,qaV]⟩,1,[(none,⟨[(0,hI)],[zbS,zaP,ysW,zaM,zaO,qaV]⟩)],fun x=>zeY o x.1 x.2.1 x.2.2.1 x.2.2.2.1 x.2.2.2.2.1 x.2.2.2.2.2.1 x.2.2.2.2.2.2⟩
theorem zwW:SCok aB tabs 194 (znI o):=zcY (o:=o) (η:=[(2100000,.join [] [1,2,3] [(none,⟨[(0,(.ptr 0 0)),(9,(.ptr 6 0)),(10,hI)],[zbS,zaP,zaT,zaM,zaO,qaV,ycC]⟩)]),
 (2000006,.join [] [1,2,3] [(some 1000000,⟨[(8,hI)],[zbS,zaP,zaT,zaM,zaO,qaV]⟩),(none,⟨[(0,(.ptr 0 0)),(9,(.ptr 6 0))],[zbS,zaP,zaT,zaM,zaO,qaV,ycC]⟩)]),
 (2000007,.join [] [1] [(none,⟨[(0,(.ptr 0 0)),(9,(.ptr 6 0))],[zbS,zaP,zaT,zaM,zaO,qaV,ycC]⟩)]),
 (4000008,.sch (zpu 0 6++[(.mn,6,[0,1,2,3,4,5,6])]))]) (Γ:=⟨[(131,(zcJ o)),(206,(zcX o))],[(173,(zbJ o)),(199,(ziV o))],false,[]⟩) (ctok ⟨zdA,⟨zeR,trivial⟩⟩ ⟨zbQ,⟨zpO,trivial⟩⟩) Tryz.func194
def zhY(o:Ops)(v0:Bs)(v1:Bs)(v2:qcY)(v3:qcX)(v4:qcW)(v5:qcZ)(v6:List ((Bs×Bs)×Unit)):Option ((Int×zcU)):=
 (zeY o v0 v1 v2 v3 v4 v5 v6).bind fun v7=>some v7
def znE(o:Ops):SC:=⟨⟨[(0,(.ptr 0 0)),(1,hS),(2,hS)],[zbS,zaP,zaT,zaM,zaO,qaV]⟩,1,[(none,⟨[(0,hI)],[zbS,zaP,ysW,zaM,zaO,qaV]⟩)],fun x=>zhY o x.1 x.2.1 x.2.2.1 x.2.2.2.1 x.2.2.2.2.1 x.2.2.2.2.2.1 x.2.2.2.2.2.2⟩
theorem zwU:SCok aB tabs 95 (znE o):=zcY (o:=o) (η:=[]) (Γ:=⟨[],[(194,(znI o))],false,[]⟩) (ctok trivial ⟨zwW,trivial⟩) Tryz.func95
def zmP(o:Ops)(v0:Bs)(v1:Bs)(v2:qcY)(v3:qcX)(v4:qcW)(v5:qcZ)(v6:List ((Bs×Bs)×Unit)):Option ((Int×qcY×qcX×qcW×qcZ×(List ((Bs×Bs)×Unit))×(List Bs)×(List Bs)×(List Bs)×Int)):=
 (zaQ o v2 v3 v4 v5 v6).bind fun v7=>(zdI o v0 v1 v7.1 v7.2.1 v7.2.2.1 v7.2.2.2.1 v7.2.2.2.2).bind fun v8=>some (v8.2.1,v8.2.2.1,v8.2.2.2.1,v8.2.2.2.2.1,v8.2.2.2.2.2.1,v8.2.2.2.2.2.2,v8.1.1.1,v8.1.1.2.1,v8.1.1.2.2,v8.1.2)
def znA(o:Ops)(v1:Bs)(v9:Int×qcY×qcX×qcW×qcZ×(List ((Bs×Bs)×Unit))×(List Bs)×(List Bs)×(List Bs)×Int):Option ((Int×zcU)⊕(qcY×qcX×qcW×qcZ×(List ((Bs×Bs)×Unit))×(List Bs)×(List Bs)×(List Bs)×Int)):=
 bif(v9.1 != 0)then some (.inl (v9.1,v9.2.1,v9.2.2.1,v9.2.2.2.1,v9.2.2.2.2.1,v9.2.2.2.2.2.1))else((zaY o v9.2.2.2.2.2.2.2.2.1 v1).bind fun v10=>bif(!v10)then some (.inl ((122:Int),v9.2.1,v9.2.2.1,v9.2.2.2.1,v9.2.2.2.2.1,v9.2.2.2.2.2.1))else some (.inr v9.2))
def zmK(o:Ops)(v1:Bs)(v13:qcY×qcX×qcW×qcZ×(List ((Bs×Bs)×Unit))×(List Bs)×(List Bs)×(List Bs)×Int):Option ((qcY×qcX×qcW×qcZ×(List ((Bs×Bs)×Unit))×(List Bs)×(List Bs)×(List Bs)×Int)):=
 (zaX o v13.2.2.2.2.2.2.2.1 v1).bind fun v14=>some (v13.1,v13.2.1,v13.2.2.1,v13.2.2.2.1,v13.2.2.2.2.1,v13.2.2.2.2.2.1,v13.2.2.2.2.2.2.1,v14,v13.2.2.2.2.2.2.2.2)
def zfB(o:Ops)(v0:Bs)(v1:Bs)(v2:qcY)(v3:qcX)(v4:qcW)(v5:qcZ)(v6:List ((Bs×Bs)×Unit)):Option ((Int×zcU)):=
 (zmP o v0 v1 v2 v3 v4 v5 v6).bind fun v9=>(znA o v1 v9).bind fun v11=>match v11 with
 |.inl v12=>some v12|.inr v13=>((zmK o v1 v13).bind fun v15=>let v16:qcX:=mset keqS kltS v15.2.1 v0 ((v15.2.2.2.2.2.1,v15.2.2.2.2.2.2.1,v15.2.2.2.2.2.2.2.1),w64 (v15.2.2.2.2.2.2.2.2+1))
 some ((0:Int),v15.1,v16,v15.2.2.1,v15.2.2.2.1,v15.2.2.2.2.1))
def zmL(o:Ops):SC:=⟨⟨[(0,(.ptr 0 0)),(1,hS),(2,(.kn .i64 2)),(3,hS)],[zbS,zaP,zaT,zaM,zaO,qaV]⟩,1,[(none,⟨[(0,hI)],[zbS,zaP,ysW,zaM,zaO,qaV]⟩)],fun x=>zfB o x.1 x.2.1 x.2.2.1 x.2.2.2.1 x.2.2.2.2.1 x.2.2.2.2.2.1 x.2.2.2.2.2.2⟩
theorem zwA:SCok aB tabs 194 (zmL o):=zcY (o:=o) (η:=[(2100000,.join [] [1,2,3] [(none,⟨[(0,(.ptr 0 0)),(9,(.ptr 6 0)),(10,hI)],[zbS,zaP,zaT,zaM,zaO,qaV,ycC]⟩)]),
 (2000006,.join [] [1,2,3] [(some 1000000,⟨[(8,hI)],[zbS,zaP,zaT,zaM,zaO,qaV]⟩),(none,⟨[(0,(.ptr 0 0)),(9,(.ptr 6 0))],[zbS,zaP,zaT,zaM,zaO,qaV,ycC]⟩)]),
 (2000007,.join [] [1] [(none,⟨[(0,(.ptr 0 0)),(9,(.ptr 6 0))],[zbS,zaP,zaT,zaM,zaO,qaV,ycC]⟩)]),
 (4000008,.sch (zpu 0 6++[(.mn,6,[0,1,2,3,4,5,6])]))]) (Γ:=⟨[(131,(zcJ o)),(206,(zcX o))],[(173,(zbJ o)),(199,(zhS o))],false,[]⟩) (ctok ⟨zdA,⟨zeR,trivial⟩⟩ ⟨zbQ,⟨zoC,trivial⟩⟩) Tryz.func194
def zkC(o:Ops)(v0:Bs)(v1:Bs)(v2:qcY)(v3:qcX)(v4:qcW)(v5:qcZ)(v6:List ((Bs×Bs)×Unit)):Option ((Int×zcU)):=
 (zfB o v0 v1 v2 v3 v4 v5 v6).bind fun v7=>some v7
def zpV(o:Ops):SC:=⟨⟨[(0,(.ptr 0 0)),(1,hS),(2,hS)],[zbS,zaP,zaT,zaM,zaO,qaV]⟩,1,[(none,⟨[(0,hI)],[zbS,zaP,ysW,zaM,zaO,qaV]⟩)],fun x=>zkC o x.1 x.2.1 x.2.2.1 x.2.2.2.1 x.2.2.2.2.1 x.2.2.2.2.2.1 x.2.2.2.2.2.2⟩
theorem zzM:SCok aB tabs 96 (zpV o):=zcY (o:=o) (η:=[]) (Γ:=⟨[],[(194,(zmL o))],false,[]⟩) (ctok trivial ⟨zwA,trivial⟩) Tryz.func96
noncomputable def zlG(o:Ops)(v0:Bs)(v6:qcY)(v7:qcX)(v8:qcW)(v9:qcZ)(v10:List ((Bs×Bs)×Unit))(v11:List Bs)(v12:zbH)(v13:yyA):Option ((Bool×qcY×qcX×qcW×qcZ×(List ((Bs×Bs)×Unit))×(List Bs)×(List Bs)×(List Bs)×Int×List Bs)):=
 (zaY o v13.1.2.2 v0).bind fun v14=>some (v14,v6,v7,v8,v9,v10,v13.1.1,v13.1.2.1,v13.1.2.2,v13.2,rngD keqS v11 v12.1)
noncomputable def zlZ(o:Ops)(v0:Bs)(v15:Bool×qcY×qcX×qcW×qcZ×(List ((Bs×Bs)×Unit))×(List Bs)×(List Bs)×(List Bs)×Int×List Bs):Option ((qcY×qcX×qcW×qcZ×(List ((Bs×Bs)×Unit))×(List Bs)×(List Bs)×(List Bs)×Int×List Bs)):=
 (zaX o v15.2.2.2.2.2.2.2.2.1 v0).bind fun v16=>some (v15.2.1,v15.2.2.1,v15.2.2.2.1,v15.2.2.2.2.1,v15.2.2.2.2.2.1,v15.2.2.2.2.2.2.1,v15.2.2.2.2.2.2.2.1,v16,v15.2.2.2.2.2.2.2.2.2)
noncomputable def zlP(o:Ops)(v0:Bs)(v6:qcY)(v7:qcX)(v8:qcW)(v9:qcZ)(v10:List ((Bs×Bs)×Unit))(v11:List Bs):List (Option ((qcY×qcX×qcW×qcZ×(List ((Bs×Bs)×Unit))×List Bs)⊕(zcU))):=
 rngL (rngC keqS v7 v11) (some (.inr (v6,v7,v8,v9,v10))) fun v12=>(mget keqS v7 v12.1).bind fun v13=>(zlG o v0 v6 v7 v8 v9 v10 v11 v12 v13).bind fun v15=>bif v15.1 then((zlZ o v0 v15).bind fun v17=>(chk (mhas keqS v17.2.1 v12.1)).bind fun _=>let v18:qcX:=mrep keqS v17.2.1 v12.1 ((v17.2.2.2.2.2.1,v17.2.2.2.2.2.2.1,v17.2.2.2.2.2.2.2.1),w64 (v17.2.2.2.2.2.2.2.2.1+1))
 some (.inl (v17.1,v18,v17.2.2.1,v17.2.2.2.1,v17.2.2.2.2.1,v17.2.2.2.2.2.2.2.2.2)))else some (.inl (v15.2.1,v15.2.2.1,v15.2.2.2.1,v15.2.2.2.2.1,v15.2.2.2.2.2.1,v15.2.2.2.2.2.2.2.2.2.2))
noncomputable def zeO(o:Ops)(v0:Bs)(v1:qcY)(v2:qcX)(v3:qcW)(v4:qcZ)(v5:List ((Bs×Bs)×Unit)):Option (zcU):=
 (rngA (fun x=>zlP o v0 x.1 x.2.1 x.2.2.1 x.2.2.2.1 x.2.2.2.2.1 x.2.2.2.2.2) (v1,v2,v3,v4,v5,cH Prod.fst v2)).bind fun v19=>some v19
noncomputable def zlR(o:Ops):SC:=⟨⟨[(0,(.ptr 0 0)),(1,(.kn .i64 2)),(2,hS)],[zbS,zaP,zaT,zaM,zaO,qaV]⟩,0,[(none,⟨[],[zbS,zaP,zaT,zaM,zaO,qaV]⟩)],fun x=>zeO o x.1 x.2.1 x.2.2.1 x.2.2.2.1 x.2.2.2.2.1 x.2.2.2.2.2⟩
theorem zvU:SCok aB tabs 116 (zlR o):=zcY (o:=o) (η:=[(2300004,.join [] [1,2,6] [(none,⟨[(0,(.ptr 0 0)),(7,(.ptr 6 0)),(12,(.ptr 7 0)),(23,hB)],[zbS,zaP,zaT,zaM,zaO,qaV,ycC,.it 2 true .s]⟩)]),
 (2000005,.join [] [1,2,6] [(none,⟨[(0,(.ptr 0 0)),(7,(.ptr 6 0)),(12,(.ptr 7 0))],[zbS,zaP,zaT,zaM,zaO,qaV,ycC,.it 2 true .s]⟩)]),
 (200001,.rng [] ⟨[(0,(.ptr 0 0)),(12,(.ptr 6 0))],[zbS,zaP,zaT,zaM,zaO,qaV,.it 2 true .s]⟩ [1,2] [(some 0,⟨[],[zbS,zaP,zaT,zaM,zaO,qaV]⟩)]),
 (4000006,.sch (zpu 0 6++[(.mn,6,[0,1,2,3,4,5,6,7])]))]) (Γ:=⟨[(131,(zcJ o)),(206,(zcX o))],[],true,[]⟩) (ctok ⟨zdA,⟨zeR,trivial⟩⟩ trivial) Tryz.func116
noncomputable def zfI(o:Ops)(v0:Bs)(v1:qcY)(v2:qcX)(v3:qcW)(v4:qcZ)(v5:List ((Bs×Bs)×Unit)):Option ((Bs×zcU)):=
 (zeO o v0 v1 v2 v3 v4 v5).bind fun v6=>some (v0,v6)
noncomputable def zjD(o:Ops):SC:=⟨⟨[(0,(.ptr 0 0)),(1,(.ptr 1 0))],[ypQ,.blk 9 [hS],yoQ,zaP,zaT,zaM,zaO,qaV]⟩,0,[(none,⟨[],[ypQ,.blk 9 [hS],yoQ,zaP,zaT,zaM,zaO,qaV]⟩)],fun x=>zfI o x.1 x.2.1 x.2.2.1 x.2.2.2.1 x.2.2.2.2.1 x.2.2.2.2.2⟩
theorem zsW:SCok aB tabs 121 (zjD o):=zcY (o:=o) (η:=[]) (Γ:=⟨[],[(116,(zlR o))],false,[]⟩) (ctok trivial ⟨zvU,trivial⟩) Tryz.func121
noncomputable def ztT(o:Ops)(v0:Bs)(v1:qcW)(v2:Bs)(v3:qcY)(v4:qcX)(v5:qcZ)(v6:List ((Bs×Bs)×Unit)):Option ((Int×qcW×Bs×qcY×qcX×qcZ×List ((Bs×Bs)×Unit))):=
 (zaN o v0).bind fun v7=>bif(!v7)then some ((120:Int),v1,v2,v3,v4,v5,v6)else(let _v8:KWkD0:=zdW keqS v1 v0 (([]:Bs),([]:List Bs))
 bif(!(mhas keqS v1 v0))then some ((122:Int),v1,v2,v3,v4,v5,v6)else((zfI o v2 v3 v4 (mdel keqS v1 v0) v5 v6).bind fun v9=>some ((0:Int),v9.2.2.2.1,v9.1,v9.2.1,v9.2.2.1,v9.2.2.2.2)))
noncomputable def zyY(o:Ops):SC:=⟨⟨[(0,(.mpr 0)),(1,hS),(2,(.fn 121 [] [(.ptr 1 0),(.ptr 2 0)]))],[zaM,yqZ,.blk 9 [hS],.blk 128 [(.mpr 4),(.mpr 5),(.mpr 0),(.mpr 6),(.mpr 7)],zaP,zaT,zaO,qaV]⟩,1,[(none,⟨[(0,hI)],[zaM,yqZ,.blk 9 [hS],.blk 128 [(.mpr 4),(.mpr 5),(.mpr 0),(.mpr 6),(.mpr 7)],zaP,zaT,zaO,qaV]⟩)],fun x=>ztT o x.1 x.2.1 x.2.2.1 x.2.2.2.1 x.2.2.2.2.1 x.2.2.2.2.2.1 x.2.2.2.2.2.2⟩
theorem yhN:SCok aB tabs 120 (zyY o):=zcY (o:=o) (η:=[]) (Γ:=⟨[(13,(zbE o))],[(121,(zjD o))],false,[]⟩) (ctok ⟨zbI,trivial⟩ ⟨zsW,trivial⟩) Tryz.func120
noncomputable def zdO(o:Ops)(v0:Bs)(v1:qcY)(v2:qcX)(v3:qcW)(v4:qcZ)(v5:List ((Bs×Bs)×Unit)):Option ((Int×zcU)):=
 (ztT o v0 v3 v0 v1 v2 v4 v5).bind fun v6=>some (v6.1,v6.2.2.2.1,v6.2.2.2.2.1,v6.2.1,v6.2.2.2.2.2)
noncomputable def zkF(o:Ops):SC:=⟨⟨[(0,(.ptr 0 0)),(1,hS)],[zbS,zaP,zaT,zaM,zaO,qaV]⟩,1,[(none,⟨[(0,hI)],[zbS,zaP,zaT,zaM,zaO,qaV]⟩)],fun x=>zdO o x.1 x.2.1 x.2.2.1 x.2.2.2.1 x.2.2.2.2.1 x.2.2.2.2.2⟩
theorem zuH:SCok aB tabs 43 (zkF o):=zcY (o:=o) (η:=[(4000001,.sch (zpu 0 6++[(.mn,6,[0,1,2,3,4,5,6,7]),(.pu,7,[])]))]) (Γ:=⟨[],[(120,(zyY o))],false,[]⟩) (ctok trivial ⟨yhN,trivial⟩) Tryz.func43
def zjY(_o:Ops)(v0:ypI)(v1:qcY)(v2:qcX)(v3:qcW)(v4:qcZ)(v5:List ((Bs×Bs)×Unit)):Option ((Int×zcU)⊕(qcY×qcX×qcW×qcZ×(List ((Bs×Bs)×Unit))×ypI)):=
 let _v7:ypI:=zdW keqS v4 v0.1 (([]:Bs),([]:Bs),([]:List Bs),([]:List Bs),false,false,false,false)
 bif(!(mhas keqS v4 v0.1))then(bif decide ((v4.length:Int)≥32)then some (.inl ((124:Int),v1,v2,v3,v4,v5))else some (.inr (v1,v2,v3,v4,v5,v0)))else some (.inr (v1,v2,v3,v4,v5,v0))
def zdC(o:Ops)(v0:ypI)(v1:qcY)(v2:qcX)(v3:qcW)(v4:qcZ)(v5:List ((Bs×Bs)×Unit)):Option ((Int×zcU)):=
 (zgP o v0).bind fun v6=>bif(!v6)then some ((120:Int),v1,v2,v3,v4,v5)else((zjY o v0 v1 v2 v3 v4 v5).bind fun v8=>match v8 with
 |.inl v9=>some v9|.inr v10=>((ziQ o v10.2.2.2.2.2).bind fun v11=>let v12:qcZ:=mset keqS kltS v10.2.2.2.1 v10.2.2.2.2.2.1 v11
 some ((0:Int),v10.1,v10.2.1,v10.2.2.1,v12,v10.2.2.2.2.1)))
def zjR(o:Ops):SC:=⟨⟨[(0,(.ptr 0 0)),(1,(.h xcV))],[zbS,zaP,zaT,zaM,zaO,qaV]⟩,1,[(none,⟨[(0,hI)],[zbS,zaP,zaT,zaM,.mp false .s xcV,qaV]⟩)],fun x=>zdC o x.1 x.2.1 x.2.2.1 x.2.2.2.1 x.2.2.2.2.1 x.2.2.2.2.2⟩
theorem ztD:SCok aB tabs 37 (zjR o):=zcY (o:=o) (η:=[(2000006,.join [] [] [(some 1000000,⟨[(4,hI)],[zbS,zaP,zaT,zaM,zaO,qaV]⟩),(none,⟨[(0,(.ptr 0 0)),(3,(.ptr 6 0))],[zbS,zaP,zaT,zaM,zaO,qaV,.blk 51 [hS,hS,(.h (.sl .s)),(.h (.sl .s)),hB,hB,hB,hB]]⟩)]),
 (4000003,.sch (zpu 0 9++[(.pu,9,[7]),(.mn,10,[]),(.mn,11,[7]),(.pu,12,[])])),
 (4000006,.sch (zpu 0 7++[(.mn,7,[]),(.mn,8,[0,1,2,3,4,5,6])]))]) (Γ:=⟨[(106,(zkS o)),(107,(zqZ o))],[],false,[]⟩) (ctok ⟨zqM,⟨zxK,trivial⟩⟩ trivial) Tryz.func37
noncomputable def zeF(o:Ops)(v0:Bs)(v1:qcY)(v2:qcX)(v3:qcW)(v4:qcZ)(v5:List ((Bs×Bs)×Unit)):Option ((Bs×zcU)):=
 (app ([99,58]:Bs) v0).bind fun v6=>(zcS o v6 v1 v2 v3 v4 v5).bind fun v7=>some (v0,v7)
noncomputable def zhL(o:Ops):SC:=⟨⟨[(0,(.ptr 0 0)),(1,(.ptr 1 0))],[ypQ,.blk 9 [hS],yoQ,zaP,zaT,zaM,zaO,qaV]⟩,0,[(none,⟨[],[ypQ,.blk 9 [hS],yoQ,zaP,zaT,zaM,zaO,qaV]⟩)],fun x=>zeF o x.1 x.2.1 x.2.2.1 x.2.2.2.1 x.2.2.2.2.1 x.2.2.2.2.2⟩
theorem zqL:SCok aB tabs 123 (zhL o):=zcY (o:=o) (η:=[]) (Γ:=⟨[],[(117,(zhH o))],false,[]⟩) (ctok trivial ⟨zmT,trivial⟩) Tryz.func123
noncomputable def ztV(o:Ops)(v0:Bs)(v1:qcZ)(v2:Bs)(v3:qcY)(v4:qcX)(v5:qcW)(v6:List ((Bs×Bs)×Unit)):Option ((Int×qcZ×Bs×qcY×qcX×qcW×List ((Bs×Bs)×Unit))):=
 (zaN o v0).bind fun v7=>bif(!v7)then some ((120:Int),v1,v2,v3,v4,v5,v6)else(let _v8:ypI:=zdW keqS v1 v0 (([]:Bs),([]:Bs),([]:List Bs),([]:List Bs),false,false,false,false)
 bif(!(mhas keqS v1 v0))then some ((122:Int),v1,v2,v3,v4,v5,v6)else((zeF o v2 v3 v4 v5 (mdel keqS v1 v0) v6).bind fun v9=>some ((0:Int),v9.2.2.2.2.1,v9.1,v9.2.1,v9.2.2.1,v9.2.2.2.1,v9.2.2.2.2.2)))
noncomputable def yaB(o:Ops):SC:=⟨⟨[(0,(.mpr 0)),(1,hS),(2,(.fn 123 [] [(.ptr 1 0),(.ptr 2 0)]))],[zaO,yqZ,.blk 9 [hS],.blk 128 [(.mpr 4),(.mpr 5),(.mpr 6),(.mpr 0),(.mpr 7)],zaP,zaT,zaM,qaV]⟩,1,[(none,⟨[(0,hI)],[zaO,yqZ,.blk 9 [hS],.blk 128 [(.mpr 4),(.mpr 5),(.mpr 6),(.mpr 0),(.mpr 7)],zaP,zaT,zaM,qaV]⟩)],fun x=>ztV o x.1 x.2.1 x.2.2.1 x.2.2.2.1 x.2.2.2.2.1 x.2.2.2.2.2.1 x.2.2.2.2.2.2⟩
theorem ygU:SCok aB tabs 122 (yaB o):=zcY (o:=o) (η:=[]) (Γ:=⟨[(13,(zbE o))],[(123,(zhL o))],false,[]⟩) (ctok ⟨zbI,trivial⟩ ⟨zqL,trivial⟩) Tryz.func122
noncomputable def zcQ(o:Ops)(v0:Bs)(v1:qcY)(v2:qcX)(v3:qcW)(v4:qcZ)(v5:List ((Bs×Bs)×Unit)):Option ((Int×zcU)):=
 (ztV o v0 v4 v0 v1 v2 v3 v5).bind fun v6=>some (v6.1,v6.2.2.2.1,v6.2.2.2.2.1,v6.2.2.2.2.2.1,v6.2.1,v6.2.2.2.2.2.2)
noncomputable def ziT(o:Ops):SC:=⟨⟨[(0,(.ptr 0 0)),(1,hS)],[zbS,zaP,zaT,zaM,zaO,qaV]⟩,1,[(none,⟨[(0,hI)],[zbS,zaP,zaT,zaM,zaO,qaV]⟩)],fun x=>zcQ o x.1 x.2.1 x.2.2.1 x.2.2.2.1 x.2.2.2.2.1 x.2.2.2.2.2⟩
theorem zsH:SCok aB tabs 44 (ziT o):=zcY (o:=o) (η:=[(4000001,.sch (zpu 0 6++[(.mn,6,[0,1,2,3,4,5,6,7]),(.pu,7,[])]))]) (Γ:=⟨[],[(122,(yaB o))],false,[]⟩) (ctok trivial ⟨ygU,trivial⟩) Tryz.func44
def zqI(o:Ops)(v0:Bs)(v1:Bs)(v2:qcY)(v3:qcX)(v4:qcW)(v5:qcZ)(v6:List ((Bs×Bs)×Unit)):Option ((Int×zcU)⊕zcU):=
 (zbG o v0).bind fun v7=>bif(!v7)then some (.inl ((120:Int),v2,v3,v4,v5,v6))else((zbG o v1).bind fun v8=>bif(!v8)then some (.inl ((120:Int),v2,v3,v4,v5,v6))else some (.inr (v2,v3,v4,v5,v6)))
def zeA(o:Ops)(v0:Bs)(v1:Bs)(v2:qcY)(v3:qcX)(v4:qcW)(v5:qcZ)(v6:List ((Bs×Bs)×Unit)):Option ((Int×zcU)):=
 (zqI o v0 v1 v2 v3 v4 v5 v6).bind fun v9=>match v9 with
 |.inl v10=>some v10|.inr v11=>((zbL o v0 v11.1 v11.2.1 v11.2.2.1 v11.2.2.2.1 v11.2.2.2.2).bind fun v12=>bif(!v12.1)then some ((122:Int),v12.2)else((zbL o v1 v12.2.1 v12.2.2.1 v12.2.2.2.1 v12.2.2.2.2.1 v12.2.2.2.2.2).bind fun v13=>bif(!v13.1)then some ((122:Int),v13.2)else some ((0:Int),v13.2)))
def ziF(o:Ops):SC:=⟨⟨[(0,(.ptr 0 0)),(1,hS),(2,hS)],[zbS,zaP,zaT,zaM,zaO,qaV]⟩,1,[(none,⟨[(0,hI)],[zbS,zaP,zaT,zaM,zaO,qaV]⟩)],fun x=>zeA o x.1 x.2.1 x.2.2.1 x.2.2.2.1 x.2.2.2.2.1 x.2.2.2.2.2.1 x.2.2.2.2.2.2⟩
theorem zpL:SCok aB tabs 195 (ziF o):=zcY (o:=o) (η:=[(2000003,.join [] [1,2] [(some 1000000,⟨[(6,hI)],[zbS,zaP,zaT,zaM,zaO,qaV]⟩),(none,⟨[(0,(.ptr 0 0))],[zbS,zaP,zaT,zaM,zaO,qaV]⟩)])]) (Γ:=⟨[(19,(zhD o))],[(128,(zfG o))],false,[]⟩) (ctok ⟨zkY,trivial⟩ ⟨zhU,trivial⟩) Tryz.func195
def zeV(_o:Ops)(v0:Bs)(v1:Bs)(v2:qcY)(v3:qcX)(v4:qcW)(v5:qcZ)(v6:List ((Bs×Bs)×Unit)):Option ((Bool×zcU)):=
 let _v7:Unit:=zdW (keq (.pr .s .s)) v6 (v0,v1) ()
 some (mhas (keq (.pr .s .s)) v6 (v0,v1),v2,v3,v4,v5,v6)
def zkE(o:Ops):SC:=⟨⟨[(0,(.ptr 0 0)),(1,hS),(2,hS)],[zbS,zaP,zaT,zaM,zaO,qaV]⟩,1,[(none,⟨[(0,hB)],[zbS,zaP,zaT,zaM,zaO,qaV]⟩)],fun x=>zeV o x.1 x.2.1 x.2.2.1 x.2.2.2.1 x.2.2.2.2.1 x.2.2.2.2.2.1 x.2.2.2.2.2.2⟩
theorem zrI:SCok aB tabs 56 (zkE o):=zcY (o:=o) (η:=[]) (Γ:=⟨[],[],false,[]⟩) (ctok trivial trivial) Tryz.func56
def zfP(o:Ops)(v0:Bs)(v1:Bs)(v2:qcY)(v3:qcX)(v4:qcW)(v5:qcZ)(v6:List ((Bs×Bs)×Unit)):Option ((Int×zcU)):=
 (zeA o v0 v1 v2 v3 v4 v5 v6).bind fun v7=>bif(v7.1 != 0)then some v7 else((zeV o v0 v1 v7.2.1 v7.2.2.1 v7.2.2.2.1 v7.2.2.2.2.1 v7.2.2.2.2.2).bind fun v8=>bif v8.1 then some ((121:Int),v8.2)else(bif decide ((v8.2.2.2.2.2.length:Int)≥64)then some ((124:Int),v8.2)else(let v9:List ((Bs×Bs)×Unit):=mset (keq (.pr .s .s)) (klt (.pr .s .s)) v8.2.2.2.2.2 (v0,v1) ()
 some ((0:Int),v8.2.1,v8.2.2.1,v8.2.2.2.1,v8.2.2.2.2.1,v9))))
def zoJ(o:Ops):SC:=⟨⟨[(0,(.ptr 0 0)),(1,hS),(2,hS)],[zbS,zaP,zaT,zaM,zaO,qaV]⟩,1,[(none,⟨[(0,hI)],[zbS,zaP,zaT,zaM,zaO,.mp false (.pr .s .s) .un]⟩)],fun x=>zfP o x.1 x.2.1 x.2.2.1 x.2.2.2.1 x.2.2.2.2.1 x.2.2.2.2.2.1 x.2.2.2.2.2.2⟩
theorem zyI:SCok aB tabs 97 (zoJ o):=zcY (o:=o) (η:=[]) (Γ:=⟨[],[(195,(ziF o)),(56,(zkE o))],false,[]⟩) (ctok trivial ⟨zpL,⟨zrI,trivial⟩⟩) Tryz.func97
def zgF(o:Ops)(v0:Bs)(v1:Bs)(v2:qcY)(v3:qcX)(v4:qcW)(v5:qcZ)(v6:List ((Bs×Bs)×Unit)):Option ((Int×zcU)):=
 (zeA o v0 v1 v2 v3 v4 v5 v6).bind fun v7=>bif(v7.1 != 0)then some v7 else((zeV o v0 v1 v7.2.1 v7.2.2.1 v7.2.2.2.1 v7.2.2.2.2.1 v7.2.2.2.2.2).bind fun v8=>bif(!v8.1)then some ((122:Int),v8.2)else some ((0:Int),v8.2.1,v8.2.2.1,v8.2.2.2.1,v8.2.2.2.2.1,mdel (keq (.pr .s .s)) v8.2.2.2.2.2 (v0,v1)))
def zpW(o:Ops):SC:=⟨⟨[(0,(.ptr 0 0)),(1,hS),(2,hS)],[zbS,zaP,zaT,zaM,zaO,qaV]⟩,1,[(none,⟨[(0,hI)],[zbS,zaP,zaT,zaM,zaO,qaV]⟩)],fun x=>zgF o x.1 x.2.1 x.2.2.1 x.2.2.2.1 x.2.2.2.2.1 x.2.2.2.2.2.1 x.2.2.2.2.2.2⟩
theorem zyW:SCok aB tabs 98 (zpW o):=zcY (o:=o) (η:=[]) (Γ:=⟨[],[(195,(ziF o)),(56,(zkE o))],false,[]⟩) (ctok trivial ⟨zpL,⟨zrI,trivial⟩⟩) Tryz.func98
noncomputable def zdK(o:Ops)(v0:KWkD9)(v1:qcY)(v2:qcX)(v3:qcW)(v4:qcZ)(v5:List ((Bs×Bs)×Unit)):Option ((Int×zcU)):=
 bif(v0.2.1==0)then((zbU o v0.2.2.1 v0.2.2.2.1 v1 v2 v3 v4 v5).bind fun v6=>some v6)else(bif(v0.2.1==1)then((zeH o v0.2.2.1 v0.2.2.2.1 v1 v2 v3 v4 v5).bind fun v7=>some v7)else(bif(v0.2.1==2)then((zdD o v0.2.2.1 v0.2.2.2.2.1 v1 v2 v3 v4 v5).bind fun v8=>some v8)else(bif(v0.2.1==3)then((zdT o v0.2.2.1 v1 v2 v3 v4 v5).bind fun v9=>some v9)else(bif(v0.2.1==4)then((zbR o v0.2.2.1 v1 v2 v3 v4 v5).bind fun v10=>some v10)else(bif(v0.2.1==5)then((zdB o v0.2.2.1 v1 v2 v3 v4 v5).bind fun v11=>some v11)else(bif(v0.2.1==6)then((zgG o v0.2.2.1 v0.2.2.2.1 v1 v2 v3 v4 v5).bind fun v12=>some v12)else(bif(v0.2.1==7)then((ziG o v0.2.2.1 v0.2.2.2.1 v1 v2 v3 v4 v5).bind fun v13=>some v13)else(bif(v0.2.1==8)then((zeD o v0.2.2.1 v0.2.2.2.1 v1 v2 v3 v4 v5).bind fun v14=>some v14)else(bif(v0.2.1==9)then((zhY o v0.2.2.1 v0.2.2.2.1 v1 v2 v3 v4 v5).bind fun v15=>some v15)else(bif(v0.2.1==10)then((zgL o v0.2.2.1 v0.2.2.2.1 v1 v2 v3 v4 v5).bind fun v16=>some v16)else(bif(v0.2.1==11)then((zkC o v0.2.2.1 v0.2.2.2.1 v1 v2 v3 v4 v5).bind fun v17=>some v17)else(bif(v0.2.1==12)then((zcH o v0.2.2.2.2.2.1 v1 v2 v3 v4 v5).bind fun v18=>some v18)else(bif(v0.2.1==13)then((zdO o v0.2.2.1 v1 v2 v3 v4 v5).bind fun v19=>some v19)else(bif(v0.2.1==14)then((zdC o v0.2.2.2.2.2.2 v1 v2 v3 v4 v5).bind fun v20=>some v20)else(bif(v0.2.1==15)then((zcQ o v0.2.2.1 v1 v2 v3 v4 v5).bind fun v21=>some v21)else(bif(v0.2.1==16)then((zfP o v0.2.2.1 v0.2.2.2.1 v1 v2 v3 v4 v5).bind fun v22=>some v22)else(bif(v0.2.1==17)then((zgF o v0.2.2.1 v0.2.2.2.1 v1 v2 v3 v4 v5).bind fun v23=>some v23)else some ((0:Int),v1,v2,v3,v4,v5))))))))))))))))))
noncomputable def zoN(o:Ops):SC:=⟨⟨[(0,(.ptr 0 0)),(1,(.h YWkD9))],[zbS,zaP,zaT,zaM,zaO,qaV]⟩,1,[(none,⟨[(0,hI)],[zbS,yzD,ysW,.mp false .s YWkD0,.mp false .s xcV,.mp false (.pr .s .s) .un]⟩)],fun x=>zdK o x.1 x.2.1 x.2.2.1 x.2.2.2.1 x.2.2.2.2.1 x.2.2.2.2.2⟩
theorem zxU:SCok aB tabs 31 (zoN o):=zcY (o:=o) (η:=[]) (Γ:=⟨[],[(71,(zgQ o)),(92,(zmB o)),(93,(zjU o)),(41,(zkI o)),(72,(zgA o)),(42,(zjZ o)),(73,(zjG o)),(94,(znZ o)),(33,(ziM o)),(95,(znE o)),(74,(ziW o)),(96,(zpV o)),(36,(zgO o)),(43,(zkF o)),(37,(zjR o)),(44,(ziT o)),(97,(zoJ o)),(98,(zpW o))],false,[]⟩) (ctok trivial ⟨zlK,⟨zvA,⟨ztA,⟨zuP,⟨zkL,⟨ztF,⟨zpQ,⟨zyC,⟨zqJ,⟨zwU,⟨zpM,⟨zzM,⟨zlN,⟨zuH,⟨ztD,⟨zsH,⟨zyI,⟨zyW,trivial⟩⟩⟩⟩⟩⟩⟩⟩⟩⟩⟩⟩⟩⟩⟩⟩⟩⟩) Tryz.func31
end
theorem half_ok{a b:Nat}(h:a+b<1099511627776):w64 ((i64 (shrI .u64 ((i64 (w64 ((a:Int)+(b:Int)))).toNat:Int) ((1:UInt64).toNat:Int))).toNat:Int)=(((a+b)/2:Nat):Int):=by
 have e1:w64 ((a:Int)+(b:Int))=((a+b:Nat):Int):=by rw[zsE (by omega) (by omega)];omega
 have e2:((i64 ((a+b:Nat):Int)).toNat:Int)=((a+b:Nat):Int):=ypM (by omega) (by omega);rw[e1,e2];have e3:shrI .u64 ((a+b:Nat):Int) ((1:UInt64).toNat:Int)=(((a+b)/2:Nat):Int):=by unfold shrI;rw[show(min ((1:UInt64).toNat:Int).toNat IntKind.u64.bits)=1 from rfl,ygN]
 rw[e3,ypM (by omega) (by omega),zsE (by omega) (by omega)]
theorem less_ok(x y:L8):yaK zaB x y=some (kltS x y):=by unfold yaK zxB;rw[zaA,bne_self_eq_false];rfl
def zqA(x:L8)(l:List L8):Nat:=(l.takeWhile fun y=>kltS y x).length
theorem xfP(x:L8)(l:List L8):zqA x l<=l.length:=(List.takeWhile_sublist _).length_le
theorem ymF{x:L8}:∀{l:List L8},RiL l->∀{m:Nat} (hm:m<l.length),kltS l[m] x=decide (m<zqA x l)
 |y::l,h,m,hm=>by
  have hc:=List.pairwise_cons.1 h;cases hy:kltS y x with
  |true=>
   have e:zqA x (y::l)=zqA x l+1:=by unfold zqA;rw[gI,zI hy];rfl
   rw[e];cases m with
   |zero=>rw[zA (by omega)];exact hy|succ m=>
    have hm':m<l.length:=by simpa using hm
    rw[iC,ymF (x:=x) hc.2 hm'];exact decide_eq_decide.2 (by omega)
  |false=>
   have e:zqA x (y::l)=0:=by unfold zqA;rw[gI,zH (by rw[hy];simp)];rfl
   rw[e,zB (by omega)];cases m with
   |zero=>exact hy|succ m=>
    have hm':m<l.length:=by simpa using hm
    rw[iC];cases hz:kltS l[m] x with
    |false=>rfl|true=>have:=kS.tr (hc.1 _ (List.getElem_mem hm')) hz;rw[hy]at this;cases this
theorem rank_at{x:L8}{l:List L8}(h:RiL l):l.contains x=match l[zqA x l]? with
  |some y=>y==x|none=>false:=by
 cases hc:l.contains x with
 |true=>
  obtain⟨m,hm,e⟩:=List.getElem_of_mem (bO.1 hc);have h1:=ymF (x:=x) h hm;rw[e,kS.irr]at h1;have h1:¬m<zqA x l:=of_decide_eq_false h1.symm;have h2:zqA x l=m:=by refine Nat.le_antisymm (by omega) (Nat.le_of_not_lt fun hl=>?_);have h3:kltS l[zqA x l] l[m]=true:=List.pairwise_iff_getElem.1 h _ _ (by omega) hm hl;rw[e]at h3;rw[ymF h (by omega)]at h3;have:=zC h3;omega
  rw[h2,aJ hm,e];simp
 |false=>
  cases hg:l[zqA x l]? with
  |none=>rfl|some y=>
   have hy:=List.mem_of_getElem? hg;show false=(y==x);cases hb:y==x with
   |false=>rfl|true=>rw[beq_iff_eq.1 hb]at hy;rw[bO.2 hy]at hc;cases hc
theorem bs_ok{l:List L8}(x:L8)(h:RiL l)(hl:l.length<=1048576):zdJ zaB l x=some ((zqA x l:Int),l.contains x):=by
 have hr:=xfP x l
 have hi:iter (fun s:Int×Int=>zfE zaB l x s.1 s.2) ((0:Int),(l.length:Int))=some (zqA x l:Int):=by
  have ht:T (iter (fun s:Int×Int=>zfE zaB l x s.1 s.2) ((0:Int),(l.length:Int))) fun r=>r=(zqA x l:Int):=by
   refine T.iter (fun s=>∃i j:Nat,s=((i:Int),(j:Int))/\i<=zqA x l/\zqA x l<=j/\j<=l.length) (fun s=>(s.2-s.1).toNat) _ ?_ ⟨0,l.length,rfl,by omega,hr,by omega⟩ (by simp;omega);rintro s ⟨i,j,rfl,h1,h2,h3⟩;unfold zfE;simp only;refine T.dif (fun hij=>?_) fun hij=>T.ok (by show(i:Int)=_;omega);have hij:i<j:=by omega
   rw[show chk (decide ((0:Int)<=((1:UInt64).toNat:Int)))=some ()from rfl,zaA,half_ok (by omega)];have hm:(i+j)/2<l.length:=by omega
   rw[zhZ rfl hm,zaA,less_ok,zaA,ymF h hm];refine T.dif (fun hlt=>?_) fun hlt=>?_
   ·refine T.ok ⟨⟨(i+j)/2+1,j,?_,by omega,h2,h3⟩,?_⟩
    ·rw[zoU (by omega)]
    ·rw[zoU (by omega)];simp only;omega
   ·exact T.ok ⟨⟨i,(i+j)/2,rfl,h1,by omega,by omega⟩,by simp only;omega⟩
  obtain⟨r,h1,rfl⟩:=ht;exact h1
 unfold zdJ;rw[hi,zaA,rank_at h];by_cases hlt:zqA x l<l.length
 ·rw[zfQ (show(zqA x l:Int)<(l.length:Int) by omega),zhZ rfl hlt,zaA,aJ hlt];simp only;cases hb:l[zqA x l]==x with
  |true=>rfl|false=>rw[zF,zaA];unfold zpG;rw[zaA,bne_self_eq_false];rfl
 ·rw[zgE (show ¬(zqA x l:Int)<(l.length:Int) by omega),List.getElem?_eq_none (by omega)]
theorem yfC{l:List L8}(x:L8)(h:RiL l)(hl:l.length<=1048576):zaY zaB l x=some (l.contains x):=by unfold zaY;rw[bs_ok x h hl,zaA]
theorem yxW(x:L8)(l:List L8):l.take (zqA x l)++[x]++l.drop (zqA x l)=yqK x l:=by have e:=List.takeWhile_append_dropWhile (p:=fun y=>kltS y x) (l:=l);unfold yqK zqA;generalize l.takeWhile (fun y=>kltS y x)=a at e ⊢;generalize l.dropWhile (fun y=>kltS y x)=b at e ⊢;subst e;rw[List.take_left' rfl,List.drop_left' rfl,aV];rfl
theorem yrT{l:List L8}(x:L8)(h:RiL l)(hl:l.length<=1048575):zeI zaB l x=some (yqK x l):=by have hr:=xfP x l;unfold zeI;rw[bs_ok x h (by omega),zaA,zjI _ (by omega),zaA];simp only[insTP,insP];rw[show(decide ((0:Int)<=(zqA x l:Int))&&decide ((zqA x l:Int).toNat<=l.length)&&decide (1<=[x].length)&&decide (l.length+[x].length<=1048576))=true by simp;omega,zE,zaA,Int.toNat_natCast,yxW]
theorem yaI(l:List L8)(x:L8)(hl:l.length<=1048576):zaX zaB l x=some (woL x l):=by unfold zaX;rw[zjI _ (by omega),zaA];simp only;rw[zfQ (by omega)];rfl
theorem ris_ok{l:List L8}{may:L8->Bool}{n:Nat}{body:Int->Option (Int⊕(Bool⊕Unit))}(hl:l.length<=1048576) (hb:∀(k:Nat) (hk:k<l.length),body (k:Int)=bif !may l[k]then some (.inr (.inl false))else bif decide ((k:Int)>(0:Int))then(idx l (w64 ((k:Int)-(1:Int)))).bind fun v5=>bif(Op.bytesLess l[k] v5||l[k]==v5)then some (.inr (.inl false))else some (.inl (w64 ((k:Int)+(1:Int))))else some (.inl (w64 ((k:Int)+(1:Int))))) (he:body (l.length:Int)=some (.inr (.inr ()))):((iter body (0:Int)).bind fun v6=>match v6 with
   |.inl v7=>some v7|.inr _=>some (decide ((l.length:Int)<=(n:Int))))=some (ycN n may l):=by
 have key:∀(f k:Nat),f+k=l.length->∀g,f<g->(0<k->∀y,l[k-1]? = some y->True)->zrW body g (k:Int)=some (bif(l.drop k).all may&&zsQ (l.drop (k-1))then .inr ()else .inl false):=by
  intro f;induction f with
  |zero=>
   intro k hk g hg _;obtain⟨g,rfl⟩:∃m,g=m+1:=⟨g-1,by omega⟩;have hk:k=l.length:=by omega
   subst hk;rw[zeS he,dU];have:zsQ (l.drop (l.length-1))=true:=by
    have hlen:(l.drop (l.length-1)).length<=1:=by rw[List.length_drop];omega
    match l.drop (l.length-1),hlen with
    |[],_=>rfl|[_],_=>rfl
   rw[this];rfl
  |succ f ih=>
   intro k hk g hg _;obtain⟨g,rfl⟩:∃m,g=m+1:=⟨g-1,by omega⟩;have hlt:k<l.length:=by omega
   have hd:l.drop k=l[k]::l.drop (k+1):=cG hlt;have hb':=hb k hlt;cases hm:may l[k] with
   |false=>rw[hm]at hb';rw[zeS (b:=.inl false) hb',hd,cC,hm];rfl|true=>
    rw[hm]at hb';simp only[aW,zF]at hb';cases k with
    |zero=>rw[show decide (((0:Nat):Int)>(0:Int))=false from rfl,zF]at hb';rw[zdP (s':=((1:Nat):Int)) (by rw[hb'];rfl),ih 1 (by omega) g (by omega) (fun _ _ _=>trivial),hd,cC,hm,cP,<-hd]|succ k=>
     have hp:k<l.length:=by omega
     have hd2:l.drop k=l[k]::l.drop (k+1):=cG hp;rw[zA (show(((k+1:Nat):Int))>0 by omega),zE,show w64 (((k+1:Nat):Int)-1)=(k:Int) by rw[zsE (by omega) (by omega)];omega,zhZ rfl hp,zaA,zoU (by omega)]at hb';have hr:zsQ (l.drop k)=(Op.bytesLess l[k] l[k+1]&&zsQ (l.drop (k+1))):=by rw[hd2,hd];rfl
     have hq:(Op.bytesLess l[k+1] l[k]||l[k+1]==l[k]) = !(Op.bytesLess l[k] l[k+1]):=by
      have h1:Op.bytesLess l[k] l[k+1]=kltS l[k] l[k+1]:=rfl;have h2:Op.bytesLess l[k+1] l[k]=kltS l[k+1] l[k]:=rfl;rw[h1,h2];by_cases e:l[k+1]=l[k]
      ·rw[e,kS.irr];simp
      ·rw[beq_false_of_ne e,eJ];cases hx:kltS l[k] l[k+1] with
       |true=>
        cases hy:kltS l[k+1] l[k] with
        |false=>rfl|true=>have:=kS.tr hx hy;rw[kS.irr]at this;cases this
       |false=>exact kS.tri hx fun e'=>e e'.symm
     rw[hq]at hb';rw[iN,hr,hd,cC,hm,cP];cases hx:Op.bytesLess l[k] l[k+1] with
     |false=>rw[hx]at hb';rw[zeS (b:=.inl false) hb'];simp|true=>rw[hx]at hb';rw[zdP (s':=((k+1+1:Nat):Int)) hb',ih (k+1+1) (by omega) g (by omega) (fun _ _ _=>trivial),iN,cP,hd]
 have h0:=key l.length 0 (by omega) FU (by unfold FU;omega) (fun h=>by omega);unfold iter;rw[show((0:Nat):Int)=0 from rfl]at h0;rw[h0,zaA];unfold ycN;rw[Nat.zero_sub,cO];cases l.all may&&zsQ l with
 |false=>rfl|true=>show some (decide ((l.length:Int)<=(n:Int)))=_;rw[cP];congr 1;exact decide_eq_decide.2 (by omega)
theorem yoN{l:List L8}(hl:l.length<=1048576)(n:Nat):zkJ zaB l (n:Int)=some (ycN n scB l):=by
 unfold zkJ;refine ris_ok hl (fun k hk=>?_) ?_
 ·unfold zsV;rw[zfQ (by omega),zhZ rfl hk,zaA,sc_ok,zaA]
 ·unfold zsV;rw[zgE (by omega)]
theorem xbB{l:List L8}(hl:l.length<=1048576)(n:Nat):zmR zaB l (n:Int)=some (ycN n txB l):=by
 unfold zmR;refine ris_ok hl (fun k hk=>?_) ?_
 ·unfold zqX;rw[zfQ (by omega),zhZ rfl hk,zaA,xaG,zaA]
 ·unfold zqX;rw[zgE (by omega)]
theorem yzT{r:Ro}(h:r.2.length<=1048576):zjL zaB r=some (yjE r):=by
 unfold zjL yjE;rw[zyF,zaA];cases nmB r.1 with
 |false=>rfl|true=>rw[zE,show((16:Int))=((16:Nat):Int)from rfl,yoN h,zaA];rfl
theorem yrG{r:Ro}(h:r.2.length<=1048576):zeT zaB r=some r:=by unfold zeT;rw[zjI _ (by omega),zaA]
theorem ysQ{c:Cl}(h:c.2.2.1.length<=1048576)(k:c.2.2.2.1.length<=1048576):ziQ zaB c=some c:=by unfold ziQ;rw[zjI _ (by omega),zaA,zjI _ (by omega),zaA]
abbrev hexL:L8:=[48,49,50,51,52,53,54,55,56,57,97,98,99,100,101,102]
theorem hex_is(b:UInt8):hexL.contains b=hexB b:=by have:=ymM (fun b=>hexL.contains b==hexB b) (by kernel_rfl) b;simpa using this
theorem cli_ok{c:Cl}(h0:c.2.1.length<=1048576)(h:c.2.2.1.length<=1048576)(k:c.2.2.2.1.length<=1048576):zgP zaB c=some (cliB c):=by
 have hj:zqN zaB c=some (c.2.1==[]||(decide (c.2.1.length=64)&&c.2.1.all hexB),c):=by
  unfold zqN;cases h1:c.2.1==([]:L8) with
  |true=>rfl|false=>
   rw[zF,fB];by_cases h2:c.2.1.length=64
   ·rw[show((c.2.1.length:Int)==(64:Int))=true by rw[h2];rfl,zE,show zaB.trim c.2.1 hexL=some (Lib.trimS c.2.1 hexL)from trim_is (by omega) (by decide) (by decide),zaA,zA h2,cP];congr 2;rw[dX,beq_iff_eq,ypS,List.all_eq_true];exact forall_congr' fun b=>imp_congr Iff.rfl (by rw[hex_is])
   ·rw[show((c.2.1.length:Int)==(64:Int))=false by rw[beq_eq_false_iff_ne];omega,zB h2];rfl
 unfold zgP cliB;rw[hj,zaA,zyF,zaA];cases nmB c.1 with
 |false=>rfl|true=>
  rw[zE,cP];cases (c.2.1==[]||(decide (c.2.1.length=64)&&c.2.1.all hexB)) with
  |false=>rfl|true=>
   rw[zE,cP,show((16:Int))=((16:Nat):Int)from rfl,xbB h,zaA];cases ycN 16 txB c.2.2.1 with
   |false=>rfl|true=>rw[zE,yoN k,zaA];rfl
theorem no_subs{G:GM}(_hR:Ri kltS G){a x:L8}(h:x∈lst 1 (zdW keqS G a zG)):∃g,(a,g)∈G/\x∈lst 1 g:=by
 rw[zrM]at h;cases hg:mget keqS G a with
 |none=>rw[hg]at h;cases h
 |some g=>rw[hg]at h;exact⟨g,kS.get_some hg,h⟩
theorem subs_get{G:GM}(hR:Ri kltS G){a:L8}{g:Gr}(h:(a,g)∈G):zdW keqS G a zG=g:=by rw[zrM,kS.get_mem hR h];rfl
abbrev SM:Type:=List (L8×Unit)
def ydH(z:SM×List L8)(x:L8):SM×List L8:=bif mhas keqS z.1 x then z else(mset keqS kltS z.1 x (),z.2++[x])
theorem ynB:∀(l:List L8) (z:SM×List L8),Ri kltS z.1->Ri kltS (l.foldl ydH z).1/\(∀x,mhas keqS (l.foldl ydH z).1 x=true↔mhas keqS z.1 x=true∨x∈l)/\∃n,(l.foldl ydH z).2=z.2++n/\(l.foldl ydH z).1.length=z.1.length+n.length/\(∀x∈n,x∈l)/\∀x,mhas keqS (l.foldl ydH z).1 x=true->mhas keqS z.1 x=true∨x∈n
 |[],z,h=>⟨h,fun x=>by simp,[],by simp,rfl,fun _ h=>h,fun _ h=>.inl h⟩|y::l,z,h=>by
  rw[List.foldl_cons];cases hy:mhas keqS z.1 y with
  |true=>
   have e:ydH z y=z:=by unfold ydH;rw[hy];rfl
   rw[e];obtain⟨h1,h2,n,h3,h4,h5,h6⟩:=ynB l z h;refine⟨h1,fun x=>?_,n,h3,h4,fun x hx=>aN _ (h5 x hx),h6⟩;rw[h2,aL];constructor
   ·rintro(h|h)
    ·exact .inl h
    ·exact .inr (.inr h)
   ·rintro(h|rfl|h)
    ·exact .inl h
    ·exact .inl hy
    ·exact .inr h
  |false=>
   have e:ydH z y=(mset keqS kltS z.1 y (),z.2++[y]):=by unfold ydH;rw[hy];rfl
   have hs:∀x,mhas keqS (mset keqS kltS z.1 y ()) x=true↔x=y∨mhas keqS z.1 x=true:=fun x=>by
    rw[ziY,kS.set_get h,ziY];by_cases hk:keqS y x=true
    ·rw[zI hk];have:=kS.e.1 hk;subst this;simp
    ·rw[zH hk];have:x≠y:=fun e=>hk (kS.e.2 e.symm);simp[this]
   rw[e];obtain⟨h1,h2,n,h3,h4,h5,h6⟩:=ynB l (mset keqS kltS z.1 y (),z.2++[y]) (kS.set_ri h);refine⟨h1,fun x=>?_,y::n,by rw[h3,aV];rfl,?_,fun x hx=>?_,fun x hx=>?_⟩
   ·rw[h2,aL,hs];constructor
    ·rintro((h|h)|h)
     ·exact .inr (.inl h)
     ·exact .inl h
     ·exact .inr (.inr h)
    ·rintro(h|h|h)
     ·exact .inl (.inr h)
     ·exact .inl (.inl h)
     ·exact .inr h
   ·rw[h4];show(mset keqS kltS z.1 y ()).length+n.length=_;rw[zyZ,hy,zH (by simp),aS];omega
   ·rcases aL.1 hx with rfl|hx
    ·exact aO
    ·exact aN _ (h5 x hx)
   ·rcases h6 x hx with h|h
    ·rcases(hs x).1 h with rfl|h
     ·exact .inr aO
     ·exact .inl h
    ·exact .inr (aN _ h)
def yqF(G:GM):List L8:=G.flatMap fun p=>lst 1 p.2
theorem yoD{s:PS}{g:Gr}(hl:(lst 1 g).length<=1048576):∀(f k:Nat) (z:SM×List L8),f+k=(lst 1 g).length->z.2.length+f<=68719476736->∀n,f<n ->
  zrW (fun x:Int×UM×GM×RM×CM×MM×SM×List L8=>zdQ zaB g x.1 x.2.1 x.2.2.1 x.2.2.2.1 x.2.2.2.2.1 x.2.2.2.2.2.1 x.2.2.2.2.2.2.1 x.2.2.2.2.2.2.2) n ((k:Int),s.1,s.2.1,s.2.2.1,s.2.2.2.1,s.2.2.2.2,z.1,z.2)=some (s.1,s.2.1,s.2.2.1,s.2.2.2.1,s.2.2.2.2,((lst 1 g).drop k).foldl ydH z)
 |0,k,z,hk,_,n+1,_=>by
  have hk:k=(lst 1 g).length:=by omega
  subst hk;rw[dU];refine zeS ?_;unfold zdQ;simp only;rw[zgE (by show ¬((lst 1 g).length:Int)<((lst 1 g).length:Int);omega)];rfl
 |f+1,k,z,hk,hz,n+1,hn=>by
  have hlt:k<(lst 1 g).length:=by omega
  rw[cG hlt,List.foldl_cons]
  have e:=yoD (s:=s) hl f (k+1) (ydH z (lst 1 g)[k]) (by omega) (by
   unfold ydH;cases mhas keqS z.1 (lst 1 g)[k] with
   |true=>rw[zE];omega|false=>rw[zF];simp;omega) n (by omega)
  rw[<-e];refine zdP ?_;unfold zdQ;simp only;rw[zfQ (by show(k:Int)<((lst 1 g).length:Int);omega),show idx g.1.2.1 (k:Int)=some (lst 1 g)[k]from zhZ rfl hlt,zaA,zoU (by omega)];unfold ydH;cases mhas keqS z.1 (lst 1 g)[k] with
  |true=>rfl|false=>rw[eO,zE,zjP (by simp;omega),zaA];rfl
theorem xfF{B:Int}{s:PS}(h:PInv B s)(a b:L8):∃r:Bool,zfA zaB a b s.1 s.2.1 s.2.2.1 s.2.2.2.1 s.2.2.2.2=some (r,s)/\(r=true↔Reach s.2.1 a b):=by
 have hlen:∀k g,(k,g)∈s.2.1->(lst 1 g).length<=32:=fun k g hg=>by
  obtain⟨h1,h2⟩:=h.gl k g hg 1 (by decide);have:=h1.sub_len (m:=s.2.1.map (·.1)) fun x hx=>by obtain⟨v,hv⟩:=kS.has_iff.1 (show mhas keqS s.2.1 x=true from h2 x hx);exact bF.2 ⟨_,hv,rfl⟩
  rw[aI]at this;exact aY this h.gL
 have hlenD:∀k,(lst 1 (zdW keqS s.2.1 k zG)).length<=32:=fun k=>by
  rw[zrM];cases hg:mget keqS s.2.1 k with
  |none=>exact Nat.zero_le _|some g=>exact hlen k g (kS.get_some hg)
 have hU:(a::yqF s.2.1).length<=1100:=by
  have:∀G:GM,(∀k g,(k,g)∈G->(lst 1 g).length<=32)->(yqF G).length<=32*G.length:=by
   intro G;induction G with
   |nil=>intro _;exact aK _|cons p G ih=>intro hg;have h1:=ih fun k g hk=>hg k g (aN _ hk);have h2:=hg p.1 p.2 aO;unfold yqF at *;rw[List.flatMap_cons,aD,aS];omega
  have:=this s.2.1 hlen;have:=h.gL;rw[aS];omega
 let I:UM×GM×RM×CM×MM×SM×List L8->Prop:=fun t=>(t.1,t.2.1,t.2.2.1,t.2.2.2.1,t.2.2.2.2.1)=s/\Ri kltS t.2.2.2.2.2.1/\(∀x,mhas keqS t.2.2.2.2.2.1 x=true->x∈a::yqF s.2.1/\Reach s.2.1 a x)/\(∀x∈t.2.2.2.2.2.2,mhas keqS t.2.2.2.2.2.1 x=true)/\mhas keqS t.2.2.2.2.2.1 a=true /\
  (∀x,mhas keqS t.2.2.2.2.2.1 x=true->x∈t.2.2.2.2.2.2∨(x≠b/\∀y∈lst 1 (zdW keqS s.2.1 x zG),mhas keqS t.2.2.2.2.2.1 y=true))/\t.2.2.2.2.2.2.length<=t.2.2.2.2.2.1.length
 have hseen:∀t,I t->t.2.2.2.2.2.1.length<=1100:=fun t hI=>by
  obtain⟨_,h1,h2,_⟩:=hI;have hn:(t.2.2.2.2.2.1.map (·.1)).Nodup:=(List.pairwise_map.2 (h1.imp fun {p q} hpq=>kS.lt_ne hpq):(t.2.2.2.2.2.1.map (·.1)).Pairwise (· ≠ ·));have:=zrS hn (m:=a::yqF s.2.1) fun x hx=>by obtain⟨p,hp,rfl⟩:=bF.1 hx;exact(h2 p.1 (kS.has_iff.2 ⟨p.2,hp⟩)).1
  rw[aI]at this;omega
 have ht:T (iter (fun x:UM×GM×RM×CM×MM×SM×List L8=>zeK zaB b x.1 x.2.1 x.2.2.1 x.2.2.2.1 x.2.2.2.2.1 x.2.2.2.2.2.1 x.2.2.2.2.2.2) (s.1,s.2.1,s.2.2.1,s.2.2.2.1,s.2.2.2.2,mset keqS kltS ([]:SM) a (),[a])) fun r=>match r with
   |.inl v=>v.2=s/\v.1=true/\Reach s.2.1 a b|.inr v=>v=s/\¬Reach s.2.1 a b:=by
  refine T.iter I (fun t=>2*(1100-t.2.2.2.2.2.1.length)+t.2.2.2.2.2.2.length) _ ?_ ?_ ?_
  ·rintro t hI;have hS:=hseen t hI;obtain⟨u,g,r,c,m,sn,row⟩:=t;obtain⟨hs,h1,h2,h3,h4,h5,h6⟩:=hI;have hs:(u,g,r,c,m)=s:=hs;subst hs;simp only at h1 h2 h3 h4 h5 h6 hS ⊢;unfold zeK;cases row with
   |nil=>
    refine T.ok (P:=_) ?_;refine⟨rfl,fun hr=>?_⟩
    have key:∀x,Reach g a x->mhas keqS sn x=true:=fun x hx=>by
     induction hx with
     |refl=>exact h4|step _ hg hx ih=>
      rcases h5 _ ih with hb|⟨_,hb⟩
      ·cases hb
      ·rw[subs_get h.gR hg]at hb;exact hb _ hx
    rcases h5 b (key b hr)with hb|⟨hb,_⟩
    ·cases hb
    ·exact hb rfl
   |cons y row=>
    rw[zfQ (by show((y::row).length:Int)>0;rw[aS];omega)];have hck:chk (decide ((0:Int)<=0)&&decide ((0:Int)<((y::row).length:Int)))=some ():=by rw[zA (show(0:Int)<((y::row).length:Int) by rw[aS];omega)];rfl
    have hix:idx (y::row) (0:Int)=some y:=rfl;rw[hck,zaA,hix,zaA];by_cases hyb:y=b
    ·subst hyb;rw[show(y==y)=true from beq_self_eq_true y,zE];exact T.ok ⟨rfl,rfl,(h2 y (h3 y aO)).2⟩
    ·rw[beq_false_of_ne hyb,zF,zaA,zaA];have hy:=h2 y (h3 y aO);have hq:=hlenD y;simp only at hq;generalize hgy:zdW keqS g y zG=gy at hq;show T (Option.bind (iter _ ((0:Int),u,g,r,c,m,sn,y::row)) _) _;rw[show iter _ ((0:Int),u,g,r,c,m,sn,y::row)=_ from yoD (s:=(u,g,r,c,m)) (g:=gy) (by omega) (lst 1 gy).length 0 (sn,y::row) (by omega) (by simp only[aS];simp only[aS]at h6;omega) FU (by unfold FU;omega),zaA,cO];obtain⟨p1,p2,n,p3,p4,p5,p6⟩:=ynB (lst 1 gy) (sn,y::row) h1;generalize (lst 1 gy).foldl ydH (sn,y::row)=z at p1 p2 p3 p4 p6;obtain⟨sn',row'⟩:=z;simp only at p1 p2 p3 p4 p6 ⊢;subst p3
     rw[show subL (y::row++n) (1:Int)=some (row++n) by
      unfold subL;rw[zA (show(0:Int)<=1 by decide),zA (show(1:Int)<=((y::row++n).length:Int) by rw[List.cons_append,aS];omega)]
      rfl,zaA]
     have hI':I (u,g,r,c,m,sn',row++n):=by
      refine⟨rfl,p1,fun x hx=>?_,fun x hx=>?_,(p2 a).2 (.inl h4),fun x hx=>?_,?_⟩
      ·rcases(p2 x).1 hx with hx|hx
       ·exact h2 x hx
       ·rw[<-hgy]at hx;obtain⟨g',hg',hxg⟩:=no_subs h.gR hx;exact⟨aN _ (List.mem_flatMap.2 ⟨(y,g'),hg',hxg⟩),.step hy.2 hg' hxg⟩
      ·rcases List.mem_append.1 hx with hx|hx
       ·exact(p2 x).2 (.inl (h3 x (aN _ hx)))
       ·exact(p2 x).2 (.inr (p5 x hx))
      ·show x∈row++n∨(x≠b/\∀y'∈lst 1 (zdW keqS g x zG),mhas keqS sn' y'=true);by_cases hxy:x=y
       ·subst hxy;refine .inr ⟨hyb,fun y' hy'=>?_⟩;rw[hgy]at hy';exact(p2 y').2 (.inr hy')
       ·by_cases hxs:mhas keqS sn x=true
        ·rcases h5 x hxs with hb|⟨hb,hb2⟩
         ·exact .inl (List.mem_append_left _ ((aL.1 hb).resolve_left hxy))
         ·exact .inr ⟨hb,fun y' hy'=>(p2 y').2 (.inl (hb2 y' hy'))⟩
        ·exact .inl (List.mem_append_right _ ((p6 x hx).resolve_left hxs))
      ·show(row++n).length<=sn'.length;simp only[aS]at h6;rw[p4,aD];omega
     refine T.ok ⟨hI',?_⟩;have hS':=hseen _ hI';simp only at hS' ⊢;rw[p4]at hS' ⊢;rw[aD,aS];omega
  ·have hset:mset keqS kltS ([]:SM) a ()=[(a,())]:=rfl;refine⟨rfl,kS.set_ri .nil,fun x hx=>?_,fun x hx=>?_,kS.has_iff.2 ⟨(),aO⟩,fun x hx=>?_,aK _⟩
   ·obtain⟨v,hv⟩:=kS.has_iff.1 hx;rw[show(mset keqS kltS ([]:SM) a (),[a]).1=[(a,())]from rfl]at hv;cases aZ.1 hv;exact⟨aO,.refl⟩
   ·rw[aZ.1 hx];exact kS.has_iff.2 ⟨(),aO⟩
   ·obtain⟨v,hv⟩:=kS.has_iff.1 hx;cases aZ.1 (show(x,v)∈[(a,())]from hv);exact .inl aO
  ·show 2*(1100-1)+1<1099511627776;decide
 obtain⟨r,h1,h2⟩:=ht;unfold zfA;refine ?_;have e:(iter (fun x:UM×GM×RM×CM×MM×SM×List L8=>zeK zaB b x.1 x.2.1 x.2.2.1 x.2.2.2.1 x.2.2.2.2.1 x.2.2.2.2.2.1 x.2.2.2.2.2.2) (s.1,s.2.1,s.2.2.1,s.2.2.2.1,s.2.2.2.2,mset keqS kltS ([]:SM) a (),[a]))=some r:=h1;simp only;rw[e,zaA]
 match r,h2 with
 |.inl (v1,v2),⟨q1,q2,q3⟩=>have q1:v2=s:=q1;have q2:v1=true:=q2;subst q1;subst q2;exact⟨true,rfl,fun _=>q3,fun _=>rfl⟩|.inr v,⟨q1,q2⟩=>subst q1;exact⟨false,rfl,fun h=>(by cases h),fun h=>absurd h q2⟩
theorem zkD{s:L8}(h:nmB s=true):s.length<=24:=by rw[nm_is,aH,aH]at h;exact zC h.1.2
theorem PInv.lst_len{B:Int}{s:PS}(h:PInv B s){k:L8}{g:Gr}(hg:(k,g)∈s.2.1){i:Nat}(hi:i<3):(lst i g).length<=64:=by
 obtain⟨h1,h2⟩:=h.gl k g hg i hi
 have key:∀{γ:Type} {es:List (L8×γ)},(∀x∈lst i g,mhas keqS es x=true)->(lst i g).length<=es.length:=fun {γ es} hh=>by
  have:=h1.sub_len (m:=es.map (·.1)) fun x hx=>by obtain⟨v,hv⟩:=kS.has_iff.1 (hh x hx);exact bF.2 ⟨_,hv,rfl⟩
  rwa[aI]at this
 match i,hi with
 |0,_=>exact aY (key h2) h.uL|1,_=>exact aY (key h2) (aY h.gL (by decide))|2,_=>exact aY (key h2) (aY h.rL (by decide))
abbrev T6(γ:Type):Type:=UM×GM×RM×CM×MM×γ
theorem addU_ok(n m:L8)(s:PS):zbU zaB n m s.1 s.2.1 s.2.2.1 s.2.2.2.1 s.2.2.2.2=some (yzV n m s):=by
 unfold zbU zlF yzV;rw[zyF,zaA];cases nmB n with
 |false=>rfl|true=>
  rw[aW,zF,xaG,zaA];cases txB m with
  |false=>rfl|true=>
   rw[aW,zF,zaA];simp only[eJ,zF];cases mhas keqS s.1 n with
   |true=>rfl|false=>
    rw[zF,zF];by_cases h:64<=s.1.length
    ·rw[zfQ (show(s.1.length:Int)≥64 by omega),zA h];rfl
    ·rw[zgE (show ¬(s.1.length:Int)≥64 by omega),zB h];rfl
theorem us_eq(a b:L8)(c:Bool)(d:Int)(u:Us):(!((a==u.1)&&((b==u.2.1)&&((c==u.2.2.1)&&(decide (d=u.2.2.2)))))) = !decide ((a,b,c,d)=u):=by congr 1;rw[dX];simp only[aH,beq_iff_eq,zD];obtain⟨a',b',c',d'⟩:=u;simp
theorem turnJ1(U:UM)(G:GM)(R:RM)(C:CM)(M:MM)(u:Us)(a b m:L8)(c:Bool)(d:Int):zjC zaB U G R C M u (a,b,c,d,m)=some (m,U,G,R,C,M,if(a,b,c,d)=u then(a,b,c,d)else(a,b,c,w64 (d+1))):=by
 unfold zjC;show(bif(!((a==u.1)&&((b==u.2.1)&&((c==u.2.2.1)&&(decide (d=u.2.2.2))))))then _ else _)=_;rw[us_eq];by_cases e:(a,b,c,d)=u
 ·rw[zA e,zI e];rfl
 ·rw[zB e,zH e];rfl
theorem turnJ2(U:UM)(G:GM)(R:RM)(C:CM)(M:MM)(u:Us)(a b:L8)(m c:Bool)(d:Int):zhP zaB U G R C M u (a,b,c,d,m)=some (m,U,G,R,C,M,if(a,b,c,d)=u then(a,b,c,d)else(a,b,c,w64 (d+1))):=by
 unfold zhP;show(bif(!((a==u.1)&&((b==u.2.1)&&((c==u.2.2.1)&&(decide (d=u.2.2.2))))))then _ else _)=_;rw[us_eq];by_cases e:(a,b,c,d)=u
 ·rw[zA e,zI e];rfl
 ·rw[zB e,zH e];rfl
theorem turn1_ok{B:Int}(hB:B<=1099511627776){s:PS}(h:PInv B s)(n m:L8):zgK zaB n m s.1 s.2.1 s.2.2.1 s.2.2.2.1 s.2.2.2.2=some ((yqD n (fun u=>(u.1,m,u.2.2)) s).1,m,(yqD n (fun u=>(u.1,m,u.2.2)) s).2):=by
 unfold zgK yqD;rw[zyF,zaA];cases nmB n with
 |false=>rfl|true=>
  simp only[aW,zF];rw[ziY,zrM];cases hg:mget keqS s.1 n with
  |none=>rfl|some u=>
   have h1:=h.us n u (kS.get_some hg);simp only[eY,aW,zF,dG];unfold zgD;rw[zaA,turnJ1,zaA,show w64 (u.2.2.2+1)=u.2.2.2+1 from zsE (by omega) (by omega)];by_cases e:(u.1,m,u.2.2.1,u.2.2.2)=u
   ·rw[zI e,zI (show(u.1,m,u.2.2)=u from e),e]
   ·rw[zH e,zH (show ¬(u.1,m,u.2.2)=u from e)]
theorem turn2_ok{B:Int}(hB:B<=1099511627776){s:PS}(h:PInv B s)(n:L8)(b:Bool):zfV zaB n b s.1 s.2.1 s.2.2.1 s.2.2.2.1 s.2.2.2.2=some ((ywW n b s).1,b,(ywW n b s).2):=by
 unfold zfV ywW yqD;rw[zyF,zaA];cases nmB n with
 |false=>rfl|true=>
  simp only[aW,zF];rw[ziY,zrM];cases hg:mget keqS s.1 n with
  |none=>rfl|some u=>
   have h1:=h.us n u (kS.get_some hg);simp only[eY,aW,zF,dG];unfold zeU;rw[zaA,turnJ2,zaA,show w64 (u.2.2.2+1)=u.2.2.2+1 from zsE (by omega) (by omega)];by_cases e:(u.1,u.2.1,b,u.2.2.2)=u
   ·rw[zI e,zI e,e]
   ·rw[zH e,zH e]
theorem setM_ok{B:Int}(hB:B<=1099511627776){s:PS}(h:PInv B s)(n m:L8):zeH zaB n m s.1 s.2.1 s.2.2.1 s.2.2.2.1 s.2.2.2.2=some (xaY n m s):=by
 unfold zeH xaY;rw[xaG,zaA];cases txB m with
 |false=>rfl|true=>rw[aW,zF,turn1_ok hB h,zaA];rfl
theorem setA_ok{B:Int}(hB:B<=1099511627776){s:PS}(h:PInv B s)(n:L8)(b:Bool):zdD zaB n b s.1 s.2.1 s.2.2.1 s.2.2.2.1 s.2.2.2.2=some (ywW n b s):=by unfold zdD;rw[turn2_ok hB h,zaA]
def stW:Nat->Gr->List L8->Gr
 |0,g,l=>((l,g.1.2.1,g.1.2.2),w64 (g.2+1))|1,g,l=>((g.1.1,l,g.1.2.2),w64 (g.2+1))|_,g,l=>((g.1.1,g.1.2.1,l),w64 (g.2+1))
theorem stW_ok(k:Nat){g:Gr}(l:List L8)(h:1<=g.2/\g.2<=1099511627776):stW k g l=stL k g l:=by
 have e:w64 (g.2+1)=g.2+1:=zsE (by omega) (by omega)
 match k with
 |0=>show((l,g.1.2.1,g.1.2.2),w64 (g.2+1))=_;rw[e];rfl
 |1=>show((g.1.1,l,g.1.2.2),w64 (g.2+1))=_;rw[e];rfl
 |k+2=>show((g.1.1,g.1.2.1,l),w64 (g.2+1))=_;rw[e];rfl
noncomputable def fgtF(k:Nat)(n:L8)(x:T6 (List L8))(p:L8×Gr):Option (T6 (List L8)⊕PS):=
 (mget keqS x.2.1 p.1).bind fun g=>(zaY zaB (lst k g) n).bind fun q=>bif q then(zaX zaB (lst k g) n).bind fun l=>(chk (mhas keqS x.2.1 p.1)).bind fun _=>some (.inl (x.1,mrep keqS x.2.1 p.1 (stW k g l),x.2.2.1,x.2.2.2.1,x.2.2.2.2.1,rngD keqS x.2.2.2.2.2 p.1))else some (.inl (x.1,x.2.1,x.2.2.1,x.2.2.2.1,x.2.2.2.2.1,rngD keqS x.2.2.2.2.2 p.1))
def ybU(k:Nat)(n:L8)(left:List L8)(G:GM):GM:=mmap (fun m g=>bif left.contains m then g else(bif(lst k g).contains n then stL k g (woL n (lst k g))else g)) G
theorem yeA{B:Int}(hB:B<=1099511627776){k:Nat}(_hk:k<3){n:L8}{s:PS}(G:GM)(hR:Ri kltS G)(hv:∀m g,(m,g)∈G->RiL (lst k g)/\(lst k g).length<=64/\1<=g.2/\g.2<=B){f:T6 (List L8)->List (Option (T6 (List L8)⊕PS))}(hf:∀x,f x=rngL (rngC keqS x.2.1 x.2.2.2.2.2) (some (.inr (x.1,x.2.1,x.2.2.1,x.2.2.2.1,x.2.2.2.2.1))) (fgtF k n x)):
  rngA f (s.1,G,s.2.2.1,s.2.2.2.1,s.2.2.2.2,cH Prod.fst G)=some (s.1,zhG k n G,s.2.2):=by
 have hk0:∀m,mhas keqS G m=true->∃g,mget keqS G m=some g:=fun m hm=>by rw[ziY]at hm;exact Option.isSome_iff_exists.1 hm
 refine kS.rngA_map (fun x=>∃left:List L8,(∀m∈left,mhas keqS G m=true)/\x=(s.1,ybU k n left G,s.2.2.1,s.2.2.2.1,s.2.2.2.2,left)) (fun x=>x.2.1) (fun x=>x.2.2.2.2.2) hf ?_ ?_ ⟨cH Prod.fst G,fun m hm=>?_,?_⟩
 ·rintro x ⟨left,hl,rfl⟩ hno;simp only;have e:ybU k n left G=zhG k n G:=by
   unfold ybU zhG mmap;refine eB fun p hp=>?_;have:left.contains p.1=false:=by
    cases hc:left.contains p.1 with
    |false=>rfl|true=>have hin:(p.1,bif left.contains p.1 then p.2 else(bif(lst k p.2).contains n then stL k p.2 (woL n (lst k p.2))else p.2))∈ybU k n left G:=bF.2 ⟨p,hp,rfl⟩;have h3:=hno _ hin;exact absurd (bO.1 hc) h3
   show(p.1,bif left.contains p.1 then p.2 else _)=_;rw[this];rfl
  rw[e]
 ·rintro x p ⟨left,hl,rfl⟩ hp hpl;left;simp only at hp hpl ⊢;obtain⟨g,hg⟩:=hk0 p.1 (hl p.1 hpl);have hgm:=kS.get_some hg;obtain⟨v1,v2,v3,v4⟩:=hv p.1 g hgm;have hget:mget keqS (ybU k n left G) p.1=some g:=by unfold ybU;rw[zwV _ kS,hg,bA,bO.2 hpl];rfl
  have hc2:∀m,(rngD keqS left p.1).contains m=(left.contains m && !(m==p.1)):=fun m=>by rw[dX,bO,kS.rngD_mem,aH,bO,bE,<-cB,beq_iff_eq]
  have hhr:Ri kltS (ybU k n left G):=ynO hR;have hleft:∀m∈rngD keqS left p.1,mhas keqS G m=true:=fun m hm=>hl m (kS.rngD_mem.1 hm).1;cases hq:(lst k g).contains n with
  |true=>
   refine⟨_,?_,⟨rngD keqS left p.1,hleft,rfl⟩,rfl⟩;unfold fgtF;simp only;rw[hget,zaA,yfC n v1 (by omega),zaA,hq,zE,yaI _ _ (by omega),zaA,show chk (mhas keqS (ybU k n left G) p.1)=some () by rw[ziY,hget];rfl,zaA,stW_ok k _ (by omega)];congr 4;have hh:mhas keqS (ybU k n left G) p.1=true:=by rw[ziY,hget];rfl
   have e1:mrep keqS (ybU k n left G) p.1 (stL k g (woL n (lst k g)))=mset keqS kltS (ybU k n left G) p.1 (stL k g (woL n (lst k g))):=by unfold mset;rw[hh];rfl
   rw[e1];refine kS.ext_get (kS.set_ri hhr) (ynO hR) fun m=>?_;rw[kS.set_get hhr];unfold ybU;rw[zwV _ kS,zwV _ kS];by_cases e:keqS p.1 m=true
   ·rw[zI e];have e:=kS.e.1 e;subst e;rw[hg,bA,hc2,beq_self_eq_true,aW,gM,zF,hq];rfl
   ·rw[zH e];have:(m==p.1)=false:=beq_false_of_ne fun e'=>e (kS.e.2 e'.symm);cases mget keqS G m with
    |none=>rfl|some g'=>rw[bA,bA,hc2,this,eO,Bool.and_true]
  |false=>
   refine⟨_,?_,⟨rngD keqS left p.1,hleft,rfl⟩,rfl⟩;unfold fgtF;simp only;rw[hget,zaA,yfC n v1 (by omega),zaA,hq,zF];congr 4;refine kS.ext_get hhr (ynO hR) fun m=>?_;unfold ybU;rw[zwV _ kS,zwV _ kS];by_cases e:m=p.1
   ·subst e;rw[hg,bA,bA,hc2,beq_self_eq_true,aW,gM,zF,hq,bO.2 hpl];rfl
   ·have:(m==p.1)=false:=beq_false_of_ne e;cases mget keqS G m with
    |none=>rfl|some g'=>rw[bA,bA,hc2,this,eO,Bool.and_true]
 ·obtain⟨p,hp,rfl⟩:=bF.1 hm;exact kS.has_iff.2 ⟨p.2,hp⟩
 ·have e:ybU k n (cH Prod.fst G) G=G:=by unfold ybU mmap;refine Eq.trans (eB fun p hp=>?_) (List.map_id G);show(p.1,bif(cH Prod.fst G).contains p.1 then p.2 else _)=p;rw[bO.2 (bF.2 ⟨p,hp,rfl⟩)];rfl
  rw[e]
theorem PInv.fgt{B:Int}{s:PS}(h:PInv B s){k:Nat}(hk:k<3){G:GM}(hG:G.Sublist s.2.1):∀m g,(m,g)∈G->RiL (lst k g)/\(lst k g).length<=64/\1<=g.2/\g.2<=B:=fun m g hg=>
 ⟨(h.gl m g (hG.subset hg) k hk).1,h.lst_len (hG.subset hg) hk,(h.gn m g (hG.subset hg)).2⟩
theorem ywJ{B:Int}(hB:B<=1099511627776){s:PS}(h:PInv B s)(n:L8){G:GM}(hG:G.Sublist s.2.1)(U:UM)(R:RM)(C:CM)(M:MM):zeZ zaB n U G R C M=some (U,zhG 0 n G,R,C,M):=by
 unfold zeZ;rw[show rngA _ (U,G,R,C,M,cH Prod.fst G)=_ from yeA hB (k:=0) (by decide) (n:=n) (s:=(U,G,R,C,M)) G (h.gR.sublist hG) (h.fgt (by decide) hG) fun x=>?_,zaA];unfold zmX;congr 1;funext p;unfold fgtF znJ znK;cases mget keqS x.2.1 p.1 with
 |none=>rfl|some g=>
  simp only[zaA,lst];cases zaY zaB g.1.1 n with
  |none=>rfl|some q=>
   simp only[zaA];cases q with
   |false=>rfl|true=>simp only[zE];cases zaX zaB g.1.1 n<;>rfl
theorem yxL{B:Int}(hB:B<=1099511627776){s:PS}(h:PInv B s)(n:L8){G:GM}(hG:G.Sublist s.2.1)(U:UM)(R:RM)(C:CM)(M:MM):zeP zaB n U G R C M=some (U,zhG 1 n G,R,C,M):=by
 unfold zeP;rw[show rngA _ (U,G,R,C,M,cH Prod.fst G)=_ from yeA hB (k:=1) (by decide) (n:=n) (s:=(U,G,R,C,M)) G (h.gR.sublist hG) (h.fgt (by decide) hG) fun x=>?_,zaA];unfold zlX;congr 1;funext p;unfold fgtF zlS zmC;cases mget keqS x.2.1 p.1 with
 |none=>rfl|some g=>
  simp only[zaA,lst];cases zaY zaB g.1.2.1 n with
  |none=>rfl|some q=>
   simp only[zaA];cases q with
   |false=>rfl|true=>simp only[zE];cases zaX zaB g.1.2.1 n<;>rfl
theorem ywZ{B:Int}(hB:B<=1099511627776){s:PS}(h:PInv B s)(n:L8){G:GM}(hG:G.Sublist s.2.1)(U:UM)(R:RM)(C:CM)(M:MM):zeO zaB n U G R C M=some (U,zhG 2 n G,R,C,M):=by
 unfold zeO;rw[show rngA _ (U,G,R,C,M,cH Prod.fst G)=_ from yeA hB (k:=2) (by decide) (n:=n) (s:=(U,G,R,C,M)) G (h.gR.sublist hG) (h.fgt (by decide) hG) fun x=>?_,zaA];unfold zlP;congr 1;funext p;unfold fgtF zlG zlZ;cases mget keqS x.2.1 p.1 with
 |none=>rfl|some g=>
  simp only[zaA,lst];cases zaY zaB g.1.2.2 n with
  |none=>rfl|some q=>
   simp only[zaA];cases q with
   |false=>rfl|true=>simp only[zE];cases zaX zaB g.1.2.2 n<;>rfl
def lefM(left:List (L8×L8))(p:L8)(M:MM):MM:=M.filter fun m=>left.contains m.1 || !(m.1.1==p||m.1.2==p)
theorem ypG{M:MM}(hR:Ri kltM M)(p:L8)(U:UM)(G:GM)(R:RM)(C:CM):zcS zaB p U G R C M=some (U,G,R,C,zsX p M):=by
 unfold zcS zoY
 have e:rngA (fun x:MM×L8×List (L8×L8)=>ztN zaB x.1 x.2.1 x.2.2) (M,p,cH Prod.fst M)=some (zsX p M,p):=by
  refine kSS.rngA_map (κ:=L8×L8) (γ:=Unit) (fun x=>∃left:List (L8×L8),x=(lefM left p M,p,left)) (fun x=>x.1) (fun x=>x.2.2) (fun x=>rfl) ?_ ?_ ⟨cH Prod.fst M,?_⟩
  ·rintro x ⟨left,rfl⟩ hno;simp only;congr 3;unfold zsX lefM;refine gW fun m hm=>?_;cases hc:left.contains m.1 with
   |false=>rfl|true=>have:=hno m (List.mem_filter.2 ⟨hm,by rw[hc];rfl⟩);exact absurd (bO.1 hc) this
  ·rintro x q ⟨left,rfl⟩ hq hql;left;simp only at hq hql ⊢;have hc2:∀m,(rngD keqM left q.1).contains m=(left.contains m && !(m==q.1)):=fun m=>by rw[dX,bO,kSS.rngD_mem,aH,bO,bE,<-cB,beq_iff_eq]
   have hfr:Ri kltM (lefM left p M):=hR.sublist List.filter_sublist;have hget:mget keqM (lefM left p M) q.1=some ():=kSS.get_mem hfr (v:=()) hq;rw[show mget (keq (.pr .s .s)) (lefM left p M) q.1=some ()from hget,zaA];unfold zgR;cases h1:q.1.1==p||q.1.2==p with
   |true=>
    refine⟨_,?_,⟨rngD keqM left q.1,rfl⟩,rfl⟩;have:(bif q.1.1==p then some (true,p)else some ((q.1.2==p),p))=some (true,p):=by
     cases h2:q.1.1==p with
     |true=>rfl|false=>rw[h2,fB]at h1;rw[h1];rfl
    rw[this,zaA];simp only[zE];congr 3;refine Eq.trans (kSS.del_filter hfr q.1) ?_;unfold lefM;rw[List.filter_filter];refine gW fun m hm=>?_;have hq1:q.1=(q.1.1,q.1.2):=rfl;by_cases e:m.1=q.1
    ·rw[e,hc2,beq_self_eq_true,h1,kSS.e.2 rfl];simp
    ·rw[hc2,beq_false_of_ne e,kSS.ne e];simp
   |false=>
    refine⟨_,?_,⟨rngD keqM left q.1,rfl⟩,rfl⟩;have h1':=or_f h1;rw[h1'.1,zF,zaA,h1'.2];simp only[zF];congr 3;unfold lefM;refine gW fun m hm=>?_;by_cases e:m.1=q.1
    ·rw[e,h1];simp
    ·rw[hc2,beq_false_of_ne e];simp
  ·congr 1;unfold lefM;refine(List.filter_eq_self.2 fun m hm=>?_).symm;rw[bO.2 (bF.2 ⟨m,hm,rfl⟩)];rfl
 rw[e];rfl
theorem app2(a b:UInt8){n:L8}(h:n.length<=24):app ([a,b]:L8) n=some (a::b::n):=by rw[zjP (by simp;omega)];rfl
theorem dropU_ok{B:Int}(hB:B<=1099511627776){s:PS}(h:PInv B s)(n:L8):zdT zaB n s.1 s.2.1 s.2.2.1 s.2.2.2.1 s.2.2.2.2=some (ypK n s):=by
 unfold zdT zwL ypK;rw[zyF,zaA];cases hn:nmB n with
 |false=>rfl|true=>
  simp only[aW,zF];cases hh:mhas keqS s.1 n with
  |false=>rfl|true=>unfold zfL;simp only[aW,zF];rw[ywJ hB h n (List.Sublist.refl _),zaA,app2 _ _ (zkD hn),zaA,ypG h.mR,zaA,zaA,zaA]
theorem addG_ok(n:L8)(s:PS):zbR zaB n s.1 s.2.1 s.2.2.1 s.2.2.2.1 s.2.2.2.2=some (xaW n s):=by
 unfold zbR xaW;rw[zyF,zaA];cases nmB n with
 |false=>rfl|true=>
  simp only[aW,zF];cases mhas keqS s.2.1 n with
  |true=>rfl|false=>
   rw[zF,zF];by_cases h:32<=s.2.1.length
   ·rw[zfQ (show(s.2.1.length:Int)≥32 by omega),zA h];rfl
   ·rw[zgE (show ¬(s.2.1.length:Int)≥32 by omega),zB h];rfl
theorem dropG_ok{B:Int}(hB:B<=1099511627776){s:PS}(h:PInv B s)(n:L8):zdB zaB n s.1 s.2.1 s.2.2.1 s.2.2.2.1 s.2.2.2.2=some (ypN n s):=by
 unfold zdB zuN ypN;rw[zyF,zaA];cases hn:nmB n with
 |false=>rfl|true=>
  simp only[aW,zF];cases hh:mhas keqS s.2.1 n with
  |false=>rfl|true=>unfold zeX;simp only[aW,zF];rw[yxL hB h n (zuE _ _),zaA,zaA,zaA]
theorem dropR_ok{B:Int}(hB:B<=1099511627776){s:PS}(h:PInv B s)(n:L8):zdO zaB n s.1 s.2.1 s.2.2.1 s.2.2.2.1 s.2.2.2.2=some (yoZ n s):=by
 unfold zdO ztT yoZ;rw[zyF,zaA];cases hn:nmB n with
 |false=>rfl|true=>
  simp only[aW,zF];cases hh:mhas keqS s.2.2.1 n with
  |false=>rfl|true=>unfold zfI;simp only[aW,zF];rw[ywZ hB h n (List.Sublist.refl _),zaA,zaA,zaA]
theorem dropC_ok{B:Int}{s:PS}(h:PInv B s)(n:L8):zcQ zaB n s.1 s.2.1 s.2.2.1 s.2.2.2.1 s.2.2.2.2=some (yqU n s):=by
 unfold zcQ ztV yqU;rw[zyF,zaA];cases hn:nmB n with
 |false=>rfl|true=>
  simp only[aW,zF];cases hh:mhas keqS s.2.2.2.1 n with
  |false=>rfl|true=>unfold zeF;simp only[aW,zF];rw[app2 _ _ (zkD hn),zaA,ypG h.mR,zaA,zaA,zaA]
def ygA(k:Nat)(n x:L8)(s:PS):Gr×Int×PS:=bif !nmB n || !nmB x then(zG,120,s)else match mget keqS s.2.1 n with
 |none=>(zG,122,s)|some g=>bif !hasK k s x then(zG,122,s)else(g,0,s)
theorem yuE(n x:L8)(s:PS):zdE zaB n x s.1 s.2.1 s.2.2.1 s.2.2.2.1 s.2.2.2.2=some (ygA 0 n x s):=by
 unfold zdE zoB ygA;rw[zyF,zaA];cases nmB n with
 |false=>rfl|true=>
  rw[aW,zF,zyF,zaA];cases nmB x with
  |false=>rfl|true=>
   simp only[aW,zF,zaA,eJ];rw[ziY,zrM];cases mget keqS s.2.1 n with
   |none=>rfl|some g=>simp only[eY,aW,zF];unfold zeE;rw[zaA];simp only[hasK];cases mhas keqS s.1 x<;>rfl
theorem puts0_ok{B:Int}(hB:B<=1099511627776){s:PS}(h:PInv B s)(n x:L8):zfR zaB n x s.1 s.2.1 s.2.2.1 s.2.2.2.1 s.2.2.2.2=some (yhU 0 n x s):=by
 unfold zfR zoH zaQ;rw[zaA,yuE,zaA,zaA];unfold ygA yhU;cases h1:!nmB n || !nmB x with
 |true=>rfl|false=>
  simp only[zF];cases hg:mget keqS s.2.1 n with
  |none=>rfl|some g=>
   have hm:=kS.get_some hg;have hl:RiL g.1.1:=(h.gl n g hm 0 (by decide)).1;have hn:g.1.1.length<=64:=h.lst_len hm (i:=0) (by decide);have hv:=(h.gn n g hm).2;simp only;cases h2:hasK 0 s x with
   |false=>rfl|true=>
    simp only[aW,zF];unfold zoK zoI;simp only[bne_self_eq_false,zF,lst];rw[show zaY zaB g.1.1 x=_ from yfC x hl (by omega),zaA,zaA];simp only;cases h3:g.1.1.contains x with
    |true=>rfl|false=>
     have hx:x∉g.1.1:=fun hx=>by rw[bO.2 hx]at h3;cases h3
     simp only[zF];rw[zH fun hh=>absurd hh.1 (by decide),zaA];simp only;unfold zoE;rw[show zeI zaB g.1.1 x=_ from yrT x hl (by omega),zaA,zaA];simp only;rw[show w64 (g.2+1)=g.2+1 from zsE (by omega) (by omega)];rfl
theorem xfL{B:Int}(hB:B<=1099511627776){s:PS}(h:PInv B s)(n x:L8):zfW zaB n x s.1 s.2.1 s.2.2.1 s.2.2.2.1 s.2.2.2.2=some (zzY 0 n x s):=by
 unfold zfW znQ zaQ;rw[zaA,yuE,zaA,zaA];unfold ygA zzY;cases h1:!nmB n || !nmB x with
 |true=>rfl|false=>
  simp only[zF];cases hg:mget keqS s.2.1 n with
  |none=>rfl|some g=>
   have hm:=kS.get_some hg;have hl:RiL g.1.1:=(h.gl n g hm 0 (by decide)).1;have hn:g.1.1.length<=64:=h.lst_len hm (i:=0) (by decide);have hv:=(h.gn n g hm).2;simp only;cases h2:hasK 0 s x with
   |false=>rfl|true=>
    simp only[aW,zF];unfold zoG;simp only[bne_self_eq_false,zF,lst];rw[show zaY zaB g.1.1 x=_ from yfC x hl (by omega),zaA];cases h3:g.1.1.contains x with
    |false=>rfl|true=>simp only[aW,zF,zaA];unfold zoS;rw[show zaX zaB g.1.1 x=_ from yaI _ x (by omega),zaA,zaA];simp only;rw[show w64 (g.2+1)=g.2+1 from zsE (by omega) (by omega)];rfl
theorem ytI(n x:L8)(s:PS):zeC zaB n x s.1 s.2.1 s.2.2.1 s.2.2.2.1 s.2.2.2.2=some (ygA 1 n x s):=by
 unfold zeC zpP ygA;rw[zyF,zaA];cases nmB n with
 |false=>rfl|true=>
  rw[aW,zF,zyF,zaA];cases nmB x with
  |false=>rfl|true=>
   simp only[aW,zF,zaA,eJ];rw[ziY,zrM];cases mget keqS s.2.1 n with
   |none=>rfl|some g=>simp only[eY,aW,zF];unfold zeM;rw[zaA];simp only[hasK];cases mhas keqS s.2.1 x<;>rfl
theorem puts1_ok{B:Int}(hB:B<=1099511627776){s:PS}(h:PInv B s)(n x:L8):zgJ zaB n x s.1 s.2.1 s.2.2.1 s.2.2.2.1 s.2.2.2.2=some (yhU 1 n x s):=by
 unfold zgJ zqD zaQ;rw[zaA,ytI,zaA,zaA];unfold ygA yhU;cases h1:!nmB n || !nmB x with
 |true=>rfl|false=>
  simp only[zF];cases hg:mget keqS s.2.1 n with
  |none=>rfl|some g=>
   have hm:=kS.get_some hg;have hl:RiL g.1.2.1:=(h.gl n g hm 1 (by decide)).1;have hn:g.1.2.1.length<=64:=h.lst_len hm (i:=1) (by decide);have hv:=(h.gn n g hm).2;simp only;cases h2:hasK 1 s x with
   |false=>rfl|true=>
    simp only[aW,zF];unfold zqB zqG;simp only[bne_self_eq_false,zF,lst];rw[show zaY zaB g.1.2.1 x=_ from yfC x hl (by omega),zaA,zaA];simp only;cases h3:g.1.2.1.contains x with
    |true=>rfl|false=>
     have hx:x∉g.1.2.1:=fun hx=>by rw[bO.2 hx]at h3;cases h3
     simp only[zF];obtain⟨r,hr,hr2⟩:=xfF h x n;rw[hr,zaA];cases r with
     |true=>rw[zI ⟨rfl,hr2.1 rfl⟩];rfl|false=>rw[zH fun hh=>by have:=hr2.2 hh.2;cases this];simp only[zF,zaA];unfold zpK;rw[show zeI zaB g.1.2.1 x=_ from yrT x hl (by omega),zaA,zaA];simp only;rw[show w64 (g.2+1)=g.2+1 from zsE (by omega) (by omega)];rfl
theorem xeJ{B:Int}(hB:B<=1099511627776){s:PS}(h:PInv B s)(n x:L8):zeY zaB n x s.1 s.2.1 s.2.2.1 s.2.2.2.1 s.2.2.2.2=some (zzY 1 n x s):=by
 unfold zeY zmZ zaQ;rw[zaA,ytI,zaA,zaA];unfold ygA zzY;cases h1:!nmB n || !nmB x with
 |true=>rfl|false=>
  simp only[zF];cases hg:mget keqS s.2.1 n with
  |none=>rfl|some g=>
   have hm:=kS.get_some hg;have hl:RiL g.1.2.1:=(h.gl n g hm 1 (by decide)).1;have hn:g.1.2.1.length<=64:=h.lst_len hm (i:=1) (by decide);have hv:=(h.gn n g hm).2;simp only;cases h2:hasK 1 s x with
   |false=>rfl|true=>
    simp only[aW,zF];unfold znH;simp only[bne_self_eq_false,zF,lst];rw[show zaY zaB g.1.2.1 x=_ from yfC x hl (by omega),zaA];cases h3:g.1.2.1.contains x with
    |false=>rfl|true=>simp only[aW,zF,zaA];unfold zmY;rw[show zaX zaB g.1.2.1 x=_ from yaI _ x (by omega),zaA,zaA];simp only;rw[show w64 (g.2+1)=g.2+1 from zsE (by omega) (by omega)];rfl
theorem yvR(n x:L8)(s:PS):zdI zaB n x s.1 s.2.1 s.2.2.1 s.2.2.2.1 s.2.2.2.2=some (ygA 2 n x s):=by
 unfold zdI zoQ ygA;rw[zyF,zaA];cases nmB n with
 |false=>rfl|true=>
  rw[aW,zF,zyF,zaA];cases nmB x with
  |false=>rfl|true=>
   simp only[aW,zF,zaA,eJ];rw[ziY,zrM];cases mget keqS s.2.1 n with
   |none=>rfl|some g=>simp only[eY,aW,zF];unfold zeG;rw[zaA];simp only[hasK];cases mhas keqS s.2.2.1 x<;>rfl
theorem puts2_ok{B:Int}(hB:B<=1099511627776){s:PS}(h:PInv B s)(n x:L8):zfO zaB n x s.1 s.2.1 s.2.2.1 s.2.2.2.1 s.2.2.2.2=some (yhU 2 n x s):=by
 unfold zfO znN zaQ;rw[zaA,yvR,zaA,zaA];unfold ygA yhU;cases h1:!nmB n || !nmB x with
 |true=>rfl|false=>
  simp only[zF];cases hg:mget keqS s.2.1 n with
  |none=>rfl|some g=>
   have hm:=kS.get_some hg;have hl:RiL g.1.2.2:=(h.gl n g hm 2 (by decide)).1;have hn:g.1.2.2.length<=64:=h.lst_len hm (i:=2) (by decide);have hv:=(h.gn n g hm).2;simp only;cases h2:hasK 2 s x with
   |false=>rfl|true=>
    simp only[aW,zF];unfold zoF znX;simp only[bne_self_eq_false,zF,lst];rw[show zaY zaB g.1.2.2 x=_ from yfC x hl (by omega),zaA,zaA];simp only;cases h3:g.1.2.2.contains x with
    |true=>rfl|false=>
     have hx:x∉g.1.2.2:=fun hx=>by rw[bO.2 hx]at h3;cases h3
     simp only[zF];rw[zH fun hh=>absurd hh.1 (by decide),zaA];simp only;unfold znV;rw[show zeI zaB g.1.2.2 x=_ from yrT x hl (by omega),zaA,zaA];simp only;rw[show w64 (g.2+1)=g.2+1 from zsE (by omega) (by omega)];rfl
theorem xbJ{B:Int}(hB:B<=1099511627776){s:PS}(h:PInv B s)(n x:L8):zfB zaB n x s.1 s.2.1 s.2.2.1 s.2.2.2.1 s.2.2.2.2=some (zzY 2 n x s):=by
 unfold zfB zmP zaQ;rw[zaA,yvR,zaA,zaA];unfold ygA zzY;cases h1:!nmB n || !nmB x with
 |true=>rfl|false=>
  simp only[zF];cases hg:mget keqS s.2.1 n with
  |none=>rfl|some g=>
   have hm:=kS.get_some hg;have hl:RiL g.1.2.2:=(h.gl n g hm 2 (by decide)).1;have hn:g.1.2.2.length<=64:=h.lst_len hm (i:=2) (by decide);have hv:=(h.gn n g hm).2;simp only;cases h2:hasK 2 s x with
   |false=>rfl|true=>
    simp only[aW,zF];unfold znA;simp only[bne_self_eq_false,zF,lst];rw[show zaY zaB g.1.2.2 x=_ from yfC x hl (by omega),zaA];cases h3:g.1.2.2.contains x with
    |false=>rfl|true=>simp only[aW,zF,zaA];unfold zmK;rw[show zaX zaB g.1.2.2 x=_ from yaI _ x (by omega),zaA,zaA];simp only;rw[show w64 (g.2+1)=g.2+1 from zsE (by omega) (by omega)];rfl
theorem putR_ok{r:Ro}(hr:r.2.length<=1048576)(s:PS):zcH zaB r s.1 s.2.1 s.2.2.1 s.2.2.2.1 s.2.2.2.2=some (ynF r s):=by
 unfold zcH zlQ ynF;rw[yzT hr,zaA];cases yjE r with
 |false=>rfl|true=>
  simp only[aW,zF];cases mhas keqS s.2.2.1 r.1 with
  |true=>simp only[aW,zF,zaA,fN];rw[yrG hr,zaA]|false=>
   simp only[eO,zE,cP];by_cases h:32<=s.2.2.1.length
   ·rw[zfQ (show(s.2.2.1.length:Int)≥32 by omega),zA h];rfl
   ·rw[zgE (show ¬(s.2.2.1.length:Int)≥32 by omega),zB h,zaA];simp only[zF];rw[yrG hr,zaA]
theorem putC_ok{c:Cl}(h0:c.2.1.length<=1048576)(h1:c.2.2.1.length<=1048576)(h2:c.2.2.2.1.length<=1048576)(s:PS):zdC zaB c s.1 s.2.1 s.2.2.1 s.2.2.2.1 s.2.2.2.2=some (ymD c s):=by
 unfold zdC zjY ymD;rw[cli_ok h0 h1 h2,zaA];cases cliB c with
 |false=>rfl|true=>
  simp only[aW,zF];cases mhas keqS s.2.2.2.1 c.1 with
  |true=>simp only[aW,zF,zaA,fN];rw[ysQ h1 h2,zaA]|false=>
   simp only[eO,zE,cP];by_cases h:32<=s.2.2.2.1.length
   ·rw[zfQ (show(s.2.2.2.1.length:Int)≥32 by omega),zA h];rfl
   ·rw[zgE (show ¬(s.2.2.2.1.length:Int)≥32 by omega),zB h,zaA];simp only[zF];rw[ysQ h1 h2,zaA]
theorem yuD{p:L8}(hp:prB p=true)(s:PS):zbL zaB p s.1 s.2.1 s.2.2.1 s.2.2.2.1 s.2.2.2.2=some (thB s p,s):=by
 obtain⟨c,l,rfl,hc,_⟩:=yhT hp;unfold zbL;rw[show idx (c::58::l) (0:Int)=some c from rfl,zaA];have e2:subL (c::58::l) (2:Int)=some l:=by unfold subL;rw[zA (show(0:Int)<=2 by decide),zA (show(2:Int)<=((c::58::l).length:Int) by simp only[aS];omega)];rfl
 rcases hc with rfl|rfl
 ·rw[show(((117:UInt8).toNat:Int)==((99:UInt8).toNat:Int))=false from rfl,zF,e2,zaA];rfl
 ·rw[show(((99:UInt8).toNat:Int)==((99:UInt8).toNat:Int))=true from rfl,zE,e2,zaA];rfl
def bothE(a b:L8)(s:PS):Int:=bif !prB a || !prB b then 120 else bif !thB s a || !thB s b then 122 else 0
theorem xdR(a b:L8)(s:PS):zeA zaB a b s.1 s.2.1 s.2.2.1 s.2.2.2.1 s.2.2.2.2=some (bothE a b s,s):=by
 unfold zeA zqI bothE;rw[pr_ok,zaA];cases ha:prB a with
 |false=>rfl|true=>
  rw[aW,zF,pr_ok,zaA];cases hb:prB b with
  |false=>rfl|true=>
   simp only[aW,zF,zaA,eJ];rw[yuD ha,zaA];cases thB s a with
   |false=>rfl|true=>simp only[aW,zF];rw[yuD hb,zaA];cases thB s b<;>rfl
theorem allow_ok(a b:L8)(s:PS):zfP zaB a b s.1 s.2.1 s.2.2.1 s.2.2.2.1 s.2.2.2.2=some (yqH a b s):=by
 unfold zfP yqH;rw[xdR,zaA];unfold bothE;cases !prB a || !prB b with
 |true=>rfl|false=>
  cases !thB s a || !thB s b with
  |true=>rfl|false=>
   simp only[zF,bne_self_eq_false];unfold zeV;simp only;rw[zaA];simp only;cases h:mhas keqM s.2.2.2.2 (a,b) with
   |true=>rw[show mhas (keq (.pr .s .s)) s.2.2.2.2 (a,b)=true from h];rfl|false=>
    rw[show mhas (keq (.pr .s .s)) s.2.2.2.2 (a,b)=false from h,zF,zF];by_cases h:64<=s.2.2.2.2.length
    ·rw[zfQ (show(s.2.2.2.2.length:Int)≥64 by omega),zA h];rfl
    ·rw[zgE (show ¬(s.2.2.2.2.length:Int)≥64 by omega),zB h];rfl
theorem deny_ok(a b:L8)(s:PS):zgF zaB a b s.1 s.2.1 s.2.2.1 s.2.2.2.1 s.2.2.2.2=some (xcP a b s):=by
 unfold zgF xcP;rw[xdR,zaA];unfold bothE;cases !prB a || !prB b with
 |true=>rfl|false=>
  cases !thB s a || !thB s b with
  |true=>rfl|false=>
   simp only[zF,bne_self_eq_false];unfold zeV;simp only;rw[zaA];simp only;cases h:mhas keqM s.2.2.2.2 (a,b) with
   |true=>rw[show mhas (keq (.pr .s .s)) s.2.2.2.2 (a,b)=true from h];rfl|false=>rw[show mhas (keq (.pr .s .s)) s.2.2.2.2 (a,b)=false from h];rfl
abbrev Opr:Type:=Int×Int×L8×L8×Bool×Ro×Cl
noncomputable def ywQ(o:Opr)(s:PS):Int×PS:=
 bif o.2.1==0 then yzV o.2.2.1 o.2.2.2.1 s else bif o.2.1==1 then xaY o.2.2.1 o.2.2.2.1 s else bif o.2.1==2 then ywW o.2.2.1 o.2.2.2.2.1 s else bif o.2.1==3 then ypK o.2.2.1 s else bif o.2.1==4 then xaW o.2.2.1 s else bif o.2.1==5 then ypN o.2.2.1 s else
 bif o.2.1==6 then yhU 0 o.2.2.1 o.2.2.2.1 s else bif o.2.1==7 then zzY 0 o.2.2.1 o.2.2.2.1 s else bif o.2.1==8 then yhU 1 o.2.2.1 o.2.2.2.1 s else bif o.2.1==9 then zzY 1 o.2.2.1 o.2.2.2.1 s else bif o.2.1==10 then yhU 2 o.2.2.1 o.2.2.2.1 s else bif o.2.1==11 then zzY 2 o.2.2.1 o.2.2.2.1 s else
 bif o.2.1==12 then ynF o.2.2.2.2.2.1 s else bif o.2.1==13 then yoZ o.2.2.1 s else bif o.2.1==14 then ymD o.2.2.2.2.2.2 s else bif o.2.1==15 then yqU o.2.2.1 s else bif o.2.1==16 then yqH o.2.2.1 o.2.2.2.1 s else bif o.2.1==17 then xcP o.2.2.1 o.2.2.2.1 s else(0,s)
def Opok(o:Opr):Prop:=o.2.2.2.2.2.1.2.length<=1048576/\o.2.2.2.2.2.2.2.1.length<=1048576/\o.2.2.2.2.2.2.2.2.1.length<=1048576/\o.2.2.2.2.2.2.2.2.2.1.length<=1048576
theorem zoP{α:Type}{c:Bool}{a b:Option α}{x y:α}(h:a=some x)(k:b=some y):(bif c then a else b)=some (bif c then x else y):=by cases c<;>assumption
theorem does_ok{B:Int}(hB:B<=1099511627776){s:PS}(h:PInv B s){o:Opr}(ho:Opok o):zdK zaB o s.1 s.2.1 s.2.2.1 s.2.2.2.1 s.2.2.2.2=some (ywQ o s):=by obtain⟨h1,h2,h3,h4⟩:=ho;unfold zdK ywQ;refine zoP (by rw[addU_ok];rfl) (zoP (by rw[setM_ok hB h];rfl) (zoP (by rw[setA_ok hB h];rfl) (zoP (by rw[dropU_ok hB h];rfl) (zoP (by rw[addG_ok];rfl) (zoP (by rw[dropG_ok hB h];rfl) ?_)))));unfold zgG ziG zeD zhY zgL zkC;refine zoP (by rw[puts0_ok hB h];rfl) (zoP (by rw[xfL hB h];rfl) (zoP (by rw[puts1_ok hB h];rfl) (zoP (by rw[xeJ hB h];rfl) (zoP (by rw[puts2_ok hB h];rfl) (zoP (by rw[xbJ hB h];rfl) ?_)))));exact zoP (by rw[putR_ok h1];rfl) (zoP (by rw[dropR_ok hB h];rfl) (zoP (by rw[putC_ok h2 h3 h4];rfl) (zoP (by rw[dropC_ok h];rfl) (zoP (by rw[allow_ok];rfl) (zoP (by rw[deny_ok];rfl) rfl)))))
theorem zyA{α:Type}{P:α->Prop}{c:Bool}{x y:α}(h:P x)(k:P y):P (bif c then x else y):=by cases c<;>assumption
theorem ywA{B:Int}(hB:1<=B){s:PS}(h:PInv B s)(o:Opr):PInv (B+1) (ywQ o s).2:=by have m:∀{t:PS},PInv B t->PInv (B+1) t:=fun h=>h.mono (by omega);unfold ywQ;let P:Int×PS->Prop:=fun r=>PInv (B+1) r.2;refine zyA (P:=P) (m (addU_inv h hB)) (zyA (P:=P) (setM_inv h) (zyA (P:=P) (setA_inv h) (zyA (P:=P) (xaN h) (zyA (P:=P) (addG_inv h hB) (zyA (P:=P) (xaF h) ?_)))));refine zyA (P:=P) (ymN (by decide) h hB) (zyA (P:=P) (yjD (by decide) h hB) (zyA (P:=P) (ymN (by decide) h hB) (zyA (P:=P) (yjD (by decide) h hB) (zyA (P:=P) (ymN (by decide) h hB) (zyA (P:=P) (yjD (by decide) h hB) ?_)))));exact zyA (P:=P) (m (ytT h)) (zyA (P:=P) (yzZ h) (zyA (P:=P) (m (yuX h)) (zyA (P:=P) (m (xdK h)) (zyA (P:=P) (m (xdJ h)) (zyA (P:=P) (m (deny_inv h)) (m h))))))
end Go.Proofs.YtopanhneegpgcaaGreatDoor.Am
