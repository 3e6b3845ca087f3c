/- Parts of one proof. Conditions: as each theorem says. -/
import Derived.KernelRfl
import Derived.Test.YtopanhneegpgcaaGreatDoorQlN
open Bool renaming and_true->eI,not_true->bM,true_and->cO
open Int renaming le_refl->fW
open List renaming all_cons->cI,append_nil->bK,cons_append->bG,drop_eq_getElem_cons->aX,drop_length->bX,drop_zero->bQ,getElem_mem->bE,length_append->aC,length_cons->aN,length_take->bA,mem_cons_of_mem->aL,mem_cons_self->aM,nil_append->bL,take->fK,takeWhile_append_dropWhile->cM,takeWhile_sublist->fP,take_append_drop->dC,take_left'->fC
open Nat renaming zero_le->aZ
open Go.Proofs.Tryz renaming prog->aA
namespace Go.Proofs.YtopanhneegpgcaaGreatDoor.Am
open Go Go.RowKit
def τWkL:TE:=[(3,⟨.int .i64,1,[.v (.i .i64) (show Int from 0)],(.i .i64),8⟩),
 (4,⟨.b,1,[.v .b (show Bool from false)],.b,1⟩),
 (9,⟨.s,1,[.v .s (show Bs from [])],.s,16⟩),
 (22,⟨.sl 9,1,[.nils],(.sl .s),24⟩),
 (31,⟨.sl 33,1,[.nils],(.sl (.pr .s .s)),24⟩),
 (33,⟨.st [(9,0),(9,1)],2,[.v .s (show Bs from []),.v .s (show Bs from [])],(.pr .s .s),32⟩),
 (34,⟨.pt 128,1,[.nilp],.un,8⟩),
 (38,⟨.pt 84,1,[.nilp],.un,8⟩),
 (49,⟨.st [(9,0),(22,1)],2,[.v .s (show Bs from []),.nils],(.pr .s (.sl .s)),40⟩),
 (51,⟨.st [(9,0),(9,1),(22,2),(22,3),(4,4),(4,5),(4,6),(4,7)],8,[.v .s (show Bs from []),.v .s (show Bs from []),.nils,.nils,.v .b (show Bool from false),.v .b (show Bool from false),.v .b (show Bool from false),.v .b (show Bool from false)],(.pr .s (.pr .s (.pr (.sl .s) (.pr (.sl .s) (.pr .b (.pr .b (.pr .b .b))))))),88⟩),
 (54,⟨.sl 57,1,[.nils],(.sl (.pr .s (.pr (.sl .s) (.pr (.sl .s) (.pr (.sl .s) (.i .i64)))))),24⟩),
 (57,⟨.st [(9,0),(22,1),(22,2),(22,3),(3,4)],5,[.v .s (show Bs from []),.nils,.nils,.nils,.v (.i .i64) (show Int from 0)],(.pr .s (.pr (.sl .s) (.pr (.sl .s) (.pr (.sl .s) (.i .i64))))),96⟩),
 (64,⟨.sl 51,1,[.nils],(.sl (.pr .s (.pr .s (.pr (.sl .s) (.pr (.sl .s) (.pr .b (.pr .b (.pr .b .b)))))))),24⟩),
 (67,⟨.sl 77,1,[.nils],(.sl (.pr .s (.pr .s (.pr .b (.i .i64))))),24⟩),
 (69,⟨.sl 49,1,[.nils],(.sl (.pr .s (.sl .s))),24⟩),
 (72,⟨.sl 75,1,[.nils],(.sl (.pr .s .s)),24⟩),
 (75,⟨.st [(9,0),(9,1)],2,[.v .s (show Bs from []),.v .s (show Bs from [])],(.pr .s .s),32⟩),
 (77,⟨.st [(9,0),(9,1),(4,2),(3,3)],4,[.v .s (show Bs from []),.v .s (show Bs from []),.v .b (show Bool from false),.v (.i .i64) (show Int from 0)],(.pr .s (.pr .s (.pr .b (.i .i64)))),48⟩),
 (84,⟨.st [(67,0),(54,1),(69,2),(64,3),(72,4)],5,[.nils,.nils,.nils,.nils,.nils],(.pr (.sl (.pr .s (.pr .s (.pr .b (.i .i64))))) (.pr (.sl (.pr .s (.pr (.sl .s) (.pr (.sl .s) (.pr (.sl .s) (.i .i64)))))) (.pr (.sl (.pr .s (.sl .s))) (.pr (.sl (.pr .s (.pr .s (.pr (.sl .s) (.pr (.sl .s) (.pr .b (.pr .b (.pr .b .b)))))))) (.sl (.pr .s .s)))))),120⟩),
 (194,⟨.st [(22,0),(4,1)],2,[.nils,.v .b (show Bool from false)],(.pr (.sl .s) .b),32⟩)]
theorem τ_okWkL:TEok aA τWkL:=yrP (by kernel_rfl) (by kernel_rfl)
theorem mixWkL:Tryz.prog.follows .mixedOrders=true:=by kernel_rfl
theorem zxP {G : List (Nat × Obj)} {o : Ops} [zrD G] [zoW G o] {Γ : CT} {η : HT} {f : FuncId} {fn : Func} {c : SC} (hΓ : ∀ B, GB G B -> CTok aA Γ B) (hf : Tryz.prog.funcs[f]? = some fn) (i : (fn.name == "runtime.NumGoroutine") = false := by kernel_rfl) (j : fn.body.isNone = false := by kernel_rfl) (l : Nat.ble c.I.sl.length fn.ntmps = true := by kernel_rfl) (r : Nat.beq fn.results.toList.length c.nr = true := by kernel_rfl) (e : fnS τWkL Γ η fn c.I c.outs = c.p := by kernel_rfl) : SCok aA G f c := witO (G := G) (o := o) <| xbF mixWkL τ_okWkL hΓ hf (isFn hf i j) l r e
theorem zpG {G : List (Nat × Obj)} {o : Ops} [zrD G] [zoW G o] {Γ : CT} {η : HT} {f : FuncId} {fn : Func} {c : PC} (hΓ : ∀ B, GB G B -> CTok aA Γ B) (hf : Tryz.prog.funcs[f]? = some fn) (i : (fn.name == "runtime.NumGoroutine") = false := by kernel_rfl) (j : fn.body.isNone = false := by kernel_rfl) (l : Nat.ble c.ash.length fn.ntmps = true := by kernel_rfl) (r : c.cl = false := by kernel_rfl) (e : fnP τWkL Γ η fn c.ash c.rts = c.p := by kernel_rfl) : PCok aA G f c := witO (G := G) (o := o) <| yyR mixWkL τ_okWkL hΓ hf (isFn hf i j) l r e
abbrev yjH:Type:=(List Bs)×Bool
abbrev zbA:Type:=Bs×List Bs
abbrev qbW:Type:=List zbA
abbrev zlL:Ty:=.pr .s (.sl .s)
abbrev zbF:Type:=Bs×Bs×Bool×Int
abbrev qcX:Type:=List zbF
abbrev zpT:Ty:=.pr .s (.pr .s (.pr .b (.i .i64)))
abbrev zbY:Type:=Bs×(List Bs)×(List Bs)×(List Bs)×Int
abbrev qbV:Type:=List zbY
abbrev zmO:Ty:=.pr .s (.pr (.sl .s) (.pr (.sl .s) (.pr (.sl .s) (.i .i64))))
abbrev zaZ:Type:=Bs×Bs×(List Bs)×(List Bs)×Bool×Bool×Bool×Bool
abbrev qbZ:Type:=List zaZ
abbrev zlF:Ty:=.pr .s (.pr .s (.pr (.sl .s) (.pr (.sl .s) (.pr .b (.pr .b (.pr .b .b))))))
abbrev zkQ:Type:=qcX×qbV×qbW×qbZ×List (Bs×Bs)
abbrev yjV:Ty:=.pr (.sl zpT) (.pr (.sl zmO) (.pr (.sl zlL) (.pr (.sl zlF) (.sl (.pr .s .s)))))
abbrev ziB:OSh:=.blk 84 [(.h (.sl zpT)),(.h (.sl zmO)),(.h (.sl zlL)),(.h (.sl zlF)),(.h (.sl (.pr .s .s)))]
abbrev yfV:OSh:=.blk 84 [(.own 1),(.own 2),(.own 3),(.own 4),(.h (.sl (.pr .s .s)))]
abbrev xfE:OSh:=.blk 57 [hS,(.h (.sl .s)),(.h (.sl .s)),(.h (.sl .s)),hI]
abbrev zvN:OSh:=.blk 128 [(.mpr 2),(.mpr 3),(.mpr 4),(.mpr 5),(.mpr 6)]
abbrev QWkL5:OSh:=.blk 51 [hS,hS,.nils,.nils,hB,hB,hB,hB]
abbrev zxV:OSh:=.blk 194 [(.h (.sl .s)),hB]
abbrev zvC:OSh:=.mp true .s zpT
abbrev zvG:OSh:=.mp true .s zlL
abbrev zvA:OSh:=.mp true .s zlF
def yuS:Nat×Hint:=(4000004,.sch (zpu 0 22))
section
variable {tabs:List (Nat×Obj)}[zrD tabs]{o:Ops}[zoW tabs o]
def zlQ(_o:Ops)(v0:Bs)(v1:UInt8)(v2:Int):Option (Int⊕((Bs×Bs×Bool)⊕Unit)):=
 bif decide (v2<(v0.length:Int))then((idx v0 v2).bind fun v3=>bif((v3.toNat:Int)==(v1.toNat:Int))then((subH v0 v2).bind fun v4=>(subL v0 (w64 (v2+1))).bind fun v5=>some (.inr (.inl (v4,v5,true))))else some (.inl (w64 (v2+1))))else some (.inr (.inr ()))
def zdN(o:Ops)(v0:Bs)(v1:UInt8):Option (Bs×Bs×Bool):=
 (iter (zlQ o v0 v1) (0:Int)).bind fun v6=>match v6 with
 |.inl v7=>(some v7)|.inr _v8=>(some (v0,([]:Bs),false))
def zrJ(o:Ops):PC:=⟨[hS,(.h (.i .u8))],[.s,.s,.b],fun x=>zdN o x.1 x.2,false⟩
theorem yaI:PCok aA tabs 176 (zrJ o):=zpG (o:=o) (η:=[(200002,.loop [] ⟨[(7,hI)],[]⟩ [0,1] [(some 1000000,⟨[(4,hS),(5,hS),(6,hB)],[]⟩),(some 0,⟨[],[]⟩)]),
 (4000005,.sch (zpu 0 10))]) (Γ:=⟨[],[],false,[]⟩) (ctok trivial trivial) Tryz.func176
def zbQ(_o:Ops)(v0:List Bs)(v1:Bool):Option ((Bs×yjH)):=
 bif((v0.length:Int)==0)then some (([]:Bs),v0,true)else((idx v0 (0:Int)).bind fun v2=>(subL v0 (1:Int)).bind fun v3=>some (v2,v3,v1))
def zgS(o:Ops):SC:=⟨⟨[(0,(.ptr 0 0))],[zxV]⟩,1,[(none,⟨[(0,hS)],[zxV]⟩)],fun x=>zbQ o x.1 x.2⟩
theorem zkO:SCok aA tabs 177 (zgS o):=zxP (o:=o) (η:=[]) (Γ:=⟨[],[],false,[]⟩) (ctok trivial trivial) Tryz.func177
def zhD(_o:Ops)(v0:Int)(v1:Int)(v4:(Bs×yjH))(v5:Int×Bool):Option ((Bool×yjH)):=
 bif(!v5.2)then some (true,v4.2)else(bif decide (v5.1<v0)then some (true,v4.2)else some (decide (v5.1>v1),v4.2))
def zbE(o:Ops)(v0:Int)(v1:Int)(v2:List Bs)(v3:Bool):Option ((Int×yjH)):=
 (zbQ o v2 v3).bind fun v4=>(zeX o v4.1).bind fun v5=>(zhD o v0 v1 v4 v5).bind fun v6=>bif v6.1 then some (v0,v6.2.1,true)else some (v5.1,v6.2)
def zeI(o:Ops):SC:=⟨⟨[(0,(.ptr 0 0)),(1,hI),(2,hI)],[zxV]⟩,1,[(none,⟨[(0,hI)],[zxV]⟩)],fun x=>zbE o x.1 x.2.1 x.2.2.1 x.2.2.2⟩
theorem zhG:SCok aA tabs 180 (zeI o):=zxP (o:=o) (η:=[(2300003,.join [] [1,7] [(none,⟨[(0,(.ptr 0 0)),(26,hB)],[zxV]⟩)])]) (Γ:=⟨[(62,(ziS o))],[(177,(zgS o))],false,[]⟩) (ctok ⟨znX,trivial⟩ ⟨zkO,trivial⟩) Tryz.func180
def zaL(o:Ops)(v0:List Bs)(v1:Bool):Option (((List Bs)×yjH)):=
 (zbE o (0:Int) (100000:Int) v0 v1).bind fun v2=>bif decide (v2.1>(v2.2.1.length:Int))then some (([]:List Bs),v2.2.1,true)else((subH v2.2.1 v2.1).bind fun v3=>(app ([]:List Bs) v3).bind fun v4=>(subL v2.2.1 v2.1).bind fun v5=>some (v4,v5,v2.2.2))
def zkJ(o:Ops):SC:=⟨⟨[(0,(.ptr 0 0))],[zxV]⟩,1,[(none,⟨[(0,(.h (.sl .s)))],[zxV]⟩)],fun x=>zaL o x.1 x.2⟩
theorem zsL:SCok aA tabs 178 (zkJ o):=zxP (o:=o) (η:=[]) (Γ:=⟨[],[(180,(zeI o))],false,[]⟩) (ctok trivial ⟨zhG,trivial⟩) Tryz.func178
def zcQ(o:Ops)(v0:List Bs)(v2:Int)(v3:Int):Option (Int⊕(Bool⊕Unit)):=
 bif decide (v3<(v0.length:Int))then(bif(v2==0)then((idx v0 v3).bind fun v4=>(zgF o v4).bind fun v5=>bif(!v5)then some (.inr (.inl false))else(bif(v2==1)then((idx v0 v3).bind fun v6=>(zfI o v6).bind fun v7=>bif(!v7)then some (.inr (.inl false))else(bif decide (v3>0)then((idx v0 v3).bind fun v8=>(idx v0 (w64 (v3-1))).bind fun v9=>bif(Op.bytesLess v8 v9||v8==v9)then some (.inr (.inl false))else some (.inl (w64 (v3+1))))else some (.inl (w64 (v3+1)))))else(bif decide (v3>0)then((idx v0 v3).bind fun v10=>(idx v0 (w64 (v3-1))).bind fun v11=>bif(Op.bytesLess v10 v11||v10==v11)then some (.inr (.inl false))else some (.inl (w64 (v3+1))))else some (.inl (w64 (v3+1))))))else(bif(v2==1)then((idx v0 v3).bind fun v12=>(zfI o v12).bind fun v13=>bif(!v13)then some (.inr (.inl false))else(bif decide (v3>0)then((idx v0 v3).bind fun v14=>(idx v0 (w64 (v3-1))).bind fun v15=>bif(Op.bytesLess v14 v15||v14==v15)then some (.inr (.inl false))else some (.inl (w64 (v3+1))))else some (.inl (w64 (v3+1)))))else(bif decide (v3>0)then((idx v0 v3).bind fun v16=>(idx v0 (w64 (v3-1))).bind fun v17=>bif(Op.bytesLess v16 v17||v16==v17)then some (.inr (.inl false))else some (.inl (w64 (v3+1))))else some (.inl (w64 (v3+1))))))else some (.inr (.inr ()))
def zaU(o:Ops)(v0:List Bs)(v1:Int)(v2:Int):Option (Bool):=
 (iter (zcQ o v0 v2) (0:Int)).bind fun v18=>match v18 with
 |.inl v19=>(some v19)|.inr _v20=>(some (decide ((v0.length:Int)<=v1)))
def zjN(o:Ops):PC:=⟨[(.h (.sl .s)),hI,hI],[.b],fun x=>zaU o x.1 x.2.1 x.2.2,false⟩
theorem zoP:PCok aA tabs 248 (zjN o):=zpG (o:=o) (η:=[(200002,.loop [] ⟨[(7,hI)],[]⟩ [0,1,2] [(some 1000000,⟨[(6,hB)],[]⟩),(some 0,⟨[],[]⟩)]),
 (4000004,.sch (zpu 0 7++[(.mn,7,[])]++zpu 8 10++[(.mn,18,[])]++zpu 19 19))]) (Γ:=⟨[(16,(zlD o)),(18,(zpR o))],[],false,[]⟩) (ctok ⟨zqE,⟨zwF,trivial⟩⟩ trivial) Tryz.func248
def zeQ(_o:Ops)(v1:Int)(v2:Bs)(v3:Bs)(v4:List Bs)(v5:List Bs)(v6:Bool)(v7:Bool)(v8:Bool)(v9:Bool):Option ((Int×zaZ)⊕(Bool⊕zaZ)):=
 bif decide (v1<(v3.length:Int))then((idx v3 v1).bind fun v10=>bif decide ((v10.toNat:Int)<((48:UInt8).toNat:Int))then((idx v3 v1).bind fun v11=>bif decide ((v11.toNat:Int)<((97:UInt8).toNat:Int))then some (.inr (.inl false))else((idx v3 v1).bind fun v12=>bif decide ((v12.toNat:Int)>((102:UInt8).toNat:Int))then some (.inr (.inl false))else some (.inl (w64 (v1+1),v2,v3,v4,v5,v6,v7,v8,v9))))else((idx v3 v1).bind fun v13=>bif decide ((v13.toNat:Int)>((57:UInt8).toNat:Int))then((idx v3 v1).bind fun v14=>bif decide ((v14.toNat:Int)<((97:UInt8).toNat:Int))then some (.inr (.inl false))else((idx v3 v1).bind fun v15=>bif decide ((v15.toNat:Int)>((102:UInt8).toNat:Int))then some (.inr (.inl false))else some (.inl (w64 (v1+1),v2,v3,v4,v5,v6,v7,v8,v9))))else some (.inl (w64 (v1+1),v2,v3,v4,v5,v6,v7,v8,v9))))else some (.inr (.inr (v2,v3,v4,v5,v6,v7,v8,v9)))
def zfD(o:Ops)(v0:zaZ):Option (Bool):=
 (iter (fun x=>zeQ o x.1 x.2.1 x.2.2.1 x.2.2.2.1 x.2.2.2.2.1 x.2.2.2.2.2.1 x.2.2.2.2.2.2.1 x.2.2.2.2.2.2.2.1 x.2.2.2.2.2.2.2.2) ((0:Int),v0)).bind fun v16=>match v16 with
 |.inl v17=>(some v17)|.inr v18=>((zcC o v18.1).bind fun v19=>bif v19 then(bif(v18.2.1==([]:Bs))then((zaU o v18.2.2.1 (16:Int) (0:Int)).bind fun v20=>bif v20 then((zaU o v18.2.2.2.1 (16:Int) (1:Int)).bind fun v21=>some v21)else(some false))else(bif((v18.2.1.length:Int)==64)then((zaU o v18.2.2.1 (16:Int) (0:Int)).bind fun v22=>bif v22 then((zaU o v18.2.2.2.1 (16:Int) (1:Int)).bind fun v23=>some v23)else(some false))else(some false)))else(some false))
def zmC(o:Ops):PC:=⟨[(.h zlF)],[.b],fun x=>zfD o x,false⟩
theorem ztS:PCok aA tabs 179 (zmC o):=zpG (o:=o) (η:=[(200002,.loop [] ⟨[(1,(.ptr 0 0)),(3,hI)],[.blk 51 [hS,hS,(.h (.sl .s)),(.h (.sl .s)),hB,hB,hB,hB]]⟩ [] [(some 1000000,⟨[(2,hB)],[]⟩),(some 0,⟨[(1,(.ptr 0 0))],[.blk 51 [hS,hS,(.h (.sl .s)),(.h (.sl .s)),hB,hB,hB,hB]]⟩)])]) (Γ:=⟨[(14,(zfF o)),(248,(zjN o))],[],false,[]⟩) (ctok ⟨zhS,⟨zoP,trivial⟩⟩ trivial) Tryz.func179
def zgO(o:Ops)(v0:zbA):Option (Bool):=
 (zcC o v0.1).bind fun v1=>bif v1 then((zaU o v0.2 (16:Int) (1:Int)).bind fun v2=>some v2)else(some false)
def zmV(o:Ops):PC:=⟨[(.h zlL)],[.b],fun x=>zgO o x,false⟩
theorem zuJ:PCok aA tabs 181 (zmV o):=zpG (o:=o) (η:=[]) (Γ:=⟨[(14,(zfF o)),(248,(zjN o))],[],false,[]⟩) (ctok ⟨zhS,⟨zoP,trivial⟩⟩ trivial) Tryz.func181
def zcE(o:Ops)(v0:List Bs)(v1:Bool):Option ((Bool×yjH)):=
 (zbE o (0:Int) (1:Int) v0 v1).bind fun v2=>some ((v2.1==1),v2.2)
def zkI(o:Ops):SC:=⟨⟨[(0,(.ptr 0 0))],[zxV]⟩,1,[(none,⟨[(0,hB)],[zxV]⟩)],fun x=>zcE o x.1 x.2⟩
theorem zsM:SCok aA tabs 182 (zkI o):=zxP (o:=o) (η:=[]) (Γ:=⟨[],[(180,(zeI o))],false,[]⟩) (ctok trivial ⟨zhG,trivial⟩) Tryz.func182
def zdW(_o:Ops)(v1:List (Bs×Bs))(v2:qcX)(v3:qbV)(v4:qbW)(v5:qbZ)(v6:yjH)(v7:Bs×Bs×Bool):Option ((Bool×(List (Bs×Bs))×qcX×qbV×qbW×qbZ)⊕((List (Bs×Bs))×qcX×qbV×qbW×qbZ)):=
 bif(!v6.2)then some (.inl (false,v1,v2,v3,v4,v5))else(bif(!v7.2.2)then some (.inl (false,v1,v2,v3,v4,v5))else some (.inr (v1,v2,v3,v4,v5)))
def zdY(_o:Ops)(v12:(Bs×yjH))(v13:Int)(v14:List (Bs×Bs))(v15:qcX)(v16:qbV)(v17:qbW)(v18:qbZ)(v19:List Bs)(v20:Bool)(v21:Bs)(v22:Bs)(v23:Bool)(v24:Bool)(v25:Bool)(v26:Bool):Option ((Int×(List (Bs×Bs))×qcX×qbV×qbW×qbZ×(List Bs)×Bool×Bs×Bs×Bool×Bool×Bool×Bool)⊕((Bool×(List (Bs×Bs))×qcX×qbV×qbW×qbZ)⊕((List (Bs×Bs))×qcX×qbV×qbW×qbZ×(List Bs)×Bool×Bs×Bs×Bool×Bool×Bool×Bool))):=
 bif decide (v13<4)then((idx v12.1 v13).bind fun v27=>bif((v27.toNat:Int) != ((48:UInt8).toNat:Int))then((idx v12.1 v13).bind fun v28=>bif((v28.toNat:Int) != ((49:UInt8).toNat:Int))then some (.inr (.inl (false,v14,v15,v16,v17,v18)))else some (.inl (w64 (v13+1),v14,v15,v16,v17,v18,v19,v20,v21,v22,v23,v24,v25,v26)))else some (.inl (w64 (v13+1),v14,v15,v16,v17,v18,v19,v20,v21,v22,v23,v24,v25,v26)))else some (.inr (.inr (v14,v15,v16,v17,v18,v19,v20,v21,v22,v23,v24,v25,v26)))
def zcB(_o:Ops)(v46:Bs×Bs×Bool)(v47:Int)(v48:List (Bs×Bs))(v49:qcX)(v50:qbV)(v51:qbW)(v52:qbZ)(v53:List Bs)(v54:Bool):Option ((Int×(List (Bs×Bs))×qcX×qbV×qbW×qbZ×yjH)⊕((Int×(List (Bs×Bs))×qcX×qbV×qbW×qbZ×yjH))):=
 bif decide (v47<(v48.length:Int))then((idx v48 v47).bind fun v55=>bif Op.bytesLess v55.1 v46.1 then some (.inl (w64 (v47+1),v48,v49,v50,v51,v52,v53,v54))else((idx v48 v47).bind fun v56=>bif(v56.1==v46.1)then((idx v48 v47).bind fun v57=>bif Op.bytesLess v57.2 v46.2.1 then some (.inl (w64 (v47+1),v48,v49,v50,v51,v52,v53,v54))else some (.inr (v47,v48,v49,v50,v51,v52,v53,v54)))else some (.inr (v47,v48,v49,v50,v51,v52,v53,v54))))else some (.inr (v47,v48,v49,v50,v51,v52,v53,v54))
def zaP(o:Ops)(v6:yjH)(v7:Bs×Bs×Bool)(v10:(List (Bs×Bs))×qcX×qbV×qbW×qbZ):Option ((Bool×(List (Bs×Bs))×qcX×qbV×qbW×qbZ)⊕(Bool×(List (Bs×Bs))×qcX×qbV×qbW×(List Bs)×Bool×qbZ)⊕(Bool×(List (Bs×Bs))×qcX×qbW×qbZ×(List Bs)×Bool×qbV)⊕(Bool×qcX×qbV×qbW×qbZ×(List Bs)×Bool×List (Bs×Bs))⊕(Bool×(List (Bs×Bs))×qcX×qbV×qbZ×(List Bs)×Bool×qbW)⊕(Bool×(List (Bs×Bs))×qbV×qbW×qbZ×(List Bs)×Bool×qcX)):=
 bif(v7.1==([99,108,105,101,110,116]:Bs))then((zbQ o v6.1 false).bind fun v11=>(zbQ o v11.2.1 v11.2.2).bind fun v12=>bif((v12.1.length:Int) != 4)then some (.inl (false,v10))else((iter (fun x=>zdY o v12 x.1 x.2.1 x.2.2.1 x.2.2.2.1 x.2.2.2.2.1 x.2.2.2.2.2.1 x.2.2.2.2.2.2.1 x.2.2.2.2.2.2.2.1 x.2.2.2.2.2.2.2.2.1 x.2.2.2.2.2.2.2.2.2.1 x.2.2.2.2.2.2.2.2.2.2.1 x.2.2.2.2.2.2.2.2.2.2.2.1 x.2.2.2.2.2.2.2.2.2.2.2.2.1 x.2.2.2.2.2.2.2.2.2.2.2.2.2) ((0:Int),v10.1,v10.2.1,v10.2.2.1,v10.2.2.2.1,v10.2.2.2.2,v12.2.1,v12.2.2,v7.2.1,v11.1,false,false,false,false)).bind fun v29=>match v29 with
 |.inl v30=>some (.inl v30)|.inr v31=>((idx v12.1 (0:Int)).bind fun v32=>(idx v12.1 (1:Int)).bind fun v33=>(idx v12.1 (2:Int)).bind fun v34=>(idx v12.1 (3:Int)).bind fun v35=>(zaL o v31.2.2.2.2.2.1 v31.2.2.2.2.2.2.1).bind fun v36=>(zaL o v36.2.1 v36.2.2).bind fun v37=>(app v31.2.2.2.2.1 ([(v31.2.2.2.2.2.2.2.1,v31.2.2.2.2.2.2.2.2.1,v36.1,v37.1,((v32.toNat:Int)==((49:UInt8).toNat:Int)),((v33.toNat:Int)==((49:UInt8).toNat:Int)),((v34.toNat:Int)==((49:UInt8).toNat:Int)),((v35.toNat:Int)==((49:UInt8).toNat:Int)))]:qbZ)).bind fun v38=>(zfD o (v31.2.2.2.2.2.2.2.1,v31.2.2.2.2.2.2.2.2.1,v36.1,v37.1,((v32.toNat:Int)==((49:UInt8).toNat:Int)),((v33.toNat:Int)==((49:UInt8).toNat:Int)),((v34.toNat:Int)==((49:UInt8).toNat:Int)),((v35.toNat:Int)==((49:UInt8).toNat:Int)))).bind fun v39=>some (.inr (.inl (v39,v31.1,v31.2.1,v31.2.2.1,v31.2.2.2.1,v37.2.1,v37.2.2,v38))))))else(bif(v7.1==([103,114,111,117,112]:Bs))then((zbE o (1:Int) (1099511627776:Int) v6.1 false).bind fun v40=>(zaL o v40.2.1 v40.2.2).bind fun v41=>(zaL o v41.2.1 v41.2.2).bind fun v42=>(zaL o v42.2.1 v42.2.2).bind fun v43=>(app v10.2.2.1 ([(v7.2.1,v41.1,v42.1,v43.1,v40.1)]:qbV)).bind fun v44=>(zcC o v7.2.1).bind fun v45=>some (.inr (.inr (.inl (v45,v10.1,v10.2.1,v10.2.2.2.1,v10.2.2.2.2,v43.2.1,v43.2.2,v44)))))else(bif(v7.1==([109,97,121]:Bs))then((zdN o v7.2.1 (124:UInt8)).bind fun v46=>(iter (fun x=>zcB o v46 x.1 x.2.1 x.2.2.1 x.2.2.2.1 x.2.2.2.2.1 x.2.2.2.2.2.1 x.2.2.2.2.2.2.1 x.2.2.2.2.2.2.2) ((0:Int),v10.1,v10.2.1,v10.2.2.1,v10.2.2.2.1,v10.2.2.2.2,v6.1,false)).bind fun v58=>(subH v58.2.1 v58.1).bind fun v59=>(subL v58.2.1 v58.1).bind fun v60=>(app ([]:List (Bs×Bs)) v59).bind fun v61=>(app v61 ([(v46.1,v46.2.1)]:List (Bs×Bs))).bind fun v62=>(app v62 v60).bind fun v63=>bif v46.2.2 then((zcN o v46.1).bind fun v64=>bif v64 then((zcN o v46.2.1).bind fun v65=>some (.inr (.inl (v65,v63,v58.2.2.1,v58.2.2.2.1,v58.2.2.2.2.1,v58.2.2.2.2.2.2.1,v58.2.2.2.2.2.2.2,v58.2.2.2.2.2.1))))else some (.inr (.inl (false,v63,v58.2.2.1,v58.2.2.2.1,v58.2.2.2.2.1,v58.2.2.2.2.2.2.1,v58.2.2.2.2.2.2.2,v58.2.2.2.2.2.1))))else some (.inr (.inl (false,v63,v58.2.2.1,v58.2.2.2.1,v58.2.2.2.2.1,v58.2.2.2.2.2.2.1,v58.2.2.2.2.2.2.2,v58.2.2.2.2.2.1))))else(bif(v7.1==([114,111,108,101]:Bs))then((zaL o v6.1 false).bind fun v66=>(app v10.2.2.2.1 ([(v7.2.1,v66.1)]:qbW)).bind fun v67=>(zgO o (v7.2.1,v66.1)).bind fun v68=>some (.inr (.inr (.inr (.inr (.inl (v68,v10.1,v10.2.1,v10.2.2.1,v10.2.2.2.2,v66.2.1,v66.2.2,v67)))))))else(bif(v7.1==([117,115,101,114]:Bs))then((zbQ o v6.1 false).bind fun v69=>(zcE o v69.2.1 v69.2.2).bind fun v70=>(zbE o (1:Int) (1099511627776:Int) v70.2.1 v70.2.2).bind fun v71=>(app v10.2.1 ([(v7.2.1,v69.1,v70.1,v71.1)]:qcX)).bind fun v72=>(zcC o v7.2.1).bind fun v73=>bif v73 then((zgF o v69.1).bind fun v74=>some (.inr (.inr (.inr (.inr (.inr (v74,v10.1,v10.2.2.1,v10.2.2.2.1,v10.2.2.2.2,v71.2.1,v71.2.2,v72)))))))else some (.inr (.inr (.inr (.inr (.inr (false,v10.1,v10.2.2.1,v10.2.2.2.1,v10.2.2.2.2,v71.2.1,v71.2.2,v72)))))))else some (.inl (false,v10))))))
def zaR(o:Ops)(v0:Bs×Bs)(v1:List (Bs×Bs))(v2:qcX)(v3:qbV)(v4:qbW)(v5:qbZ):Option ((Bool×(List (Bs×Bs))×qcX×qbV×qbW×qbZ)⊕(Bool×(List (Bs×Bs))×qcX×qbV×qbW×qbZ)⊕(Bool×(List (Bs×Bs))×qcX×qbW×qbZ×qbV)⊕(Bool×(List (Bs×Bs))×qcX×qbV×qbZ×qbW)⊕(Bool×(List (Bs×Bs))×qbV×qbW×qbZ×qcX)):=
 (zfG o v0.2).bind fun v6=>(zdN o v0.1 (47:UInt8)).bind fun v7=>(zdW o v1 v2 v3 v4 v5 v6 v7).bind fun v8=>match v8 with
 |.inl v9=>some (.inl v9)|.inr v10=>((zaP o v6 v7 v10).bind fun v75=>match v75 with
 |.inl v76=>some (.inl v76)|.inr v77=>(match v77 with
 |.inl v78=>(bif v78.1 then(bif(!v78.2.2.2.2.2.2.1)then some (.inr (.inl (((v78.2.2.2.2.2.1.length:Int)==0),v78.2.1,v78.2.2.1,v78.2.2.2.1,v78.2.2.2.2.1,v78.2.2.2.2.2.2.2)))else some (.inr (.inl (false,v78.2.1,v78.2.2.1,v78.2.2.2.1,v78.2.2.2.2.1,v78.2.2.2.2.2.2.2))))else some (.inr (.inl (false,v78.2.1,v78.2.2.1,v78.2.2.2.1,v78.2.2.2.2.1,v78.2.2.2.2.2.2.2))))|.inr v79=>(match v79 with
 |.inl v80=>(bif v80.1 then(bif(!v80.2.2.2.2.2.2.1)then some (.inr (.inr (.inl (((v80.2.2.2.2.2.1.length:Int)==0),v80.2.1,v80.2.2.1,v80.2.2.2.1,v80.2.2.2.2.1,v80.2.2.2.2.2.2.2))))else some (.inr (.inr (.inl (false,v80.2.1,v80.2.2.1,v80.2.2.2.1,v80.2.2.2.2.1,v80.2.2.2.2.2.2.2)))))else some (.inr (.inr (.inl (false,v80.2.1,v80.2.2.1,v80.2.2.2.1,v80.2.2.2.2.1,v80.2.2.2.2.2.2.2)))))|.inr v81=>(match v81 with
 |.inl v82=>(bif v82.1 then(bif(!v82.2.2.2.2.2.2.1)then some (.inl (((v82.2.2.2.2.2.1.length:Int)==0),v82.2.2.2.2.2.2.2,v82.2.1,v82.2.2.1,v82.2.2.2.1,v82.2.2.2.2.1))else some (.inl (false,v82.2.2.2.2.2.2.2,v82.2.1,v82.2.2.1,v82.2.2.2.1,v82.2.2.2.2.1)))else some (.inl (false,v82.2.2.2.2.2.2.2,v82.2.1,v82.2.2.1,v82.2.2.2.1,v82.2.2.2.2.1)))|.inr v83=>(match v83 with
 |.inl v84=>(bif v84.1 then(bif(!v84.2.2.2.2.2.2.1)then some (.inr (.inr (.inr (.inl (((v84.2.2.2.2.2.1.length:Int)==0),v84.2.1,v84.2.2.1,v84.2.2.2.1,v84.2.2.2.2.1,v84.2.2.2.2.2.2.2)))))else some (.inr (.inr (.inr (.inl (false,v84.2.1,v84.2.2.1,v84.2.2.2.1,v84.2.2.2.2.1,v84.2.2.2.2.2.2.2))))))else some (.inr (.inr (.inr (.inl (false,v84.2.1,v84.2.2.1,v84.2.2.2.1,v84.2.2.2.2.1,v84.2.2.2.2.2.2.2))))))|.inr v85=>(bif v85.1 then(bif(!v85.2.2.2.2.2.2.1)then some (.inr (.inr (.inr (.inr (((v85.2.2.2.2.2.1.length:Int)==0),v85.2.1,v85.2.2.1,v85.2.2.2.1,v85.2.2.2.2.1,v85.2.2.2.2.2.2.2)))))else some (.inr (.inr (.inr (.inr (false,v85.2.1,v85.2.2.1,v85.2.2.2.1,v85.2.2.2.2.1,v85.2.2.2.2.2.2.2))))))else some (.inr (.inr (.inr (.inr (false,v85.2.1,v85.2.2.1,v85.2.2.2.1,v85.2.2.2.2.1,v85.2.2.2.2.2.2.2)))))))))))
def zkM(o:Ops):SC:=⟨⟨[(0,(.ptr 0 0)),(1,(.h (.pr .s .s)))],[yfV,.osl zpT 77,.osl zmO 57,.osl zlL 49,.osl zlF 51]⟩,1,[(none,⟨[(0,hB)],[yfV,.osl zpT 77,.osl zmO 57,.osl zlL 49,.osl zlF 51]⟩),(none,⟨[(0,hB)],[.blk 84 [(.own 1),(.own 2),(.own 3),(.own 5),(.h (.sl (.pr .s .s)))],.osl zpT 77,.osl zmO 57,.osl zlL 49,.dead,.osl zlF 51]⟩),(none,⟨[(0,hB)],[.blk 84 [(.own 1),(.own 5),(.own 3),(.own 4),(.h (.sl (.pr .s .s)))],.osl zpT 77,.dead,.osl zlL 49,.osl zlF 51,.osl zmO 57]⟩),(none,⟨[(0,hB)],[.blk 84 [(.own 1),(.own 2),(.own 5),(.own 4),(.h (.sl (.pr .s .s)))],.osl zpT 77,.osl zmO 57,.dead,.osl zlF 51,.osl zlL 49]⟩),(none,⟨[(0,hB)],[.blk 84 [(.own 5),(.own 2),(.own 3),(.own 4),(.h (.sl (.pr .s .s)))],.dead,.osl zmO 57,.osl zlL 49,.osl zlF 51,.osl zpT 77]⟩)],fun x=>zaR o x.1 x.2.1 x.2.2.1 x.2.2.2.1 x.2.2.2.2.1 x.2.2.2.2.2⟩
theorem zsG:SCok aA tabs 77 (zkM o):=zxP (o:=o) (η:=[(2000005,.join [] [5,7,8] [(some 1000000,⟨[(4,hB)],[yfV,.osl zpT 77,.osl zmO 57,.osl zlL 49,.osl zlF 51]⟩),(none,⟨[(0,(.ptr 0 0))],[yfV,.osl zpT 77,.osl zmO 57,.osl zlL 49,.osl zlF 51]⟩)]),
 (200014,.loop [] ⟨[(0,(.ptr 0 0)),(10,(.ptr 5 0)),(11,(.ptr 6 0)),(13,hI)],[yfV,.osl zpT 77,.osl zmO 57,.osl zlL 49,.osl zlF 51,zxV,QWkL5]⟩ [12] [(some 1000000,⟨[(4,hB)],[yfV,.osl zpT 77,.osl zmO 57,.osl zlL 49,.osl zlF 51]⟩),(some 1,⟨[(0,(.ptr 0 0)),(10,(.ptr 5 0)),(11,(.ptr 6 0))],[yfV,.osl zpT 77,.osl zmO 57,.osl zlL 49,.osl zlF 51,zxV,QWkL5]⟩)]),
 (200036,.loop [] ⟨[(0,(.ptr 0 0)),(10,(.ptr 5 0)),(18,hI)],[yfV,.osl zpT 77,.osl zmO 57,.osl zlL 49,.osl zlF 51,zxV]⟩ [15,16,17] [(some 3,⟨[(0,(.ptr 0 0)),(10,(.ptr 5 0)),(18,hI)],[yfV,.osl zpT 77,.osl zmO 57,.osl zlL 49,.osl zlF 51,zxV]⟩)]),
 (2000050,.join [] [] [(some 1000000,⟨[(4,hB)],[yfV,.osl zpT 77,.osl zmO 57,.osl zlL 49,.osl zlF 51]⟩),(none,⟨[(6,hB),(10,(.ptr 5 0))],[.blk 84 [(.own 1),(.own 2),(.own 3),(.own 6),(.h (.sl (.pr .s .s)))],.osl zpT 77,.osl zmO 57,.osl zlL 49,.dead,zxV,.osl zlF 51]⟩),(none,⟨[(6,hB),(10,(.ptr 5 0))],[.blk 84 [(.own 1),(.own 6),(.own 3),(.own 4),(.h (.sl (.pr .s .s)))],.osl zpT 77,.dead,.osl zlL 49,.osl zlF 51,zxV,.osl zmO 57]⟩),(none,⟨[(6,hB),(10,(.ptr 5 0))],[.blk 84 [(.own 1),(.own 2),(.own 3),(.own 4),(.own 6)],.osl zpT 77,.osl zmO 57,.osl zlL 49,.osl zlF 51,zxV,.osl (.pr .s .s) 75]⟩),(none,⟨[(6,hB),(10,(.ptr 5 0))],[.blk 84 [(.own 1),(.own 2),(.own 6),(.own 4),(.h (.sl (.pr .s .s)))],.osl zpT 77,.osl zmO 57,.dead,.osl zlF 51,zxV,.osl zlL 49]⟩),(none,⟨[(6,hB),(10,(.ptr 5 0))],[.blk 84 [(.own 6),(.own 2),(.own 3),(.own 4),(.h (.sl (.pr .s .s)))],.dead,.osl zmO 57,.osl zlL 49,.osl zlF 51,zxV,.osl zpT 77]⟩)]),
 (4000024,.sch ([(.pu,0,[4])]++zpu 1 5++[(.mn,6,[]),(.mn,7,[4]),(.pu,8,[]),(.pu,9,[]),(.mn,10,[0])])),
 (4000031,.sch ([(.pu,0,[2])]++zpu 1 5++[(.mn,6,[]),(.mn,7,[2]),(.pu,8,[]),(.pu,9,[]),(.mn,10,[0])])),
 (4000038,.sch ([(.pu,0,[6])]++zpu 2 6++[(.pu,9,[6]),(.pu,10,[6]),(.pu,11,[6]),(.la,12,[]),(.pu,14,[6]),(.pu,15,[6]),(.pu,16,[6]),(.pu,17,[6]),(.pu,18,[6]),(.pu,19,[6]),(.mn,1,[]),(.mn,8,[6]),(.rv,12,[]),(.mn,13,[6]),(.mn,20,[6]),(.pu,21,[]),(.pu,22,[]),(.mn,23,[0])])),
 (4000042,.sch ([(.pu,0,[3])]++zpu 1 5++[(.mn,6,[]),(.mn,7,[3]),(.pu,8,[]),(.pu,9,[]),(.mn,10,[0])])),
 (4000048,.sch ([(.pu,0,[1])]++zpu 1 5++[(.mn,6,[]),(.mn,7,[1]),(.pu,8,[]),(.pu,9,[]),(.mn,10,[0])]))]) (Γ:=⟨[(12,(zpE o)),(176,(zrJ o)),(179,(zmC o)),(14,(zfF o)),(20,(zhN o)),(181,(zmV o)),(16,(zlD o))],[(177,(zgS o)),(178,(zkJ o)),(180,(zeI o)),(182,(zkI o))],false,[]⟩) (ctok ⟨zwI,⟨yaI,⟨ztS,⟨zhS,⟨zlM,⟨zuJ,⟨zqE,trivial⟩⟩⟩⟩⟩⟩⟩ ⟨zkO,⟨zsL,⟨zhG,⟨zsM,trivial⟩⟩⟩⟩) Tryz.func77
def zgW(_o:Ops)(v0:zkQ)(v1:Bs)(v2:Int):Option (Int⊕Int):=
 bif decide (v2<(v0.1.length:Int))then((idx v0.1 v2).bind fun v3=>bif Op.bytesLess v3.1 v1 then some (.inl (w64 (v2+1)))else some (.inr v2))else some (.inr v2)
def zcZ(o:Ops)(v0:zkQ)(v1:Bs):Option (Int×Bool):=
 (iter (zgW o v0 v1) (0:Int)).bind fun v4=>bif decide (v4<(v0.1.length:Int))then((idx v0.1 v4).bind fun v5=>some (v4,(v5.1==v1)))else(some (v4,false))
def zgQ(o:Ops):PC:=⟨[(.hr yjV),hS],[(.i .i64),.b],fun x=>zcZ o x.1 x.2,false⟩
theorem zkR:PCok aA tabs 217 (zgQ o):=zpG (o:=o) (η:=[(200002,.loop [] ⟨[(6,hI)],[]⟩ [0,1,4,5] [(some 0,⟨[(6,hI)],[]⟩)]),
 yuS]) (Γ:=⟨[],[],false,[]⟩) (ctok trivial trivial) Tryz.func217
def zfW(_o:Ops)(v0:zkQ)(v1:Bs)(v2:Int):Option (Int⊕Int):=
 bif decide (v2<(v0.2.1.length:Int))then((idx v0.2.1 v2).bind fun v3=>bif Op.bytesLess v3.1 v1 then some (.inl (w64 (v2+1)))else some (.inr v2))else some (.inr v2)
def zbN(o:Ops)(v0:zkQ)(v1:Bs):Option (Int×Bool):=
 (iter (zfW o v0 v1) (0:Int)).bind fun v4=>bif decide (v4<(v0.2.1.length:Int))then((idx v0.2.1 v4).bind fun v5=>some (v4,(v5.1==v1)))else(some (v4,false))
def zdP(o:Ops):PC:=⟨[(.hr yjV),hS],[(.i .i64),.b],fun x=>zbN o x.1 x.2,false⟩
theorem zfX:PCok aA tabs 221 (zdP o):=zpG (o:=o) (η:=[(200002,.loop [] ⟨[(6,hI)],[]⟩ [0,1,4,5] [(some 0,⟨[(6,hI)],[]⟩)]),
 yuS]) (Γ:=⟨[],[],false,[]⟩) (ctok trivial trivial) Tryz.func221
def zgY(_o:Ops)(v0:zkQ)(v1:Bs)(v2:Int):Option (Int⊕Int):=
 bif decide (v2<(v0.2.2.1.length:Int))then((idx v0.2.2.1 v2).bind fun v3=>bif Op.bytesLess v3.1 v1 then some (.inl (w64 (v2+1)))else some (.inr v2))else some (.inr v2)
def zbP(o:Ops)(v0:zkQ)(v1:Bs):Option (Int×Bool):=
 (iter (zgY o v0 v1) (0:Int)).bind fun v4=>bif decide (v4<(v0.2.2.1.length:Int))then((idx v0.2.2.1 v4).bind fun v5=>some (v4,(v5.1==v1)))else(some (v4,false))
def zgT(o:Ops):PC:=⟨[(.hr yjV),hS],[(.i .i64),.b],fun x=>zbP o x.1 x.2,false⟩
theorem zkH:PCok aA tabs 227 (zgT o):=zpG (o:=o) (η:=[(200002,.loop [] ⟨[(6,hI)],[]⟩ [0,1,4,5] [(some 0,⟨[(6,hI)],[]⟩)]),
 yuS]) (Γ:=⟨[],[],false,[]⟩) (ctok trivial trivial) Tryz.func227
def zjM(o:Ops)(v0:zkQ)(v1:Int)(v2:Bs):Option ((Bool×Bool×Bool)):=
 bif(v1==0)then((zcZ o v0 v2).bind fun v3=>some (v3.2,false,false))else(bif(v1==1)then((zbN o v0 v2).bind fun v4=>some (false,v4.2,false))else((zbP o v0 v2).bind fun v5=>some (false,false,v5.2)))
def zdX(o:Ops)(v0:zkQ)(v1:Int)(v2:Bs):Option (Bool):=
 (zjM o v0 v1 v2).bind fun v6=>bif v6.1 then(some true)else(bif v6.2.1 then(some true)else(some v6.2.2))
def zjJ(o:Ops):PC:=⟨[(.hr yjV),hI,hS],[.b],fun x=>zdX o x.1 x.2.1 x.2.2,false⟩
theorem zrF:PCok aA tabs 223 (zjJ o):=zpG (o:=o) (η:=[(2000008,.join [] [] [(none,⟨[(7,hB),(8,hB),(9,hB)],[]⟩)])]) (Γ:=⟨[(217,(zgQ o)),(221,(zdP o)),(227,(zgT o))],[],false,[]⟩) (ctok ⟨zkR,⟨zfX,⟨zkH,trivial⟩⟩⟩ trivial) Tryz.func223
def zdF(o:Ops)(v0:zkQ)(v1:Int)(v2:List Bs)(v3:Int):Option (Int⊕(Bool⊕Unit)):=
 bif decide (v3<(v2.length:Int))then((idx v2 v3).bind fun v4=>(zdX o v0 v1 v4).bind fun v5=>bif(!v5)then some (.inr (.inl false))else(bif decide (v3>0)then((idx v2 v3).bind fun v6=>(idx v2 (w64 (v3-1))).bind fun v7=>bif(Op.bytesLess v6 v7||v6==v7)then some (.inr (.inl false))else some (.inl (w64 (v3+1))))else some (.inl (w64 (v3+1)))))else some (.inr (.inr ()))
def zaS(o:Ops)(v0:zkQ)(v1:Int)(v2:List Bs):Option (Bool):=
 (iter (zdF o v0 v1 v2) (0:Int)).bind fun v8=>match v8 with
 |.inl v9=>(some v9)|.inr _v10=>(some true)
def ziX(o:Ops):PC:=⟨[(.hr yjV),hI,(.h (.sl .s))],[.b],fun x=>zaS o x.1 x.2.1 x.2.2,false⟩
theorem zqS:PCok aA tabs 183 (ziX o):=zpG (o:=o) (η:=[(200002,.loop [] ⟨[(7,hI)],[]⟩ [0,1,2] [(some 1000000,⟨[(6,hB)],[]⟩),(some 0,⟨[],[]⟩)]),
 (4000004,.sch (zpu 0 6++[(.mn,6,[])]++zpu 7 17))]) (Γ:=⟨[(223,(zjJ o))],[],false,[]⟩) (ctok ⟨zrF,trivial⟩ trivial) Tryz.func183
def zaN(o:Ops)(v0:zkQ)(v1:Bs):Option (zbY×Bool):=
 (zbN o v0 v1).bind fun v2=>bif(!v2.2)then(some ((([]:Bs),([]:List Bs),([]:List Bs),([]:List Bs),(0:Int)),false))else((idx v0.2.1 v2.1).bind fun v3=>some (v3,true))
def zjL(o:Ops):PC:=⟨[(.hr yjV),hS],[zmO,.b],fun x=>zaN o x.1 x.2,false⟩
theorem zrV:PCok aA tabs 156 (zjL o):=zpG (o:=o) (η:=[]) (Γ:=⟨[(221,(zdP o))],[],false,[]⟩) (ctok ⟨zfX,trivial⟩ trivial) Tryz.func156
def zaT(o:Ops)(v6:Int)(v7:List Bs)(v8:Bs)(v9:List Bs)(v10:List Bs)(v11:List Bs)(v12:Int):Option ((Int×(List Bs)×zbY)⊕List Bs):=
 bif decide (v6<(v10.length:Int))then((idx v10 v6).bind fun v13=>(zcG o v7 v13).bind fun v14=>bif(!v14)then((idx v10 v6).bind fun v15=>(app v7 ([v15]:List Bs)).bind fun v16=>some (.inl (w64 (v6+1),v16,v8,v9,v10,v11,v12)))else some (.inl (w64 (v6+1),v7,v8,v9,v10,v11,v12)))else some (.inr v7)
def zcK(o:Ops)(v0:zkQ)(v2:Int)(v3:List Bs):Option ((Int×List Bs)⊕List Bs):=
 bif decide (v2<(v3.length:Int))then((chk (decide ((0:Int)<=v2)&&decide (v2<(v3.length:Int)))).bind fun _=>(idx v3 v2).bind fun v4=>(zaN o v0 v4).bind fun v5=>(iter (fun x=>zaT o x.1 x.2.1 x.2.2.1 x.2.2.2.1 x.2.2.2.2.1 x.2.2.2.2.2.1 x.2.2.2.2.2.2) ((0:Int),v3,v5.1)).bind fun v17=>some (.inl (w64 (v2+1),v17)))else some (.inr v3)
def zcA(o:Ops)(v0:zkQ)(v1:Bs):Option (List Bs):=
 (iter (fun x=>zcK o v0 x.1 x.2) ((0:Int),([v1]:List Bs))).bind fun v18=>some v18
def zjH(o:Ops):PC:=⟨[(.hr yjV),hS],[(.sl .s)],fun x=>zcA o x.1 x.2,false⟩
theorem zrK:PCok aA tabs 184 (zjH o):=zpG (o:=o) (η:=[(200007,.loop [] ⟨[(5,(.own 0)),(7,(.ptr 1 0)),(9,hI)],[.osl .s 9,xfE]⟩ [0,4,6] [(some 2,⟨[(5,(.own 0))],[.osl .s 9]⟩)]),
 (200003,.loop [] ⟨[(5,(.own 0)),(6,hI)],[.osl .s 9]⟩ [0,4] [(some 0,⟨[(5,(.own 0))],[.osl .s 9]⟩)])]) (Γ:=⟨[(156,(zjL o)),(46,(zeB o))],[],false,[]⟩) (ctok ⟨zrV,⟨zgE,trivial⟩⟩ trivial) Tryz.func184
def zfQ(_o:Ops)(v0:zkQ)(v1:Bs)(v2:Int):Option (Int⊕Int):=
 bif decide (v2<(v0.2.2.2.1.length:Int))then((idx v0.2.2.2.1 v2).bind fun v3=>bif Op.bytesLess v3.1 v1 then some (.inl (w64 (v2+1)))else some (.inr v2))else some (.inr v2)
def zdS(o:Ops)(v0:zkQ)(v1:Bs):Option (Int×Bool):=
 (iter (zfQ o v0 v1) (0:Int)).bind fun v4=>bif decide (v4<(v0.2.2.2.1.length:Int))then((idx v0.2.2.2.1 v4).bind fun v5=>some (v4,(v5.1==v1)))else(some (v4,false))
def ziT(o:Ops):PC:=⟨[(.hr yjV),hS],[(.i .i64),.b],fun x=>zdS o x.1 x.2,false⟩
theorem zqO:PCok aA tabs 228 (ziT o):=zpG (o:=o) (η:=[(200002,.loop [] ⟨[(6,hI)],[]⟩ [0,1,4,5] [(some 0,⟨[(6,hI)],[]⟩)]),
 yuS]) (Γ:=⟨[],[],false,[]⟩) (ctok trivial trivial) Tryz.func228
def zdK(o:Ops)(v0:zkQ)(v1:Bs):Option (Bool):=
 (zcN o v1).bind fun v2=>bif(!v2)then(some false)else((idx v1 (0:Int)).bind fun v3=>bif((v3.toNat:Int)==((99:UInt8).toNat:Int))then((subL v1 (2:Int)).bind fun v4=>(zdS o v0 v4).bind fun v5=>some v5.2)else((subL v1 (2:Int)).bind fun v6=>(zcZ o v0 v6).bind fun v7=>some v7.2))
def zlV(o:Ops):PC:=⟨[(.hr yjV),hS],[.b],fun x=>zdK o x.1 x.2,false⟩
theorem ztW:PCok aA tabs 185 (zlV o):=zpG (o:=o) (η:=[]) (Γ:=⟨[(20,(zhN o)),(228,(ziT o)),(217,(zgQ o))],[],false,[]⟩) (ctok ⟨zlM,⟨zqO,⟨zkR,trivial⟩⟩⟩ trivial) Tryz.func185
def zjF(_o:Ops)(v0:zkQ):Option (Bool⊕Unit):=
 bif decide ((v0.1.length:Int)>64)then some (.inl false)else(bif decide ((v0.2.1.length:Int)>32)then some (.inl false)else(bif decide ((v0.2.2.1.length:Int)>32)then some (.inl false)else(bif decide ((v0.2.2.2.1.length:Int)>32)then some (.inl false)else(bif decide ((v0.2.2.2.2.length:Int)>64)then some (.inl false)else some (.inr ())))))
def zdT(o:Ops)(v0:zkQ)(v4:Int):Option (Int⊕(Bool⊕Unit)):=
 bif decide (v4<(v0.2.1.length:Int))then((idx v0.2.1 v4).bind fun v5=>(zaS o v0 (0:Int) v5.2.1).bind fun v6=>bif(!v6)then some (.inr (.inl false))else((zaS o v0 (1:Int) v5.2.2.1).bind fun v7=>bif(!v7)then some (.inr (.inl false))else((zaS o v0 (2:Int) v5.2.2.2.1).bind fun v8=>bif(!v8)then some (.inr (.inl false))else some (.inl (w64 (v4+1))))))else some (.inr (.inr ()))
def zdO(o:Ops)(v0:zkQ)(v12:Int)(v13:Int):Option (Int⊕(Bool⊕Unit)):=
 (idx v0.2.1 v12).bind fun v14=>bif decide (v13<(v14.2.2.1.length:Int))then((idx v0.2.1 v12).bind fun v15=>(idx v15.2.2.1 v13).bind fun v16=>(idx v0.2.1 v12).bind fun v17=>(zcA o v0 v16).bind fun v18=>(zcG o v18 v17.1).bind fun v19=>bif v19 then some (.inr (.inl false))else some (.inl (w64 (v13+1))))else some (.inr (.inr ()))
def zdV(o:Ops)(v0:zkQ)(v12:Int):Option (Int⊕(Bool⊕Unit)):=
 bif decide (v12<(v0.2.1.length:Int))then((iter (zdO o v0 v12) (0:Int)).bind fun v20=>match v20 with
 |.inl v21=>some (.inr (.inl v21))|.inr _v22=>some (.inl (w64 (v12+1))))else some (.inr (.inr ()))
def zdR(o:Ops)(v0:zkQ)(v26:Int):Option (Int⊕(Bool⊕Unit)):=
 bif decide (v26<(v0.2.2.2.2.length:Int))then((idx v0.2.2.2.2 v26).bind fun v27=>(zdK o v0 v27.1).bind fun v28=>bif(!v28)then some (.inr (.inl false))else((idx v0.2.2.2.2 v26).bind fun v29=>(zdK o v0 v29.2).bind fun v30=>bif(!v30)then some (.inr (.inl false))else some (.inl (w64 (v26+1)))))else some (.inr (.inr ()))
def zcU(o:Ops)(v0:zkQ):Option (Bool):=
 (zjF o v0).bind fun v1=>match v1 with
 |.inl v2=>(some v2)|.inr _v3=>((iter (zdT o v0) (0:Int)).bind fun v9=>match v9 with
 |.inl v10=>(some v10)|.inr _v11=>((iter (zdV o v0) (0:Int)).bind fun v23=>match v23 with
 |.inl v24=>(some v24)|.inr _v25=>((iter (zdR o v0) (0:Int)).bind fun v31=>match v31 with
 |.inl v32=>(some v32)|.inr _v33=>(some true))))
def zjI(o:Ops):PC:=⟨[(.hr yjV)],[.b],fun x=>zcU o x,false⟩
theorem zrB:PCok aA tabs 78 (zjI o):=zpG (o:=o) (η:=[(2000003,.join [] [0] [(some 1000000,⟨[(2,hB)],[]⟩),(none,⟨[],[]⟩)]),
 (200004,.loop [] ⟨[(3,hI)],[]⟩ [0] [(some 1000000,⟨[(2,hB)],[]⟩),(some 0,⟨[],[]⟩)]),
 (200013,.loop [] ⟨[(6,hI)],[]⟩ [0,5] [(some 1000000,⟨[(2,hB)],[]⟩),(some 4,⟨[],[]⟩)]),
 (200010,.loop [] ⟨[(5,hI)],[]⟩ [0] [(some 1000000,⟨[(2,hB)],[]⟩),(some 2,⟨[],[]⟩)]),
 (200018,.loop [] ⟨[(7,hI)],[]⟩ [0] [(some 1000000,⟨[(2,hB)],[]⟩),(some 6,⟨[],[]⟩)]),
 (4000015,.sch (zpu 0 12++zpu 13 8++[(.mn,12,[]),(.mn,21,[])]))]) (Γ:=⟨[(183,(ziX o)),(184,(zjH o)),(46,(zeB o)),(185,(zlV o))],[],false,[]⟩) (ctok ⟨zqS,⟨zrK,⟨zgE,⟨ztW,trivial⟩⟩⟩⟩ trivial) Tryz.func78
def zpL(_o:Ops)(v0:List (Bs×Bs))(v1:Int)(v2:List (Bs×Bs))(v3:qcX)(v4:qbV)(v5:qbW)(v6:qbZ):Option (Int⊕((List (Bs×Bs))×qcX×qbV×qbW×qbZ)):=
 bif decide (v1>0)then((idx v0 v1).bind fun v7=>(idx v0 (w64 (v1-1))).bind fun v8=>bif(Op.bytesLess v7.1 v8.1||v7.1==v8.1)then some (.inl (125:Int))else some (.inr (v2,v3,v4,v5,v6)))else some (.inr (v2,v3,v4,v5,v6))
def zlH(o:Ops)(v0:List (Bs×Bs))(v1:Int)(v2:List (Bs×Bs))(v3:qcX)(v4:qbV)(v5:qbW)(v6:qbZ):Option ((Int×(List (Bs×Bs))×qcX×qbV×qbW×qbZ)⊕(Int⊕zkQ)):=
 bif decide (v1<(v0.length:Int))then((zpL o v0 v1 v2 v3 v4 v5 v6).bind fun v9=>match v9 with
 |.inl v10=>some (.inr (.inl v10))|.inr v11=>((idx v0 v1).bind fun v12=>(zaR o v12 v11.1 v11.2.1 v11.2.2.1 v11.2.2.2.1 v11.2.2.2.2).bind fun v13=>match v13 with
 |.inl v14=>(bif(!v14.1)then some (.inr (.inl (125:Int)))else some (.inl (w64 (v1+1),v14.2)))|.inr v15=>(match v15 with
 |.inl v16=>(bif(!v16.1)then some (.inr (.inl (125:Int)))else some (.inl (w64 (v1+1),v16.2)))|.inr v17=>(match v17 with
 |.inl v18=>(bif(!v18.1)then some (.inr (.inl (125:Int)))else some (.inl (w64 (v1+1),v18.2.1,v18.2.2.1,v18.2.2.2.2.2,v18.2.2.2.1,v18.2.2.2.2.1)))|.inr v19=>(match v19 with
 |.inl v20=>(bif(!v20.1)then some (.inr (.inl (125:Int)))else some (.inl (w64 (v1+1),v20.2.1,v20.2.2.1,v20.2.2.2.1,v20.2.2.2.2.2,v20.2.2.2.2.1)))|.inr v21=>(bif(!v21.1)then some (.inr (.inl (125:Int)))else some (.inl (w64 (v1+1),v21.2.1,v21.2.2.2.2.2,v21.2.2.1,v21.2.2.2.1,v21.2.2.2.2.1))))))))else some (.inr (.inr (v3,v4,v5,v6,v2)))
def zeC(o:Ops)(v0:List (Bs×Bs)):Option (Int⊕(Int×zkQ)):=
 (iter (fun x=>zlH o v0 x.1 x.2.1 x.2.2.1 x.2.2.2.1 x.2.2.2.2.1 x.2.2.2.2.2) ((0:Int),([]:List (Bs×Bs)),([]:qcX),([]:qbV),([]:qbW),([]:qbZ))).bind fun v22=>match v22 with
 |.inl v23=>some (.inl v23)|.inr v24=>((zcU o v24).bind fun v25=>bif(!v25)then some (.inl (125:Int))else some (.inr ((0:Int),v24)))
def zpY(o:Ops):SC:=⟨⟨[(0,(.h (.sl (.pr .s .s))))],[]⟩,2,[(none,⟨[(0,.nilp),(1,hI)],[]⟩),(none,⟨[(0,(.ptr 0 0)),(1,hI)],[ziB]⟩)],fun x=>zeC o x⟩
theorem zxW:SCok aA tabs 26 (zpY o):=zxP (o:=o) (η:=[(2000007,.join [] [0,5] [(some 1000000,⟨[(2,.nilp),(3,hI)],[]⟩),(none,⟨[(4,(.ptr 0 0))],[yfV,.osl zpT 77,.osl zmO 57,.osl zlL 49,.osl zlF 51]⟩)]),
 (200003,.loop [.cell 4 0 zpT 77,.cell 4 1 zmO 57,.cell 4 2 zlL 49,.cell 4 3 zlF 51,.cell 9 0 zpT 77,.cell 9 1 zmO 57,.cell 9 2 zlL 49,.cell 9 3 zlF 51] ⟨[(4,(.ptr 0 0)),(5,hI)],[yfV,.osl zpT 77,.osl zmO 57,.osl zlL 49,.osl zlF 51]⟩ [0] [(some 1000000,⟨[(2,.nilp),(3,hI)],[]⟩),(some 0,⟨[(4,(.ptr 0 0))],[ziB]⟩)]),
 (4000005,.sch (zpu 0 16))]) (Γ:=⟨[(78,(zjI o))],[(77,(zkM o))],false,[]⟩) (ctok ⟨zrB,trivial⟩ ⟨zsG,trivial⟩) Tryz.func26
def zlG(_o:Ops)(v0:List Bs)(v1:Bs)(v3:Int):Option (Int⊕Int):=
 bif decide (v3<(v0.length:Int))then((idx v0 v3).bind fun v4=>bif Op.bytesLess v4 v1 then some (.inl (w64 (v3+1)))else some (.inr v3))else some (.inr v3)
def zfZ(o:Ops)(v0:List Bs)(v1:Bs):Option (List Bs):=
 (zcG o v0 v1).bind fun v2=>bif v2 then(some v0)else((iter (zlG o v0 v1) (0:Int)).bind fun v5=>(subH v0 v5).bind fun v6=>(subL v0 v5).bind fun v7=>(app ([]:List Bs) v6).bind fun v8=>(app v8 ([v1]:List Bs)).bind fun v9=>(app v9 v7).bind fun v10=>some v10)
def zkY(o:Ops):PC:=⟨[(.h (.sl .s)),hS],[(.sl .s)],fun x=>zfZ o x.1 x.2,false⟩
theorem zpW:PCok aA tabs 186 (zkY o):=zpG (o:=o) (η:=[(200004,.loop [] ⟨[(5,hI)],[]⟩ [0,1,4] [(some 0,⟨[(5,hI)],[]⟩)]),
 (4000006,.sch (zpu 1 3++[(.pu,5,[0]),(.la,6,[]),(.pu,8,[0]),(.pu,9,[0]),(.pu,10,[0]),(.mn,0,[]),(.mn,4,[0]),(.rv,6,[]),(.mn,7,[0]),(.mn,11,[0]),(.pu,12,[])]))]) (Γ:=⟨[(46,(zeB o))],[],false,[]⟩) (ctok ⟨zgE,trivial⟩ trivial) Tryz.func186
def zbM(o:Ops)(v0:Bs)(v1:qcX)(v2:qbV)(v3:qbW)(v4:qbZ)(v5:List (Bs×Bs)):Option ((zbY×Bool×zkQ)):=
 (zbN o (v1,v2,v3,v4,v5) v0).bind fun v6=>bif(!v6.2)then some ((([]:Bs),([]:List Bs),([]:List Bs),([]:List Bs),(0:Int)),false,v1,v2,v3,v4,v5)else((idx v2 v6.1).bind fun v7=>some (v7,true,v1,v2,v3,v4,v5))
def zdQ(o:Ops):SC:=⟨⟨[(0,(.ptr 0 0)),(1,hS)],[ziB]⟩,2,[(none,⟨[(0,(.h zmO)),(1,hB)],[ziB]⟩)],fun x=>zbM o x.1 x.2.1 x.2.2.1 x.2.2.2.1 x.2.2.2.2.1 x.2.2.2.2.2⟩
theorem zgI:SCok aA tabs 156 (zdQ o):=zxP (o:=o) (η:=[]) (Γ:=⟨[(221,(zdP o))],[],false,[]⟩) (ctok ⟨zfX,trivial⟩ trivial) Tryz.func156
def zdD(o:Ops)(v15:Int)(v16:qcX)(v17:qbV)(v18:qbW)(v19:qbZ)(v20:List (Bs×Bs))(v21:List Bs)(v22:Bs)(v23:List Bs)(v24:List Bs)(v25:List Bs)(v26:Int):Option ((Int×qcX×qbV×qbW×qbZ×(List (Bs×Bs))×(List Bs)×zbY)⊕((qcX×qbV×qbW×qbZ×(List (Bs×Bs))×List Bs))):=
 bif decide (v15<(v24.length:Int))then((idx v24 v15).bind fun v27=>(zcG o v21 v27).bind fun v28=>bif(!v28)then((idx v24 v15).bind fun v29=>(app v21 ([v29]:List Bs)).bind fun v30=>some (.inl (w64 (v15+1),v16,v17,v18,v19,v20,v30,v22,v23,v24,v25,v26)))else some (.inl (w64 (v15+1),v16,v17,v18,v19,v20,v21,v22,v23,v24,v25,v26)))else some (.inr (v16,v17,v18,v19,v20,v21))
def zfO(o:Ops)(v6:Int)(v7:qcX)(v8:qbV)(v9:qbW)(v10:qbZ)(v11:List (Bs×Bs))(v12:List Bs):Option ((Int×qcX×qbV×qbW×qbZ×(List (Bs×Bs))×List Bs)⊕((qcX×qbV×qbW×qbZ×(List (Bs×Bs))×List Bs))):=
 bif decide (v6<(v12.length:Int))then((chk (decide ((0:Int)<=v6)&&decide (v6<(v12.length:Int)))).bind fun _=>(idx v12 v6).bind fun v13=>(zbM o v13 v7 v8 v9 v10 v11).bind fun v14=>(iter (fun x=>zdD o x.1 x.2.1 x.2.2.1 x.2.2.2.1 x.2.2.2.2.1 x.2.2.2.2.2.1 x.2.2.2.2.2.2.1 x.2.2.2.2.2.2.2.1 x.2.2.2.2.2.2.2.2.1 x.2.2.2.2.2.2.2.2.2.1 x.2.2.2.2.2.2.2.2.2.2.1 x.2.2.2.2.2.2.2.2.2.2.2) ((0:Int),v14.2.2.1,v14.2.2.2.1,v14.2.2.2.2.1,v14.2.2.2.2.2.1,v14.2.2.2.2.2.2,v12,v14.1)).bind fun v31=>some (.inl (w64 (v6+1),v31)))else some (.inr (v7,v8,v9,v10,v11,v12))
def zdZ(o:Ops)(v0:Bs)(v1:qcX)(v2:qbV)(v3:qbW)(v4:qbZ)(v5:List (Bs×Bs)):Option ((qcX×qbV×qbW×qbZ×(List (Bs×Bs))×List Bs)):=
 (iter (fun x=>zfO o x.1 x.2.1 x.2.2.1 x.2.2.2.1 x.2.2.2.2.1 x.2.2.2.2.2.1 x.2.2.2.2.2.2) ((0:Int),v1,v2,v3,v4,v5,([v0]:List Bs))).bind fun v32=>some v32
def zjE(o:Ops):SC:=⟨⟨[(0,(.ptr 0 0)),(1,hS)],[ziB]⟩,1,[(none,⟨[(0,(.own 1))],[ziB,.osl .s 9]⟩)],fun x=>zdZ o x.1 x.2.1 x.2.2.1 x.2.2.2.1 x.2.2.2.2.1 x.2.2.2.2.2⟩
theorem zrS:SCok aA tabs 184 (zjE o):=zxP (o:=o) (η:=[(200007,.loop [] ⟨[(0,(.ptr 0 0)),(5,(.own 1)),(7,(.ptr 2 0)),(9,hI)],[ziB,.osl .s 9,xfE]⟩ [4,6] [(some 2,⟨[(0,(.ptr 0 0)),(5,(.own 1))],[ziB,.osl .s 9]⟩)]),
 (200003,.loop [] ⟨[(0,(.ptr 0 0)),(5,(.own 1)),(6,hI)],[ziB,.osl .s 9]⟩ [4] [(some 0,⟨[(5,(.own 1))],[ziB,.osl .s 9]⟩)])]) (Γ:=⟨[(46,(zeB o))],[(156,(zdQ o))],false,[]⟩) (ctok ⟨zgE,trivial⟩ ⟨zgI,trivial⟩) Tryz.func184
def zcY(o:Ops)(v0:Bs)(v7:Int)(v15:List Bs)(v16:Int)(v17:qcX)(v18:qbV)(v19:qbW)(v20:qbZ)(v21:List (Bs×Bs))(v22:List Bs):Option (((List Bs)×Int×qcX×qbV×qbW×qbZ×(List (Bs×Bs))×List Bs)⊕(((List Bs)×zkQ))):=
 bif decide (v16<(v22.length:Int))then((chk (decide ((0:Int)<=v16)&&decide (v16<(v22.length:Int)))).bind fun _=>(idx v22 v16).bind fun v23=>(zbM o v23 v17 v18 v19 v20 v21).bind fun v24=>(zcG o v24.1.2.1 v0).bind fun v25=>bif v25 then((idx v24.2.2.2.1 v7).bind fun v26=>(zfZ o v15 v26.1).bind fun v27=>some (.inl (v27,w64 (v16+1),v24.2.2.1,v24.2.2.2.1,v24.2.2.2.2.1,v24.2.2.2.2.2.1,v24.2.2.2.2.2.2,v22)))else some (.inl (v15,w64 (v16+1),v24.2.2.1,v24.2.2.2.1,v24.2.2.2.2.1,v24.2.2.2.2.2.1,v24.2.2.2.2.2.2,v22)))else some (.inr (v15,v17,v18,v19,v20,v21))
def zdB(o:Ops)(v0:Bs)(v6:List Bs)(v7:Int)(v8:qcX)(v9:qbV)(v10:qbW)(v11:qbZ)(v12:List (Bs×Bs)):Option (((List Bs)×Int×zkQ)⊕(((List Bs)×zkQ))):=
 bif decide (v7<(v9.length:Int))then((idx v9 v7).bind fun v13=>(zdZ o v13.1 v8 v9 v10 v11 v12).bind fun v14=>(iter (fun x=>zcY o v0 v7 x.1 x.2.1 x.2.2.1 x.2.2.2.1 x.2.2.2.2.1 x.2.2.2.2.2.1 x.2.2.2.2.2.2.1 x.2.2.2.2.2.2.2) (v6,(0:Int),v14)).bind fun v28=>some (.inl (v28.1,w64 (v7+1),v28.2)))else some (.inr (v6,v8,v9,v10,v11,v12))
def zdJ(o:Ops)(v0:Bs)(v1:qcX)(v2:qbV)(v3:qbW)(v4:qbZ)(v5:List (Bs×Bs)):Option (((List Bs)×zkQ)):=
 (iter (fun x=>zdB o v0 x.1 x.2.1 x.2.2.1 x.2.2.2.1 x.2.2.2.2.1 x.2.2.2.2.2.1 x.2.2.2.2.2.2) (([]:List Bs),(0:Int),v1,v2,v3,v4,v5)).bind fun v29=>some v29
def zhP(o:Ops):SC:=⟨⟨[(0,(.ptr 0 0)),(1,hS)],[ziB]⟩,1,[(none,⟨[(0,(.h (.sl .s)))],[ziB]⟩)],fun x=>zdJ o x.1 x.2.1 x.2.2.1 x.2.2.2.1 x.2.2.2.2.1 x.2.2.2.2.2⟩
theorem zmA:SCok aA tabs 79 (zhP o):=zxP (o:=o) (η:=[(200007,.loop [] ⟨[(0,(.ptr 0 0)),(5,(.h (.sl .s))),(7,(.own 1)),(8,hI)],[ziB,.osl .s 9]⟩ [1,4,6] [(some 2,⟨[(0,(.ptr 0 0)),(5,(.h (.sl .s)))],[ziB]⟩)]),
 (200003,.loop [.fz 5] ⟨[(0,(.ptr 0 0)),(5,(.h (.sl .s))),(6,hI)],[ziB]⟩ [1,4] [(some 0,⟨[(5,(.h (.sl .s)))],[ziB]⟩)])]) (Γ:=⟨[(46,(zeB o)),(186,(zkY o))],[(184,(zjE o)),(156,(zdQ o))],false,[]⟩) (ctok ⟨zgE,⟨zpW,trivial⟩⟩ ⟨zrS,⟨zgI,trivial⟩⟩) Tryz.func79
def zeG(o:Ops)(v0:zkQ)(v1:Bs):Option (zbA×Bool):=
 (zbP o v0 v1).bind fun v2=>bif(!v2.2)then(some ((([]:Bs),([]:List Bs)),false))else((idx v0.2.2.1 v2.1).bind fun v3=>some (v3,true))
def zeF(o:Ops)(v0:Bs)(v1:qcX)(v2:qbV)(v3:qbW)(v4:qbZ)(v5:List (Bs×Bs)):Option ((zbA×Bool×zkQ)):=
 (zbP o (v1,v2,v3,v4,v5) v0).bind fun v6=>bif(!v6.2)then some ((([]:Bs),([]:List Bs)),false,v1,v2,v3,v4,v5)else((idx v3 v6.1).bind fun v7=>some (v7,true,v1,v2,v3,v4,v5))
def zkS(o:Ops):SC:=⟨⟨[(0,(.ptr 0 0)),(1,hS)],[ziB]⟩,2,[(none,⟨[(0,(.h zlL)),(1,hB)],[ziB]⟩)],fun x=>zeF o x.1 x.2.1 x.2.2.1 x.2.2.2.1 x.2.2.2.2.1 x.2.2.2.2.2⟩
theorem zsC:SCok aA tabs 157 (zkS o):=zxP (o:=o) (η:=[]) (Γ:=⟨[(227,(zgT o))],[],false,[]⟩) (ctok ⟨zkH,trivial⟩ trivial) Tryz.func157
def zdE(o:Ops)(v30:List Bs)(v31:Int)(v32:qcX)(v33:qbV)(v34:qbW)(v35:qbZ)(v36:List (Bs×Bs))(v37:Bs)(v38:List Bs)(v39:List Bs)(v40:List Bs)(v41:Int)(v42:Bs)(v43:List Bs):Option (((List Bs)×Int×qcX×qbV×qbW×qbZ×(List (Bs×Bs))×Bs×(List Bs)×(List Bs)×(List Bs)×Int×zbA)⊕(((List Bs)×qcX×qbV×qbW×qbZ×(List (Bs×Bs))×zbY))):=
 bif decide (v31<(v43.length:Int))then((idx v43 v31).bind fun v44=>(zfZ o v30 v44).bind fun v45=>some (.inl (v45,w64 (v31+1),v32,v33,v34,v35,v36,v37,v38,v39,v40,v41,v42,v43)))else some (.inr (v30,v32,v33,v34,v35,v36,v37,v38,v39,v40,v41))
def zdI(o:Ops)(v16:List Bs)(v17:Int)(v18:qcX)(v19:qbV)(v20:qbW)(v21:qbZ)(v22:List (Bs×Bs))(v23:Bs)(v24:List Bs)(v25:List Bs)(v26:List Bs)(v27:Int):Option (((List Bs)×Int×qcX×qbV×qbW×qbZ×(List (Bs×Bs))×zbY)⊕(((List Bs)×zkQ))):=
 bif decide (v17<(v26.length:Int))then((idx v26 v17).bind fun v28=>(zeF o v28 v18 v19 v20 v21 v22).bind fun v29=>(iter (fun x=>zdE o x.1 x.2.1 x.2.2.1 x.2.2.2.1 x.2.2.2.2.1 x.2.2.2.2.2.1 x.2.2.2.2.2.2.1 x.2.2.2.2.2.2.2.1 x.2.2.2.2.2.2.2.2.1 x.2.2.2.2.2.2.2.2.2.1 x.2.2.2.2.2.2.2.2.2.2.1 x.2.2.2.2.2.2.2.2.2.2.2.1 x.2.2.2.2.2.2.2.2.2.2.2.2.1 x.2.2.2.2.2.2.2.2.2.2.2.2.2) (v16,(0:Int),v29.2.2.1,v29.2.2.2.1,v29.2.2.2.2.1,v29.2.2.2.2.2.1,v29.2.2.2.2.2.2,v23,v24,v25,v26,v27,v29.1)).bind fun v46=>some (.inl (v46.1,w64 (v17+1),v46.2)))else some (.inr (v16,v18,v19,v20,v21,v22))
def zdG(o:Ops)(v6:((List Bs)×zkQ))(v7:List Bs)(v8:Int)(v9:qcX)(v10:qbV)(v11:qbW)(v12:qbZ)(v13:List (Bs×Bs)):Option (((List Bs)×Int×zkQ)⊕(((List Bs)×zkQ))):=
 bif decide (v8<(v6.1.length:Int))then((idx v6.1 v8).bind fun v14=>(zbM o v14 v9 v10 v11 v12 v13).bind fun v15=>(iter (fun x=>zdI o x.1 x.2.1 x.2.2.1 x.2.2.2.1 x.2.2.2.2.1 x.2.2.2.2.2.1 x.2.2.2.2.2.2.1 x.2.2.2.2.2.2.2.1 x.2.2.2.2.2.2.2.2.1 x.2.2.2.2.2.2.2.2.2.1 x.2.2.2.2.2.2.2.2.2.2.1 x.2.2.2.2.2.2.2.2.2.2.2) (v7,(0:Int),v15.2.2.1,v15.2.2.2.1,v15.2.2.2.2.1,v15.2.2.2.2.2.1,v15.2.2.2.2.2.2,v15.1)).bind fun v47=>some (.inl (v47.1,w64 (v8+1),v47.2)))else some (.inr (v7,v9,v10,v11,v12,v13))
def zcR(o:Ops)(v0:Bs)(v1:qcX)(v2:qbV)(v3:qbW)(v4:qbZ)(v5:List (Bs×Bs)):Option (((List Bs)×zkQ)):=
 (zdJ o v0 v1 v2 v3 v4 v5).bind fun v6=>(iter (fun x=>zdG o v6 x.1 x.2.1 x.2.2.1 x.2.2.2.1 x.2.2.2.2.1 x.2.2.2.2.2.1 x.2.2.2.2.2.2) (([]:List Bs),(0:Int),v6.2)).bind fun v48=>some v48
def zjG(o:Ops):SC:=⟨⟨[(0,(.ptr 0 0)),(1,hS)],[ziB]⟩,1,[(none,⟨[(0,(.h (.sl .s)))],[ziB]⟩)],fun x=>zcR o x.1 x.2.1 x.2.2.1 x.2.2.2.1 x.2.2.2.2.1 x.2.2.2.2.2⟩
theorem zrW:SCok aA tabs 80 (zjG o):=zxP (o:=o) (η:=[(200012,.loop [] ⟨[(0,(.ptr 0 0)),(6,(.h (.sl .s))),(8,(.ptr 1 0)),(11,(.ptr 2 0)),(13,hI)],[ziB,xfE,.blk 49 [hS,(.h (.sl .s))]]⟩ [4,5,7,10] [(some 4,⟨[(0,(.ptr 0 0)),(6,(.h (.sl .s))),(8,(.ptr 1 0))],[ziB,xfE]⟩)]),
 (200008,.loop [] ⟨[(0,(.ptr 0 0)),(6,(.h (.sl .s))),(8,(.ptr 1 0)),(10,hI)],[ziB,xfE]⟩ [4,5,7] [(some 2,⟨[(0,(.ptr 0 0)),(6,(.h (.sl .s)))],[ziB]⟩)]),
 (200004,.loop [.fz 6] ⟨[(0,(.ptr 0 0)),(6,(.h (.sl .s))),(7,hI)],[ziB]⟩ [4,5] [(some 0,⟨[(6,(.h (.sl .s)))],[ziB]⟩)])]) (Γ:=⟨[(186,(zkY o))],[(79,(zhP o)),(156,(zdQ o)),(157,(zkS o))],false,[]⟩) (ctok ⟨zpW,trivial⟩ ⟨zmA,⟨zgI,⟨zsC,trivial⟩⟩⟩) Tryz.func80
def zfE(o:Ops)(v0:zbY)(v1:zbY):Option (Bool):=
 bif(v0.1==v1.1)then(bif(v0.2.2.2.2==v1.2.2.2.2)then((zbL o v0.2.1 v1.2.1).bind fun v2=>bif v2 then((zbL o v0.2.2.1 v1.2.2.1).bind fun v3=>bif v3 then((zbL o v0.2.2.2.1 v1.2.2.2.1).bind fun v4=>some v4)else(some false))else(some false))else(some false))else(some false)
def zlU(o:Ops):PC:=⟨[(.h zmO),(.h zmO)],[.b],fun x=>zfE o x.1 x.2,false⟩
theorem zuA:PCok aA tabs 81 (zlU o):=zpG (o:=o) (η:=[]) (Γ:=⟨[(21,(zfL o))],[],false,[]⟩) (ctok ⟨ziA,trivial⟩ trivial) Tryz.func81
def zfT(o:Ops)(v0:zbA)(v1:zbA):Option (Bool):=
 bif(v0.1==v1.1)then((zbL o v0.2 v1.2).bind fun v2=>some v2)else(some false)
def zmI(o:Ops):PC:=⟨[(.h zlL),(.h zlL)],[.b],fun x=>zfT o x.1 x.2,false⟩
theorem zuC:PCok aA tabs 82 (zmI o):=zpG (o:=o) (η:=[]) (Γ:=⟨[(21,(zfL o))],[],false,[]⟩) (ctok ⟨ziA,trivial⟩ trivial) Tryz.func82
def zeL(o:Ops)(v0:zaZ)(v1:zaZ):Option (Bool):=
 bif(v0.1==v1.1)then(bif(v0.2.1==v1.2.1)then(bif(v0.2.2.2.2.1==v1.2.2.2.2.1)then(bif(v0.2.2.2.2.2.1==v1.2.2.2.2.2.1)then(bif(v0.2.2.2.2.2.2.1==v1.2.2.2.2.2.2.1)then(bif(v0.2.2.2.2.2.2.2==v1.2.2.2.2.2.2.2)then((zbL o v0.2.2.1 v1.2.2.1).bind fun v2=>bif v2 then((zbL o v0.2.2.2.1 v1.2.2.2.1).bind fun v3=>some v3)else(some false))else(some false))else(some false))else(some false))else(some false))else(some false))else(some false)
def zlJ(o:Ops):PC:=⟨[(.h zlF),(.h zlF)],[.b],fun x=>zeL o x.1 x.2,false⟩
theorem ztF:PCok aA tabs 83 (zlJ o):=zpG (o:=o) (η:=[]) (Γ:=⟨[(21,(zfL o))],[],false,[]⟩) (ctok ⟨ziA,trivial⟩ trivial) Tryz.func83
noncomputable def zjX(_o:Ops)(v0:qcX)(v1:qbV)(v2:qbW)(v3:qbZ)(v4:List (Bs×Bs))(v10:((List (Bs×zbF))×(List (Bs×((List Bs)×(List Bs)×List Bs)×Int))×(List (Bs×zbA))×(List (Bs×zaZ))×(List ((Bs×Bs)×Unit))×qcX))(v11:((List (Bs×zbF))×(List (Bs×((List Bs)×(List Bs)×List Bs)×Int))×(List (Bs×zbA))×(List (Bs×zaZ))×(List ((Bs×Bs)×Unit))×qbV))(v12:((List (Bs×zbF))×(List (Bs×((List Bs)×(List Bs)×List Bs)×Int))×(List (Bs×zbA))×(List (Bs×zaZ))×(List ((Bs×Bs)×Unit))×qbW))(v13:((List (Bs×zbF))×(List (Bs×((List Bs)×(List Bs)×List Bs)×Int))×(List (Bs×zbA))×(List (Bs×zaZ))×(List ((Bs×Bs)×Unit))×qbZ))(v14:((List (Bs×Bs))×(List (Bs×zbF))×(List (Bs×((List Bs)×(List Bs)×List Bs)×Int))×(List (Bs×zbA))×(List (Bs×zaZ))×List ((Bs×Bs)×Unit))):Option ((Bool×qcX×qbV×qbW×qbZ×(List (Bs×Bs))×(List (Bs×zbF))×(List (Bs×((List Bs)×(List Bs)×List Bs)×Int))×(List (Bs×zbA))×(List (Bs×zaZ))×List ((Bs×Bs)×Unit))⊕(qcX×qbV×qbW×qbZ×(List (Bs×Bs))×(List (Bs×zbF))×(List (Bs×((List Bs)×(List Bs)×List Bs)×Int))×(List (Bs×zbA))×(List (Bs×zaZ))×(List ((Bs×Bs)×Unit))×qcX×qbV×qbW×qbZ)):=
 bif((v10.2.2.2.2.2.length:Int) != (v0.length:Int))then some (.inl (false,v0,v1,v2,v3,v4,v14.2))else(bif((v11.2.2.2.2.2.length:Int) != (v1.length:Int))then some (.inl (false,v0,v1,v2,v3,v4,v14.2))else(bif((v12.2.2.2.2.2.length:Int) != (v2.length:Int))then some (.inl (false,v0,v1,v2,v3,v4,v14.2))else(bif((v13.2.2.2.2.2.length:Int) != (v3.length:Int))then some (.inl (false,v0,v1,v2,v3,v4,v14.2))else(bif((v14.1.length:Int) != (v4.length:Int))then some (.inl (false,v0,v1,v2,v3,v4,v14.2))else some (.inr (v0,v1,v2,v3,v4,v14.2.1,v14.2.2.1,v14.2.2.2.1,v14.2.2.2.2.1,v14.2.2.2.2.2,v10.2.2.2.2.2,v11.2.2.2.2.2,v12.2.2.2.2.2,v13.2.2.2.2.2))))))
noncomputable def zhI(o:Ops)(v18:Int)(v19:qcX)(v20:qbV)(v21:qbW)(v22:qbZ)(v23:List (Bs×Bs))(v24:List (Bs×zbF))(v25:List (Bs×((List Bs)×(List Bs)×List Bs)×Int))(v26:List (Bs×zbA))(v27:List (Bs×zaZ))(v28:List ((Bs×Bs)×Unit))(v29:qcX)(v30:qbV)(v31:qbW)(v32:qbZ):Option ((Int×qcX×qbV×qbW×qbZ×(List (Bs×Bs))×(List (Bs×zbF))×(List (Bs×((List Bs)×(List Bs)×List Bs)×Int))×(List (Bs×zbA))×(List (Bs×zaZ))×(List ((Bs×Bs)×Unit))×qcX×qbV×qbW×qbZ)⊕((Bool×qcX×qbV×qbW×qbZ×(List (Bs×Bs))×(List (Bs×zbF))×(List (Bs×((List Bs)×(List Bs)×List Bs)×Int))×(List (Bs×zbA))×(List (Bs×zaZ))×List ((Bs×Bs)×Unit))⊕(qcX×qbV×qbW×qbZ×(List (Bs×Bs))×(List (Bs×zbF))×(List (Bs×((List Bs)×(List Bs)×List Bs)×Int))×(List (Bs×zbA))×(List (Bs×zaZ))×(List ((Bs×Bs)×Unit))×qbV×qbW×qbZ))):=
 bif decide (v18<(v29.length:Int))then((chk (decide ((0:Int)<=v18)&&decide (v18<(v29.length:Int)))).bind fun _=>(idx v29 v18).bind fun v33=>(idx v19 v18).bind fun v34=>let v35:Bool:=(!((v33.1==v34.1)&&((v33.2.1==v34.2.1)&&((v33.2.2.1==v34.2.2.1)&&(decide (v33.2.2.2=v34.2.2.2))))))
 bif v35 then some (.inr (.inl (false,v19,v20,v21,v22,v23,v24,v25,v26,v27,v28)))else((chk (decide ((0:Int)<=v18)&&decide (v18<(v29.length:Int)))).bind fun _=>(idx v29 v18).bind fun v36=>(chk (decide ((0:Int)<=v18)&&decide (v18<(v29.length:Int)))).bind fun _=>(idx v29 v18).bind fun v37=>(zdA o v36.1 v24 v25 v26 v27 v28).bind fun v38=>(zdJ o v37.1 v19 v20 v21 v22 v23).bind fun v39=>(zbL o v38.1 v39.1).bind fun v40=>bif(!v40)then some (.inr (.inl (false,v39.2.1,v39.2.2.1,v39.2.2.2.1,v39.2.2.2.2.1,v39.2.2.2.2.2,v38.2)))else((chk (decide ((0:Int)<=v18)&&decide (v18<(v29.length:Int)))).bind fun _=>(idx v29 v18).bind fun v41=>(chk (decide ((0:Int)<=v18)&&decide (v18<(v29.length:Int)))).bind fun _=>(idx v29 v18).bind fun v42=>(zcJ o v41.1 v38.2.1 v38.2.2.1 v38.2.2.2.1 v38.2.2.2.2.1 v38.2.2.2.2.2).bind fun v43=>(zcR o v42.1 v39.2.1 v39.2.2.1 v39.2.2.2.1 v39.2.2.2.2.1 v39.2.2.2.2.2).bind fun v44=>(zbL o v43.1 v44.1).bind fun v45=>bif(!v45)then some (.inr (.inl (false,v44.2.1,v44.2.2.1,v44.2.2.2.1,v44.2.2.2.2.1,v44.2.2.2.2.2,v43.2)))else some (.inl (w64 (v18+1),v44.2.1,v44.2.2.1,v44.2.2.2.1,v44.2.2.2.2.1,v44.2.2.2.2.2,v43.2.1,v43.2.2.1,v43.2.2.2.1,v43.2.2.2.2.1,v43.2.2.2.2.2,v29,v30,v31,v32)))))else some (.inr (.inr (v19,v20,v21,v22,v23,v24,v25,v26,v27,v28,v30,v31,v32)))
noncomputable def zhC(o:Ops)(v49:Int)(v50:qcX)(v51:qbV)(v52:qbW)(v53:qbZ)(v54:List (Bs×Bs))(v55:List (Bs×zbF))(v56:List (Bs×((List Bs)×(List Bs)×List Bs)×Int))(v57:List (Bs×zbA))(v58:List (Bs×zaZ))(v59:List ((Bs×Bs)×Unit))(v60:qbV)(v61:qbW)(v62:qbZ):Option ((Int×qcX×qbV×qbW×qbZ×(List (Bs×Bs))×(List (Bs×zbF))×(List (Bs×((List Bs)×(List Bs)×List Bs)×Int))×(List (Bs×zbA))×(List (Bs×zaZ))×(List ((Bs×Bs)×Unit))×qbV×qbW×qbZ)⊕((Bool×qcX×qbV×qbW×qbZ×(List (Bs×Bs))×(List (Bs×zbF))×(List (Bs×((List Bs)×(List Bs)×List Bs)×Int))×(List (Bs×zbA))×(List (Bs×zaZ))×List ((Bs×Bs)×Unit))⊕(qcX×qbV×qbW×qbZ×(List (Bs×Bs))×(List (Bs×zbF))×(List (Bs×((List Bs)×(List Bs)×List Bs)×Int))×(List (Bs×zbA))×(List (Bs×zaZ))×(List ((Bs×Bs)×Unit))×qbW×qbZ))):=
 bif decide (v49<(v60.length:Int))then((chk (decide ((0:Int)<=v49)&&decide (v49<(v60.length:Int)))).bind fun _=>(idx v60 v49).bind fun v63=>(idx v51 v49).bind fun v64=>(zfE o v63 v64).bind fun v65=>bif(!v65)then some (.inr (.inl (false,v50,v51,v52,v53,v54,v55,v56,v57,v58,v59)))else some (.inl (w64 (v49+1),v50,v51,v52,v53,v54,v55,v56,v57,v58,v59,v60,v61,v62)))else some (.inr (.inr (v50,v51,v52,v53,v54,v55,v56,v57,v58,v59,v61,v62)))
noncomputable def zhE(o:Ops)(v69:Int)(v70:qcX)(v71:qbV)(v72:qbW)(v73:qbZ)(v74:List (Bs×Bs))(v75:List (Bs×zbF))(v76:List (Bs×((List Bs)×(List Bs)×List Bs)×Int))(v77:List (Bs×zbA))(v78:List (Bs×zaZ))(v79:List ((Bs×Bs)×Unit))(v80:qbW)(v81:qbZ):Option ((Int×qcX×qbV×qbW×qbZ×(List (Bs×Bs))×(List (Bs×zbF))×(List (Bs×((List Bs)×(List Bs)×List Bs)×Int))×(List (Bs×zbA))×(List (Bs×zaZ))×(List ((Bs×Bs)×Unit))×qbW×qbZ)⊕((Bool×qcX×qbV×qbW×qbZ×(List (Bs×Bs))×(List (Bs×zbF))×(List (Bs×((List Bs)×(List Bs)×List Bs)×Int))×(List (Bs×zbA))×(List (Bs×zaZ))×List ((Bs×Bs)×Unit))⊕(qcX×qbV×qbW×qbZ×(List (Bs×Bs))×(List (Bs×zbF))×(List (Bs×((List Bs)×(List Bs)×List Bs)×Int))×(List (Bs×zbA))×(List (Bs×zaZ))×(List ((Bs×Bs)×Unit))×qbZ))):=
 bif decide (v69<(v80.length:Int))then((chk (decide ((0:Int)<=v69)&&decide (v69<(v80.length:Int)))).bind fun _=>(idx v80 v69).bind fun v82=>(idx v72 v69).bind fun v83=>(zfT o v82 v83).bind fun v84=>bif(!v84)then some (.inr (.inl (false,v70,v71,v72,v73,v74,v75,v76,v77,v78,v79)))else some (.inl (w64 (v69+1),v70,v71,v72,v73,v74,v75,v76,v77,v78,v79,v80,v81)))else some (.inr (.inr (v70,v71,v72,v73,v74,v75,v76,v77,v78,v79,v81)))
noncomputable def zhH(o:Ops)(v88:Int)(v89:qcX)(v90:qbV)(v91:qbW)(v92:qbZ)(v93:List (Bs×Bs))(v94:List (Bs×zbF))(v95:List (Bs×((List Bs)×(List Bs)×List Bs)×Int))(v96:List (Bs×zbA))(v97:List (Bs×zaZ))(v98:List ((Bs×Bs)×Unit))(v99:qbZ):Option ((Int×qcX×qbV×qbW×qbZ×(List (Bs×Bs))×(List (Bs×zbF))×(List (Bs×((List Bs)×(List Bs)×List Bs)×Int))×(List (Bs×zbA))×(List (Bs×zaZ))×(List ((Bs×Bs)×Unit))×qbZ)⊕((Bool×qcX×qbV×qbW×qbZ×(List (Bs×Bs))×(List (Bs×zbF))×(List (Bs×((List Bs)×(List Bs)×List Bs)×Int))×(List (Bs×zbA))×(List (Bs×zaZ))×List ((Bs×Bs)×Unit))⊕(qcX×qbV×qbW×qbZ×(List (Bs×Bs))×(List (Bs×zbF))×(List (Bs×((List Bs)×(List Bs)×List Bs)×Int))×(List (Bs×zbA))×(List (Bs×zaZ))×List ((Bs×Bs)×Unit)))):=
 bif decide (v88<(v99.length:Int))then((chk (decide ((0:Int)<=v88)&&decide (v88<(v99.length:Int)))).bind fun _=>(idx v99 v88).bind fun v100=>(idx v92 v88).bind fun v101=>(zeL o v100 v101).bind fun v102=>bif(!v102)then some (.inr (.inl (false,v89,v90,v91,v92,v93,v94,v95,v96,v97,v98)))else some (.inl (w64 (v88+1),v89,v90,v91,v92,v93,v94,v95,v96,v97,v98,v99)))else some (.inr (.inr (v89,v90,v91,v92,v93,v94,v95,v96,v97,v98)))
noncomputable def zhL(o:Ops)(v14:((List (Bs×Bs))×(List (Bs×zbF))×(List (Bs×((List Bs)×(List Bs)×List Bs)×Int))×(List (Bs×zbA))×(List (Bs×zaZ))×List ((Bs×Bs)×Unit)))(v106:Int)(v107:qcX)(v108:qbV)(v109:qbW)(v110:qbZ)(v111:List (Bs×Bs))(v112:List (Bs×zbF))(v113:List (Bs×((List Bs)×(List Bs)×List Bs)×Int))(v114:List (Bs×zbA))(v115:List (Bs×zaZ))(v116:List ((Bs×Bs)×Unit)):Option ((Int×qcX×qbV×qbW×qbZ×(List (Bs×Bs))×(List (Bs×zbF))×(List (Bs×((List Bs)×(List Bs)×List Bs)×Int))×(List (Bs×zbA))×(List (Bs×zaZ))×List ((Bs×Bs)×Unit))⊕((Bool×qcX×qbV×qbW×qbZ×(List (Bs×Bs))×(List (Bs×zbF))×(List (Bs×((List Bs)×(List Bs)×List Bs)×Int))×(List (Bs×zbA))×(List (Bs×zaZ))×List ((Bs×Bs)×Unit))⊕(qcX×qbV×qbW×qbZ×(List (Bs×Bs))×(List (Bs×zbF))×(List (Bs×((List Bs)×(List Bs)×List Bs)×Int))×(List (Bs×zbA))×(List (Bs×zaZ))×List ((Bs×Bs)×Unit)))):=
 bif decide (v106<(v14.1.length:Int))then((idx v14.1 v106).bind fun v117=>(idx v111 v106).bind fun v118=>bif(!((v117.1==v118.1)&&(v117.2==v118.2)))then some (.inr (.inl (false,v107,v108,v109,v110,v111,v112,v113,v114,v115,v116)))else((idx v14.1 v106).bind fun v119=>(idx v14.1 v106).bind fun v120=>(znK o v119.1 v120.2 v112 v113 v114 v115 v116).bind fun v121=>bif(!v121.1)then some (.inr (.inl (false,v107,v108,v109,v110,v111,v121.2)))else some (.inl (w64 (v106+1),v107,v108,v109,v110,v111,v121.2))))else some (.inr (.inr (v107,v108,v109,v110,v111,v112,v113,v114,v115,v116)))
noncomputable def zhX(o:Ops)(v0:qcX)(v1:qbV)(v2:qbW)(v3:qbZ)(v4:List (Bs×Bs))(v5:List (Bs×zbF))(v6:List (Bs×((List Bs)×(List Bs)×List Bs)×Int))(v7:List (Bs×zbA))(v8:List (Bs×zaZ))(v9:List ((Bs×Bs)×Unit)):Option ((Bool×qcX×qbV×qbW×qbZ×(List (Bs×Bs))×(List (Bs×zbF))×(List (Bs×((List Bs)×(List Bs)×List Bs)×Int))×(List (Bs×zbA))×(List (Bs×zaZ))×List ((Bs×Bs)×Unit))):=
 (zgC o v5 v6 v7 v8 v9).bind fun v10=>(zfM o v10.1 v10.2.1 v10.2.2.1 v10.2.2.2.1 v10.2.2.2.2.1).bind fun v11=>(zgK o v11.1 v11.2.1 v11.2.2.1 v11.2.2.2.1 v11.2.2.2.2.1).bind fun v12=>(zeP o v12.1 v12.2.1 v12.2.2.1 v12.2.2.2.1 v12.2.2.2.2.1).bind fun v13=>(zgZ o v13.1 v13.2.1 v13.2.2.1 v13.2.2.2.1 v13.2.2.2.2.1).bind fun v14=>(zjX o v0 v1 v2 v3 v4 v10 v11 v12 v13 v14).bind fun v15=>match v15 with
 |.inl v16=>some v16|.inr v17=>((iter (fun x=>zhI o x.1 x.2.1 x.2.2.1 x.2.2.2.1 x.2.2.2.2.1 x.2.2.2.2.2.1 x.2.2.2.2.2.2.1 x.2.2.2.2.2.2.2.1 x.2.2.2.2.2.2.2.2.1 x.2.2.2.2.2.2.2.2.2.1 x.2.2.2.2.2.2.2.2.2.2.1 x.2.2.2.2.2.2.2.2.2.2.2.1 x.2.2.2.2.2.2.2.2.2.2.2.2.1 x.2.2.2.2.2.2.2.2.2.2.2.2.2.1 x.2.2.2.2.2.2.2.2.2.2.2.2.2.2) ((0:Int),v17)).bind fun v46=>match v46 with
 |.inl v47=>some v47|.inr v48=>((iter (fun x=>zhC o x.1 x.2.1 x.2.2.1 x.2.2.2.1 x.2.2.2.2.1 x.2.2.2.2.2.1 x.2.2.2.2.2.2.1 x.2.2.2.2.2.2.2.1 x.2.2.2.2.2.2.2.2.1 x.2.2.2.2.2.2.2.2.2.1 x.2.2.2.2.2.2.2.2.2.2.1 x.2.2.2.2.2.2.2.2.2.2.2.1 x.2.2.2.2.2.2.2.2.2.2.2.2.1 x.2.2.2.2.2.2.2.2.2.2.2.2.2) ((0:Int),v48)).bind fun v66=>match v66 with
 |.inl v67=>some v67|.inr v68=>((iter (fun x=>zhE o x.1 x.2.1 x.2.2.1 x.2.2.2.1 x.2.2.2.2.1 x.2.2.2.2.2.1 x.2.2.2.2.2.2.1 x.2.2.2.2.2.2.2.1 x.2.2.2.2.2.2.2.2.1 x.2.2.2.2.2.2.2.2.2.1 x.2.2.2.2.2.2.2.2.2.2.1 x.2.2.2.2.2.2.2.2.2.2.2.1 x.2.2.2.2.2.2.2.2.2.2.2.2) ((0:Int),v68)).bind fun v85=>match v85 with
 |.inl v86=>some v86|.inr v87=>((iter (fun x=>zhH o x.1 x.2.1 x.2.2.1 x.2.2.2.1 x.2.2.2.2.1 x.2.2.2.2.2.1 x.2.2.2.2.2.2.1 x.2.2.2.2.2.2.2.1 x.2.2.2.2.2.2.2.2.1 x.2.2.2.2.2.2.2.2.2.1 x.2.2.2.2.2.2.2.2.2.2.1 x.2.2.2.2.2.2.2.2.2.2.2) ((0:Int),v87)).bind fun v103=>match v103 with
 |.inl v104=>some v104|.inr v105=>((iter (fun x=>zhL o v14 x.1 x.2.1 x.2.2.1 x.2.2.2.1 x.2.2.2.2.1 x.2.2.2.2.2.1 x.2.2.2.2.2.2.1 x.2.2.2.2.2.2.2.1 x.2.2.2.2.2.2.2.2.1 x.2.2.2.2.2.2.2.2.2.1 x.2.2.2.2.2.2.2.2.2.2) ((0:Int),v105)).bind fun v122=>match v122 with
 |.inl v123=>some v123|.inr v124=>some (true,v124))))))
abbrev qaX:OSh:=.mp true .s (.pr (.pr (.sl .s) (.pr (.sl .s) (.sl .s))) (.i .i64))
noncomputable def zoY(o:Ops):SC:=⟨⟨[(0,(.ptr 0 0)),(1,(.ptr 1 0))],[zvN,ziB,zvC,qaX,zvG,zvA,qaY]⟩,1,[(none,⟨[(0,hB)],[zvN,ziB,zvC,qaX,zvG,zvA,qaY]⟩)],fun x=>zhX o x.1 x.2.1 x.2.2.1 x.2.2.2.1 x.2.2.2.2.1 x.2.2.2.2.2.1 x.2.2.2.2.2.2.1 x.2.2.2.2.2.2.2.1 x.2.2.2.2.2.2.2.2.1 x.2.2.2.2.2.2.2.2.2⟩
theorem zxC:SCok aA tabs 28 (zoY o):=zxP (o:=o) (η:=[(2000004,.join [] [9] [(some 1000000,⟨[(4,hB)],[zvN,ziB,zvC,qaX,zvG,zvA,qaY]⟩),(none,⟨[(0,(.ptr 0 0)),(1,(.ptr 1 0)),(5,(.own 7)),(6,(.own 8)),(7,(.own 9)),(8,(.own 10))],[zvN,ziB,zvC,qaX,zvG,zvA,qaY,.osl zpT 77,.osl zmO 57,.osl zlL 49,.osl zlF 51]⟩)]),
 (200005,.loop [] ⟨[(0,(.ptr 0 0)),(1,(.ptr 1 0)),(5,(.own 7)),(6,(.own 8)),(7,(.own 9)),(8,(.own 10)),(10,hI)],[zvN,ziB,zvC,qaX,zvG,zvA,qaY,.osl zpT 77,.osl zmO 57,.osl zlL 49,.osl zlF 51]⟩ [9] [(some 1000000,⟨[(4,hB)],[zvN,ziB,zvC,qaX,zvG,zvA,qaY]⟩),(some 0,⟨[(0,(.ptr 0 0)),(1,(.ptr 1 0)),(6,(.own 7)),(7,(.own 8)),(8,(.own 9))],[zvN,ziB,zvC,qaX,zvG,zvA,qaY,.osl zmO 57,.osl zlL 49,.osl zlF 51]⟩)]),
 (200010,.loop [] ⟨[(0,(.ptr 0 0)),(1,(.ptr 1 0)),(6,(.own 7)),(7,(.own 8)),(8,(.own 9)),(11,hI)],[zvN,ziB,zvC,qaX,zvG,zvA,qaY,.osl zmO 57,.osl zlL 49,.osl zlF 51]⟩ [9] [(some 1000000,⟨[(4,hB)],[zvN,ziB,zvC,qaX,zvG,zvA,qaY]⟩),(some 2,⟨[(0,(.ptr 0 0)),(1,(.ptr 1 0)),(7,(.own 7)),(8,(.own 8))],[zvN,ziB,zvC,qaX,zvG,zvA,qaY,.osl zlL 49,.osl zlF 51]⟩)]),
 (200015,.loop [] ⟨[(0,(.ptr 0 0)),(1,(.ptr 1 0)),(7,(.own 7)),(8,(.own 8)),(12,hI)],[zvN,ziB,zvC,qaX,zvG,zvA,qaY,.osl zlL 49,.osl zlF 51]⟩ [9] [(some 1000000,⟨[(4,hB)],[zvN,ziB,zvC,qaX,zvG,zvA,qaY]⟩),(some 4,⟨[(0,(.ptr 0 0)),(1,(.ptr 1 0)),(8,(.own 7))],[zvN,ziB,zvC,qaX,zvG,zvA,qaY,.osl zlF 51]⟩)]),
 (200020,.loop [] ⟨[(0,(.ptr 0 0)),(1,(.ptr 1 0)),(8,(.own 7)),(13,hI)],[zvN,ziB,zvC,qaX,zvG,zvA,qaY,.osl zlF 51]⟩ [9] [(some 1000000,⟨[(4,hB)],[zvN,ziB,zvC,qaX,zvG,zvA,qaY]⟩),(some 6,⟨[(0,(.ptr 0 0)),(1,(.ptr 1 0))],[zvN,ziB,zvC,qaX,zvG,zvA,qaY]⟩)]),
 (200025,.loop [] ⟨[(0,(.ptr 0 0)),(1,(.ptr 1 0)),(14,hI)],[zvN,ziB,zvC,qaX,zvG,zvA,qaY]⟩ [9] [(some 1000000,⟨[(4,hB)],[zvN,ziB,zvC,qaX,zvG,zvA,qaY]⟩),(some 8,⟨[],[zvN,ziB,zvC,qaX,zvG,zvA,qaY]⟩)]),
 (4000007,.sch (zpu 0 19++[(.pu,20,[0,2,3,4,5,6]),(.pu,21,[0,2,3,4,5,6]),(.pu,22,[0,2,3,4,5,6]),(.pu,23,[0,2,3,4,5,6]),(.pu,24,[0,2,3,4,5,6]),(.pu,25,[0,2,3,4,5,6]),(.mn,19,[0,2,3,4,5,6]),(.mn,26,[1]),(.mn,27,[])]++zpu 28 9++[(.pu,38,[0,2,3,4,5,6]),(.pu,39,[0,2,3,4,5,6]),(.pu,40,[0,2,3,4,5,6]),(.pu,41,[0,2,3,4,5,6]),(.pu,42,[0,2,3,4,5,6]),(.pu,43,[0,2,3,4,5,6]),(.mn,37,[0,2,3,4,5,6]),(.mn,44,[1]),(.mn,45,[]),(.pu,46,[]),(.pu,47,[])])),
 (4000012,.sch (zpu 0 11++[(.mn,11,[]),(.pu,12,[])])),
 (4000017,.sch (zpu 0 11++[(.mn,11,[]),(.pu,12,[])])),
 (4000022,.sch (zpu 0 11++[(.mn,11,[]),(.pu,12,[])])),
 (4000027,.sch (zpu 0 24++[(.mn,24,[0,2,3,4,5,6]),(.pu,25,[]),(.pu,26,[])]))]) (Γ:=⟨[(21,(zfL o)),(81,(zlU o)),(82,(zmI o)),(83,(zlJ o))],[(39,(zkZ o)),(32,(zkF o)),(40,(zlB o)),(38,(zjD o)),(45,(zlY o)),(50,(zkC o)),(79,(zhP o)),(34,(zlA o)),(80,(zjG o)),(56,(zsS o))],false,[]⟩) (ctok ⟨ziA,⟨zuA,⟨zuC,⟨ztF,trivial⟩⟩⟩⟩ ⟨zpV,⟨zpI,⟨zqF,⟨znQ,⟨zrR,⟨znH,⟨zmA,⟨zqC,⟨zrW,⟨ybD,trivial⟩⟩⟩⟩⟩⟩⟩⟩⟩⟩) Tryz.func28
noncomputable def zgX(o:Ops)(v0:List (Bs×Bs))(v2:List (Bs×Bs))(v5:Int)(v8:Int):Option (Bool⊕Unit):=
 bif(v5 != v8)then some (.inl false)else((zcV o (fK ((v0.length:Int).toNat) v2) v0).bind fun v10=>bif(!v10)then some (.inl false)else((subH v2 (w64 ((v0.length:Int)+1))).bind fun v11=>(idx v11 (v0.length:Int)).bind fun v12=>bif(v12.1 != ([98,101,104,105,110,100]:Bs))then some (.inl false)else some (.inr ())))
noncomputable def zsF(_o:Ops)(v5:Int)(v9:(Int×zkQ)):Option (Bool):=
 bif(v5 != v9.1)then some false else some false
noncomputable def zsE(_o:Ops)(v6:(Int×(List (Bs×zbF))×(List (Bs×((List Bs)×(List Bs)×List Bs)×Int))×(List (Bs×zbA))×(List (Bs×zaZ))×List ((Bs×Bs)×Unit)))(v19:Int):Option (Bool):=
 bif(v6.1 != v19)then some false else some false
noncomputable def zgP(o:Ops)(v0:List (Bs×Bs))(v2:List (Bs×Bs))(v6:(Int×(List (Bs×zbF))×(List (Bs×((List Bs)×(List Bs)×List Bs)×Int))×(List (Bs×zbA))×(List (Bs×zaZ))×List ((Bs×Bs)×Unit)))(v20:(Int×zkQ)):Option (Bool⊕(qcX×qbV×qbW×qbZ×(List (Bs×Bs))×(List (Bs×zbF))×(List (Bs×((List Bs)×(List Bs)×List Bs)×Int))×(List (Bs×zbA))×(List (Bs×zaZ))×List ((Bs×Bs)×Unit))):=
 bif(v6.1 != v20.1)then some (.inl false)else((zcV o (fK ((v0.length:Int).toNat) v2) v0).bind fun v22=>bif(!v22)then some (.inl false)else((subH v2 (w64 ((v0.length:Int)+1))).bind fun v23=>(idx v23 (v0.length:Int)).bind fun v24=>bif(v24.1 != ([98,101,104,105,110,100]:Bs))then some (.inl false)else some (.inr (v20.2.1,v20.2.2.1,v20.2.2.2.1,v20.2.2.2.2.1,v20.2.2.2.2.2,v6.2))))
noncomputable def zeH(o:Ops)(v0:List (Bs×Bs)):Option (Bool):=
 (app ([]:List (Bs×Bs)) v0).bind fun v1=>(app v1 ([(([98,101,104,105,110,100]:Bs),([]:Bs))]:List (Bs×Bs))).bind fun v2=>(subH v2 (v0.length:Int)).bind fun _v3=>(zeR o (fK ((v0.length:Int).toNat) v2)).bind fun v4=>match v4 with
 |.inl v5=>((zeC o v0).bind fun v7=>match v7 with
 |.inl v8=>((zgX o v0 v2 v5 v8).bind fun v13=>match v13 with
 |.inl v14=>(some v14)|.inr _v15=>((some true).bind fun v16=>some v16))
 |.inr v9=>((zsF o v5 v9).bind fun v17=>some v17))
 |.inr v6=>((zeC o v0).bind fun v18=>match v18 with
 |.inl v19=>((zsE o v6 v19).bind fun v21=>some v21)|.inr v20=>((zgP o v0 v2 v6 v20).bind fun v25=>match v25 with
 |.inl v26=>(some v26)|.inr v27=>((zhX o v27.1 v27.2.1 v27.2.2.1 v27.2.2.2.1 v27.2.2.2.2.1 v27.2.2.2.2.2.1 v27.2.2.2.2.2.2.1 v27.2.2.2.2.2.2.2.1 v27.2.2.2.2.2.2.2.2.1 v27.2.2.2.2.2.2.2.2.2).bind fun v28=>bif v28.1 then((zdM o v28.2.2.2.2.2.2.1 v28.2.2.2.2.2.2.2.1 v28.2.2.2.2.2.2.2.2.1 v28.2.2.2.2.2.2.2.2.2.1 v28.2.2.2.2.2.2.2.2.2.2).bind fun v29=>(zcV o v29.1 v0).bind fun v30=>bif v30 then((some true).bind fun v31=>some v31)else(some false))else(some false))))
noncomputable def zrY(o:Ops):PC:=⟨[(.h (.sl (.pr .s .s)))],[.b],fun x=>zeH o x,false⟩
theorem yfN:PCok aA tabs 5 (zrY o):=zpG (o:=o) (η:=[(2000006,.whn 4 1 (.whn 6 1 (.join [] [0,4,6] [(some 1000000,⟨[(2,hB)],[]⟩),(none,⟨[],[]⟩)]))),
 (2000006,.whn 4 1 (.whn 6 2 (.join [] [] [(some 1000000,⟨[(2,hB)],[]⟩)]))),
 (2000006,.whn 4 2 (.whn 6 1 (.join [] [] [(some 1000000,⟨[(2,hB)],[]⟩)]))),
 (2000006,.whn 4 2 (.whn 6 2 (.join [] [0] [(some 1000000,⟨[(2,hB)],[]⟩),(none,⟨[(4,(.ptr 0 0)),(6,(.ptr 1 0))],[zvN,ziB,zvC,qaX,zvG,zvA,qaY]⟩)])))]) (Γ:=⟨[(27,(zmK o)),(24,yvU)],[(25,(zuW o)),(26,(zpY o)),(28,(zoY o)),(29,(zmD o))],false,[]⟩) (ctok ⟨zuF,⟨fixed_pk,trivial⟩⟩ ⟨ybG,⟨zxW,⟨zxC,⟨zrG,trivial⟩⟩⟩⟩) Tryz.func5
end
theorem ynJ{l:List L8}{b:Bool}(h:Sm l):T (zbQ zaB l b) fun r=>Sm r.2.1/\r.1.length<=1048576/\(r.2.2=false->b=false/\l=r.1::r.2.1):=ydV h
theorem ymT(t:L8)(l:List L8)(b:Bool):zbQ zaB (t::l) b=some (t,l,b):=ycC t l b
theorem yvO{l:List L8}{b:Bool}{lo hi:Int}(h0:0<=lo)(h:Sm l):T (zbE zaB lo hi l b) fun r=>Sm r.2.1/\0<=r.1/\(r.2.2=false->b=false/\(lo<=r.1/\r.1<=hi)/\l=Lib.decDigits r.1.toNat::r.2.1):=by
 unfold zbE;refine(ynJ h).bind fun r hr=>?_;rw[yeL,zaA];unfold zhD;cases e1:(numR r.1).2 with
 |false=>exact T.ok ⟨hr.1,h0,fun e=>by cases e⟩|true=>
  rw[bM,zF];by_cases e2:(numR r.1).1<lo
  ·rw[zaX e2];exact T.ok ⟨hr.1,h0,fun e=>by cases e⟩
  ·rw[zaY e2,zaA];by_cases e3:(numR r.1).1>hi
   ·rw[zA e3];exact T.ok ⟨hr.1,h0,fun e=>by cases e⟩
   ·rw[zB e3];refine T.ok ⟨hr.1,by simp only;omega,fun e=>?_⟩;obtain⟨h1,h2⟩:=hr.2.2 e;refine⟨h1,⟨by simp only;omega,by simp only;omega⟩,?_⟩;unfold numR at e1 ⊢;cases hn:numB r.1 with
    |false=>rw[hn]at e1;cases e1
    |true=>simp only[zE,Int.toNat_natCast];rw[(ybT hn).1];exact h2
theorem yoV{n:Nat}{lo hi:Int}(h1:lo<=n)(h2:(n:Int)<=hi)(h:n<1000000000000000)(l:List L8):zbE zaB lo hi (Lib.decDigits n::l) false=some ((n:Int),l,false):=by obtain⟨h3,h4⟩:=dec_num n h;unfold zbE;rw[ymT,zaA];simp only;rw[yeL,zaA];unfold zhD numR;rw[h3,h4];simp only[zE,bM,zF];rw[zaY (by omega),zaA,zB (by omega)];rfl
theorem ydY{l:List L8}{b:Bool}(h:Sm l):T (zaL zaB l b) fun r=>Sm r.2.1/\Sm r.1/\(r.2.2=false->b=false/\l=lisE r.1++r.2.1/\r.1.length<=100000):=by
 unfold zaL;refine(yvO (lo:=0) (hi:=100000) (fW _) h).bind fun r hr=>?_;by_cases hlt:r.1>(r.2.1.length:Int)
 ·rw[zaX hlt];exact T.ok ⟨hr.1,⟨aZ _,fun t ht=>by cases ht⟩,fun e2=>by cases e2⟩
 ·rw[zaY hlt];have hl:=hr.1.1;have h0:=hr.2.1;obtain⟨n,hn⟩:∃n:Nat,r.1=n:=⟨r.1.toNat,by omega⟩;rw[hn,zpP (by omega),zaA,zmZ _ (by rw[bA];omega),zaA,zsI (by omega),zaA];refine T.ok ⟨hr.1.drop _,⟨by rw[bA];omega,fun t ht=>hr.1.2 t (List.mem_of_mem_take ht)⟩,fun e2=>?_⟩;obtain⟨h1,⟨_,h9⟩,h3⟩:=hr.2.2 e2;refine⟨h1,?_,by simp only;rw[bA];omega⟩;rw[h3,hn];unfold lisE;rw[bA,Nat.min_eq_left (by omega),bG,dC];rfl
theorem ynX{l rest:List L8}(h:l.length<=100000):zaL zaB (lisE l++rest) false=some (l,rest,false):=by unfold zaL;rw[show lisE l++rest=Lib.decDigits l.length::(l++rest)from rfl,yoV (by omega) (by omega) (by omega),zaA];simp only;rw[zaY (by rw[aC];omega),zpP (by rw[aC];omega),zaA,zmZ _ (by rw[bA];omega),zaA,zsI (by rw[aC];omega),zaA,fC,List.drop_left']<;>rfl
theorem yrG{l:List L8}(h:l.length<=100000):zaL zaB (lisE l) false=some (l,[],false):=by
 have:=ynX (l:=l) (rest:=[]) h
 rwa[bK]at this
theorem dec_0:Lib.decDigits 0=[48]:=by kernel_rfl
theorem dec_1:Lib.decDigits 1=[49]:=by kernel_rfl
theorem dflag_i{l:List L8}{b:Bool}(h:Sm l):T (zcE zaB l b) fun r=>Sm r.2.1/\(r.2.2=false->b=false/\l=dgE r.1::r.2.1):=by
 unfold zcE;refine(yvO (lo:=0) (hi:=1) (fW _) h).bind fun r hr=>T.ok ⟨hr.1,fun e=>?_⟩;obtain⟨h1,⟨h2,h3⟩,h4⟩:=hr.2.2 e;refine⟨h1,?_⟩;rw[h4];rcases(show r.1=0∨r.1=1 by omega)with h5|h5
 ·rw[h5,show Int.toNat 0=0 from rfl,dec_0];rfl
 ·rw[h5,show Int.toNat 1=1 from rfl,dec_1];rfl
theorem dflag_c(b:Bool)(l:List L8):zcE zaB (dgE b::l) false=some (b,l,false):=by
 unfold zcE;cases b with
 |false=>rw[show dgE false=Lib.decDigits 0 from dec_0.symm,yoV (n:=0) (by decide) (by decide) (by decide),zaA];rfl|true=>rw[show dgE true=Lib.decDigits 1 from dec_1.symm,yoV (n:=1) (by decide) (by decide) (by decide),zaA];rfl
theorem yyL{l:List L8}(h:Sm l)(n:Nat):zaU zaB l (n:Int) (0:Int)=some (zxD n txB l):=by
 unfold zaU;refine Eq.trans ?_ (ypG (may:=txB) (n:=n) (body:=zcQ zaB l (0:Int)) h.1 (fun k hk=>?_) ?_)
 ·rfl
 ·unfold zcQ;rw[zaX (by omega),show((0:Int)==0)=true from rfl,zE,zbD rfl hk,zaA,ymS (h.2 _ (bE hk)),zaA,show((0:Int)==1)=false from rfl,zF,zaA]
 ·unfold zcQ;rw[zaY (by omega)]
theorem ylJ{l:List L8}(h:Sm l)(n:Nat):zaU zaB l (n:Int) (1:Int)=some (zxD n scB l):=by
 unfold zaU;refine Eq.trans ?_ (ypG (may:=scB) (n:=n) (body:=zcQ zaB l (1:Int)) h.1 (fun k hk=>?_) ?_)
 ·rfl
 ·unfold zcQ;rw[zaX (by omega),show((1:Int)==0)=false from rfl,zF,show((1:Int)==1)=true from rfl,zE,zbD rfl hk,zaA,xeV (h.2 _ (bE hk)),zaA,zaA]
 ·unfold zcQ;rw[zaY (by omega)]
theorem yvG{r:Ro}(h1:r.1.length<=1048576)(h2:Sm r.2):zgO zaB r=some (ydO r):=by
 unfold zgO ydO;rw[zxF h1,zaA];cases nmB r.1 with
 |false=>rfl|true=>rw[zE,show zaU zaB r.2 (16:Int) (1:Int)=_ from ylJ h2 16,zaA,cO]
theorem xaD{α σ R:Type}{l:List α}{p:α->Bool}{s:σ}{bad:R}{body:Int×σ->Option ((Int×σ)⊕(R⊕σ))}(hl:l.length<=1048576) (hb:∀(k:Nat) (hk:k<l.length),body ((k:Int),s)=bif p l[k]then some (.inl (w64 ((k:Int)+1),s))else some (.inr (.inl bad))) (he:body ((l.length:Int),s)=some (.inr (.inr s))):
  iter body ((0:Int),s)=some (bif l.all p then .inr s else .inl bad):=by
 have key:∀(f i:Nat),f+i=l.length->∀g,f<g->ziC body g ((i:Int),s)=some (bif(l.drop i).all p then .inr s else .inl bad):=by
  intro f;induction f with
  |zero=>
   intro i hi g hg;obtain⟨g,rfl⟩:∃m,g=m+1:=⟨g-1,by omega⟩;have hi:i=l.length:=by omega
   subst hi;rw[zaW he,bX];rfl
  |succ f ih=>
   intro i hi g hg;obtain⟨g,rfl⟩:∃m,g=m+1:=⟨g-1,by omega⟩;have hlt:i<l.length:=by omega
   have h1:=hb i hlt;rw[aX hlt,cI];cases hp:p l[i] with
   |false=>rw[hp]at h1;rw[zaW (b:=.inl bad) h1];rfl|true=>rw[hp,zfA (by omega)]at h1;rw[zaV (s':=(((i+1:Nat):Int),s)) h1,ih (i+1) (by omega) g (by omega),cO]
 have h0:=key l.length 0 (by omega) FU (by unfold FU;omega)
 rwa[bQ]at h0
theorem hex_j(b:UInt8){α:Type}(x y:Option α):(bif decide ((b.toNat:Int)<((48:UInt8).toNat:Int))then(bif decide ((b.toNat:Int)<((97:UInt8).toNat:Int))then x else(bif decide ((b.toNat:Int)>((102:UInt8).toNat:Int))then x else y))else(bif decide ((b.toNat:Int)>((57:UInt8).toNat:Int))then(bif decide ((b.toNat:Int)<((97:UInt8).toNat:Int))then x else(bif decide ((b.toNat:Int)>((102:UInt8).toNat:Int))then x else y))else y))=bif hexB b then y else x:=by
 have e1:((48:UInt8).toNat:Int)=48:=rfl;have e2:((97:UInt8).toNat:Int)=97:=rfl;have e3:((102:UInt8).toNat:Int)=102:=rfl;have e4:((57:UInt8).toNat:Int)=57:=rfl;rw[e1,e2,e3,e4];unfold hexB digB;by_cases a1:b.toNat<48
 ·rw[zA (show(b.toNat:Int)<48 by omega),zA (show(b.toNat:Int)<97 by omega),zB (show ¬48<=b.toNat by omega),zB (show ¬97<=b.toNat by omega)];rfl
 ·rw[zB (show ¬(b.toNat:Int)<48 by omega),zA (show 48<=b.toNat by omega)];by_cases a2:b.toNat<=57
  ·rw[zB (show ¬(b.toNat:Int)>57 by omega),zA a2];rfl
  ·rw[zA (show(b.toNat:Int)>57 by omega),zB a2];by_cases a3:b.toNat<97
   ·rw[zA (show(b.toNat:Int)<97 by omega),zB (show ¬97<=b.toNat by omega)];rfl
   ·rw[zB (show ¬(b.toNat:Int)<97 by omega),zA (show 97<=b.toNat by omega)];by_cases a4:b.toNat<=102
    ·rw[zB (show ¬(b.toNat:Int)>102 by omega),zA a4];rfl
    ·rw[zA (show(b.toNat:Int)>102 by omega),zB a4];rfl
theorem yzC{c:Cl}(h1:c.1.length<=1048576)(h2:c.2.1.length<=1048576)(h3:Sm c.2.2.1)(h4:Sm c.2.2.2.1):zfD zaB c=some (cliB c):=by
 unfold zfD
 rw[show iter (fun x:Int×Cl=>zeQ zaB x.1 x.2.1 x.2.2.1 x.2.2.2.1 x.2.2.2.2.1 x.2.2.2.2.2.1 x.2.2.2.2.2.2.1 x.2.2.2.2.2.2.2.1 x.2.2.2.2.2.2.2.2) ((0:Int),c)=_ from xaD (l:=c.2.1) (p:=hexB) (s:=c) (bad:=false) h2 (fun k hk=>by
  simp only;unfold zeQ;rw[zaX (by omega),zbD rfl hk];simp only[zaA]
  exact hex_j _ _ _) (by
  simp only;unfold zeQ
  rw[zaY (by omega)]),zaA]
 unfold cliB;cases ha:c.2.1.all hexB with
 |false=>
  have hne:(c.2.1==[])=false:=by
   cases hc:c.2.1 with
   |nil=>rw[hc]at ha;cases ha
   |cons x l=>rfl
  rw[hne];simp
 |true=>
  simp only[zE];rw[zxF h1,zaA];cases nmB c.1 with
  |false=>rfl|true=>
   rw[zE,show zaU zaB c.2.2.1 (16:Int) (0:Int)=_ from yyL h3 16,show zaU zaB c.2.2.2.1 (16:Int) (1:Int)=_ from ylJ h4 16];simp only[zaA];have e64:((c.2.1.length:Int)==64)=decide (c.2.1.length=64):=by
    by_cases h:c.2.1.length=64
    ·rw[zA h,beq_iff_eq];omega
    ·rw[zB h,beq_eq_false_iff_ne];omega
   rw[e64];cases (c.2.1==[])<;>cases decide (c.2.1.length=64)<;>cases zxD 16 txB c.2.2.1<;>cases zxD 16 scB c.2.2.2.1<;>rfl
theorem yyS{m:UInt8}:∀{a c:L8} {b d:L8},m∉a->m∉c->a++m::b=c++m::d->a=c/\b=d
 |[],[],_,_,_,_,h=>⟨rfl,(List.cons.inj h).2⟩|[],y::c,_,_,_,h2,h=>absurd (List.cons.inj h).1 fun e=>h2 (by rw[e];exact aM)
 |x::a,[],_,_,h1,_,h=>absurd (List.cons.inj h).1.symm fun e=>h1 (by rw[e];exact aM)
 |x::a,y::c,_,_,h1,h2,h=>by obtain⟨e1,e2⟩:=List.cons.inj h;obtain⟨e3,e4⟩:=yyS (fun hm=>h1 (aL _ hm)) (fun hm=>h2 (aL _ hm)) e2;exact⟨by rw[e1,e3],e4⟩
theorem xeG(m:UInt8){s:L8}(h:s.length<=1048576):T (zdN zaB s m) fun r=>r.1.length<=1048576/\r.2.1.length<=1048576/\(r.2.2=true->s=r.1++m::r.2.1/\m∉r.1)/\(m∈s->r.2.2=true):=by
 unfold zdN
 have key:T (iter (zlQ zaB s m) (0:Int)) fun r=>(∃a b,r = .inl (a,b,true)/\s=a++m::b/\m∉a)∨(r = .inr ()/\m∉s):=by
  refine T.iter (fun i:Int=>∃k:Nat,i=(k:Int)/\k<=s.length/\m∉s.take k) (fun i=>((s.length:Int)-i).toNat) _ (fun i hi=>?_) ⟨0,rfl,aZ _,fun hm=>by cases hm⟩ (by omega);obtain⟨k,rfl,hk,hn⟩:=hi;unfold zlQ;rcases Nat.lt_or_ge k s.length with hlt|hge
  ·rw[zaX (by omega),zbD rfl hlt,zaA];cases hb:((s[k].toNat:Int)==(m.toNat:Int)) with
   |true=>have e:s[k]=m:=UInt8.toNat_inj.1 (by have:=beq_iff_eq.1 hb;omega);rw[zE,zpP (by omega),zaA,zfA (by omega),zsI (by omega),zaA];refine T.ok (.inl ⟨_,_,rfl,?_,hn⟩);rw[<-e,<-aX hlt,dC]|false=>
    rw[zF,zfA (by omega)];refine T.ok ⟨⟨k+1,rfl,hlt,fun hm=>?_⟩,by omega⟩;rw[List.take_succ_eq_append_getElem hlt]at hm;rcases List.mem_append.1 hm with hm|hm
    ·exact hn hm
    ·have e:=List.mem_singleton.1 hm;rw[<-e]at hb;rw[beq_self_eq_true]at hb;cases hb
  ·have e:k=s.length:=by omega
   subst e;rw[zaY (by omega)];rw[List.take_length]at hn;exact T.ok (.inr ⟨rfl,hn⟩)
 refine key.bind fun r hr=>?_;rcases hr with⟨a,b,rfl,h1,h2⟩|⟨rfl,h1⟩
 ·have hl:a.length+(b.length+1)<=1048576:=by rw[h1]at h;simpa using h
  exact T.ok ⟨by simp only;omega,by simp only;omega,fun _=>⟨h1,h2⟩,fun _=>rfl⟩
 ·exact T.ok ⟨h,aZ _,fun e=>(by cases e),fun hm=>absurd hm h1⟩
theorem dcut_c{m:UInt8}{d r:L8}(h:m∉d)(hl:(d++m::r).length<=1048576):zdN zaB (d++m::r) m=some (d,r,true):=by obtain⟨⟨a,b,c⟩,h1,_,_,h4,h5⟩:=xeG m hl;have hc:c=true:=h5 (by simp);subst hc;obtain⟨h6,h7⟩:=h4 rfl;obtain⟨rfl,rfl⟩:=yyS h h7 h6;exact h1
abbrev RS:Type:=List (L8×L8)×List Us×List GrT×List Ro×List Cl
abbrev S5:Type:=(Bool×RS)⊕(Bool×RS)⊕(Bool×List (L8×L8)×List Us×List Ro×List Cl×List GrT)⊕(Bool×List (L8×L8)×List Us×List GrT×List Cl×List Ro)⊕(Bool×List (L8×L8)×List GrT×List Ro×List Cl×List Us)
abbrev S6:Type:=(Bool×RS)⊕(Bool×List (L8×L8)×List Us×List GrT×List Ro×List L8×Bool×List Cl)⊕(Bool×List (L8×L8)×List Us×List Ro×List Cl×List L8×Bool×List GrT)⊕(Bool×List Us×List GrT×List Ro×List Cl×List L8×Bool×List (L8×L8))⊕(Bool×List (L8×L8)×List Us×List GrT×List Cl×List L8×Bool×List Ro)⊕(Bool×List (L8×L8)×List GrT×List Ro×List Cl×List L8×Bool×List Us)
def nrm:S5->Bool×RS
 |.inl v=>v|.inr (.inl v)=>v|.inr (.inr (.inl v))=>(v.1,v.2.1,v.2.2.1,v.2.2.2.2.2,v.2.2.2.1,v.2.2.2.2.1)|.inr (.inr (.inr (.inl v)))=>(v.1,v.2.1,v.2.2.1,v.2.2.2.1,v.2.2.2.2.2,v.2.2.2.2.1)|.inr (.inr (.inr (.inr v)))=>(v.1,v.2.1,v.2.2.2.2.2,v.2.2.1,v.2.2.2.1,v.2.2.2.2.1)
def nrm6:S6->Bool×Bool×List L8×RS
 |.inl v=>(false,false,[],v.2)|.inr (.inl v)=>(v.1,v.2.2.2.2.2.2.1,v.2.2.2.2.2.1,v.2.1,v.2.2.1,v.2.2.2.1,v.2.2.2.2.1,v.2.2.2.2.2.2.2)|.inr (.inr (.inl v))=>(v.1,v.2.2.2.2.2.2.1,v.2.2.2.2.2.1,v.2.1,v.2.2.1,v.2.2.2.2.2.2.2,v.2.2.2.1,v.2.2.2.2.1)|.inr (.inr (.inr (.inl v)))=>(v.1,v.2.2.2.2.2.2.1,v.2.2.2.2.2.1,v.2.2.2.2.2.2.2,v.2.1,v.2.2.1,v.2.2.2.1,v.2.2.2.2.1)|.inr (.inr (.inr (.inr (.inl v))))=>(v.1,v.2.2.2.2.2.2.1,v.2.2.2.2.2.1,v.2.1,v.2.2.1,v.2.2.2.1,v.2.2.2.2.2.2.2,v.2.2.2.2.1)|.inr (.inr (.inr (.inr (.inr v))))=>(v.1,v.2.2.2.2.2.2.1,v.2.2.2.2.2.1,v.2.1,v.2.2.2.2.2.2.2,v.2.2.1,v.2.2.2.1,v.2.2.2.2.1)
theorem xeO{x:L8×L8}{st:RS}{ts:List L8}{k n:L8}{r:S6}(h1:zfG zaB x.2=some (ts,true))(h2:zdN zaB x.1 47=some (k,n,true))(h3:zaP zaB (ts,true) (k,n,true) st=some r)(h4:∀v,r = .inl v->v.1=false):∃v:S5,zaR zaB x st.1 st.2.1 st.2.2.1 st.2.2.2.1 st.2.2.2.2=some v/\(nrm v).1=((nrm6 r).1&&(!(nrm6 r).2.1&&(nrm6 r).2.2.1==[]))/\(nrm v).2=(nrm6 r).2.2.2:=by
 unfold zaR;rw[h1,zaA,h2,zaA];unfold zdW;simp only[bM,zF,zaA];rw[h3,zaA]
 have e0:∀l:List L8,((l.length:Int)==0)=(l==[]):=fun l=>by
  cases l with
  |nil=>rfl|cons a l=>rw[show((a::l)==[])=false from rfl,beq_eq_false_iff_ne,aN];omega
 rcases r with v|v|v|v|v|v
 ·exact⟨.inl v,rfl,h4 v rfl,rfl⟩
 ·obtain⟨b,a1,a2,a3,a4,l,lo,a5⟩:=v;cases b with
  |false=>exact⟨_,rfl,rfl,rfl⟩|true=>
   cases lo with
   |true=>exact⟨_,rfl,rfl,rfl⟩|false=>exact⟨_,rfl,e0 l,rfl⟩
 ·obtain⟨b,a1,a2,a3,a4,l,lo,a5⟩:=v;cases b with
  |false=>exact⟨_,rfl,rfl,rfl⟩|true=>
   cases lo with
   |true=>exact⟨_,rfl,rfl,rfl⟩|false=>exact⟨_,rfl,e0 l,rfl⟩
 ·obtain⟨b,a1,a2,a3,a4,l,lo,a5⟩:=v;cases b with
  |false=>exact⟨_,rfl,rfl,rfl⟩|true=>
   cases lo with
   |true=>exact⟨_,rfl,rfl,rfl⟩|false=>exact⟨_,rfl,e0 l,rfl⟩
 ·obtain⟨b,a1,a2,a3,a4,l,lo,a5⟩:=v;cases b with
  |false=>exact⟨_,rfl,rfl,rfl⟩|true=>
   cases lo with
   |true=>exact⟨_,rfl,rfl,rfl⟩|false=>exact⟨_,rfl,e0 l,rfl⟩
 ·obtain⟨b,a1,a2,a3,a4,l,lo,a5⟩:=v;cases b with
  |false=>exact⟨_,rfl,rfl,rfl⟩|true=>
   cases lo with
   |true=>exact⟨_,rfl,rfl,rfl⟩|false=>exact⟨_,rfl,e0 l,rfl⟩
def insM(x:L8×L8)(l:List (L8×L8)):List (L8×L8):=l.takeWhile (fun y=>kltM y x)++x::l.dropWhile (fun y=>kltM y x)
def Ent.putD(s:RS):Ent->RS
 |.c x=>(s.1,s.2.1,s.2.2.1,s.2.2.2.1,s.2.2.2.2++[x])|.g x=>(s.1,s.2.1,s.2.2.1++[x],s.2.2.2)|.m x=>(insM x s.1,s.2)|.r x=>(s.1,s.2.1,s.2.2.1,s.2.2.2.1++[x],s.2.2.2.2)|.u x=>(s.1,s.2.1++[x],s.2.2)
def RSm(s:RS):Prop:=s.1.length<=1048576/\s.2.1.length<=1048576/\s.2.2.1.length<=1048576/\s.2.2.2.1.length<=1048576/\s.2.2.2.2.length<=1048576
theorem ltM_is(y x:L8×L8):kltM y x=(Op.bytesLess y.1 x.1||(y.1==x.1&&Op.bytesLess y.2 x.2)):=by show(kltS y.1 x.1||(keqS y.1 x.1&&kltS y.2 x.2))=_;rfl
theorem yvP{x:L8×L8}{b:Bool}{M:List (L8×L8)}(hM:M.length<=1048576)(U:List Us)(G:List GrT)(R:List Ro)(C:List Cl)(l:List L8)(lo:Bool):
  iter (fun y:Int×List (L8×L8)×List Us×List GrT×List Ro×List Cl×List L8×Bool=>zcB zaB (x.1,x.2,b) y.1 y.2.1 y.2.2.1 y.2.2.2.1 y.2.2.2.2.1 y.2.2.2.2.2.1 y.2.2.2.2.2.2.1 y.2.2.2.2.2.2.2) ((0:Int),M,U,G,R,C,l,lo)=some (((M.takeWhile fun y=>kltM y x).length:Int),M,U,G,R,C,l,lo):=by
 have key:∀(f i:Nat),f+i=M.length->∀g,f<g->ziC (fun y:Int×List (L8×L8)×List Us×List GrT×List Ro×List Cl×List L8×Bool=>zcB zaB (x.1,x.2,b) y.1 y.2.1 y.2.2.1 y.2.2.2.1 y.2.2.2.2.1 y.2.2.2.2.2.1 y.2.2.2.2.2.2.1 y.2.2.2.2.2.2.2) g ((i:Int),M,U,G,R,C,l,lo)=some (((i+((M.drop i).takeWhile fun y=>kltM y x).length:Nat):Int),M,U,G,R,C,l,lo):=by
  intro f;induction f with
  |zero=>
   intro i hi g hg;obtain⟨g,rfl⟩:∃m,g=m+1:=⟨g-1,by omega⟩;have hi:i=M.length:=by omega
   subst hi;refine zaW ?_;simp only;unfold zcB;rw[zaY (by omega),bX];rfl
  |succ f ih=>
   intro i hi g hg;obtain⟨g,rfl⟩:∃m,g=m+1:=⟨g-1,by omega⟩;have hlt:i<M.length:=by omega
   have hb:zcB zaB (x.1,x.2,b) (i:Int) M U G R C l lo=bif kltM M[i] x then some (.inl (((i+1:Nat):Int),M,U,G,R,C,l,lo))else some (.inr ((i:Int),M,U,G,R,C,l,lo)):=by unfold zcB;rw[zaX (by omega),zbD rfl hlt,ltM_is,zfA (by omega)];simp only[zaA];cases Op.bytesLess M[i].1 x.1<;>cases (M[i].1==x.1)<;>cases Op.bytesLess M[i].2 x.2<;>rfl
   rw[aX hlt,List.takeWhile_cons];cases hc:kltM M[i] x with
   |true=>rw[hc]at hb;rw[zaV (s':=(((i+1:Nat):Int),M,U,G,R,C,l,lo)) hb,ih (i+1) (by omega) g (by omega)];simp only[if_true,aN];congr 3;omega|false=>rw[hc]at hb;rw[zaW (b:=((i:Int),M,U,G,R,C,l,lo)) hb];simp
 have h0:=key M.length 0 (by omega) FU (by unfold FU;omega);rw[bQ,Nat.zero_add]at h0;exact h0
theorem yuT{fl:L8}(hf:fl.length=4)(q:List L8×Bool){σ:Type}(s:List (L8×L8)×List Us×List GrT×List Ro×List Cl×List L8×Bool×L8×L8×Bool×Bool×Bool×Bool):
  iter (fun x:Int×List (L8×L8)×List Us×List GrT×List Ro×List Cl×List L8×Bool×L8×L8×Bool×Bool×Bool×Bool=>zdY zaB (fl,q) x.1 x.2.1 x.2.2.1 x.2.2.2.1 x.2.2.2.2.1 x.2.2.2.2.2.1 x.2.2.2.2.2.2.1 x.2.2.2.2.2.2.2.1 x.2.2.2.2.2.2.2.2.1 x.2.2.2.2.2.2.2.2.2.1 x.2.2.2.2.2.2.2.2.2.2.1 x.2.2.2.2.2.2.2.2.2.2.2.1 x.2.2.2.2.2.2.2.2.2.2.2.2.1 x.2.2.2.2.2.2.2.2.2.2.2.2.2) ((0:Int),s)=some (bif fl.all (fun b=>b==48||b==49)then .inr s else .inl (false,s.1,s.2.1,s.2.2.1,s.2.2.2.1,s.2.2.2.2.1)):=
 xaD (l:=fl) (p:=fun b=>b==48||b==49) (s:=s) (bad:=(false,s.1,s.2.1,s.2.2.1,s.2.2.2.1,s.2.2.2.2.1)) (by omega) (fun k hk=>by
  simp only;unfold zdY;rw[zaX (by omega),zbD rfl hk];simp only[zaA]
  have c:∀(b:UInt8) (n:UInt8),((b.toNat:Int) != (n.toNat:Int)) = !(b==n):=fun b n=>by
   by_cases e:b=n
   ·rw[e];simp
   ·rw[beq_false_of_ne e,Bool.not_false,bne_iff_ne];exact fun h=>e (UInt8.toNat_inj.1 (by omega))
  rw[c,c]
  cases fl[k]==48<;>cases fl[k]==49<;>rfl) (by
  simp only;unfold zdY
  rw[zaY (by omega)])
theorem dg_of{b:UInt8}(h:(b==48||b==49)=true):dgE (((b.toNat:Int))==((49:UInt8).toNat:Int))=[b]:=by
 rcases Bool.or_eq_true _ _ |>.mp h with h|h
 ·rw[beq_iff_eq.1 h];rfl
 ·rw[beq_iff_eq.1 h];rfl
def Ent.sd:Ent->Prop
 |.g x=>x.2.1.length<=100000/\x.2.2.1.length<=100000/\x.2.2.2.1.length<=100000|_=>True
theorem drow_j{k n:L8}{ts:List L8}(_hk:k.length<=1048576)(hn:n.length<=1048576)(hs:Sm ts){st:RS}(hst:RSm st):
  T (zaP zaB (ts,true) (k,n,true) st) fun r=>(∀v,r = .inl v->v.1=false)/\((nrm6 r).1=true->(nrm6 r).2.1=false->(nrm6 r).2.2.1=[]->∃e:Ent,e.ok/\e.sd/\e.row=(k++47::n,zdC ts)):=by
 obtain⟨t1,t2,t3,t4,t5⟩:=hst;unfold zaP;refine T.bif (fun e=>?_) fun e=>T.bif (fun e=>?_) fun e=>T.bif (fun e=>?_) fun e=>T.bif (fun e=>?_) fun e=>T.bif (fun e=>?_) fun e=>T.ok ⟨fun v hv=>by cases hv;rfl,fun e2=>by cases e2⟩
 ·have e:k=[99,108,105,101,110,116]:=by simpa using e
  refine(ynJ hs).bind fun r1 h1=>(ynJ h1.1).bind fun r2 h2=>T.bif (fun _=>T.ok ⟨fun v hv=>by cases hv;rfl,fun e2=>by cases e2⟩) fun e4=>?_;have e4:(r2.1.length:Int)=4:=by simpa using e4
  obtain⟨a,b,c,d,hf⟩:∃a b c d,r2.1=[a,b,c,d]:=by
   match hr:r2.1,(show r2.1.length=4 by omega) with
   |[a,b,c,d],_=>exact⟨a,b,c,d,rfl⟩
  obtain⟨fl,q⟩:=r2;have hf:fl=[a,b,c,d]:=hf;rw[yuT (σ:=Unit) (show fl.length=4 by rw[hf];rfl),zaA];cases hall:fl.all (fun b=>b==48||b==49) with
  |false=>exact T.ok ⟨fun v hv=>by cases hv;rfl,fun e2=>by cases e2⟩|true=>subst hf;simp only[zE];rw[show idx [a,b,c,d] (0:Int)=some a from rfl,zaA,show idx [a,b,c,d] (1:Int)=some b from rfl,zaA,show idx [a,b,c,d] (2:Int)=some c from rfl,zaA,show idx [a,b,c,d] (3:Int)=some d from rfl,zaA];refine(ydY h2.1).bind fun p1 k1=>(ydY k1.1).bind fun p2 k2=>?_;rw[zfN (by simp;omega),zaA,yzC (c:=(n,r1.1,p1.1,p2.1,_,_,_,_)) hn h1.2.1 k1.2.1 k2.2.1,zaA];refine T.ok ⟨fun v hv=>(by cases hv),fun c1 c2 c3=>?_⟩;obtain⟨f2,l2,_⟩:=k2.2.2 c2;obtain⟨f1,l1,_⟩:=k1.2.2 f2;obtain⟨x2,w2⟩:=h2.2.2 f1;obtain⟨_,w1⟩:=h1.2.2 x2;have c3:p2.2.1=[]:=c3;rw[c3,bK]at l2;refine⟨.c (n,r1.1,p1.1,p2.1,_,_,_,_),c1,trivial,?_⟩;show rowC _=_;unfold rowC txC;simp only;simp only[cI,List.all_nil,eI,Bool.and_eq_true]at hall;rw[dg_of hall.1,dg_of hall.2.1,dg_of hall.2.2.1,dg_of hall.2.2.2,e,w1,w2,l1,l2];rfl
 ·have e:k=[103,114,111,117,112]:=by simpa using e
  refine(yvO (lo:=1) (hi:=1099511627776) (by decide) hs).bind fun r1 h1=>(ydY h1.1).bind fun p1 k1=>(ydY k1.1).bind fun p2 k2=>(ydY k2.1).bind fun p3 k3=>?_;rw[zfN (by simp;omega),zaA,zxF hn,zaA];refine T.ok ⟨fun v hv=>(by cases hv),fun c1 c2 c3=>?_⟩;obtain⟨f3,l3,s3⟩:=k3.2.2 c2;obtain⟨f2,l2,s2⟩:=k2.2.2 f3;obtain⟨f1,l1,s1⟩:=k1.2.2 f2;obtain⟨_,⟨v1,v2⟩,w1⟩:=h1.2.2 f1;have c3:p3.2.1=[]:=c3;rw[c3,bK]at l3;refine⟨.g (n,p1.1,p2.1,p3.1,r1.1),⟨c1,v1,v2⟩,⟨s1,s2,s3⟩,?_⟩;show rowG _=_;unfold rowG txG;simp only;rw[e,w1,l1,l2,l3];rfl
 ·have e:k=[109,97,121]:=by simpa using e
  refine(xeG 124 hn).bind fun r1 h1=>?_;rw[yvP (x:=(r1.1,r1.2.1)) (b:=r1.2.2) t1,zaA];simp only;have hlen:(st.1.takeWhile fun y=>kltM y (r1.1,r1.2.1)).length<=st.1.length:=(fP _).length_le;rw[zpP hlen,zaA,zsI hlen,zaA,zmZ _ (by rw[bA];omega),zaA,zfN (by rw[bA];simp;omega),zaA,zfN (by simp;omega),zaA];refine T.bif (fun e4=>?_) fun e4=>T.ok ⟨fun v hv=>(by cases hv),fun e2=>(by cases e2)⟩;obtain⟨hc,_⟩:=h1.2.2.1 e4;rw[ydP h1.1,zaA];cases hp:prB r1.1 with
  |false=>exact T.ok ⟨fun v hv=>(by cases hv),fun e2=>(by cases e2)⟩|true=>rw[zE,ydP h1.2.1,zaA];refine T.ok ⟨fun v hv=>(by cases hv),fun c1 c2 c3=>⟨.m (r1.1,r1.2.1),⟨hp,c1⟩,trivial,?_⟩⟩;have c3:ts=[]:=c3;show rowM _=_;unfold rowM;rw[e,c3,hc];simp
 ·have e:k=[114,111,108,101]:=by simpa using e
  refine(ydY hs).bind fun r1 h1=>?_;rw[zfN (by simp;omega),zaA,yvG (r:=(n,r1.1)) hn h1.2.1,zaA];refine T.ok ⟨fun v hv=>(by cases hv),fun c1 c2 c3=>?_⟩;obtain⟨_,l1,_⟩:=h1.2.2 c2;have c3:r1.2.1=[]:=c3;rw[c3,bK]at l1;refine⟨.r (n,r1.1),c1,trivial,?_⟩;show rowR _=_;unfold rowR;rw[e,l1];rfl
 ·have e:k=[117,115,101,114]:=by simpa using e
  refine(ynJ hs).bind fun r1 h1=>(dflag_i h1.1).bind fun q1 g1=>(yvO (lo:=1) (hi:=1099511627776) (by decide) g1.1).bind fun p1 k1=>?_;rw[zfN (by simp;omega),zaA,zxF hn,zaA];cases hnm:nmB n with
  |false=>exact T.ok ⟨fun v hv=>(by cases hv),fun e2=>(by cases e2)⟩|true=>rw[zE,ymS h1.2.1,zaA];refine T.ok ⟨fun v hv=>(by cases hv),fun c1 c2 c3=>?_⟩;obtain⟨f1,⟨v1,v2⟩,l1⟩:=k1.2.2 c2;obtain⟨z1,y1⟩:=g1.2 f1;obtain⟨_,w1⟩:=h1.2.2 z1;have c3:p1.2.1=[]:=c3;rw[c3]at l1;refine⟨.u (n,r1.1,q1.1,p1.1),⟨hnm,c1,v1,v2⟩,trivial,?_⟩;show rowU _=_;unfold rowU txU;simp only;rw[e,w1,y1,l1];rfl
theorem drow_t{x:L8×L8}(h1:x.1.length<=1048576)(h2:x.2.length<=1048576){st:RS}(hst:RSm st):T (zaR zaB x st.1 st.2.1 st.2.2.1 st.2.2.2.1 st.2.2.2.2) fun v=>(nrm v).1=true->∃e:Ent,e.ok/\e.sd/\e.row=x:=by
 obtain⟨c,hc0,hc1,hc2,hc3,_⟩:=xeG 47 h1;have ht0:=yoE h2;cases hf:(txtP x.2).2 with
 |false=>unfold zaR;rw[ht0,zaA,hc0,zaA];unfold zdW;rw[hf];exact T.ok fun e=>by cases e
 |true=>
  cases hs:c.2.2 with
  |false=>unfold zaR;rw[ht0,zaA,hc0,zaA];unfold zdW;rw[hf,hs];exact T.ok fun e=>by cases e
  |true=>
   obtain⟨hx,_⟩:=hc3 hs;obtain⟨ts,ht⟩:∃ts,txtF x.2.length x.2=some ts:=Option.isSome_iff_exists.1 hf;have e1:txtP x.2=(ts,true):=by unfold txtP;rw[ht];rfl
   have e2:c=(c.1,c.2.1,true):=by rw[<-hs]
   have hlen:=xfC ht;rw[e1]at ht0;rw[e2]at hc0;obtain⟨r,hr1,hr2,hr3⟩:=drow_j (st:=st) hc1 hc2 (show Sm ts from⟨by omega,fun t hh=>Nat.le_trans (hlen.2 t hh) h2⟩) hst;obtain⟨v,hv1,hv2,_⟩:=xeO ht0 hc0 hr1 hr2;refine⟨v,hv1,fun e=>?_⟩;rw[hv2]at e;have a1:=zbH e;have a2:=zbH (zbR e);have a3:=zbR (zbR e);obtain⟨en,h3,h5,h4⟩:=hr3 a1 (by simpa using a2) (by simpa using a3);refine⟨en,h3,h5,h4.trans ?_⟩;rw[<-hx,ygK ht]
theorem xeJ{ts:List L8}(h:(zdC ts).length<=1048576):txtP (zdC ts)=(ts,true):=by have h1:=yoS h;rw[yuF ts (by omega) (by have:=(yrJ ts).1;omega)]at h1;injection h1 with h1;exact h1.symm
theorem yhG{k n:L8}{ts:List L8}(hk:(47:UInt8)∉k)(hl:(k++47::n).length<=1048576)(hf:(zdC ts).length<=1048576){st st':RS}{r:S6}(h:zaP zaB (ts,true) (k,n,true) st=some r)(h2:nrm6 r=(true,false,[],st')):∃v,zaR zaB (k++47::n,zdC ts) st.1 st.2.1 st.2.2.1 st.2.2.2.1 st.2.2.2.2=some v/\nrm v=(true,st'):=by have h1:=yoE hf;rw[xeJ hf]at h1;obtain⟨v,hv1,hv2,hv3⟩:=xeO (x:=(k++47::n,zdC ts)) h1 (dcut_c hk hl) h (fun v hv=>by rw[hv]at h2;cases h2);refine⟨v,hv1,?_⟩;rw[h2]at hv2 hv3;exact Prod.ext hv2 hv3
theorem ywR(x:L8×L8)(M:List (L8×L8)):M.take (M.takeWhile fun y=>kltM y x).length++[x]++M.drop (M.takeWhile fun y=>kltM y x).length=insM x M:=by
 unfold insM
 have h1:M.take (M.takeWhile fun y=>kltM y x).length=M.takeWhile fun y=>kltM y x:=by
  conv=>lhs;arg 2;rw[<-cM (p:=fun y=>kltM y x) (l:=M)]
  exact fC rfl
 have h2:M.drop (M.takeWhile fun y=>kltM y x).length=M.dropWhile fun y=>kltM y x:=by
  conv=>lhs;arg 2;rw[<-cM (p:=fun y=>kltM y x) (l:=M)]
  exact List.drop_left' rfl
 rw[h1,h2,List.append_assoc];rfl
theorem drow_c{e:Ent}(h:e.ok)(hd:e.sd)(hz:e.row.2.length<=1048576){st:RS}(hst:RSm st):∃v,zaR zaB e.row st.1 st.2.1 st.2.2.1 st.2.2.2.1 st.2.2.2.2=some v/\nrm v=(true,e.putD st):=by
 obtain⟨t1,t2,t3,t4,t5⟩:=hst;cases e with
 |u x=>obtain⟨h1,h2,h3,h4⟩:=h;have hk:=ziL h1;have hm:=yqY h2;refine yhG (k:=[117,115,101,114]) (n:=x.1) (ts:=txU x) (st':=(Ent.u x).putD st) (r:=.inr (.inr (.inr (.inr (.inr (true,st.1,st.2.2.1,st.2.2.2.1,st.2.2.2.2,[],false,st.2.1++[x])))))) (by decide) (by simp;omega) hz ?_ rfl;unfold zaP;simp only;rw[show(([117,115,101,114]:L8)==[99,108,105,101,110,116])=false from rfl,show(([117,115,101,114]:L8)==[103,114,111,117,112])=false from rfl,show(([117,115,101,114]:L8)==[109,97,121])=false from rfl,show(([117,115,101,114]:L8)==[114,111,108,101])=false from rfl,show(([117,115,101,114]:L8)==[117,115,101,114])=true from rfl];simp only[zF,zE];unfold txU;rw[ymT,zaA];simp only;rw[dflag_c,zaA];simp only;rw[yoV (by omega) (by omega) (by omega),zaA];simp only;rw[zfN (by simp;omega),zaA,zxF (by omega),h1,zaA,zE,ymS (by omega),h2,zaA,show(x.2.2.2.toNat:Int)=x.2.2.2 by omega]
 |r x=>have h:ydO x=true:=h;have hn:=zbH h;have hr:=zoX (zbR h);have hk:=ziL hn;refine yhG (k:=[114,111,108,101]) (n:=x.1) (ts:=lisE x.2) (st':=(Ent.r x).putD st) (r:=.inr (.inr (.inr (.inr (.inl (true,st.1,st.2.1,st.2.2.1,st.2.2.2.2,[],false,st.2.2.2.1++[x])))))) (by decide) (by simp;omega) hz ?_ rfl;unfold zaP;simp only;rw[show(([114,111,108,101]:L8)==[99,108,105,101,110,116])=false from rfl,show(([114,111,108,101]:L8)==[103,114,111,117,112])=false from rfl,show(([114,111,108,101]:L8)==[109,97,121])=false from rfl,show(([114,111,108,101]:L8)==[114,111,108,101])=true from rfl];simp only[zF,zE];rw[yrG (by omega),zaA];simp only;rw[zfN (by simp;omega),zaA,yvG (r:=(x.1,x.2)) (by simp only;omega) ⟨by simp only;omega,fun t ht=>by have:=ypV (hr.1 t ht);omega⟩,zaA,show ydO (x.1,x.2)=true from h]|m x=>obtain⟨ha,hb⟩:=h;have h1:=yjF ha;have h2:=yjF hb;rw[show(Ent.m x).row=([109,97,121]++47::(x.1++124::x.2),zdC [])from by show rowM x=_;unfold rowM;simp];refine yhG (k:=[109,97,121]) (n:=x.1++124::x.2) (ts:=[]) (st':=(Ent.m x).putD st) (r:=.inr (.inl (true,insM x st.1,st.2.1,st.2.2.1,st.2.2.2.1,[],false,st.2.2.2.2))) (by decide) (by simp;omega) (by decide) ?_ rfl;unfold zaP;simp only;rw[show(([109,97,121]:L8)==[99,108,105,101,110,116])=false from rfl,show(([109,97,121]:L8)==[103,114,111,117,112])=false from rfl,show(([109,97,121]:L8)==[109,97,121])=true from rfl];simp only[zF,zE];rw[dcut_c (yuX ha) (by simp;omega),zaA,yvP (x:=(x.1,x.2)) (b:=true) t1,zaA];simp only;have hlen:(st.1.takeWhile fun y=>kltM y (x.1,x.2)).length<=st.1.length:=(fP _).length_le;rw[zpP hlen,zaA,zsI hlen,zaA,zmZ _ (by rw[bA];omega),zaA,zfN (by rw[bA];simp;omega),zaA,zfN (by simp;omega),zaA,zE,ydP (by omega),ha,zaA,zE,ydP (by omega),hb,zaA];rw[show(x.1,x.2)=x from rfl,ywR]
 |c x=>
  have h:cliB x=true:=h;obtain⟨p1,p2,p3,p4⟩:=ydA h;have hk:=ziL p1;have r3:=zoX p3;have r4:=zoX p4;refine yhG (k:=[99,108,105,101,110,116]) (n:=x.1) (ts:=txC x) (st':=(Ent.c x).putD st) (r:=.inr (.inl (true,st.1,st.2.1,st.2.2.1,st.2.2.2.1,[],false,st.2.2.2.2++[x]))) (by decide) (by simp;omega) hz ?_ rfl;unfold zaP;simp only;rw[show(([99,108,105,101,110,116]:L8)==[99,108,105,101,110,116])=true from rfl];simp only[zE];unfold txC;obtain⟨a,b,c,d,hfl,ha,hb,hc,hd4⟩:∃a b c d,dgE x.2.2.2.2.1++dgE x.2.2.2.2.2.1++dgE x.2.2.2.2.2.2.1++dgE x.2.2.2.2.2.2.2=[a,b,c,d]/\((a==48||a==49)=true/\(((a.toNat:Int))==((49:UInt8).toNat:Int))=x.2.2.2.2.1)/\((b==48||b==49)=true/\(((b.toNat:Int))==((49:UInt8).toNat:Int))=x.2.2.2.2.2.1)/\((c==48||c==49)=true/\(((c.toNat:Int))==((49:UInt8).toNat:Int))=x.2.2.2.2.2.2.1)/\((d==48||d==49)=true/\(((d.toNat:Int))==((49:UInt8).toNat:Int))=x.2.2.2.2.2.2.2):=by
   have one:∀b:Bool,∃a,dgE b=[a]/\(a==48||a==49)=true/\(((a.toNat:Int))==((49:UInt8).toNat:Int))=b:=fun b=>by
    cases b with
    |false=>exact⟨48,rfl,rfl,rfl⟩|true=>exact⟨49,rfl,rfl,rfl⟩
   obtain⟨a,a1,a2⟩:=one x.2.2.2.2.1;obtain⟨b,b1,b2⟩:=one x.2.2.2.2.2.1;obtain⟨c,c1,c2⟩:=one x.2.2.2.2.2.2.1;obtain⟨d,d1,d2⟩:=one x.2.2.2.2.2.2.2;exact⟨a,b,c,d,by rw[a1,b1,c1,d1];rfl,a2,b2,c2,d2⟩
  rw[hfl];simp only[bG,bL];rw[ymT,zaA,ymT,zaA];simp only;rw[show(((([a,b,c,d]:L8).length:Int)) != 4)=false from rfl,zF,yuT (σ:=Unit) (fl:=[a,b,c,d]) rfl,zaA,show([a,b,c,d]:L8).all (fun b=>b==48||b==49)=true by simp only[cI,List.all_nil,eI];rw[ha.1,hb.1,hc.1,hd4.1];rfl];simp only[zE];rw[show idx [a,b,c,d] (0:Int)=some a from rfl,zaA,show idx [a,b,c,d] (1:Int)=some b from rfl,zaA,show idx [a,b,c,d] (2:Int)=some c from rfl,zaA,show idx [a,b,c,d] (3:Int)=some d from rfl,zaA];rw[ynX (by omega),zaA];simp only;rw[yrG (by omega),zaA];simp only;rw[ha.2,hb.2,hc.2,hd4.2,zfN (by simp;omega),zaA,yzC (c:=(x.1,x.2.1,x.2.2.1,x.2.2.2.1,x.2.2.2.2.1,x.2.2.2.2.2.1,x.2.2.2.2.2.2.1,x.2.2.2.2.2.2.2)) (by simp only;omega) (by simp only;omega) ⟨by simp only;omega,fun t ht=>by have:=yqY (r3.1 t ht);omega⟩ ⟨by simp only;omega,fun t ht=>by have:=ypV (r4.1 t ht);omega⟩,zaA,show cliB _=true from h]
 |g x=>obtain⟨hn,d1,d2⟩:=h;obtain⟨a1,b1,c1⟩:=hd;have hk:=ziL hn;refine yhG (k:=[103,114,111,117,112]) (n:=x.1) (ts:=txG x) (st':=(Ent.g x).putD st) (r:=.inr (.inr (.inl (true,st.1,st.2.1,st.2.2.2.1,st.2.2.2.2,[],false,st.2.2.1++[x])))) (by decide) (by simp;omega) hz ?_ rfl;unfold zaP;simp only;rw[show(([103,114,111,117,112]:L8)==[99,108,105,101,110,116])=false from rfl,show(([103,114,111,117,112]:L8)==[103,114,111,117,112])=true from rfl];simp only[zF,zE];unfold txG;simp only[bG,bL];rw[yoV (by omega) (by omega) (by omega),zaA];simp only;rw[ynX a1,zaA];simp only;rw[ynX b1,zaA];simp only;rw[yrG c1,zaA];simp only;rw[zfN (by simp;omega),zaA,zxF (by omega),hn,zaA,show(x.2.2.2.2.toNat:Int)=x.2.2.2.2 by omega]
end Go.Proofs.YtopanhneegpgcaaGreatDoor.Am
