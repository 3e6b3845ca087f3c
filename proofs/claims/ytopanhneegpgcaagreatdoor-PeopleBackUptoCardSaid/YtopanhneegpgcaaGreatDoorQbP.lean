/- Parts of one proof. Conditions: as each theorem says. -/
import Derived.KernelRfl
import Derived.Stop.LaidErr
import Derived.Test.YtopanhneegpgcaaGreatDoorQbO
namespace Go.Proofs.YtopanhneegpgcaaGreatDoor.Am
open Go Go.RowKit
def τWkB:TE:=[(9,⟨.s,1,[.v .s (show Bs from [])],.s,16⟩),
 (22,⟨.sl 9,1,[.nils],(.sl .s),24⟩),
 (34,⟨.pt 128,1,[.nilp],.un,8⟩),
 (45,⟨.sl 53,1,[.nils],(.sl (.pr (.i .i64) (.pr (.i .i64) (.pr .s (.pr .s (.pr .b (.pr (.pr .s (.sl .s)) (.pr .s (.pr .s (.pr (.sl .s) (.pr (.sl .s) (.pr .b (.pr .b (.pr .b .b)))))))))))))),24⟩),
 (53,⟨.st [(3,0),(3,1),(9,2),(9,3),(4,4),(49,5),(51,7)],15,[.v (.i .i64) (show Int from 0),.v (.i .i64) (show Int from 0),.v .s (show Bs from []),.v .s (show Bs from []),.v .b (show Bool from false),.v .s (show Bs from []),.nils,.v .s (show Bs from []),.v .s (show Bs from []),.nils,.nils,.v .b (show Bool from false),.v .b (show Bool from false),.v .b (show Bool from false),.v .b (show Bool from false)],(.pr (.i .i64) (.pr (.i .i64) (.pr .s (.pr .s (.pr .b (.pr (.pr .s (.sl .s)) (.pr .s (.pr .s (.pr (.sl .s) (.pr (.sl .s) (.pr .b (.pr .b (.pr .b .b))))))))))))),184⟩),
 (54,⟨.sl 57,1,[.nils],(.sl (.pr .s (.pr (.sl .s) (.pr (.sl .s) (.pr (.sl .s) (.i .i64)))))),24⟩),
 (57,⟨.st [(9,0),(22,1),(22,2),(22,3),(3,4)],5,[.v .s (show Bs from []),.nils,.nils,.nils,.v (.i .i64) (show Int from 0)],(.pr .s (.pr (.sl .s) (.pr (.sl .s) (.pr (.sl .s) (.i .i64))))),96⟩)]
theorem τ_okWkB:TEok Tryz.prog τWkB:=yvR (by kernel_rfl) (by kernel_rfl)
theorem xiS:Tryz.prog.follows .mixedOrders=true:=by kernel_rfl
theorem xvL {G : List (Nat × Obj)} {o : Ops} [zrE G] [zoV G o] {Γ : CT} {η : HT} {f : FuncId} {fn : Func} {c : SC} (hΓ : ∀ B, GB G B -> CTok Tryz.prog Γ B) (hf : Tryz.prog.funcs[f]? = some fn) (i : (fn.name == "runtime.NumGoroutine") = false := by kernel_rfl) (j : fn.body.isNone = false := by kernel_rfl) (l : Nat.ble c.I.sl.length fn.ntmps = true := by kernel_rfl) (r : Nat.beq fn.results.toList.length c.nr = true := by kernel_rfl) (e : fnS τWkB Γ η fn c.I c.outs = c.p := by kernel_rfl) : SCok Tryz.prog G f c := witO (G := G) (o := o) <| xeL xiS τ_okWkB hΓ hf (isFn hf i j) l r e
theorem xsR {G : List (Nat × Obj)} {o : Ops} [zrE G] [zoV G o] {Γ : CT} {η : HT} {f : FuncId} {fn : Func} {c : PC} (hΓ : ∀ B, GB G B -> CTok Tryz.prog Γ B) (hf : Tryz.prog.funcs[f]? = some fn) (i : (fn.name == "runtime.NumGoroutine") = false := by kernel_rfl) (j : fn.body.isNone = false := by kernel_rfl) (l : Nat.ble c.ash.length fn.ntmps = true := by kernel_rfl) (r : c.cl = false := by kernel_rfl) (e : fnP τWkB Γ η fn c.ash c.rts = c.p := by kernel_rfl) : PCok Tryz.prog G f c := witO (G := G) (o := o) <| xgV xiS τ_okWkB hΓ hf (isFn hf i j) l r e
abbrev xbX:Type:=Bs×(List Bs)×(List Bs)×(List Bs)×Int
abbrev xlH:Ty:=.pr .s (.pr (.sl .s) (.pr (.sl .s) (.pr (.sl .s) (.i .i64))))
abbrev xgO:Type:=Int×Int×Bs×Bs×Bool×(Bs×List Bs)×Bs×Bs×(List Bs)×(List Bs)×Bool×Bool×Bool×Bool
abbrev xsE:Ty:=.pr (.i .i64) (.pr (.i .i64) (.pr .s (.pr .s (.pr .b (.pr (.pr .s (.sl .s)) (.pr .s (.pr .s (.pr (.sl .s) (.pr (.sl .s) (.pr .b (.pr .b (.pr .b .b))))))))))))
abbrev xkL:OSh:=.blk 128 [(.mpr 8),(.mpr 9),(.mpr 10),(.mpr 11),(.mpr 12)]
abbrev xkM:OSh:=.blk 128 [(.mpr 7),(.mpr 8),(.mpr 9),(.mpr 10),(.mpr 11)]
abbrev xnJ:OSh:=.blk 128 [(.mpr 2),(.mpr 3),(.mpr 4),(.mpr 5),(.mpr 6)]
abbrev xoE:OSh:=.blk 128 [(.mpr 3),(.mpr 4),(.mpr 5),(.mpr 6),(.mpr 7)]
section
variable {tabs:List (Nat×Obj)}[zrE tabs]{o:Ops}[zoV tabs o]
noncomputable def zcP(o:Ops)(v0:List xgO)(v3:Int)(v4:List (Bs×Bs×Bs×Bool×Int))(v5:List (Bs×((List Bs)×(List Bs)×List Bs)×Int))(v6:List (Bs×Bs×List Bs))(v7:List (Bs×Bs×Bs×(List Bs)×(List Bs)×Bool×Bool×Bool×Bool))(v8:List ((Bs×Bs)×Unit)):Option ((Int×(List (Bs×Bs×Bs×Bool×Int))×(List (Bs×((List Bs)×(List Bs)×List Bs)×Int))×(List (Bs×Bs×List Bs))×(List (Bs×Bs×Bs×(List Bs)×(List Bs)×Bool×Bool×Bool×Bool))×List ((Bs×Bs)×Unit))⊕(((List (Bs×Bs×Bs×Bool×Int))×(List (Bs×((List Bs)×(List Bs)×List Bs)×Int))×(List (Bs×Bs×List Bs))×(List (Bs×Bs×Bs×(List Bs)×(List Bs)×Bool×Bool×Bool×Bool))×List ((Bs×Bs)×Unit)))):=
 bif decide (v3<(v0.length:Int))then((idx v0 v3).bind fun v9=>(zcA o v9 v4 v5 v6 v7 v8).bind fun v10=>some (.inl (w64 (v3+1),v10.2)))else some (.inr (v4,v5,v6,v7,v8))
noncomputable def zrJ(_o:Ops):Option (Bool):=
 some false
noncomputable def ziO(o:Ops)(v12:((List (Bs×Bs))×(List (Bs×Bs×Bs×Bool×Int))×(List (Bs×((List Bs)×(List Bs)×List Bs)×Int))×(List (Bs×Bs×List Bs))×(List (Bs×Bs×Bs×(List Bs)×(List Bs)×Bool×Bool×Bool×Bool))×List ((Bs×Bs)×Unit)))(v15:(Int×(List (Bs×Bs×Bs×Bool×Int))×(List (Bs×((List Bs)×(List Bs)×List Bs)×Int))×(List (Bs×Bs×List Bs))×(List (Bs×Bs×Bs×(List Bs)×(List Bs)×Bool×Bool×Bool×Bool))×List ((Bs×Bs)×Unit))):Option (Bool⊕((List (Bs×Bs×Bs×Bool×Int))×(List (Bs×((List Bs)×(List Bs)×List Bs)×Int))×(List (Bs×Bs×List Bs))×(List (Bs×Bs×Bs×(List Bs)×(List Bs)×Bool×Bool×Bool×Bool))×(List ((Bs×Bs)×Unit))×(List (Bs×Bs×Bs×Bool×Int))×(List (Bs×((List Bs)×(List Bs)×List Bs)×Int))×(List (Bs×Bs×List Bs))×(List (Bs×Bs×Bs×(List Bs)×(List Bs)×Bool×Bool×Bool×Bool))×List ((Bs×Bs)×Unit))):=
 bif(v15.1 != 0)then some (.inl false)else((zbD o v15.2.1 v15.2.2.1 v15.2.2.2.1 v15.2.2.2.2.1 v15.2.2.2.2.2).bind fun v17=>(zcK o v17.1 v12.1).bind fun v18=>bif(!v18)then some (.inl false)else some (.inr (v12.2.1,v12.2.2.1,v12.2.2.2.1,v12.2.2.2.2.1,v12.2.2.2.2.2,v17.2)))
noncomputable def zcO(o:Ops)(v23:Int)(v35:Int)(v36:List xbX)(v37:List (Bs×Bs×Bs×Bool×Int))(v38:List (Bs×((List Bs)×(List Bs)×List Bs)×Int))(v39:List (Bs×Bs×List Bs))(v40:List (Bs×Bs×Bs×(List Bs)×(List Bs)×Bool×Bool×Bool×Bool))(v41:List ((Bs×Bs)×Unit))(v42:List (Bs×Bs×Bs×Bool×Int))(v43:List (Bs×((List Bs)×(List Bs)×List Bs)×Int))(v44:List (Bs×Bs×List Bs))(v45:List (Bs×Bs×Bs×(List Bs)×(List Bs)×Bool×Bool×Bool×Bool))(v46:List ((Bs×Bs)×Unit)):Option ((Int×(List xbX)×(List (Bs×Bs×Bs×Bool×Int))×(List (Bs×((List Bs)×(List Bs)×List Bs)×Int))×(List (Bs×Bs×List Bs))×(List (Bs×Bs×Bs×(List Bs)×(List Bs)×Bool×Bool×Bool×Bool))×(List ((Bs×Bs)×Unit))×(List (Bs×Bs×Bs×Bool×Int))×(List (Bs×((List Bs)×(List Bs)×List Bs)×Int))×(List (Bs×Bs×List Bs))×(List (Bs×Bs×Bs×(List Bs)×(List Bs)×Bool×Bool×Bool×Bool))×List ((Bs×Bs)×Unit))⊕(Bool⊕((List xbX)×(List (Bs×Bs×Bs×Bool×Int))×(List (Bs×((List Bs)×(List Bs)×List Bs)×Int))×(List (Bs×Bs×List Bs))×(List (Bs×Bs×Bs×(List Bs)×(List Bs)×Bool×Bool×Bool×Bool))×(List ((Bs×Bs)×Unit))×(List (Bs×Bs×Bs×Bool×Int))×(List (Bs×((List Bs)×(List Bs)×List Bs)×Int))×(List (Bs×Bs×List Bs))×(List (Bs×Bs×Bs×(List Bs)×(List Bs)×Bool×Bool×Bool×Bool))×List ((Bs×Bs)×Unit)))):=
 (chk (decide ((0:Int)<=v23)&&decide (v23<(v36.length:Int)))).bind fun _=>(idx v36 v23).bind fun v47=>bif decide (v35<(v47.2.2.1.length:Int))then((chk (decide ((0:Int)<=v23)&&decide (v23<(v36.length:Int)))).bind fun _=>(idx v36 v23).bind fun v48=>(idx v48.2.2.1 v35).bind fun v49=>(chk (decide ((0:Int)<=v23)&&decide (v23<(v36.length:Int)))).bind fun _=>(idx v36 v23).bind fun v50=>(zbN o v49 v50.1 v37 v38 v39 v40 v41).bind fun v51=>bif(v51.1 != 123)then some (.inr (.inl false))else((chk (decide ((0:Int)<=v23)&&decide (v23<(v36.length:Int)))).bind fun _=>(idx v36 v23).bind fun v52=>(chk (decide ((0:Int)<=v23)&&decide (v23<(v36.length:Int)))).bind fun _=>(idx v36 v23).bind fun v53=>(zbN o v52.1 v53.1 v51.2.1 v51.2.2.1 v51.2.2.2.1 v51.2.2.2.2.1 v51.2.2.2.2.2).bind fun v54=>bif(v54.1 != 123)then some (.inr (.inl false))else some (.inl (w64 (v35+1),v36,v54.2.1,v54.2.2.1,v54.2.2.2.1,v54.2.2.2.2.1,v54.2.2.2.2.2,v42,v43,v44,v45,v46))))else some (.inr (.inr (v36,v37,v38,v39,v40,v41,v42,v43,v44,v45,v46)))
noncomputable def zcM(o:Ops)(v23:Int)(v24:List xbX)(v25:List (Bs×Bs×Bs×Bool×Int))(v26:List (Bs×((List Bs)×(List Bs)×List Bs)×Int))(v27:List (Bs×Bs×List Bs))(v28:List (Bs×Bs×Bs×(List Bs)×(List Bs)×Bool×Bool×Bool×Bool))(v29:List ((Bs×Bs)×Unit))(v30:List (Bs×Bs×Bs×Bool×Int))(v31:List (Bs×((List Bs)×(List Bs)×List Bs)×Int))(v32:List (Bs×Bs×List Bs))(v33:List (Bs×Bs×Bs×(List Bs)×(List Bs)×Bool×Bool×Bool×Bool))(v34:List ((Bs×Bs)×Unit)):Option ((Int×(List xbX)×(List (Bs×Bs×Bs×Bool×Int))×(List (Bs×((List Bs)×(List Bs)×List Bs)×Int))×(List (Bs×Bs×List Bs))×(List (Bs×Bs×Bs×(List Bs)×(List Bs)×Bool×Bool×Bool×Bool))×(List ((Bs×Bs)×Unit))×(List (Bs×Bs×Bs×Bool×Int))×(List (Bs×((List Bs)×(List Bs)×List Bs)×Int))×(List (Bs×Bs×List Bs))×(List (Bs×Bs×Bs×(List Bs)×(List Bs)×Bool×Bool×Bool×Bool))×List ((Bs×Bs)×Unit))⊕(Bool⊕((List (Bs×Bs×Bs×Bool×Int))×(List (Bs×((List Bs)×(List Bs)×List Bs)×Int))×(List (Bs×Bs×List Bs))×(List (Bs×Bs×Bs×(List Bs)×(List Bs)×Bool×Bool×Bool×Bool))×(List ((Bs×Bs)×Unit))×(List (Bs×Bs×Bs×Bool×Int))×(List (Bs×((List Bs)×(List Bs)×List Bs)×Int))×(List (Bs×Bs×List Bs))×(List (Bs×Bs×Bs×(List Bs)×(List Bs)×Bool×Bool×Bool×Bool))×List ((Bs×Bs)×Unit)))):=
 bif decide (v23<(v24.length:Int))then((iter (fun x=>zcO o v23 x.1 x.2.1 x.2.2.1 x.2.2.2.1 x.2.2.2.2.1 x.2.2.2.2.2.1 x.2.2.2.2.2.2.1 x.2.2.2.2.2.2.2.1 x.2.2.2.2.2.2.2.2.1 x.2.2.2.2.2.2.2.2.2.1 x.2.2.2.2.2.2.2.2.2.2.1 x.2.2.2.2.2.2.2.2.2.2.2) ((0:Int),v24,v25,v26,v27,v28,v29,v30,v31,v32,v33,v34)).bind fun v55=>match v55 with
 |.inl v56=>some (.inr (.inl v56))
 |.inr v57=>some (.inl (w64 (v23+1),v57)))else some (.inr (.inr (v25,v26,v27,v28,v29,v30,v31,v32,v33,v34)))
noncomputable def zcN(o:Ops)(v1:List xgO)(v61:Int)(v62:List (Bs×Bs×Bs×Bool×Int))(v63:List (Bs×((List Bs)×(List Bs)×List Bs)×Int))(v64:List (Bs×Bs×List Bs))(v65:List (Bs×Bs×Bs×(List Bs)×(List Bs)×Bool×Bool×Bool×Bool))(v66:List ((Bs×Bs)×Unit))(v67:List (Bs×Bs×Bs×Bool×Int))(v68:List (Bs×((List Bs)×(List Bs)×List Bs)×Int))(v69:List (Bs×Bs×List Bs))(v70:List (Bs×Bs×Bs×(List Bs)×(List Bs)×Bool×Bool×Bool×Bool))(v71:List ((Bs×Bs)×Unit)):Option ((Int×(List (Bs×Bs×Bs×Bool×Int))×(List (Bs×((List Bs)×(List Bs)×List Bs)×Int))×(List (Bs×Bs×List Bs))×(List (Bs×Bs×Bs×(List Bs)×(List Bs)×Bool×Bool×Bool×Bool))×(List ((Bs×Bs)×Unit))×(List (Bs×Bs×Bs×Bool×Int))×(List (Bs×((List Bs)×(List Bs)×List Bs)×Int))×(List (Bs×Bs×List Bs))×(List (Bs×Bs×Bs×(List Bs)×(List Bs)×Bool×Bool×Bool×Bool))×List ((Bs×Bs)×Unit))⊕(Bool⊕Unit)):=
 bif decide (v61<(v1.length:Int))then((idx v1 v61).bind fun v72=>(idx v1 v61).bind fun v73=>(zcA o v72 v62 v63 v64 v65 v66).bind fun v74=>(zcA o v73 v67 v68 v69 v70 v71).bind fun v75=>bif(v74.1 != v75.1)then some (.inr (.inl false))else((zbD o v74.2.1 v74.2.2.1 v74.2.2.2.1 v74.2.2.2.2.1 v74.2.2.2.2.2).bind fun v76=>(zbD o v75.2.1 v75.2.2.1 v75.2.2.2.1 v75.2.2.2.2.1 v75.2.2.2.2.2).bind fun v77=>(zcK o v76.1 v77.1).bind fun v78=>bif(!v78)then some (.inr (.inl false))else some (.inl (w64 (v61+1),v76.2.1,v76.2.2.1,v76.2.2.2.1,v76.2.2.2.2.1,v76.2.2.2.2.2,v77.2))))else some (.inr (.inr ()))
noncomputable def zeZ(o:Ops)(v0:List xgO)(v1:List xgO):Option (Bool):=
 (ziY o).bind fun v2=>(iter (fun x=>zcP o v0 x.1 x.2.1 x.2.2.1 x.2.2.2.1 x.2.2.2.2.1 x.2.2.2.2.2) ((0:Int),v2)).bind fun v11=>(zbD o v11.1 v11.2.1 v11.2.2.1 v11.2.2.2.1 v11.2.2.2.2).bind fun v12=>(zgE o v12.1).bind fun v13=>match v13 with
 |.inl _v14=>((zrJ o).bind fun v16=>some v16)
 |.inr v15=>((ziO o v12 v15).bind fun v19=>match v19 with
 |.inl v20=>(some v20)
 |.inr v21=>((zdI o v21.1 v21.2.1 v21.2.2.1 v21.2.2.2.1 v21.2.2.2.2.1).bind fun v22=>(iter (fun x=>zcM o x.1 x.2.1 x.2.2.1 x.2.2.2.1 x.2.2.2.2.1 x.2.2.2.2.2.1 x.2.2.2.2.2.2.1 x.2.2.2.2.2.2.2.1 x.2.2.2.2.2.2.2.2.1 x.2.2.2.2.2.2.2.2.2.1 x.2.2.2.2.2.2.2.2.2.2.1 x.2.2.2.2.2.2.2.2.2.2.2) ((0:Int),v22.2.2.2.2.2,v22.1,v22.2.1,v22.2.2.1,v22.2.2.2.1,v22.2.2.2.2.1,v21.2.2.2.2.2)).bind fun v58=>match v58 with
 |.inl v59=>(some v59)
 |.inr v60=>((iter (fun x=>zcN o v1 x.1 x.2.1 x.2.2.1 x.2.2.2.1 x.2.2.2.2.1 x.2.2.2.2.2.1 x.2.2.2.2.2.2.1 x.2.2.2.2.2.2.2.1 x.2.2.2.2.2.2.2.2.1 x.2.2.2.2.2.2.2.2.2.1 x.2.2.2.2.2.2.2.2.2.2) ((0:Int),v60)).bind fun v79=>match v79 with
 |.inl v80=>(some v80)
 |.inr _v81=>((some true).bind fun v82=>some v82))))
noncomputable def zrF(o:Ops):PC:=⟨[(.h (.sl xsE)),(.h (.sl xsE))],[.b],fun x=>zeZ o x.1 x.2,false⟩
abbrev qaX:OSh:=.mp true .s (.pr .s (.pr .s (.pr (.sl .s) (.pr (.sl .s) (.pr .b (.pr .b (.pr .b .b)))))))
abbrev qaY:OSh:=.mp true .s (.pr (.pr (.sl .s) (.pr (.sl .s) (.sl .s))) (.i .i64))
abbrev qaZ:OSh:=.mp true .s (.pr .s (.pr .s (.pr .b (.i .i64))))
abbrev qaW:OSh:=.mp true .s (.pr .s (.sl .s))
theorem yeL:PCok Tryz.prog tabs 6 (zrF o):=xsR (o:=o) (η:=[(200005,.loop [] ⟨[(5,(.ptr 0 0)),(6,hI)],[.blk 128 [(.mpr 1),(.mpr 2),(.mpr 3),(.mpr 4),(.mpr 5)],qaZ,qaY,qaW,qaX,qaV]⟩ [0,1,4] [(some 0,⟨[(5,(.ptr 0 0))],[.blk 128 [(.mpr 1),(.mpr 2),(.mpr 3),(.mpr 4),(.mpr 5)],qaZ,qaY,qaW,qaX,qaV]⟩)]),
 (2000012,.whn 8 1 (.join [] [] [(some 1000000,⟨[(4,hB)],[]⟩)])),
 (2000012,.whn 8 2 (.join [] [1] [(some 1000000,⟨[(4,hB)],[]⟩),(none,⟨[(5,(.ptr 0 0)),(8,(.ptr 1 0))],[xnJ,xkM,qaZ,qaY,qaW,qaX,qaV,qaZ,qaY,qaW,qaX,qaV]⟩)])),
 (200017,.loop [] ⟨[(5,(.ptr 0 0)),(8,(.ptr 1 0)),(10,(.own 2)),(12,hI)],[xoE,xkL,.osl xlH 57,qaZ,qaY,qaW,qaX,qaV,qaZ,qaY,qaW,qaX,qaV]⟩ [1,11] [(some 1000000,⟨[(4,hB)],[]⟩),(some 4,⟨[(5,(.ptr 0 0)),(8,(.ptr 1 0)),(10,(.own 2))],[xoE,xkL,.osl xlH 57,qaZ,qaY,qaW,qaX,qaV,qaZ,qaY,qaW,qaX,qaV]⟩)]),
 (200014,.loop [] ⟨[(5,(.ptr 0 0)),(8,(.ptr 1 0)),(10,(.own 2)),(11,hI)],[xoE,xkL,.osl xlH 57,qaZ,qaY,qaW,qaX,qaV,qaZ,qaY,qaW,qaX,qaV]⟩ [1] [(some 1000000,⟨[(4,hB)],[]⟩),(some 2,⟨[(5,(.ptr 0 0)),(8,(.ptr 1 0))],[xnJ,xkM,qaZ,qaY,qaW,qaX,qaV,qaZ,qaY,qaW,qaX,qaV]⟩)]),
 (200022,.loop [] ⟨[(5,(.ptr 0 0)),(8,(.ptr 1 0)),(13,hI)],[xnJ,xkM,qaZ,qaY,qaW,qaX,qaV,qaZ,qaY,qaW,qaX,qaV]⟩ [1] [(some 1000000,⟨[(4,hB)],[]⟩),(some 6,⟨[],[]⟩)]),
 (4000019,.sch [(.pu,0,[]),(.pu,1,[]),(.pu,2,[]),(.pu,3,[]),(.pu,4,[]),(.pu,5,[]),(.pu,6,[]),(.pu,7,[]),(.pu,8,[]),(.pu,9,[]),(.pu,10,[]),(.pu,11,[]),(.pu,12,[]),(.pu,13,[]),(.mn,14,[0,3,4,5,6,7]),(.pu,15,[]),(.pu,16,[]),(.pu,17,[]),(.pu,18,[]),(.pu,19,[]),(.pu,20,[]),(.pu,21,[]),(.pu,22,[]),(.pu,23,[]),(.pu,24,[]),(.pu,25,[]),(.pu,26,[]),(.pu,27,[]),(.mn,28,[0,3,4,5,6,7]),(.pu,29,[]),(.pu,30,[])]),
 (4000024,.sch [(.pu,0,[]),(.pu,1,[]),(.pu,2,[]),(.pu,3,[]),(.pu,4,[]),(.pu,6,[0,2,3,4,5,6]),(.pu,7,[0,2,3,4,5,6]),(.pu,8,[0,2,3,4,5,6]),(.pu,9,[0,2,3,4,5,6]),(.pu,10,[0,2,3,4,5,6]),(.mn,5,[0,2,3,4,5,6]),(.mn,11,[1,7,8,9,10,11]),(.pu,12,[]),(.pu,13,[]),(.pu,14,[]),(.pu,16,[0,2,3,4,5,6]),(.mn,15,[0,2,3,4,5,6]),(.mn,17,[1,7,8,9,10,11]),(.mn,18,[]),(.pu,19,[]),(.pu,20,[])])]) (Γ:=⟨[(27,(zkB o)),(24,ytY)],[(30,(zrN o)),(31,(zoJ o)),(29,(ziR o)),(25,(ztX o)),(32,(zhM o)),(33,(zgB o))],false,[]⟩) (ctok ⟨zsV,⟨xeX,trivial⟩⟩ ⟨zvL,⟨zwV,⟨zpT,⟨zzS,⟨zmP,⟨zjM,trivial⟩⟩⟩⟩⟩⟩) Tryz.func6
end
theorem xfJ{B:Int}{s:PS}(h:PInv B s){k:L8}{g:Gr}(hg:(k,g)∈s.2.1){x:L8}(hx:x∈lst 1 g):zzK 1 x k s=(123,s)/\zzK 1 k k s=(123,s):=by
 obtain⟨r,hr⟩:=h.ac
 have hkx:=hr k g hg x hx
 have hh:hasK 1 s x=true:=(h.gl k g hg 1 (by decide)).2 x hx
 have hxn:=h.hasK_nm (by decide) hh
 have hkn:=(h.gn k g hg).1
 have hhk:hasK 1 s k=true:=kS.has_iff.2 ⟨g,hg⟩
 obtain⟨gx,hgx⟩:=kS.has_iff.1 (show mhas keqS s.2.1 x=true from hh)
 have c1:(lst 1 gx).contains k=false:=by
  cases hc:(lst 1 gx).contains k with
  |false=>rfl
  |true=>have:=hr x gx hgx k (List.contains_iff_mem.1 hc);omega
 have c2:(lst 1 g).contains k=false:=by
  cases hc:(lst 1 g).contains k with
  |false=>rfl
  |true=>have:=hr k g hg k (List.contains_iff_mem.1 hc);omega
 constructor
 ·unfold zzK
  rw[hxn,hkn,kS.get_mem h.gR hgx]
  simp only[Bool.not_true,Bool.or_self,cond_false]
  rw[hhk,c1,if_pos ⟨rfl,.step .refl hg hx⟩]
  rfl
 ·unfold zzK
  rw[hkn,kS.get_mem h.gR hg]
  simp only[Bool.not_true,Bool.or_self,cond_false]
  rw[hhk,c2,if_pos ⟨rfl,.refl⟩]
  rfl
theorem xaG{B:Int}(hB:B<=1099511627776){s:PS}(h:PInv B s)(n x:L8):zbN zaB n x s.1 s.2.1 s.2.2.1 s.2.2.2.1 s.2.2.2.2=some (zzK 1 n x s):=by
 unfold zbN
 rw[yrU hB h,zaA]
abbrev T10:Type:=UM×GM×RM×CM×MM×UM×GM×RM×CM×MM
def two(s:PS):T10:=(s.1,s.2.1,s.2.2.1,s.2.2.2.1,s.2.2.2.2,s.1,s.2.1,s.2.2.1,s.2.2.2.1,s.2.2.2.2)
theorem xeF{B:Int}(hB:B<=1099511627776){s:PS}(h:PInv B s){i:Nat}(hi:i<(grE s).length):
  iter (fun x:Int×List GrT×T10=>zcO zaB (i:Int) x.1 x.2.1 x.2.2.1 x.2.2.2.1 x.2.2.2.2.1 x.2.2.2.2.2.1 x.2.2.2.2.2.2.1 x.2.2.2.2.2.2.2.1 x.2.2.2.2.2.2.2.2.1 x.2.2.2.2.2.2.2.2.2.1 x.2.2.2.2.2.2.2.2.2.2.1 x.2.2.2.2.2.2.2.2.2.2.2) ((0:Int),grE s,two s)=some (.inr (grE s,two s)):=by
 obtain⟨g,hg⟩:∃g,(grE s)[i]=g:=⟨_,rfl⟩
 have hm:g∈grE s:=by rw[<-hg];exact List.getElem_mem hi
 obtain⟨p,hp,rfl⟩:=List.mem_map.1 hm
 have hlen:p.2.1.2.1.length<=64:=h.lst_len (i:=1) hp (by decide)
 refine ytJ (n:=p.2.1.2.1.length) (by omega) (grE s,two s) (fun k hk=>?_) ?_
 ·obtain⟨a1,a2⟩:=xfJ h (k:=p.1) (g:=p.2) hp (x:=p.2.1.2.1[k]) (List.getElem_mem hk)
  unfold zcO two
  simp only
  rw[yiE hi,zaA,zfO rfl hi,zaA,hg]
  simp only
  rw[zdU (by omega),zaA,zaA]
  simp only
  rw[zfO rfl hk,zaA,zaA,zaA]
  simp only
  rw[xaG hB h,a1,zaA]
  simp only[bne_self_eq_false,cond_false]
  rw[zaA,zaA,zaA,zaA]
  rw[xaG hB h,a2,zaA,zrK (by omega)]
  rfl
 ·unfold zcO two
  simp only
  rw[yiE hi,zaA,zfO rfl hi,zaA,hg]
  simp only
  rw[zdG (by omega)]
theorem xiJ{B:Int}(hB:B<=1099511627776){s:PS}(h:PInv B s):
  iter (fun x:Int×List GrT×T10=>zcM zaB x.1 x.2.1 x.2.2.1 x.2.2.2.1 x.2.2.2.2.1 x.2.2.2.2.2.1 x.2.2.2.2.2.2.1 x.2.2.2.2.2.2.2.1 x.2.2.2.2.2.2.2.2.1 x.2.2.2.2.2.2.2.2.2.1 x.2.2.2.2.2.2.2.2.2.2.1 x.2.2.2.2.2.2.2.2.2.2.2) ((0:Int),grE s,two s)=some (.inr (two s)):=by
 have hl:(grE s).length<=32:=by unfold grE;rw[List.length_map];exact h.gL
 refine ytJ (n:=(grE s).length) (by omega) (grE s,two s) (fun k hk=>?_) ?_
 ·unfold zcM
  simp only
  rw[zdU (by omega),show iter _ ((0:Int),grE s,two s)=_ from xeF hB h hk,zaA]
  simp only
  rw[zrK (by omega)]
 ·unfold zcM
  simp only
  rw[zdG (by omega)]
theorem yxK(v0 v1:List Opr)(hk:dsz (.sl opT) v0+dsz (.sl opT) v1<=1048576):zeZ zaB v0 v1=some true:=by
 obtain⟨hv,hl⟩:=xjZ (v:=v0) (k:=1048576) (by omega) (Nat.le_refl _)
 obtain⟨hv1,hl1⟩:=xjZ (v:=v1) (k:=1048576) (by omega) (Nat.le_refl _)
 have hs:=ytE v0 1 s0 (Int.le_refl _) yyO
 have e0:iter (fun x:Int×PS=>zcP zaB v0 x.1 x.2.1 x.2.2.1 x.2.2.2.1 x.2.2.2.2.1 x.2.2.2.2.2) ((0:Int),s0)=some (yzR v0 s0):=xdI hv hl (B:=1) (by decide) (by decide) yyO (fun i hi t r hr=>by
  simp only
  unfold zcP
  rw[zdU (by omega),zfO rfl hi,zaA,hr,zaA,zrK (by omega)]) (fun t=>by
  simp only
  unfold zcP
  rw[zdG (by omega)])
 unfold zeZ
 rw[xiZ,zaA,e0,zaA]
 generalize yzR v0 s0=s at hs ⊢
 have hB:(1:Int)+v0.length<=1048577:=by omega
 have hB0:(1:Int)<=1+v0.length:=by omega
 generalize (1:Int)+v0.length=B at hs hB hB0
 have key:∀(f i:Nat) (C:Int) (t:PS),f+i=v1.length->1<=C->C+f<=1099511627775->PInv C t->∀g,f<g->zoW (fun x:Int×T10=>zcN zaB v1 x.1 x.2.1 x.2.2.1 x.2.2.2.1 x.2.2.2.2.1 x.2.2.2.2.2.1 x.2.2.2.2.2.2.1 x.2.2.2.2.2.2.2.1 x.2.2.2.2.2.2.2.2.1 x.2.2.2.2.2.2.2.2.2.1 x.2.2.2.2.2.2.2.2.2.2) g ((i:Int),two t)=some (.inr ()):=by
  intro f
  induction f with
  |zero=>
   intro i C t hi _ _ _ g hg
   obtain⟨g,rfl⟩:∃m,g=m+1:=⟨g-1,by omega⟩
   have hi:i=v1.length:=by omega
   subst hi
   refine zdA ?_
   simp only
   unfold zcN
   rw[zdG (by omega)]
  |succ f ih=>
   intro i C t hi hC hf ht g hg
   obtain⟨g,rfl⟩:∃m,g=m+1:=⟨g-1,by omega⟩
   have hlt:i<v1.length:=by omega
   have hd:=xdU (show C<=1099511627776 by omega) ht (hv1 _ (List.getElem_mem hlt))
   have hi2:=ylH hC ht v1[i]
   refine(zcE (s':=(((i+1:Nat):Int),two (yqT v1[i] t).2)) ?_).trans (ih (i+1) (C+1) _ (by omega) (by omega) (by omega) hi2 g (by omega))
   unfold zcN two
   simp only
   rw[zdU (by omega),zfO rfl hlt,zaA,zaA,hd,zaA,zaA]
   simp only[bne_self_eq_false,cond_false]
   rw[rows_ok (by omega) hi2,zaA,zaA]
   simp only
   rw[ynU _ (yhB hi2),zaA,Bool.not_true,cond_false,zrK (by omega)]
 have hB1:1<=B:=hB0
 rw[rows_ok (by omega) hs,zaA]
 simp only
 rw[ywM (by omega) hs,zaA]
 unfold ziO
 simp only[bne_self_eq_false,cond_false]
 rw[rows_ok (by omega) hs,zaA]
 simp only
 rw[ynU _ (yhB hs),zaA,Bool.not_true,cond_false,zaA]
 simp only
 rw[ynI hs,zaA]
 simp only
 rw[show iter _ ((0:Int),grE s,s.1,s.2.1,s.2.2.1,s.2.2.2.1,s.2.2.2.2,s)=_ from xiJ (by omega) hs,zaA]
 simp only
 rw[show iter _ ((0:Int),two s)=_ from key v1.length 0 B s (by omega) hB1 (by omega) hs FU (by unfold FU;omega),zaA]
 rfl
end Go.Proofs.YtopanhneegpgcaaGreatDoor.Am
namespace Go.Proofs.YtopanhneegpgcaaGreatDoor
open Go Go.RowKit
section
open Go Go.RowKit Go.ChangeShapes Go.WideShapes Go.ChangeAt
attribute [local irreducible] Value.okWide
theorem xoK{W:World}(h:W.ShapedOpen Tryz.prog)(hL:laidMet Tryz.prog Rows.peopleBackUptoRow.laid W):∃G:List (Nat×Obj),Am.zrE G/\Am.GS G (zuR W):=by
 obtain⟨m,hm⟩:=Tryz.laysM219.s1_3 W h
 have hm:W.cell? ⟨0,0,none⟩=some (.int .i64 m):=hm
 have h0:∃c E fz,W.heap[0]? = some (.cells c E fz)/\c[0]? = some (.int .i64 m):=by
  unfold World.cell? at hm
  split at hm
  ·rename_i c E fz hb
   simp only[Option.isSome_none,if_neg (show ¬(false=true) by decide)]at hm
   exact⟨c,E,fz,hb,hm⟩
  ·cases hm
 obtain⟨c,E,fz,h1,h2⟩:=h0
 have hT := Lib.tabIs_of_head (P := Tryz.prog) (k := .u64) (zs := Lib.pow10Tab) (g := 3) (t := 298) (e := 249) (n := 20) (by kernel_rfl) (by kernel_rfl) (by kernel_rfl) (by kernel_rfl) (by kernel_rfl) (by kernel_rfl) (show laidMet Tryz.prog (("internal/strconv.uint64pow10", Lib.tabData .u64 Lib.pow10Tab) :: _) W from hL.tail.tail)
 have h3:∃T f,W.heap[3]? = some (.cells xbC.toArray T f):=by
  unfold Lib.TabIs World.var? at hT
  rw [show Tryz.prog.globalNamed "internal/strconv.uint64pow10" = some 3 by kernel_rfl, Option.bind_some] at hT
  split at hT
  ·rename_i cs T f hb
   cases hT
   exact⟨T,f,hb⟩
  ·cases hT
 obtain⟨T,f,h4⟩:=h3
 refine⟨[(0,.cells c E fz),(3,.cells xbC.toArray T f)],⟨fun S hS=>⟨⟨c,E,fz,m,hS _ (List.mem_cons_self ..),h2⟩,T,f,hS _ (List.mem_cons_of_mem _ (List.mem_cons_self ..))⟩⟩,fun p hp=>?_⟩
 rcases List.mem_cons.1 hp with rfl|hp
 ·exact h1
 ·rcases List.mem_cons.1 hp with rfl|hp
  ·exact h4
  ·cases hp
theorem yaG(H:Type)(enc:TypeId×Value->H)(W:World)(base:Nat)(args:Array Value)(ds gs:List (DataW H))(before:List MemPlace)
  (hval:∀(j:Nat) t v,Tryz.f6.params[j]? = some t->args[j]? = some v->Value.okWide Tryz.prog W .any base t v)
  (hW:DataW.Whole enc Tryz.prog Tryz.f6.params.toList Rows.peopleBackSpec.vars false W args.toList ds gs before) (hk:Rows.uptoSmall H (ds++gs)=true) (hsh:W.ShapedOpen Tryz.prog) (hL:laidMet Tryz.prog Rows.peopleBackUptoRow.laid W):
  Calls Tryz.prog 6 args W fun e W'=>∃v,e = .returned v/\Rows.peopleBackSpec.post enc Tryz.prog Tryz.f6 false true false false W args v W':=by
 have hW':=hW
 obtain⟨p,q,hA0,hV,rfl,_,_⟩:=hW
 have hA:DataW.TrodAll enc Tryz.prog W 0 (fun _=>true) true Tryz.f6.params.toList args.toList ds p:=hA0
 rw[Tryz.params6]at hA hval
 obtain⟨v0,vs0,d0,ds0,p0,q0,hargs,rfl,rfl,t0,r0⟩:=trodAll_cons hA
 obtain⟨v1,vs1,d1,ds1,p1,q1,rfl,rfl,rfl,t1,r1⟩:=trodAll_cons r0
 obtain⟨rfl,rfl,rfl⟩:=trodAll_nil r1
 obtain rfl:args = #[v0,v1]:=by cases args;simp_all
 obtain⟨rfl,rfl⟩:=trodVars_none hV
 obtain⟨x0,e0,b0⟩:=Am.xvG (t:=(.sl Am.opT)) (show Am.xqT Tryz.prog 45 (.sl Am.opT)=true by kernel_rfl) (hval 0 45 v0 rfl rfl) t0
 obtain⟨x1,e1,b1⟩:=Am.xvG (t:=(.sl Am.opT)) (show Am.xqT Tryz.prog 45 (.sl Am.opT)=true by kernel_rfl) (hval 1 45 v1 rfl rfl) t1
 simp only[List.append_nil,Rows.uptoSmall,decide_eq_true_eq,Rows.uptoBulkAll]at hk
 obtain⟨G,hG,hGS⟩:=xoK hsh hL
 refine((Am.yeL (tabs:=G) (o:=Am.zaB)).ok (zuR W) W [v0,v1] (x0,x1) true hGS (yyW W) (.cons (Am.xtQ e0) (.cons (Am.xtQ e1) .nil)) (Am.yxK x0 x1 (by omega))).mono fun e W' ⟨hx,v,he,hr,_⟩=>?_
 have hr:[v]=[Value.bool true]:=hr
 rw[(List.cons.inj hr).1]at he
 subst he
 refine⟨_,rfl,xhV (B:=4) (n:=2) (by kernel_rfl) rfl (by kernel_rfl) (by kernel_rfl) (by kernel_rfl) (by kernel_rfl) (fun ds hds=>?_) hW' hx⟩
 match ds,hds with
 |[x0,x1],_=>exact⟨rfl,rfl,rfl⟩
theorem xdX:ownKnob Tryz.prog.godebug=none:=by kernel_rfl
def yiL:DataW Unit->LV
 |.lit (.int k n)=>[.int k n]
 |.agg l=>go l
 |_=>[]
where go:List (DataW Unit)->LV
 |[]=>[]
 |d::l=>yiL d++go l
def zvG(l:LV):Obj->Obj
 |.cells _ t frozen=>.cells l.toArray t frozen
 |o=>o
noncomputable def yfL(os:Os):World:={ World.holding Tryz.prog os ⟨#[],#[],[]⟩with heap:=(((((((((World.holding Tryz.prog os ⟨#[],#[],[]⟩).heap).modify 6 (zvG (yiL Rows.laid_math_bits_deBruijn32tab))).modify 7 (zvG (yiL Rows.laid_math_bits_deBruijn64tab))).modify 3 (zvG (yiL Rows.laid_internal_strconv_uint64pow10))).modify 5 (zvG (yiL Rows.laid_unicode_utf8_acceptRanges))).modify 2 (zvG [.iface 312 (.pointer (some ⟨(World.holding Tryz.prog os ⟨#[],#[],[]⟩).heap.size+0,0,none⟩))])).modify 1 (zvG [.iface 312 (.pointer (some ⟨(World.holding Tryz.prog os ⟨#[],#[],[]⟩).heap.size+1,0,none⟩))])).modify 4 (zvG (yiL Go.Pinned.utf8First))) ++ #[.cells #[.string ⟨#[118,97,108,117,101,32,111,117,116,32,111,102,32,114,97,110,103,101]⟩] 314,.cells #[.string ⟨#[105,110,118,97,108,105,100,32,115,121,110,116,97,120]⟩] 314] }
theorem yaA(os:Os):laidMet Tryz.prog Rows.peopleBackUptoRow.laid ((yfL os).forCall (fun _ _=>0) ⟨#[],#[.slice none 0 0,.slice none 0 0],[]⟩).memory:=
 laidMet_of_run' 8 (by kernel_rfl) (by kernel_rfl)
theorem ydX(os:Os){H:Type}(enc:TypeId×Value->H):∃places,DataW.whole enc Tryz.prog ((yfL os).forCall (fun _ _=>0) ⟨#[],#[.slice none 0 0,.slice none 0 0],[]⟩).memory Tryz.f6.params.toList Rows.peopleBackSpec.vars false (#[.slice none 0 0,.slice none 0 0]:Array Value).toList 8=some ([.nil,.nil],[],places):=
 ⟨[],by kernel_rfl⟩
set_option maxRecDepth 100000 in
theorem ycX(os:Os)(started:os.Started)(H:Type)(enc:TypeId×Value->H)(F:Stop.Interp):
  ReturnsInHanded {} Tryz.checked os 6 .any ((Rows.OpenSpec.upto Rows.peopleBackSpec).preRow enc Tryz.prog Tryz.f6 Rows.peopleBackUptoRow.domain false Rows.peopleBackUptoRow.laid) (((Rows.OpenSpec.upto Rows.peopleBackSpec).at F).post enc Tryz.prog Tryz.f6 false true false false):=by
 obtain⟨places,hx⟩:=ydX os enc
 refine returnsInHanded_of_row (C:=Tryz.checked) (s:=Rows.OpenSpec.upto Rows.peopleBackSpec) xdX started (by kernel_rfl) Tryz.func6
  (witness_row_at (enc:=enc) (C:=Tryz.checked) false (yfL os) #[.slice none 0 0,.slice none 0 0] rfl (by kernel_rfl) (by kernel_rfl) (by kernel_rfl)
   (OpenSpec.preRow_of_cond 8 hx (by kernel_rfl) (fun k hk=>by cases hk;kernel_rfl) (by kernel_rfl) (yaA os))) ?_
 intro W base args ds gs before hval hW _ hcond _ hL hsh _
 exact yaG H enc W base args ds gs before hval hW (hcond _ rfl) hsh hL
set_option maxRecDepth 100000 in
set_option maxHeartbeats 40000000 in
theorem ydZ:joinedFacts Tryz.pinned.checked.prog 6 Tryz.f6 (Rows.OpenSpec.upto Rows.peopleBackSpec).bare Rows.peopleBackUptoRow=true:=by
 simp only[joinedFacts,Bool.and_eq_true]
 repeat' refine And.intro ?_ ?_
 all_goals (as_aux_lemma=>kernel_rfl)
theorem yiB:Rows.PeopleBackUptoSaid:=
 OpenClaim.holds_of_cond 6 Tryz.f6 rfl rfl rfl rfl rfl rfl rfl ⟨rfl,rfl,rfl,rfl,rfl⟩ rfl rfl rfl rfl rfl (by kernel_rfl) Tryz.func6 ydZ
  (of_decide_eq_true (by kernel_rfl)) (by unfold Func.isWrapper;first|(rw[if_pos (by decide +kernel)];kernel_rfl)|(rw[if_neg (by decide +kernel)];exact⟨rfl,rfl⟩))
  (fun os started H enc _ F=>by rw[OpenClaim.pre_eq_preRow];exact ycX os started H enc F)
theorem yeA (f : FuncId) (fn : Func) (hf : Tryz.pinned.checked.prog.funcNamed "seneschal/seneschallaw12.PeopleBack" = some f) (hfn : Tryz.pinned.checked.prog.funcs[f]? = some fn) :
  true=Tryz.pinned.checked.prog.looks []/\∀(j:Nat) t,fn.params[j]? = some t->Tryz.pinned.checked.prog.wantsStandIn t=false:=by
 obtain rfl : f = 6 := osi ((show Tryz.prog.funcNamed "seneschal/seneschallaw12.PeopleBack" = some 6 by kernel_rfl).symm.trans hf) |>.symm
 obtain rfl:fn=Tryz.f6:=(osi (Tryz.func6.symm.trans hfn)).symm
 refine⟨by kernel_rfl,fun j t ht=>?_⟩
 rw[Tryz.params6]at ht
 have hm:t∈[45,45]:=by simpa using Array.mem_of_getElem? ht
 have hall:([45,45].all fun u=>!Tryz.prog.wantsStandIn u)=true:=by kernel_rfl
 exact(show Tryz.prog.wantsStandIn t=false by simpa using List.all_eq_true.1 hall t hm)
theorem peopleBack_said : Rows.PeopleBackUptoCardSaid :=
 Claim7.holds_tied_plain_at .later [] _ _ _ _ yiB (fun _ h=>by cases h) (by as_aux_lemma=>kernel_rfl) (fun _ h=>by cases h) peopleBackUpto_row_tie rfl ⟨rfl,rfl⟩ (by as_aux_lemma=>kernel_rfl) rfl yeA (by as_aux_lemma=>kernel_rfl)
end
end Go.Proofs.YtopanhneegpgcaaGreatDoor
