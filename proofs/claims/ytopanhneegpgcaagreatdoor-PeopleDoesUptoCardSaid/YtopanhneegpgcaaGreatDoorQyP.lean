/- Parts of one proof. Conditions: as each theorem says. -/
import Derived.KernelRfl
import Derived.Shelf.SlMaps.Clone
import Derived.Ground.SlmcProg
import Derived.Test.YtopanhneegpgcaaGreatDoorProg
import Derived.Test.YtopanhneegpgcaaGreatDoorQyO
open Bool renaming and_self->gG,eq_iff_iff->dS,false_or->dB,not_false->cX,not_true->aK,true_and->cJ
open List renaming append_assoc->aU,contains_iff_mem->bE,drop_eq_getElem_cons->bA,drop_length->bT,drop_zero->bQ,flatMap_cons->cO,foldl_append->jN,foldl_cons->dN,getElem?_append_left->aF,getElem?_append_right->aG,getElem?_eq_getElem->aH,getElem?_eq_none->cB,getElem_map->cG,getElem_mem->bC,length_append->aD,length_cons->aQ,length_filter_le->fZ,length_map->aE,length_take->bX,map_congr_left->dI,map_cons->bF,map_map->cW,mem_cons->aN,mem_cons_of_mem->aM,mem_cons_self->aO,mem_map->aY,mem_singleton->aZ,pairwise_cons->bD,pairwise_iff_getElem->dD,pairwise_singleton->dA,takeWhile_append_dropWhile->cP,takeWhile_cons->eC
open Nat renaming le_refl->aL,le_trans->bB,lt_or_ge->fK,zero_le->bG
open Option renaming bind->aR,map_some->aX
open Go.Proofs.Tryz renaming prog->aA
open Go.Op renaming bytesLess->j9
open Go.Proofs.Tryz renaming func216->H0,isAgg20->D5,isAgg4->A1,sizeOf20->D7,sizeOf4->A3,underlying20->D4,underlying4->A0,zeroValue20->D8,zeroValue4->A4
open Go.Proofs.Tryz
namespace Go.Proofs.YtopanhneegpgcaaGreatDoor.Am
open Go Go.RowKit
def Cz:TE:=[(3,⟨.int .i64,1,[.v (.i .i64) (show Int from 0)],(.i .i64),8⟩),
 (4,⟨.b,1,[.v .b (show Bool from false)],.b,1⟩),
 (9,⟨.s,1,[.v .s (show Bs from [])],.s,16⟩),
 (22,⟨.sl 9,1,[.Y'],(.sl .s),24⟩),
 (31,⟨.sl 33,1,[.Y'],(.sl (.pr .s .s)),24⟩),
 (33,⟨.st [(9,0),(9,1)],2,[.v .s (show Bs from []),.v .s (show Bs from [])],(.pr .s .s),32⟩),
 (34,⟨.pt 128,1,[.v7],.un,8⟩),
 (38,⟨.pt 84,1,[.v7],.un,8⟩),
 (49,⟨.st [(9,0),(22,1)],2,[.v .s (show Bs from []),.Y'],(.pr .s (.sl .s)),40⟩),
 (51,⟨.st [(9,0),(9,1),(22,2),(22,3),(4,4),(4,5),(4,6),(4,7)],8,[.v .s (show Bs from []),.v .s (show Bs from []),.Y',.Y',.v .b (show Bool from false),.v .b (show Bool from false),.v .b (show Bool from false),.v .b (show Bool from false)],(.pr .s (.pr .s (.pr (.sl .s) (.pr (.sl .s) (.pr .b (.pr .b (.pr .b .b))))))),88⟩),
 (54,⟨.sl 57,1,[.Y'],(.sl (.pr .s (.pr (.sl .s) (.pr (.sl .s) (.pr (.sl .s) (.i .i64)))))),24⟩),
 (57,⟨.st [(9,0),(22,1),(22,2),(22,3),(3,4)],5,[.v .s (show Bs from []),.Y',.Y',.Y',.v (.i .i64) (show Int from 0)],(.pr .s (.pr (.sl .s) (.pr (.sl .s) (.pr (.sl .s) (.i .i64))))),96⟩),
 (64,⟨.sl 51,1,[.Y'],(.sl (.pr .s (.pr .s (.pr (.sl .s) (.pr (.sl .s) (.pr .b (.pr .b (.pr .b .b)))))))),24⟩),
 (67,⟨.sl 77,1,[.Y'],(.sl (.pr .s (.pr .s (.pr .b (.i .i64))))),24⟩),
 (69,⟨.sl 49,1,[.Y'],(.sl (.pr .s (.sl .s))),24⟩),
 (72,⟨.sl 75,1,[.Y'],(.sl (.pr .s .s)),24⟩),
 (75,⟨.st [(9,0),(9,1)],2,[.v .s (show Bs from []),.v .s (show Bs from [])],(.pr .s .s),32⟩),
 (77,⟨.st [(9,0),(9,1),(4,2),(3,3)],4,[.v .s (show Bs from []),.v .s (show Bs from []),.v .b (show Bool from false),.v (.i .i64) (show Int from 0)],(.pr .s (.pr .s (.pr .b (.i .i64)))),48⟩),
 (84,⟨.st [(67,0),(54,1),(69,2),(64,3),(72,4)],5,[.Y',.Y',.Y',.Y',.Y'],(.pr (.sl (.pr .s (.pr .s (.pr .b (.i .i64))))) (.pr (.sl (.pr .s (.pr (.sl .s) (.pr (.sl .s) (.pr (.sl .s) (.i .i64)))))) (.pr (.sl (.pr .s (.sl .s))) (.pr (.sl (.pr .s (.pr .s (.pr (.sl .s) (.pr (.sl .s) (.pr .b (.pr .b (.pr .b .b)))))))) (.sl (.pr .s .s)))))),120⟩),
 (194,⟨.st [(22,0),(4,1)],2,[.Y',.v .b (show Bool from false)],(.pr (.sl .s) .b),32⟩)]
theorem Oj:P3 aA Cz:=NG (by kernel_rfl) (by kernel_rfl)
theorem Dz:Tryz.prog.follows .mixedOrders=true:=by kernel_rfl
theorem ZN {G : List (Nat × Obj)} {o : D'} [kb G] [Xa G o] {Γ : CT} {η : HT} {f : FuncId} {fn : Func} {c : SC} (a : ∀ B, GB G B -> X6 aA Γ B) (hf : Tryz.prog.funcs[f]? = some fn) (i : (fn.name == "runtime.NumGoroutine") = false := by kernel_rfl) (j : fn.body.isNone = false := by kernel_rfl) (l : Nat.ble c.I.sl.length fn.ntmps = true := by kernel_rfl) (r : Nat.beq fn.results.toList.length c.nr = true := by kernel_rfl) (e : Ms Cz Γ η fn c.I c.outs = c.p := by kernel_rfl) : P' aA G f c := jc (G := G) (o := o) <| af Dz Oj a hf (Y5 hf i j) l r e
theorem nu {G : List (Nat × Obj)} {o : D'} [kb G] [Xa G o] {Γ : CT} {η : HT} {f : FuncId} {fn : Func} {c : PC} (a : ∀ B, GB G B -> X6 aA Γ B) (hf : Tryz.prog.funcs[f]? = some fn) (i : (fn.name == "runtime.NumGoroutine") = false := by kernel_rfl) (j : fn.body.isNone = false := by kernel_rfl) (l : Nat.ble c.ash.length fn.ntmps = true := by kernel_rfl) (r : c.cl = false := by kernel_rfl) (e : zw Cz Γ η fn c.ash c.rts = c.p := by kernel_rfl) : Z0 aA G f c := jc (G := G) (o := o) <| Ze Dz Oj a hf (Y5 hf i j) l r e
abbrev Ua:Type:=Bs×kE
abbrev N8:Type:=List Ua
abbrev ou:Ty:=.pr .s (.sl .s)
abbrev Kb:Type:=Bs×Bs×Bool×Int
abbrev o9:Type:=List Kb
abbrev Pj:Ty:=.pr .s (.pr .s (.pr .b (.i .i64)))
abbrev HF:Type:=Bs×kE×kE×kE×Int
abbrev P8:Type:=List HF
abbrev IF:Ty:=.pr .s (.pr (.sl .s) (.pr (.sl .s) (.pr (.sl .s) (.i .i64))))
abbrev Ya:Type:=Bs×Bs×kE×kE×Bool×Bool×Bool×Bool
abbrev r8:Type:=List Ya
abbrev Wq:Ty:=.pr .s (.pr .s (.pr (.sl .s) (.pr (.sl .s) (.pr .b (.pr .b (.pr .b .b))))))
abbrev Vc:Type:=o9×P8×N8×r8×kD
abbrev xf:Ty:=.pr (.sl Pj) (.pr (.sl IF) (.pr (.sl ou) (.pr (.sl Wq) (.sl (.pr .s .s)))))
abbrev ta:X3:=.N' 84 [(.h (.sl Pj)),(.h (.sl IF)),(.h (.sl ou)),(.h (.sl Wq)),(.h (.sl (.pr .s .s)))]
abbrev Xq:X3:=.N' 57 [hS,(.h (.sl .s)),(.h (.sl .s)),(.h (.sl .s)),hI]
abbrev Pg:X3:=.N' 128 [(.mpr 2),(.mpr 3),(.mpr 4),(.mpr 5),(.mpr 6)]
abbrev Qg:X3:=.mp true .s Pj
abbrev Rg:X3:=.mp true .s ou
abbrev Sg:X3:=.mp true .s Wq
def Tg:Nat×Hint:=(4000004,.x7 (j7 0 22))
section
variable {tabs:List (Nat×Obj)}[kb tabs]{o:D'}[Xa tabs o]
def nM(o:D')(b:kE)(c:Int)(a:Int):Option (Int⊕(Bool⊕Unit)):=
 bif decide (a<(b.length:Int))then(bif(c==0)then((idx b a).bind fun l=>(RN o l).bind fun m=>bif(!m)then some (.inr (.inl false))else(bif(c==1)then((idx b a).bind fun n=>(WR o n).bind fun p=>bif(!p)then some (.inr (.inl false))else(bif decide (a>0)then((idx b a).bind fun d=>(idx b (P0 (a-1))).bind fun e=>bif(j9 d e||d==e)then some (.inr (.inl false))else some (.inl (P0 (a+1))))else some (.inl (P0 (a+1)))))else(bif decide (a>0)then((idx b a).bind fun f=>(idx b (P0 (a-1))).bind fun g=>bif(j9 f g||f==g)then some (.inr (.inl false))else some (.inl (P0 (a+1))))else some (.inl (P0 (a+1))))))else(bif(c==1)then((idx b a).bind fun q=>(WR o q).bind fun r=>bif(!r)then some (.inr (.inl false))else(bif decide (a>0)then((idx b a).bind fun h=>(idx b (P0 (a-1))).bind fun i=>bif(j9 h i||h==i)then some (.inr (.inl false))else some (.inl (P0 (a+1))))else some (.inl (P0 (a+1)))))else(bif decide (a>0)then((idx b a).bind fun j=>(idx b (P0 (a-1))).bind fun k=>bif(j9 j k||j==k)then some (.inr (.inl false))else some (.inl (P0 (a+1))))else some (.inl (P0 (a+1))))))else some (.inr (.inr ()))
def ru(o:D')(a:kE)(b:Int)(c:Int):Option (Bool):=
 (iter (nM o a c) 0).bind fun d=>match d with
 |.inl e=>(some e)|.inr _=>(some (decide ((a.length:Int)<=b)))
def zpK(o:D'):PC:=⟨[(.h (.sl .s)),hI,hI],[.b],fun x=>ru o x.1 x.2.1 x.2.2,false⟩
theorem zwA:Z0 aA tabs 248 (zpK o):=nu (o:=o) (η:=[(200002,.loop [] ⟨[(7,hI)],[]⟩ [0,1,2] [(some 1000000,⟨[(6,hB)],[]⟩),(some 0,⟨[],[]⟩)]),
 (4000004,.x7 (j7 0 7++[(.mn,7,[])]++j7 8 10++[(.mn,18,[])]++j7 19 19))]) (Γ:=⟨[(16,(AW o)),(18,(zvZ o))],[],false,[]⟩) (X4 ⟨zqX,⟨yhX,trivial⟩⟩ trivial) func248
def yX(_o:D')(b:Int)(c:Bs)(a:Bs)(d:kE)(e:kE)(f:Bool)(g:Bool)(h:Bool)(i:Bool):Option ((Int×Ya)⊕(Bool⊕Ya)):=
 bif decide (b<(a.length:Int))then((idx a b).bind fun j=>bif decide ((j.toNat:Int)<((48:UInt8).toNat:Int))then((idx a b).bind fun k=>bif decide ((k.toNat:Int)<((97:UInt8).toNat:Int))then some (.inr (.inl false))else((idx a b).bind fun l=>bif decide ((l.toNat:Int)>((102:UInt8).toNat:Int))then some (.inr (.inl false))else some (.inl (P0 (b+1),c,a,d,e,f,g,h,i))))else((idx a b).bind fun m=>bif decide ((m.toNat:Int)>((57:UInt8).toNat:Int))then((idx a b).bind fun n=>bif decide ((n.toNat:Int)<((97:UInt8).toNat:Int))then some (.inr (.inl false))else((idx a b).bind fun p=>bif decide ((p.toNat:Int)>((102:UInt8).toNat:Int))then some (.inr (.inl false))else some (.inl (P0 (b+1),c,a,d,e,f,g,h,i))))else some (.inl (P0 (b+1),c,a,d,e,f,g,h,i))))else some (.inr (.inr (c,a,d,e,f,g,h,i)))
def zX(o:D')(b:Ya):Option (Bool):=
 (iter (fun x=>yX o x.1 x.2.1 x.2.2.1 x.2.2.2.1 x.2.2.2.2.1 x.2.2.2.2.2.1 x.2.2.2.2.2.2.1 x.2.2.2.2.2.2.2.1 x.2.2.2.2.2.2.2.2) (0,b)).bind fun c=>match c with
 |.inl d=>(some d)|.inr a=>((Hg o a.1).bind fun e=>bif e then(bif(a.2.1==([]:Bs))then((ru o a.2.2.1 16 0).bind fun f=>bif f then((ru o a.2.2.2.1 16 1).bind fun g=>some g)else(some false))else(bif((a.2.1.length:Int)==64)then((ru o a.2.2.1 16 0).bind fun h=>bif h then((ru o a.2.2.2.1 16 1).bind fun i=>some i)else(some false))else(some false)))else(some false))
def zsN(o:D'):PC:=⟨[(.h Wq)],[.b],fun x=>zX o x,false⟩
theorem ycU:Z0 aA tabs 179 (zsN o):=nu (o:=o) (η:=[(200002,.loop [] ⟨[(1,(.ptr 0 0)),(3,hI)],[.N' 51 [hS,hS,(.h (.sl .s)),(.h (.sl .s)),hB,hB,hB,hB]]⟩ [] [(some 1000000,⟨[(2,hB)],[]⟩),(some 0,⟨[(1,(.ptr 0 0))],[.N' 51 [hS,hS,(.h (.sl .s)),(.h (.sl .s)),hB,hB,hB,hB]]⟩)])]) (Γ:=⟨[(14,(Dq o)),(248,(zpK o))],[],false,[]⟩) (X4 ⟨Qt,⟨zwA,trivial⟩⟩ trivial) func179
def AX(o:D')(a:Ua):Option (Bool):=
 (Hg o a.1).bind fun b=>bif b then((ru o a.2 16 1).bind fun c=>some c)else(some false)
def ztV(o:D'):PC:=⟨[(.h ou)],[.b],fun x=>AX o x,false⟩
theorem yfD:Z0 aA tabs 181 (ztV o):=nu (o:=o) (η:=[]) (Γ:=⟨[(14,(Dq o)),(248,(zpK o))],[],false,[]⟩) (X4 ⟨Qt,⟨zwA,trivial⟩⟩ trivial) func181
def zjO(_o:D')(b:Vc)(c:Bs)(a:Int):Option (Int⊕Int):=
 bif decide (a<(b.1.length:Int))then((idx b.1 a).bind fun d=>bif j9 d.1 c then some (.inl (P0 (a+1)))else some (.inr a))else some (.inr a)
def dv(o:D')(b:Vc)(c:Bs):Option (Int×Bool):=
 (iter (zjO o b c) 0).bind fun a=>bif decide (a<(b.1.length:Int))then((idx b.1 a).bind fun d=>some (a,(d.1==c)))else(some (a,false))
def oM(o:D'):PC:=⟨[(.hr xf),hS],[(.i .i64),.b],fun x=>dv o x.1 x.2,false⟩
theorem kO:Z0 aA tabs 217 (oM o):=nu (o:=o) (η:=[(200002,.loop [] ⟨[(6,hI)],[]⟩ [0,1,4,5] [(some 0,⟨[(6,hI)],[]⟩)]),
 Tg]) (Γ:=⟨[],[],false,[]⟩) (X4 trivial trivial) func217
def zjF(_o:D')(b:Vc)(c:Bs)(a:Int):Option (Int⊕Int):=
 bif decide (a<(b.2.1.length:Int))then((idx b.2.1 a).bind fun d=>bif j9 d.1 c then some (.inl (P0 (a+1)))else some (.inr a))else some (.inr a)
def An(o:D')(b:Vc)(c:Bs):Option (Int×Bool):=
 (iter (zjF o b c) 0).bind fun a=>bif decide (a<(b.2.1.length:Int))then((idx b.2.1 a).bind fun d=>some (a,(d.1==c)))else(some (a,false))
def pM(o:D'):PC:=⟨[(.hr xf),hS],[(.i .i64),.b],fun x=>An o x.1 x.2,false⟩
theorem lO:Z0 aA tabs 221 (pM o):=nu (o:=o) (η:=[(200002,.loop [] ⟨[(6,hI)],[]⟩ [0,1,4,5] [(some 0,⟨[(6,hI)],[]⟩)]),
 Tg]) (Γ:=⟨[],[],false,[]⟩) (X4 trivial trivial) func221
def zjS(_o:D')(b:Vc)(c:Bs)(a:Int):Option (Int⊕Int):=
 bif decide (a<(b.2.2.1.length:Int))then((idx b.2.2.1 a).bind fun d=>bif j9 d.1 c then some (.inl (P0 (a+1)))else some (.inr a))else some (.inr a)
def Ez(o:D')(b:Vc)(c:Bs):Option (Int×Bool):=
 (iter (zjS o b c) 0).bind fun a=>bif decide (a<(b.2.2.1.length:Int))then((idx b.2.2.1 a).bind fun d=>some (a,(d.1==c)))else(some (a,false))
def KS(o:D'):PC:=⟨[(.hr xf),hS],[(.i .i64),.b],fun x=>Ez o x.1 x.2,false⟩
theorem BX:Z0 aA tabs 227 (KS o):=nu (o:=o) (η:=[(200002,.loop [] ⟨[(6,hI)],[]⟩ [0,1,4,5] [(some 0,⟨[(6,hI)],[]⟩)]),
 Tg]) (Γ:=⟨[],[],false,[]⟩) (X4 trivial trivial) func227
def zoR(o:D')(a:Vc)(c:Int)(b:Bs):Option ((Bool×Bool×Bool)):=
 bif(c==0)then((dv o a b).bind fun d=>some (d.2,false,false))else(bif(c==1)then((An o a b).bind fun e=>some (false,e.2,false))else((Ez o a b).bind fun f=>some (false,false,f.2)))
def LS(o:D')(b:Vc)(c:Int)(d:Bs):Option (Bool):=
 (zoR o b c d).bind fun a=>bif a.1 then(some true)else(bif a.2.1 then(some true)else(some a.2.2))
def ziY(o:D'):PC:=⟨[(.hr xf),hI,hS],[.b],fun x=>LS o x.1 x.2.1 x.2.2,false⟩
theorem zoW:Z0 aA tabs 223 (ziY o):=nu (o:=o) (η:=[(2000008,.join [] [] [(none,⟨[(7,hB),(8,hB),(9,hB)],[]⟩)])]) (Γ:=⟨[(217,(oM o)),(221,(pM o)),(227,(KS o))],[],false,[]⟩) (X4 ⟨kO,⟨lO,⟨BX,trivial⟩⟩⟩ trivial) func223
def fv(o:D')(a:Vc)(c:Bs):Option (HF×Bool):=
 (An o a c).bind fun b=>bif(!b.2)then(some ((([]:Bs),([]:kE),([]:kE),([]:kE),0),false))else((idx a.2.1 b.1).bind fun d=>some (d,true))
def JF(o:D')(a:Int)(c:kE)(d:Bs)(e:kE)(b:kE)(f:kE)(g:Int):Option ((Int×kE×HF)⊕kE):=
 bif decide (a<(b.length:Int))then((idx b a).bind fun h=>(Zm o c h).bind fun i=>bif(!i)then((idx b a).bind fun j=>(X0 c ([j]:kE)).bind fun k=>some (.inl (P0 (a+1),k,d,e,b,f,g)))else some (.inl (P0 (a+1),c,d,e,b,f,g)))else some (.inr c)
def MS(o:D')(c:Vc)(a:Int)(b:kE):Option ((Int×kE)⊕kE):=
 bif decide (a<(b.length:Int))then((o6 (decide (0<=a)&&decide (a<(b.length:Int)))).bind fun _=>(idx b a).bind fun d=>(fv o c d).bind fun e=>(iter (fun x=>JF o x.1 x.2.1 x.2.2.1 x.2.2.2.1 x.2.2.2.2.1 x.2.2.2.2.2.1 x.2.2.2.2.2.2) (0,b,e.1)).bind fun f=>some (.inl (P0 (a+1),f)))else some (.inr b)
def CX(o:D')(a:Vc)(b:Bs):Option kE:=
 (iter (fun x=>MS o a x.1 x.2) (0,([b]:kE))).bind fun c=>some c
def ziH(_o:D')(b:Vc)(c:Bs)(a:Int):Option (Int⊕Int):=
 bif decide (a<(b.2.2.2.1.length:Int))then((idx b.2.2.2.1 a).bind fun d=>bif j9 d.1 c then some (.inl (P0 (a+1)))else some (.inr a))else some (.inr a)
def WA(o:D')(b:Vc)(c:Bs):Option (Int×Bool):=
 (iter (ziH o b c) 0).bind fun a=>bif decide (a<(b.2.2.2.1.length:Int))then((idx b.2.2.2.1 a).bind fun d=>some (a,(d.1==c)))else(some (a,false))
def NS(o:D'):PC:=⟨[(.hr xf),hS],[(.i .i64),.b],fun x=>WA o x.1 x.2,false⟩
theorem DX:Z0 aA tabs 228 (NS o):=nu (o:=o) (η:=[(200002,.loop [] ⟨[(6,hI)],[]⟩ [0,1,4,5] [(some 0,⟨[(6,hI)],[]⟩)]),
 Tg]) (Γ:=⟨[],[],false,[]⟩) (X4 trivial trivial) func228
def tI(o:D')(b:Vc)(a:Bs):Option (Bool):=
 (SN o a).bind fun c=>bif(!c)then(some false)else((idx a 0).bind fun d=>bif((d.toNat:Int)==((99:UInt8).toNat:Int))then((T4 a 2).bind fun e=>(WA o b e).bind fun f=>some f.2)else((T4 a 2).bind fun g=>(dv o b g).bind fun h=>some h.2))
def zlB(o:D'):PC:=⟨[(.hr xf),hS],[.b],fun x=>tI o x.1 x.2,false⟩
theorem zsD:Z0 aA tabs 185 (zlB o):=nu (o:=o) (η:=[]) (Γ:=⟨[(20,(zkZ o)),(228,(NS o)),(217,(oM o))],[],false,[]⟩) (X4 ⟨zsP,⟨DX,⟨kO,trivial⟩⟩⟩ trivial) func185
def zqT(_o:D')(b:kE)(c:Bs)(a:Int):Option (Int⊕Int):=
 bif decide (a<(b.length:Int))then((idx b a).bind fun d=>bif j9 d c then some (.inl (P0 (a+1)))else some (.inr a))else some (.inr a)
def qM(o:D')(a:kE)(b:Bs):Option kE:=
 (Zm o a b).bind fun d=>bif d then(some a)else((iter (zqT o a b) 0).bind fun c=>(Z6 a c).bind fun e=>(T4 a c).bind fun f=>(X0 ([]:kE) e).bind fun g=>(X0 g ([b]:kE)).bind fun h=>(X0 h f).bind fun i=>some i)
def EX(o:D'):PC:=⟨[(.h (.sl .s)),hS],[(.sl .s)],fun x=>qM o x.1 x.2,false⟩
theorem zqM:Z0 aA tabs 186 (EX o):=nu (o:=o) (η:=[(200004,.loop [] ⟨[(5,hI)],[]⟩ [0,1,4] [(some 0,⟨[(5,hI)],[]⟩)]),
 (4000006,.x7 (j7 1 3++[(.pu,5,[0]),(.la,6,[]),(.pu,8,[0]),(.pu,9,[0]),(.pu,10,[0]),(.mn,0,[]),(.mn,4,[0]),(.rv,6,[]),(.mn,7,[0]),(.mn,11,[0]),(.pu,12,[])]))]) (Γ:=⟨[(46,(YE o))],[],false,[]⟩) (X4 ⟨ZH,trivial⟩ trivial) func186
def XA(o:D')(g:Bs)(b:o9)(a:P8)(c:N8)(d:r8)(e:kD):Option ((HF×Bool×Vc)):=
 (An o (b,a,c,d,e) g).bind fun f=>bif(!f.2)then some ((([]:Bs),([]:kE),([]:kE),([]:kE),0),false,b,a,c,d,e)else((idx a f.1).bind fun h=>some (h,true,b,a,c,d,e))
def rM(o:D'):SC:=⟨⟨[(0,(.ptr 0 0)),(1,hS)],[ta]⟩,2,[(none,⟨[(0,(.h IF)),(1,hB)],[ta]⟩)],Y9 (XA o)⟩
theorem mO:P' aA tabs 156 (rM o):=ZN (o:=o) (η:=[]) (Γ:=⟨[(221,(pM o))],[],false,[]⟩) (X4 ⟨lO,trivial⟩ trivial) func156
def FX(o:D')(a:Int)(d:o9)(e:P8)(f:N8)(g:r8)(h:kD)(c:kE)(i:Bs)(j:kE)(b:kE)(k:kE)(l:Int):Option ((Int×o9×P8×N8×r8×kD×kE×HF)⊕((o9×P8×N8×r8×kD×kE))):=
 bif decide (a<(b.length:Int))then((idx b a).bind fun m=>(Zm o c m).bind fun n=>bif(!n)then((idx b a).bind fun p=>(X0 c ([p]:kE)).bind fun q=>some (.inl (P0 (a+1),d,e,f,g,h,q,i,j,b,k,l)))else some (.inl (P0 (a+1),d,e,f,g,h,c,i,j,b,k,l)))else some (.inr (d,e,f,g,h,c))
def ziJ(o:D')(b:Int)(d:o9)(e:P8)(f:N8)(g:r8)(h:kD)(c:kE):Option ((Int×o9×P8×N8×r8×kD×kE)⊕((o9×P8×N8×r8×kD×kE))):=
 bif decide (b<(c.length:Int))then((o6 (decide (0<=b)&&decide (b<(c.length:Int)))).bind fun _=>(idx c b).bind fun i=>(XA o i d e f g h).bind fun a=>(iter (fun x=>FX o x.1 x.2.1 x.2.2.1 x.2.2.2.1 x.2.2.2.2.1 x.2.2.2.2.2.1 x.2.2.2.2.2.2.1 x.2.2.2.2.2.2.2.1 x.2.2.2.2.2.2.2.2.1 x.2.2.2.2.2.2.2.2.2.1 x.2.2.2.2.2.2.2.2.2.2.1 x.2.2.2.2.2.2.2.2.2.2.2) (0,a.2.2.1,a.2.2.2.1,a.2.2.2.2.1,a.2.2.2.2.2.1,a.2.2.2.2.2.2,c,a.1)).bind fun j=>some (.inl (P0 (b+1),j)))else some (.inr (d,e,f,g,h,c))
def nO(o:D')(a:Bs)(b:o9)(c:P8)(d:N8)(e:r8)(f:kD):Option ((o9×P8×N8×r8×kD×kE)):=
 (iter (fun x=>ziJ o x.1 x.2.1 x.2.2.1 x.2.2.2.1 x.2.2.2.2.1 x.2.2.2.2.2.1 x.2.2.2.2.2.2) (0,b,c,d,e,f,([a]:kE))).bind fun g=>some g
def zjH(o:D'):SC:=⟨⟨[(0,(.ptr 0 0)),(1,hS)],[ta]⟩,1,[(none,⟨[(0,(.own 1))],[ta,.H' .s 9]⟩)],Y9 (nO o)⟩
theorem zoQ:P' aA tabs 184 (zjH o):=ZN (o:=o) (η:=[(200007,.loop [] ⟨[(0,(.ptr 0 0)),(5,(.own 1)),(7,(.ptr 2 0)),(9,hI)],[ta,.H' .s 9,Xq]⟩ [4,6] [(some 2,⟨[(0,(.ptr 0 0)),(5,(.own 1))],[ta,.H' .s 9]⟩)]),
 (200003,.loop [] ⟨[(0,(.ptr 0 0)),(5,(.own 1)),(6,hI)],[ta,.H' .s 9]⟩ [4] [(some 0,⟨[(5,(.own 1))],[ta,.H' .s 9]⟩)])]) (Γ:=⟨[(46,(YE o))],[(156,(rM o))],false,[]⟩) (X4 ⟨ZH,trivial⟩ ⟨mO,trivial⟩) func184
def OS(o:D')(j:Bs)(k:Int)(d:kE)(b:Int)(e:o9)(f:P8)(g:N8)(h:r8)(i:kD)(c:kE):Option ((kE×Int×o9×P8×N8×r8×kD×kE)⊕((kE×Vc))):=
 bif decide (b<(c.length:Int))then((o6 (decide (0<=b)&&decide (b<(c.length:Int)))).bind fun _=>(idx c b).bind fun l=>(XA o l e f g h i).bind fun a=>(Zm o a.1.2.1 j).bind fun m=>bif m then((idx a.2.2.2.1 k).bind fun n=>(qM o d n.1).bind fun p=>some (.inl (p,P0 (b+1),a.2.2.1,a.2.2.2.1,a.2.2.2.2.1,a.2.2.2.2.2.1,a.2.2.2.2.2.2,c)))else some (.inl (d,P0 (b+1),a.2.2.1,a.2.2.2.1,a.2.2.2.2.1,a.2.2.2.2.2.1,a.2.2.2.2.2.2,c)))else some (.inr (d,e,f,g,h,i))
def QS(o:D')(i:Bs)(c:kE)(a:Int)(d:o9)(b:P8)(e:N8)(f:r8)(g:kD):Option ((kE×Int×Vc)⊕((kE×Vc))):=
 bif decide (a<(b.length:Int))then((idx b a).bind fun j=>(nO o j.1 d b e f g).bind fun k=>(iter (fun x=>OS o i a x.1 x.2.1 x.2.2.1 x.2.2.2.1 x.2.2.2.2.1 x.2.2.2.2.2.1 x.2.2.2.2.2.2.1 x.2.2.2.2.2.2.2) (c,0,k)).bind fun h=>some (.inl (h.1,P0 (a+1),h.2)))else some (.inr (c,d,b,e,f,g))
def sM(o:D')(a:Bs)(b:o9)(c:P8)(d:N8)(e:r8)(f:kD):Option ((kE×Vc)):=
 (iter (fun x=>QS o a x.1 x.2.1 x.2.2.1 x.2.2.2.1 x.2.2.2.2.1 x.2.2.2.2.2.1 x.2.2.2.2.2.2) (([]:kE),0,b,c,d,e,f)).bind fun g=>some g
def GX(o:D'):SC:=⟨⟨[(0,(.ptr 0 0)),(1,hS)],[ta]⟩,1,[(none,⟨[(0,(.h (.sl .s)))],[ta]⟩)],Y9 (sM o)⟩
theorem zlA:P' aA tabs 79 (GX o):=ZN (o:=o) (η:=[(200007,.loop [] ⟨[(0,(.ptr 0 0)),(5,(.h (.sl .s))),(7,(.own 1)),(8,hI)],[ta,.H' .s 9]⟩ [1,4,6] [(some 2,⟨[(0,(.ptr 0 0)),(5,(.h (.sl .s)))],[ta]⟩)]),
 (200003,.loop [.fz 5] ⟨[(0,(.ptr 0 0)),(5,(.h (.sl .s))),(6,hI)],[ta]⟩ [1,4] [(some 0,⟨[(5,(.h (.sl .s)))],[ta]⟩)])]) (Γ:=⟨[(46,(YE o)),(186,(EX o))],[(184,(zjH o)),(156,(rM o))],false,[]⟩) (X4 ⟨ZH,⟨zqM,trivial⟩⟩ ⟨zoQ,⟨mO,trivial⟩⟩) func79
def oO(o:D')(a:Vc)(c:Bs):Option (Ua×Bool):=
 (Ez o a c).bind fun b=>bif(!b.2)then(some ((([]:Bs),([]:kE)),false))else((idx a.2.2.1 b.1).bind fun d=>some (d,true))
def pO(o:D')(g:Bs)(b:o9)(c:P8)(a:N8)(d:r8)(e:kD):Option ((Ua×Bool×Vc)):=
 (Ez o (b,c,a,d,e) g).bind fun f=>bif(!f.2)then some ((([]:Bs),([]:kE)),false,b,c,a,d,e)else((idx a f.1).bind fun h=>some (h,true,b,c,a,d,e))
def zjP(o:D'):SC:=⟨⟨[(0,(.ptr 0 0)),(1,hS)],[ta]⟩,2,[(none,⟨[(0,(.h ou)),(1,hB)],[ta]⟩)],Y9 (pO o)⟩
theorem zpZ:P' aA tabs 157 (zjP o):=ZN (o:=o) (η:=[]) (Γ:=⟨[(227,(KS o))],[],false,[]⟩) (X4 ⟨BX,trivial⟩ trivial) func157
def HX(o:D')(c:kE)(a:Int)(d:o9)(e:P8)(f:N8)(g:r8)(h:kD)(i:Bs)(j:kE)(k:kE)(l:kE)(m:Int)(n:Bs)(b:kE):Option ((kE×Int×o9×P8×N8×r8×kD×Bs×kE×kE×kE×Int×Ua)⊕((kE×o9×P8×N8×r8×kD×HF))):=
 bif decide (a<(b.length:Int))then((idx b a).bind fun p=>(qM o c p).bind fun q=>some (.inl (q,P0 (a+1),d,e,f,g,h,i,j,k,l,m,n,b)))else some (.inr (c,d,e,f,g,h,i,j,k,l,m))
def IX(o:D')(d:kE)(b:Int)(e:o9)(f:P8)(g:N8)(h:r8)(i:kD)(k:Bs)(l:kE)(m:kE)(c:kE)(n:Int):Option ((kE×Int×o9×P8×N8×r8×kD×HF)⊕((kE×Vc))):=
 bif decide (b<(c.length:Int))then((idx c b).bind fun p=>(pO o p e f g h i).bind fun a=>(iter (fun x=>HX o x.1 x.2.1 x.2.2.1 x.2.2.2.1 x.2.2.2.2.1 x.2.2.2.2.2.1 x.2.2.2.2.2.2.1 x.2.2.2.2.2.2.2.1 x.2.2.2.2.2.2.2.2.1 x.2.2.2.2.2.2.2.2.2.1 x.2.2.2.2.2.2.2.2.2.2.1 x.2.2.2.2.2.2.2.2.2.2.2.1 x.2.2.2.2.2.2.2.2.2.2.2.2.1 x.2.2.2.2.2.2.2.2.2.2.2.2.2) (d,0,a.2.2.1,a.2.2.2.1,a.2.2.2.2.1,a.2.2.2.2.2.1,a.2.2.2.2.2.2,k,l,m,c,n,a.1)).bind fun j=>some (.inl (j.1,P0 (b+1),j.2)))else some (.inr (d,e,f,g,h,i))
def JX(o:D')(c:(kE×Vc))(d:kE)(b:Int)(e:o9)(f:P8)(g:N8)(h:r8)(i:kD):Option ((kE×Int×Vc)⊕((kE×Vc))):=
 bif decide (b<(c.1.length:Int))then((idx c.1 b).bind fun k=>(XA o k e f g h i).bind fun a=>(iter (fun x=>IX o x.1 x.2.1 x.2.2.1 x.2.2.2.1 x.2.2.2.2.1 x.2.2.2.2.2.1 x.2.2.2.2.2.2.1 x.2.2.2.2.2.2.2.1 x.2.2.2.2.2.2.2.2.1 x.2.2.2.2.2.2.2.2.2.1 x.2.2.2.2.2.2.2.2.2.2.1 x.2.2.2.2.2.2.2.2.2.2.2) (d,0,a.2.2.1,a.2.2.2.1,a.2.2.2.2.1,a.2.2.2.2.2.1,a.2.2.2.2.2.2,a.1)).bind fun j=>some (.inl (j.1,P0 (b+1),j.2)))else some (.inr (d,e,f,g,h,i))
def SS(o:D')(b:Bs)(c:o9)(d:P8)(e:N8)(f:r8)(g:kD):Option ((kE×Vc)):=
 (sM o b c d e f g).bind fun a=>(iter (fun x=>JX o a x.1 x.2.1 x.2.2.1 x.2.2.2.1 x.2.2.2.2.1 x.2.2.2.2.2.1 x.2.2.2.2.2.2) (([]:kE),0,a.2)).bind fun h=>some h
def zoX(o:D'):SC:=⟨⟨[(0,(.ptr 0 0)),(1,hS)],[ta]⟩,1,[(none,⟨[(0,(.h (.sl .s)))],[ta]⟩)],Y9 (SS o)⟩
theorem ybB:P' aA tabs 80 (zoX o):=ZN (o:=o) (η:=[(200012,.loop [] ⟨[(0,(.ptr 0 0)),(6,(.h (.sl .s))),(8,(.ptr 1 0)),(11,(.ptr 2 0)),(13,hI)],[ta,Xq,.N' 49 [hS,(.h (.sl .s))]]⟩ [4,5,7,10] [(some 4,⟨[(0,(.ptr 0 0)),(6,(.h (.sl .s))),(8,(.ptr 1 0))],[ta,Xq]⟩)]),
 (200008,.loop [] ⟨[(0,(.ptr 0 0)),(6,(.h (.sl .s))),(8,(.ptr 1 0)),(10,hI)],[ta,Xq]⟩ [4,5,7] [(some 2,⟨[(0,(.ptr 0 0)),(6,(.h (.sl .s)))],[ta]⟩)]),
 (200004,.loop [.fz 6] ⟨[(0,(.ptr 0 0)),(6,(.h (.sl .s))),(7,hI)],[ta]⟩ [4,5] [(some 0,⟨[(6,(.h (.sl .s)))],[ta]⟩)])]) (Γ:=⟨[(186,(EX o))],[(79,(GX o)),(156,(rM o)),(157,(zjP o))],false,[]⟩) (X4 ⟨zqM,trivial⟩ ⟨zlA,⟨mO,⟨zpZ,trivial⟩⟩⟩) func80
def US(o:D')(a:HF)(b:HF):Option (Bool):=
 bif(a.1==b.1)then(bif(a.2.2.2.2==b.2.2.2.2)then((Wu o a.2.1 b.2.1).bind fun c=>bif c then((Wu o a.2.2.1 b.2.2.1).bind fun d=>bif d then((Wu o a.2.2.2.1 b.2.2.2.1).bind fun e=>some e)else(some false))else(some false))else(some false))else(some false)
def zlD(o:D'):PC:=⟨[(.h IF),(.h IF)],[.b],fun x=>US o x.1 x.2,false⟩
theorem zsO:Z0 aA tabs 81 (zlD o):=nu (o:=o) (η:=[]) (Γ:=⟨[(21,(TN o))],[],false,[]⟩) (X4 ⟨YR,trivial⟩ trivial) func81
def VS(o:D')(a:Ua)(b:Ua):Option (Bool):=
 bif(a.1==b.1)then((Wu o a.2 b.2).bind fun c=>some c)else(some false)
def zmE(o:D'):PC:=⟨[(.h ou),(.h ou)],[.b],fun x=>VS o x.1 x.2,false⟩
theorem ztC:Z0 aA tabs 82 (zmE o):=nu (o:=o) (η:=[]) (Γ:=⟨[(21,(TN o))],[],false,[]⟩) (X4 ⟨YR,trivial⟩ trivial) func82
def WS(o:D')(a:Ya)(b:Ya):Option (Bool):=
 bif(a.1==b.1)then(bif(a.2.1==b.2.1)then(bif(a.2.2.2.2.1==b.2.2.2.2.1)then(bif(a.2.2.2.2.2.1==b.2.2.2.2.2.1)then(bif(a.2.2.2.2.2.2.1==b.2.2.2.2.2.2.1)then(bif(a.2.2.2.2.2.2.2==b.2.2.2.2.2.2.2)then((Wu o a.2.2.1 b.2.2.1).bind fun c=>bif c then((Wu o a.2.2.2.1 b.2.2.2.1).bind fun d=>some d)else(some false))else(some false))else(some false))else(some false))else(some false))else(some false))else(some false)
def zkO(o:D'):PC:=⟨[(.h Wq),(.h Wq)],[.b],fun x=>WS o x.1 x.2,false⟩
theorem zrG:Z0 aA tabs 83 (zkO o):=nu (o:=o) (η:=[]) (Γ:=⟨[(21,(TN o))],[],false,[]⟩) (X4 ⟨YR,trivial⟩ trivial) func83
noncomputable def zoZ(_o:D')(b:o9)(c:P8)(d:N8)(e:r8)(f:kD)(g:((List (Bs×Kb))×(List (Bs×(kE×kE×kE)×Int))×(List (Bs×Ua))×(List (Bs×Ya))×kC×o9))(h:((List (Bs×Kb))×(List (Bs×(kE×kE×kE)×Int))×(List (Bs×Ua))×(List (Bs×Ya))×kC×P8))(i:((List (Bs×Kb))×(List (Bs×(kE×kE×kE)×Int))×(List (Bs×Ua))×(List (Bs×Ya))×kC×N8))(j:((List (Bs×Kb))×(List (Bs×(kE×kE×kE)×Int))×(List (Bs×Ua))×(List (Bs×Ya))×kC×r8))(a:(kD×(List (Bs×Kb))×(List (Bs×(kE×kE×kE)×Int))×(List (Bs×Ua))×(List (Bs×Ya))×kC)):Option ((Bool×o9×P8×N8×r8×kD×(List (Bs×Kb))×(List (Bs×(kE×kE×kE)×Int))×(List (Bs×Ua))×(List (Bs×Ya))×kC)⊕(o9×P8×N8×r8×kD×(List (Bs×Kb))×(List (Bs×(kE×kE×kE)×Int))×(List (Bs×Ua))×(List (Bs×Ya))×kC×o9×P8×N8×r8)):=
 bif((g.2.2.2.2.2.length:Int) != (b.length:Int))then some (.inl (false,b,c,d,e,f,a.2))else(bif((h.2.2.2.2.2.length:Int) != (c.length:Int))then some (.inl (false,b,c,d,e,f,a.2))else(bif((i.2.2.2.2.2.length:Int) != (d.length:Int))then some (.inl (false,b,c,d,e,f,a.2))else(bif((j.2.2.2.2.2.length:Int) != (e.length:Int))then some (.inl (false,b,c,d,e,f,a.2))else(bif((a.1.length:Int) != (f.length:Int))then some (.inl (false,b,c,d,e,f,a.2))else some (.inr (b,c,d,e,f,a.2.1,a.2.2.1,a.2.2.2.1,a.2.2.2.2.1,a.2.2.2.2.2,g.2.2.2.2.2,h.2.2.2.2.2,i.2.2.2.2.2,j.2.2.2.2.2))))))
noncomputable def KX(o:D')(a:Int)(g:o9)(j:P8)(k:N8)(l:r8)(m:kD)(n:List (Bs×Kb))(p:List (Bs×(kE×kE×kE)×Int))(q:List (Bs×Ua))(r:List (Bs×Ya))(s:kC)(b:o9)(t:P8)(u:N8)(v:r8):Option ((Int×o9×P8×N8×r8×kD×(List (Bs×Kb))×(List (Bs×(kE×kE×kE)×Int))×(List (Bs×Ua))×(List (Bs×Ya))×kC×o9×P8×N8×r8)⊕((Bool×o9×P8×N8×r8×kD×(List (Bs×Kb))×(List (Bs×(kE×kE×kE)×Int))×(List (Bs×Ua))×(List (Bs×Ya))×kC)⊕(o9×P8×N8×r8×kD×(List (Bs×Kb))×(List (Bs×(kE×kE×kE)×Int))×(List (Bs×Ua))×(List (Bs×Ya))×kC×P8×N8×r8))):=
 bif decide (a<(b.length:Int))then((o6 (decide (0<=a)&&decide (a<(b.length:Int)))).bind fun _=>(idx b a).bind fun h=>(idx g a).bind fun i=>let w:Bool:=(!((h.1==i.1)&&((h.2.1==i.2.1)&&((h.2.2.1==i.2.2.1)&&(decide (h.2.2.2=i.2.2.2))))))
 bif w then some (.inr (.inl (false,g,j,k,l,m,n,p,q,r,s)))else((o6 (decide (0<=a)&&decide (a<(b.length:Int)))).bind fun _=>(idx b a).bind fun y=>(o6 (decide (0<=a)&&decide (a<(b.length:Int)))).bind fun _=>(idx b a).bind fun z=>(QA o y.1 n p q r s).bind fun e=>(sM o z.1 g j k l m).bind fun c=>(Wu o e.1 c.1).bind fun A=>bif(!A)then some (.inr (.inl (false,c.2.1,c.2.2.1,c.2.2.2.1,c.2.2.2.2.1,c.2.2.2.2.2,e.2)))else((o6 (decide (0<=a)&&decide (a<(b.length:Int)))).bind fun _=>(idx b a).bind fun B=>(o6 (decide (0<=a)&&decide (a<(b.length:Int)))).bind fun _=>(idx b a).bind fun C=>(vH o B.1 e.2.1 e.2.2.1 e.2.2.2.1 e.2.2.2.2.1 e.2.2.2.2.2).bind fun f=>(SS o C.1 c.2.1 c.2.2.1 c.2.2.2.1 c.2.2.2.2.1 c.2.2.2.2.2).bind fun d=>(Wu o f.1 d.1).bind fun D=>bif(!D)then some (.inr (.inl (false,d.2.1,d.2.2.1,d.2.2.2.1,d.2.2.2.2.1,d.2.2.2.2.2,f.2)))else some (.inl (P0 (a+1),d.2.1,d.2.2.1,d.2.2.2.1,d.2.2.2.2.1,d.2.2.2.2.2,f.2.1,f.2.2.1,f.2.2.2.1,f.2.2.2.2.1,f.2.2.2.2.2,b,t,u,v)))))else some (.inr (.inr (g,j,k,l,m,n,p,q,r,s,t,u,v)))
noncomputable def LX(o:D')(a:Int)(d:o9)(b:P8)(e:N8)(f:r8)(g:kD)(h:List (Bs×Kb))(i:List (Bs×(kE×kE×kE)×Int))(j:List (Bs×Ua))(k:List (Bs×Ya))(l:kC)(c:P8)(m:N8)(n:r8):Option ((Int×o9×P8×N8×r8×kD×(List (Bs×Kb))×(List (Bs×(kE×kE×kE)×Int))×(List (Bs×Ua))×(List (Bs×Ya))×kC×P8×N8×r8)⊕((Bool×o9×P8×N8×r8×kD×(List (Bs×Kb))×(List (Bs×(kE×kE×kE)×Int))×(List (Bs×Ua))×(List (Bs×Ya))×kC)⊕(o9×P8×N8×r8×kD×(List (Bs×Kb))×(List (Bs×(kE×kE×kE)×Int))×(List (Bs×Ua))×(List (Bs×Ya))×kC×N8×r8))):=
 bif decide (a<(c.length:Int))then((o6 (decide (0<=a)&&decide (a<(c.length:Int)))).bind fun _=>(idx c a).bind fun p=>(idx b a).bind fun q=>(US o p q).bind fun r=>bif(!r)then some (.inr (.inl (false,d,b,e,f,g,h,i,j,k,l)))else some (.inl (P0 (a+1),d,b,e,f,g,h,i,j,k,l,c,m,n)))else some (.inr (.inr (d,b,e,f,g,h,i,j,k,l,m,n)))
noncomputable def MX(o:D')(a:Int)(d:o9)(e:P8)(b:N8)(f:r8)(g:kD)(h:List (Bs×Kb))(i:List (Bs×(kE×kE×kE)×Int))(j:List (Bs×Ua))(k:List (Bs×Ya))(l:kC)(c:N8)(m:r8):Option ((Int×o9×P8×N8×r8×kD×(List (Bs×Kb))×(List (Bs×(kE×kE×kE)×Int))×(List (Bs×Ua))×(List (Bs×Ya))×kC×N8×r8)⊕((Bool×o9×P8×N8×r8×kD×(List (Bs×Kb))×(List (Bs×(kE×kE×kE)×Int))×(List (Bs×Ua))×(List (Bs×Ya))×kC)⊕(o9×P8×N8×r8×kD×(List (Bs×Kb))×(List (Bs×(kE×kE×kE)×Int))×(List (Bs×Ua))×(List (Bs×Ya))×kC×r8))):=
 bif decide (a<(c.length:Int))then((o6 (decide (0<=a)&&decide (a<(c.length:Int)))).bind fun _=>(idx c a).bind fun n=>(idx b a).bind fun p=>(VS o n p).bind fun q=>bif(!q)then some (.inr (.inl (false,d,e,b,f,g,h,i,j,k,l)))else some (.inl (P0 (a+1),d,e,b,f,g,h,i,j,k,l,c,m)))else some (.inr (.inr (d,e,b,f,g,h,i,j,k,l,m)))
noncomputable def NX(o:D')(a:Int)(d:o9)(e:P8)(f:N8)(b:r8)(g:kD)(h:List (Bs×Kb))(i:List (Bs×(kE×kE×kE)×Int))(j:List (Bs×Ua))(k:List (Bs×Ya))(l:kC)(c:r8):Option ((Int×o9×P8×N8×r8×kD×(List (Bs×Kb))×(List (Bs×(kE×kE×kE)×Int))×(List (Bs×Ua))×(List (Bs×Ya))×kC×r8)⊕((Bool×o9×P8×N8×r8×kD×(List (Bs×Kb))×(List (Bs×(kE×kE×kE)×Int))×(List (Bs×Ua))×(List (Bs×Ya))×kC)⊕(o9×P8×N8×r8×kD×(List (Bs×Kb))×(List (Bs×(kE×kE×kE)×Int))×(List (Bs×Ua))×(List (Bs×Ya))×kC))):=
 bif decide (a<(c.length:Int))then((o6 (decide (0<=a)&&decide (a<(c.length:Int)))).bind fun _=>(idx c a).bind fun m=>(idx b a).bind fun n=>(WS o m n).bind fun p=>bif(!p)then some (.inr (.inl (false,d,e,f,b,g,h,i,j,k,l)))else some (.inl (P0 (a+1),d,e,f,b,g,h,i,j,k,l,c)))else some (.inr (.inr (d,e,f,b,g,h,i,j,k,l)))
noncomputable def OX(o:D')(c:(kD×(List (Bs×Kb))×(List (Bs×(kE×kE×kE)×Int))×(List (Bs×Ua))×(List (Bs×Ya))×kC))(a:Int)(d:o9)(e:P8)(f:N8)(g:r8)(b:kD)(h:List (Bs×Kb))(i:List (Bs×(kE×kE×kE)×Int))(j:List (Bs×Ua))(k:List (Bs×Ya))(l:kC):Option ((Int×o9×P8×N8×r8×kD×(List (Bs×Kb))×(List (Bs×(kE×kE×kE)×Int))×(List (Bs×Ua))×(List (Bs×Ya))×kC)⊕((Bool×o9×P8×N8×r8×kD×(List (Bs×Kb))×(List (Bs×(kE×kE×kE)×Int))×(List (Bs×Ua))×(List (Bs×Ya))×kC)⊕(o9×P8×N8×r8×kD×(List (Bs×Kb))×(List (Bs×(kE×kE×kE)×Int))×(List (Bs×Ua))×(List (Bs×Ya))×kC))):=
 bif decide (a<(c.1.length:Int))then((idx c.1 a).bind fun n=>(idx b a).bind fun p=>bif(!((n.1==p.1)&&(n.2==p.2)))then some (.inr (.inl (false,d,e,f,g,b,h,i,j,k,l)))else((idx c.1 a).bind fun q=>(idx c.1 a).bind fun r=>(XE o q.1 r.2 h i j k l).bind fun m=>bif(!m.1)then some (.inr (.inl (false,d,e,f,g,b,m.2)))else some (.inl (P0 (a+1),d,e,f,g,b,m.2))))else some (.inr (.inr (d,e,f,g,b,h,i,j,k,l)))
noncomputable def XS(o:D')(f:o9)(g:P8)(h:N8)(i:r8)(j:kD)(k:List (Bs×Kb))(l:List (Bs×(kE×kE×kE)×Int))(m:List (Bs×Ua))(n:List (Bs×Ya))(p:kC):Option ((Bool×o9×P8×N8×r8×kD×(List (Bs×Kb))×(List (Bs×(kE×kE×kE)×Int))×(List (Bs×Ua))×(List (Bs×Ya))×kC)):=
 (LR o k l m n p).bind fun a=>(IR o a.1 a.2.1 a.2.2.1 a.2.2.2.1 a.2.2.2.2.1).bind fun b=>(KR o b.1 b.2.1 b.2.2.1 b.2.2.2.1 b.2.2.2.2.1).bind fun c=>(DR o c.1 c.2.1 c.2.2.1 c.2.2.2.1 c.2.2.2.2.1).bind fun d=>(JR o d.1 d.2.1 d.2.2.1 d.2.2.2.1 d.2.2.2.2.1).bind fun e=>(zoZ o f g h i j a b c d e).bind fun q=>match q with
 |.inl r=>some r|.inr s=>((iter (fun x=>KX o x.1 x.2.1 x.2.2.1 x.2.2.2.1 x.2.2.2.2.1 x.2.2.2.2.2.1 x.2.2.2.2.2.2.1 x.2.2.2.2.2.2.2.1 x.2.2.2.2.2.2.2.2.1 x.2.2.2.2.2.2.2.2.2.1 x.2.2.2.2.2.2.2.2.2.2.1 x.2.2.2.2.2.2.2.2.2.2.2.1 x.2.2.2.2.2.2.2.2.2.2.2.2.1 x.2.2.2.2.2.2.2.2.2.2.2.2.2.1 x.2.2.2.2.2.2.2.2.2.2.2.2.2.2) (0,s)).bind fun t=>match t with
 |.inl u=>some u|.inr v=>((iter (fun x=>LX o x.1 x.2.1 x.2.2.1 x.2.2.2.1 x.2.2.2.2.1 x.2.2.2.2.2.1 x.2.2.2.2.2.2.1 x.2.2.2.2.2.2.2.1 x.2.2.2.2.2.2.2.2.1 x.2.2.2.2.2.2.2.2.2.1 x.2.2.2.2.2.2.2.2.2.2.1 x.2.2.2.2.2.2.2.2.2.2.2.1 x.2.2.2.2.2.2.2.2.2.2.2.2.1 x.2.2.2.2.2.2.2.2.2.2.2.2.2) (0,v)).bind fun w=>match w with
 |.inl y=>some y|.inr z=>((iter (fun x=>MX o x.1 x.2.1 x.2.2.1 x.2.2.2.1 x.2.2.2.2.1 x.2.2.2.2.2.1 x.2.2.2.2.2.2.1 x.2.2.2.2.2.2.2.1 x.2.2.2.2.2.2.2.2.1 x.2.2.2.2.2.2.2.2.2.1 x.2.2.2.2.2.2.2.2.2.2.1 x.2.2.2.2.2.2.2.2.2.2.2.1 x.2.2.2.2.2.2.2.2.2.2.2.2) (0,z)).bind fun A=>match A with
 |.inl B=>some B|.inr C=>((iter (fun x=>NX o x.1 x.2.1 x.2.2.1 x.2.2.2.1 x.2.2.2.2.1 x.2.2.2.2.2.1 x.2.2.2.2.2.2.1 x.2.2.2.2.2.2.2.1 x.2.2.2.2.2.2.2.2.1 x.2.2.2.2.2.2.2.2.2.1 x.2.2.2.2.2.2.2.2.2.2.1 x.2.2.2.2.2.2.2.2.2.2.2) (0,C)).bind fun D=>match D with
 |.inl E=>some E|.inr F=>((iter (fun x=>OX o e x.1 x.2.1 x.2.2.1 x.2.2.2.1 x.2.2.2.2.1 x.2.2.2.2.2.1 x.2.2.2.2.2.2.1 x.2.2.2.2.2.2.2.1 x.2.2.2.2.2.2.2.2.1 x.2.2.2.2.2.2.2.2.2.1 x.2.2.2.2.2.2.2.2.2.2) (0,F)).bind fun G=>match G with
 |.inl H=>some H|.inr I=>some (true,I))))))
abbrev Ug:X3:=.mp true .s (.pr (.pr (.sl .s) (.pr (.sl .s) (.sl .s))) (.i .i64))
noncomputable def zvY(o:D'):SC:=⟨⟨[(0,(.ptr 0 0)),(1,(.ptr 1 0))],[Pg,ta,Qg,Ug,Rg,Sg,Z']⟩,1,[(none,⟨[(0,hB)],[Pg,ta,Qg,Ug,Rg,Sg,Z']⟩)],uN10 (XS o)⟩
theorem ygV:P' aA tabs 28 (zvY o):=ZN (o:=o) (η:=[(2000004,.join [] [9] [(some 1000000,⟨[(4,hB)],[Pg,ta,Qg,Ug,Rg,Sg,Z']⟩),(none,⟨[(0,(.ptr 0 0)),(1,(.ptr 1 0)),(5,(.own 7)),(6,(.own 8)),(7,(.own 9)),(8,(.own 10))],[Pg,ta,Qg,Ug,Rg,Sg,Z',.H' Pj 77,.H' IF 57,.H' ou 49,.H' Wq 51]⟩)]),
 (200005,.loop [] ⟨[(0,(.ptr 0 0)),(1,(.ptr 1 0)),(5,(.own 7)),(6,(.own 8)),(7,(.own 9)),(8,(.own 10)),(10,hI)],[Pg,ta,Qg,Ug,Rg,Sg,Z',.H' Pj 77,.H' IF 57,.H' ou 49,.H' Wq 51]⟩ [9] [(some 1000000,⟨[(4,hB)],[Pg,ta,Qg,Ug,Rg,Sg,Z']⟩),(some 0,⟨[(0,(.ptr 0 0)),(1,(.ptr 1 0)),(6,(.own 7)),(7,(.own 8)),(8,(.own 9))],[Pg,ta,Qg,Ug,Rg,Sg,Z',.H' IF 57,.H' ou 49,.H' Wq 51]⟩)]),
 (200010,.loop [] ⟨[(0,(.ptr 0 0)),(1,(.ptr 1 0)),(6,(.own 7)),(7,(.own 8)),(8,(.own 9)),(11,hI)],[Pg,ta,Qg,Ug,Rg,Sg,Z',.H' IF 57,.H' ou 49,.H' Wq 51]⟩ [9] [(some 1000000,⟨[(4,hB)],[Pg,ta,Qg,Ug,Rg,Sg,Z']⟩),(some 2,⟨[(0,(.ptr 0 0)),(1,(.ptr 1 0)),(7,(.own 7)),(8,(.own 8))],[Pg,ta,Qg,Ug,Rg,Sg,Z',.H' ou 49,.H' Wq 51]⟩)]),
 (200015,.loop [] ⟨[(0,(.ptr 0 0)),(1,(.ptr 1 0)),(7,(.own 7)),(8,(.own 8)),(12,hI)],[Pg,ta,Qg,Ug,Rg,Sg,Z',.H' ou 49,.H' Wq 51]⟩ [9] [(some 1000000,⟨[(4,hB)],[Pg,ta,Qg,Ug,Rg,Sg,Z']⟩),(some 4,⟨[(0,(.ptr 0 0)),(1,(.ptr 1 0)),(8,(.own 7))],[Pg,ta,Qg,Ug,Rg,Sg,Z',.H' Wq 51]⟩)]),
 (200020,.loop [] ⟨[(0,(.ptr 0 0)),(1,(.ptr 1 0)),(8,(.own 7)),(13,hI)],[Pg,ta,Qg,Ug,Rg,Sg,Z',.H' Wq 51]⟩ [9] [(some 1000000,⟨[(4,hB)],[Pg,ta,Qg,Ug,Rg,Sg,Z']⟩),(some 6,⟨[(0,(.ptr 0 0)),(1,(.ptr 1 0))],[Pg,ta,Qg,Ug,Rg,Sg,Z']⟩)]),
 (200025,.loop [] ⟨[(0,(.ptr 0 0)),(1,(.ptr 1 0)),(14,hI)],[Pg,ta,Qg,Ug,Rg,Sg,Z']⟩ [9] [(some 1000000,⟨[(4,hB)],[Pg,ta,Qg,Ug,Rg,Sg,Z']⟩),(some 8,⟨[],[Pg,ta,Qg,Ug,Rg,Sg,Z']⟩)]),
 (4000007,.x7 (j7 0 19++[(.pu,20,[0,2,3,4,5,6]),(.pu,21,[0,2,3,4,5,6]),(.pu,22,[0,2,3,4,5,6]),(.pu,23,[0,2,3,4,5,6]),(.pu,24,[0,2,3,4,5,6]),(.pu,25,[0,2,3,4,5,6]),(.mn,19,[0,2,3,4,5,6]),(.mn,26,[1]),(.mn,27,[])]++j7 28 9++[(.pu,38,[0,2,3,4,5,6]),(.pu,39,[0,2,3,4,5,6]),(.pu,40,[0,2,3,4,5,6]),(.pu,41,[0,2,3,4,5,6]),(.pu,42,[0,2,3,4,5,6]),(.pu,43,[0,2,3,4,5,6]),(.mn,37,[0,2,3,4,5,6]),(.mn,44,[1]),(.mn,45,[]),(.pu,46,[]),(.pu,47,[])])),
 (4000012,.x7 (j7 0 11++[(.mn,11,[]),(.pu,12,[])])),
 (4000017,.x7 (j7 0 11++[(.mn,11,[]),(.pu,12,[])])),
 (4000022,.x7 (j7 0 11++[(.mn,11,[]),(.pu,12,[])])),
 (4000027,.x7 (j7 0 24++[(.mn,24,[0,2,3,4,5,6]),(.pu,25,[]),(.pu,26,[])]))]) (Γ:=⟨[(21,(TN o)),(81,(zlD o)),(82,(zmE o)),(83,(zkO o))],[(39,(zqP o)),(32,(zpD o)),(40,(zqV o)),(38,(znZ o)),(45,(zsG o)),(50,(CR o)),(79,(GX o)),(34,(zqQ o)),(80,(zoX o)),(56,(xS o))],false,[]⟩) (X4 ⟨YR,⟨zsO,⟨ztC,⟨zrG,trivial⟩⟩⟩⟩ ⟨zyD,⟨zxG,⟨zyL,⟨zuZ,⟨yaF,⟨tW,⟨zlA,⟨zyC,⟨ybB,⟨XW,trivial⟩⟩⟩⟩⟩⟩⟩⟩⟩⟩) func28
end
theorem Bn{l:kH}(h:Sm l)(n:Nat):ru X' l (n:Int) (0:Int)=some (oh n Fc l):=by
 unfold ru;refine Eq.trans ?_ (Kg (may:=Fc) (n:=n) (body:=nM X' l (0:Int)) h.1 (fun k a=>?_) ?_)
 ·rfl
 ·unfold nM;rw[X5 (by omega),show((0:Int)==0)=true from rfl,zF,Y6 rfl a,p',yxS (h.2 _ (bC a)),p',show((0:Int)==1)=false from rfl,zH,p']
 ·unfold nM;rw[l6 (by omega)]
theorem ywE{l:kH}(h:Sm l)(n:Nat):ru X' l (n:Int) (1:Int)=some (oh n Gy l):=by
 unfold ru;refine Eq.trans ?_ (Kg (may:=Gy) (n:=n) (body:=nM X' l (1:Int)) h.1 (fun k a=>?_) ?_)
 ·rfl
 ·unfold nM;rw[X5 (by omega),show((1:Int)==0)=false from rfl,zH,show((1:Int)==1)=true from rfl,zF,Y6 rfl a,p',Rt (h.2 _ (bC a)),p',p']
 ·unfold nM;rw[l6 (by omega)]
theorem Fz{r:Ro}(a:r.1.length<=1048576)(b:Sm r.2):AX X' r=some (Gq r):=by
 unfold AX Gq;rw[Wm a,p'];cases U6 r.1 with
 |false=>rfl|true=>rw[zF,show ru X' r.2 (16:Int) (1:Int)=_ from ywE b 16,p',cJ]
theorem KF{h c R:Type}{l:List h}{p:h->Bool}{s:c}{bad:R}{body:Int×c->Option ((Int×c)⊕(R⊕c))}(u:l.length<=1048576) (j:∀(k:Nat) (hk:k<l.length),body ((k:Int),s)=bif p l[k]then some (.inl (P0 ((k:Int)+1),s))else some (.inr (.inl bad))) (n:body ((l.length:Int),s)=some (.inr (.inr s))):
  iter body ((0:Int),s)=some (bif l.all p then .inr s else .inl bad):=by
 have key:∀(f i:Nat),f+i=l.length->∀g,f<g->X9 body g ((i:Int),s)=some (bif(l.drop i).all p then .inr s else .inl bad):=by
  intro f;induction f with
  |zero=>
   intro i e g q;obtain⟨g,rfl⟩:∃m,g=m+1:=⟨g-1,by omega⟩;have e:i=l.length:=by omega
   subst e;rw[Ba n,bT];rfl
  |succ f r=>
   intro i e g q;obtain⟨g,rfl⟩:∃m,g=m+1:=⟨g-1,by omega⟩;have a:i<l.length:=by omega
   have d:=j i a;rw[bA a,List.all_cons];cases hp:p l[i] with
   |false=>rw[hp]at d;rw[Ba (b:=.inl bad) d];rfl|true=>rw[hp,Y7 (by omega)]at d;rw[sb (s':=(((i+1:Nat):Int),s)) d,r (i+1) (by omega) g (by omega),cJ]
 have t:=key l.length 0 (by omega) FU (by unfold FU;omega)
 rwa[bQ]at t
theorem YS(b:UInt8){d:Type}(x y:Option d):(bif decide ((b.toNat:Int)<((48:UInt8).toNat:Int))then(bif decide ((b.toNat:Int)<((97:UInt8).toNat:Int))then x else(bif decide ((b.toNat:Int)>((102:UInt8).toNat:Int))then x else y))else(bif decide ((b.toNat:Int)>((57:UInt8).toNat:Int))then(bif decide ((b.toNat:Int)<((97:UInt8).toNat:Int))then x else(bif decide ((b.toNat:Int)>((102:UInt8).toNat:Int))then x else y))else y))=bif Jg b then y else x:=by
 have e:((48:UInt8).toNat:Int)=48:=rfl;have f:((97:UInt8).toNat:Int)=97:=rfl;have g:((102:UInt8).toNat:Int)=102:=rfl;have h:((57:UInt8).toNat:Int)=57:=rfl;rw[e,f,g,h];unfold Jg NQ;by_cases i:b.toNat<48
 ·rw[zA (show(b.toNat:Int)<48 by omega),zA (show(b.toNat:Int)<97 by omega),zB (show ¬48<=b.toNat by omega),zB (show ¬97<=b.toNat by omega)];rfl
 ·rw[zB (show ¬(b.toNat:Int)<48 by omega),zA (show 48<=b.toNat by omega)];by_cases a:b.toNat<=57
  ·rw[zB (show ¬(b.toNat:Int)>57 by omega),zA a];rfl
  ·rw[zA (show(b.toNat:Int)>57 by omega),zB a];by_cases j:b.toNat<97
   ·rw[zA (show(b.toNat:Int)<97 by omega),zB (show ¬97<=b.toNat by omega)];rfl
   ·rw[zB (show ¬(b.toNat:Int)<97 by omega),zA (show 97<=b.toNat by omega)];by_cases c:b.toNat<=102
    ·rw[zB (show ¬(b.toNat:Int)>102 by omega),zA c];rfl
    ·rw[zA (show(b.toNat:Int)>102 by omega),zB c];rfl
theorem LF{c:Cl}(e:c.1.length<=1048576)(f:c.2.1.length<=1048576)(g:Sm c.2.2.1)(i:Sm c.2.2.2.1):zX X' c=some (Ha c):=by
 unfold zX
 rw[show iter (fun x:Int×Cl=>yX X' x.1 x.2.1 x.2.2.1 x.2.2.2.1 x.2.2.2.2.1 x.2.2.2.2.2.1 x.2.2.2.2.2.2.1 x.2.2.2.2.2.2.2.1 x.2.2.2.2.2.2.2.2) ((0:Int),c)=_ from KF (l:=c.2.1) (p:=Jg) (s:=c) (bad:=false) f (fun k j=>by
  simp only;unfold yX;rw[X5 (by omega),Y6 rfl j];simp only[p']
  exact YS _ _ _) (by
  simp only;unfold yX
  rw[l6 (by omega)]),p']
 unfold Ha;cases d:c.2.1.all Jg with
 |false=>
  have a:(c.2.1==[])=false:=by
   cases m:c.2.1 with
   |nil=>rw[m]at d;cases d
   |cons x l=>rfl
  rw[a];simp
 |true=>
  simp only[zF];rw[Wm e,p'];cases U6 c.1 with
  |false=>rfl|true=>
   rw[zF,show ru X' c.2.2.1 (16:Int) (0:Int)=_ from Bn g 16,show ru X' c.2.2.2.1 (16:Int) (1:Int)=_ from ywE i 16];simp only[p'];have b:((c.2.1.length:Int)==64)=decide (c.2.1.length=64):=by
    by_cases h:c.2.1.length=64
    ·rw[zA h,beq_iff_eq];omega
    ·rw[zB h,beq_eq_false_iff_ne];omega
   rw[b];cases (c.2.1==[])<;>cases decide (c.2.1.length=64)<;>cases oh 16 Fc c.2.2.1<;>cases oh 16 Gy c.2.2.2.1<;>rfl
abbrev RS:Type:=kG×List Us×List u6×List Ro×List Cl
abbrev S5:Type:=(Bool×RS)⊕(Bool×RS)⊕(Bool×kG×List Us×List Ro×List Cl×List u6)⊕(Bool×kG×List Us×List u6×List Cl×List Ro)⊕(Bool×kG×List u6×List Ro×List Cl×List Us)
abbrev S6:Type:=(Bool×RS)⊕(Bool×kG×List Us×List u6×List Ro×kH×Bool×List Cl)⊕(Bool×kG×List Us×List Ro×List Cl×kH×Bool×List u6)⊕(Bool×List Us×List u6×List Ro×List Cl×kH×Bool×kG)⊕(Bool×kG×List Us×List u6×List Cl×kH×Bool×List Ro)⊕(Bool×kG×List u6×List Ro×List Cl×kH×Bool×List Us)
def insM(x:L8×L8)(l:kG):kG:=l.takeWhile (fun y=>V9 y x)++x::l.dropWhile (fun y=>V9 y x)
def ja.Jb(s:RS):ja->RS
 |.c x=>(s.1,s.2.1,s.2.2.1,s.2.2.2.1,s.2.2.2.2++[x])|.g x=>(s.1,s.2.1,s.2.2.1++[x],s.2.2.2)|.m x=>(insM x s.1,s.2)|.r x=>(s.1,s.2.1,s.2.2.1,s.2.2.2.1++[x],s.2.2.2.2)|.u x=>(s.1,s.2.1++[x],s.2.2)
theorem tM(y x:L8×L8):V9 y x=(j9 y.1 x.1||(y.1==x.1&&j9 y.2 x.2)):=by show(O' y.1 x.1||(j' y.1 x.1&&O' y.2 x.2))=_;rfl
def P1(s:PS):List Us×List u6×List Ro×List Cl×kG:=(n3 s,n1 s,X1 s,U1 s,Y1 s)
theorem ZS{γ:Type}{l:List γ}{key:γ->L8}(r:l.length<=1048576)(x:L8){body:Int->Option (Int⊕Int)} (j:∀(k:Nat) (hk:k<l.length),body (k:Int)=bif O' (key l[k]) x then some (.inl (P0 ((k:Int)+1)))else some (.inr (k:Int))) (n:body (l.length:Int)=some (.inr (l.length:Int))):
  iter body (0:Int)=some ((y7 x (l.map key):Nat):Int):=by
 have a:∀(f i:Nat),f+i=l.length->∀g,f<g->X9 body g (i:Int)=some ((i+y7 x ((l.drop i).map key):Nat):Int):=by
  intro f;induction f with
  |zero=>
   intro i e g p;obtain⟨g,rfl⟩:∃m,g=m+1:=⟨g-1,by omega⟩;have e:i=l.length:=by omega
   subst e;rw[Ba n,bT];rfl
  |succ f q=>
   intro i e g p;obtain⟨g,rfl⟩:∃m,g=m+1:=⟨g-1,by omega⟩;have c:i<l.length:=by omega
   have d:=j i c;rw[bA c,bF];unfold y7;rw[eC];cases hp:O' (key l[i]) x with
   |false=>rw[hp]at d;rw[Ba (b:=(i:Int)) d];simp|true=>rw[hp,Y7 (by omega)]at d;have:=q (i+1) (by omega) g (by omega);unfold y7 at this;rw[sb (s':=((i+1:Nat):Int)) d,this];simp only[if_true,aQ];congr 2;omega
 have h:=a l.length 0 (by omega) FU (by unfold FU;omega);rw[bQ,Nat.zero_add]at h;exact h
theorem PX{γ:Type}{l:List γ}{key:γ->L8}(a:j8 (l.map key))(x:L8):(bif decide (((y7 x (l.map key):Nat):Int)<(l.length:Int))then(aR (idx l ((y7 x (l.map key):Nat):Int)) fun v5=>some (((y7 x (l.map key):Nat):Int),(key v5==x)))else some (((y7 x (l.map key):Nat):Int),false))=some (((y7 x (l.map key):Nat):Int),(l.map key).contains x):=by
 rw[kI a (x:=x)];by_cases h:y7 x (l.map key)<l.length
 ·rw[X5 (by omega),Y6 rfl h,p',aH (show y7 x (l.map key)<(l.map key).length by rw[aE];exact h),cG]
 ·rw[l6 (by omega),cB (show(l.map key).length<=y7 x (l.map key) by rw[aE];omega)]
theorem YA{γ:Type}{es:List (L8×γ)}(h:Ri O' es):j8 (es.map (·.1)):=List.pairwise_map.2 h
theorem ZA{γ:Type}{es:List (L8×γ)}(x:L8):(es.map (·.1)).contains x=J' j' es x:=by rw[dS,bE,kS.n0,aY];exact⟨fun⟨p,hp,e⟩=>⟨p.2,by rw[<-e];exact hp⟩,fun⟨v,a⟩=>⟨_,a,rfl⟩⟩
theorem Yq{s:PS}(h:o7 s):(n3 s).map (·.1)=s.1.map (·.1):=by unfold n3;rw[cW];exact dI fun p hp=>(h.us p.1 p.2 hp).1
theorem Zq(s:PS):(n1 s).map (·.1)=s.2.1.map (·.1):=by unfold n1;rw[cW];exact dI fun p hp=>rfl
theorem dr{s:PS}(h:o7 s):(X1 s).map (·.1)=s.2.2.1.map (·.1):=by unfold X1;rw[cW];exact dI fun p hp=>(h.ro p.1 p.2 hp).1
theorem ir{s:PS}(h:o7 s):(U1 s).map (·.1)=s.2.2.2.1.map (·.1):=by unfold U1;rw[cW];exact dI fun p hp=>(h.cl p.1 p.2 hp).1
def se(s:PS):Prop:=s.1.length<=1048576/\s.2.1.length<=1048576/\s.2.2.1.length<=1048576/\s.2.2.2.1.length<=1048576/\s.2.2.2.2.length<=1048576
theorem qO{s:PS}(h:o7 s)(b:se s)(x:L8):dv X' (P1 s) x=some ((y7 x (s.1.map (·.1)):Int),J' j' s.1 x):=by
 have a:(n3 s).length<=1048576:=by unfold n3;rw[aE];exact b.1
 unfold dv
 rw[ZS (l:=n3 s) (key:=(·.1)) a x (fun k c=>by
  unfold zjO P1;simp only
  rw[X5 (by omega),Y6 rfl c,p'];rfl) (by
  unfold zjO P1;simp only
  rw[l6 (by omega)]),p']
 refine(PX (l:=n3 s) (key:=(·.1)) (by rw[Yq h];exact YA h.uR) x).trans ?_;rw[Yq h,ZA]
theorem rO{s:PS}(h:o7 s)(b:se s)(x:L8):An X' (P1 s) x=some ((y7 x (s.2.1.map (·.1)):Int),J' j' s.2.1 x):=by
 have a:(n1 s).length<=1048576:=by unfold n1;rw[aE];exact b.2.1
 unfold An
 rw[ZS (l:=n1 s) (key:=(·.1)) a x (fun k c=>by
  unfold zjF P1;simp only
  rw[X5 (by omega),Y6 rfl c,p'];rfl) (by
  unfold zjF P1;simp only
  rw[l6 (by omega)]),p']
 refine(PX (l:=n1 s) (key:=(·.1)) (by rw[Zq s];exact YA h.gR) x).trans ?_;rw[Zq s,ZA]
theorem jT{s:PS}(h:o7 s)(b:se s)(x:L8):Ez X' (P1 s) x=some ((y7 x (s.2.2.1.map (·.1)):Int),J' j' s.2.2.1 x):=by
 have a:(X1 s).length<=1048576:=by unfold X1;rw[aE];exact b.2.2.1
 unfold Ez
 rw[ZS (l:=X1 s) (key:=(·.1)) a x (fun k c=>by
  unfold zjS P1;simp only
  rw[X5 (by omega),Y6 rfl c,p'];rfl) (by
  unfold zjS P1;simp only
  rw[l6 (by omega)]),p']
 refine(PX (l:=X1 s) (key:=(·.1)) (by rw[dr h];exact YA h.rR) x).trans ?_;rw[dr h,ZA]
theorem QX{s:PS}(h:o7 s)(b:se s)(x:L8):WA X' (P1 s) x=some ((y7 x (s.2.2.2.1.map (·.1)):Int),J' j' s.2.2.2.1 x):=by
 have a:(U1 s).length<=1048576:=by unfold U1;rw[aE];exact b.2.2.2.1
 unfold WA
 rw[ZS (l:=U1 s) (key:=(·.1)) a x (fun k c=>by
  unfold ziH P1;simp only
  rw[X5 (by omega),Y6 rfl c,p'];rfl) (by
  unfold ziH P1;simp only
  rw[l6 (by omega)]),p']
 refine(PX (l:=U1 s) (key:=(·.1)) (by rw[ir h];exact YA h.cR) x).trans ?_;rw[ir h,ZA]
theorem xdC{s:PS}(h:o7 s)(a:se s){k:Nat}(hk:k<3)(x:L8):LS X' (P1 s) (k:Int) x=some (k9 k s x):=by
 unfold LS zoR
 match k,hk with
 |0,_=>rw[show(((0:Nat):Int)==0)=true from rfl,zF,qO h a,p'];show _=some (J' j' s.1 x);cases J' j' s.1 x<;>rfl
 |1,_=>rw[show(((1:Nat):Int)==0)=false from rfl,zH,show(((1:Nat):Int)==1)=true from rfl,zF,rO h a,p'];show _=some (J' j' s.2.1 x);cases J' j' s.2.1 x<;>rfl
 |2,_=>rw[show(((2:Nat):Int)==0)=false from rfl,zH,show(((2:Nat):Int)==1)=false from rfl,zH,jT h a,p'];show _=some (J' j' s.2.2.1 x);cases J' j' s.2.2.1 x<;>rfl
theorem Cn{s:PS}(h:o7 s)(a:se s){p:L8}(hp:ia p=true):tI X' (P1 s) p=some (s9 s p):=by
 have b:=IS hp;unfold tI;rw[DW (by omega),hp,p',aK,zH];obtain⟨c,l,rfl,d,_⟩:=GH hp;rw[show idx (c::58::l) (0:Int)=some c from rfl,p',show T4 (c::58::l) (2:Int)=some l from by rw[show(2:Int)=((2:Nat):Int)from rfl,Pe (by simp)];rfl];rcases d with rfl|rfl
 ·rw[show(((117:UInt8).toNat:Int)==((99:UInt8).toNat:Int))=false from rfl,zH,p',qO h a,p'];rfl
 ·rw[show(((99:UInt8).toNat:Int)==((99:UInt8).toNat:Int))=true from rfl,zF,p',QX h a,p'];rfl
theorem yuP{s:PS}(h:o7 s)(f:se s)(x:L8):(∃g,(x,g)∈s.2.1/\fv X' (P1 s) x=some ((x,g.1.1,g.1.2.1,g.1.2.2,g.2),true))∨((∀g,(x,g)∉s.2.1)/\fv X' (P1 s) x=some ((([]:L8),([]:kH),([]:kH),([]:kH),(0:Int)),false)):=by
 unfold fv;rw[rO h f,p'];simp only;cases b:J' j' s.2.1 x with
 |false=>refine .inr ⟨fun g c=>?_,rfl⟩;rw[kS.n0.2 ⟨g,c⟩]at b;cases b
 |true=>
  left;rw[aK,zH];have a:=kI (YA h.gR) (x:=x);rw[ZA,b]at a;generalize y7 x (s.2.1.map (·.1))=j at a ⊢;by_cases d:j<s.2.1.length
  ·rw[aH (show j<(s.2.1.map (·.1)).length by rw[aE];exact d),cG]at a;have e:(s.2.1[j]).1=x:=by have:=a.symm;simpa using this
   refine⟨(s.2.1[j]).2,by rw[<-e];exact bC d,?_⟩;have c:(P1 s).2.1=n1 s:=rfl;rw[c,Y6 rfl (show j<(n1 s).length by unfold n1;rw[aE];exact d),p'];unfold n1;rw[cG,e]
  ·rw[cB (by rw[aE];omega)]at a;cases a
def Dn(l:kH)(x:L8):kH:=bif l.contains x then l else l++[x]
theorem xdJ:∀(m l:kH),l.Nodup->(m.foldl Dn l).Nodup/\(∃n,m.foldl Dn l=l++n)/\∀y,y∈m.foldl Dn l↔y∈l∨y∈m
 |[],l,h=>⟨h,⟨[],by simp⟩,fun y=>by simp⟩|x::m,l,h=>by
  have c:(Dn l x).Nodup/\(∃n,Dn l x=l++n)/\∀y,y∈Dn l x↔y∈l∨y=x:=by
   unfold Dn;cases d:l.contains x with
   |true=>exact⟨h,⟨[],by simp⟩,fun y=>⟨.inl,fun f=>f.elim id fun e=>by rw[e];exact bE.1 d⟩⟩|false=>
    have g:x∉l:=fun i=>by rw[bE.2 i]at d;cases d
    exact⟨List.nodup_append.2 ⟨h,dA _ _,fun a j b k e=>g (by rw[<-aZ.1 k,<-e];exact j)⟩,⟨[x],rfl⟩,fun y=>by simp⟩
  obtain⟨i1,⟨p,i2⟩,i3⟩:=xdJ m (Dn l x) c.1;obtain⟨q,r⟩:=c.2.1;refine⟨i1,⟨q++p,by rw[dN,i2,r,aU]⟩,fun y=>?_⟩;rw[dN,i3 y,c.2.2 y,aN,or_assoc]
theorem Qj{g:u6}(c:g.2.2.1.length<=1048576):∀(f i:Nat) (l:kH),f+i=g.2.2.1.length->l.length+f<=1048576->∀n,f<n ->
  X9 (fun x:Int×kH×u6=>JF X' x.1 x.2.1 x.2.2.1 x.2.2.2.1 x.2.2.2.2.1 x.2.2.2.2.2.1 x.2.2.2.2.2.2) n ((i:Int),l,g)=some ((g.2.2.1.drop i).foldl Dn l)
 |0,i,l,b,_,n+1,_=>by
  have b:i=g.2.2.1.length:=by omega
  subst b;refine Ba ?_;simp only;unfold JF;rw[l6 (by omega),bT];rfl
 |f+1,i,l,b,d,n+1,e=>by
  have a:i<g.2.2.1.length:=by omega
  rw[bA a,dN];have hp:(Dn l g.2.2.1[i]).length<=l.length+1:=by unfold Dn;cases l.contains g.2.2.1[i]<;>simp
  rw[<-Qj c f (i+1) (Dn l g.2.2.1[i]) (by omega) (by omega) n (by omega)];refine sb ?_;simp only;unfold JF;rw[X5 (by omega),Y6 rfl a,p',oI _ _ (by omega),p',p',Y7 (by omega)];unfold Dn;cases l.contains g.2.2.1[i] with
  |true=>rfl|false=>rw[cX,zF,O7 (by simp;omega),p'];rfl
theorem jr{s:PS}(h:o7 s)(D:se s)(hf:∀k g,(k,g)∈s.2.1->j8 (Q3 1 g)/\∀y∈Q3 1 g,J' j' s.2.1 y=true)(Q:s.2.1.length<=32)(x:L8):
  T (CX X' (P1 s) x) fun l=>l.length<=33/\∀y,y∈l↔Reach s.2.1 x y:=by
 -- all that can be reached are groups, or the first one
 have cl:∀y,Reach s.2.1 x y->y=x∨J' j' s.2.1 y=true:=fun y c=>by
  induction c with
  |refl=>exact .inl rfl|step _ p c _=>exact .inr ((hf _ _ p).2 _ c)
 have v:∀l:kH,l.Nodup->(∀y∈l,Reach s.2.1 x y)->l.length<=s.2.1.length+1:=fun l B f=>by
  have:=XK B (m:=x::s.2.1.map (·.1)) fun y c=>by
   rcases cl y (f y c)with e|e
   ·rw[e];exact aO
   ·obtain⟨g,p⟩:=kS.n0.1 e;exact aM _ (aY.2 ⟨_,p,rfl⟩)
  simpa using this
 unfold CX;refine(T.iter (s:=((0:Int),([x]:kH))) (fun z:Int×kH=>∃i:Nat,z.1=(i:Int)/\i<=z.2.length/\z.2.Nodup/\x∈z.2/\(∀y∈z.2,Reach s.2.1 x y)/\∀(j:Nat) (u:j<z.2.length),j<i->∀g,(z.2[j],g)∈s.2.1->∀y∈Q3 1 g,y∈z.2) (fun z=>((s.2.1.length+2:Nat)-z.1).toNat) (fun l:kH=>l.length<=33/\∀y,y∈l↔Reach s.2.1 x y) (fun z W=>?_) ⟨0,rfl,bG _,dA _ _,aO,fun y c=>by rw[aZ.1 c];exact .refl,fun j _ u=>by omega⟩ (by simp only;omega)).bind fun l D=>T.ok D;obtain⟨i,E,F,B,H,f,I⟩:=W;obtain⟨X,l⟩:=z;have E:X=(i:Int):=E;subst E;have hb:=v l B f;simp only at F B H f I ⊢;unfold MS;rcases fK i l.length with w|Y
 ·rw[X5 (by omega),av w,p',Y6 rfl w,p']
  have step:∀g:u6,g.2.2.1.length<=1048000->(∀y∈g.2.2.1,Reach s.2.1 x y)->(∀q,(l[i],q)∈s.2.1->∀y∈Q3 1 q,y∈g.2.2.1)->∀b:Bool,fv X' (P1 s) l[i]=some (g,b)->T (aR (fv X' (P1 s) l[i]) fun Z=>aR (iter (fun x:Int×kH×u6=>JF X' x.1 x.2.1 x.2.2.1 x.2.2.2.1 x.2.2.2.2.1 x.2.2.2.2.2.1 x.2.2.2.2.2.2) ((0:Int),l,Z.1)) fun J=>(some (.inl (P0 ((i:Int)+(1:Int)),J)):Option ((Int×kH)⊕kH))) fun r=>match r with
    |.inl t=>(∃i:Nat,t.1=(i:Int)/\i<=t.2.length/\t.2.Nodup/\x∈t.2/\(∀y∈t.2,Reach s.2.1 x y)/\∀(j:Nat) (u:j<t.2.length),j<i->∀g,(t.2[j],g)∈s.2.1->∀y∈Q3 1 g,y∈t.2)/\((s.2.1.length+2:Nat)-t.1).toNat<((s.2.1.length+2:Nat)-(i:Int)).toNat|.inr l=>l.length<=33/\∀y,y∈l↔Reach s.2.1 x y:=fun g hgl K L b hG=>by
   have M:=Qj (g:=g) (by omega) g.2.2.1.length 0 l (by omega) (by omega) FU (by unfold FU;omega);rw[hG,p'];simp only;rw[show iter (fun x:Int×kH×u6=>JF X' x.1 x.2.1 x.2.2.1 x.2.2.2.1 x.2.2.2.2.1 x.2.2.2.2.2.1 x.2.2.2.2.2.2) ((0:Int),l,g)=_ from M,p',bQ,Y7 (by omega)];obtain⟨p1,⟨n,R⟩,N⟩:=xdJ g.2.2.1 l B;refine T.ok ⟨⟨i+1,rfl,?_,p1,(N x).2 (.inl H),fun y c=>?_,fun j u hji q d y c=>?_⟩,by simp only;omega⟩
   ·simp only;rw[R,aD];omega
   ·rcases(N y).1 c with c|c
    ·exact f y c
    ·exact K y c
   ·simp only at d ⊢;have A:j<l.length:=by omega
    have ej:(g.2.2.1.foldl Dn l)[j]'u=l[j]:=by
     have:(g.2.2.1.foldl Dn l)[j]? = l[j]?:=by rw[R,aF A]
     rw[aH u,aH A]at this;exact ka this
    rw[ej]at d;rw[N y];rcases fK j i with C|S
    ·exact .inl (I j A C q d y c)
    ·obtain rfl:j=i:=by omega
     exact .inr (L q d y c)
  rcases yuP h D l[i]with⟨g,p,e⟩|⟨O,e⟩
  ·refine(step (l[i],g.1.1,g.1.2.1,g.1.2.2,g.2) ?_ (fun y c=>(f _ (bC w)).step p c) (fun q d y c=>?_) true e).mono fun r f=>by cases r<;>exact f
   ·-- what a group has in it are groups
    have U:=hf _ _ p;have:=U.1.Jd (m:=s.2.1.map (·.1)) fun y c=>by obtain⟨q,d⟩:=kS.n0.1 (U.2 y c);exact aY.2 ⟨_,d,rfl⟩
    rw[aE]at this;show(Q3 1 g).length<=1048000;omega
   ·have V:=kS.get_mem h.gR d;rw[kS.get_mem h.gR p]at V;cases V;exact c
  ·exact(step _ (bG _) (fun y c=>by cases c) (fun q d=>absurd d (O q)) false e).mono fun r f=>by cases r<;>exact f
 ·have e:i=l.length:=by omega
  subst e;rw[l6 (by omega)];refine T.ok ⟨by omega,fun y=>⟨f y,fun c=>?_⟩⟩;induction c with
  |refl=>exact H|step _ p c ih=>obtain⟨j,u,rfl⟩:=List.mem_iff_getElem.1 ih;exact I j u u _ p _ c
def d0:RS:=(([]:kG),([]:List Us),([]:List u6),([]:List Ro),([]:List Cl))
theorem kr(a b:L8):∀p:L8,O' (p++a) (p++b)=O' a b
 |[]=>rfl|x::p=>by have c:=kr a b p;show j9 (x::(p++a)) (x::(p++b))=_;have d:O' (p++a) (p++b)=j9 (p++a) (p++b):=rfl;rw[d]at c;rw[<-c,bytesLess_eq,bytesLess_eq];exact decide_eq_decide.2 (by rw[List.cons_lt_cons_iff];simp)
def uc(l:kH)(x:L8):kH:=bif l.contains x then l else uj x l
theorem xdH{l:kH}{x y:L8}:y∈uc l x↔y∈l∨y=x:=by
 unfold uc;cases a:l.contains x with
 |true=>exact⟨.inl,fun h=>h.elim id fun e=>by rw[e];exact bE.1 a⟩|false=>rw[zH,ytL];exact or_comm
theorem Gz{l:kH}{x:L8}(h:j8 l):j8 (uc l x):=by
 unfold uc;cases a:l.contains x with
 |true=>exact h|false=>exact yzX h fun b=>by rw[bE.2 b]at a;cases a
theorem RX{l:kH}{x:L8}:(uc l x).length<=l.length+1:=by
 unfold uc;cases l.contains x with
 |true=>exact Nat.le_succ _|false=>rw[zH,Tt];exact aL _
theorem su{l:kH}{x:L8}(h:x∈l):uc l x=l:=by unfold uc;rw[bE.2 h];rfl
theorem Rj:∀(m l:kH),j8 l->j8 (m.foldl uc l)/\(∀y,y∈m.foldl uc l↔y∈l∨y∈m)/\(m.foldl uc l).length<=l.length+m.length
 |[],l,h=>⟨h,fun y=>by simp,by simp⟩|x::m,l,h=>by
  obtain⟨a,b,c⟩:=Rj m (uc l x) (Gz h);have:=RX (l:=l) (x:=x);refine⟨a,fun y=>?_,?_⟩
  ·rw[dN,b y,xdH,aN,or_assoc]
  ·rw[dN,aQ];omega
theorem xeA(x:L8)(l:kH):l.take (y7 x l)++[x]++l.drop (y7 x l)=uj x l:=by
 unfold uj y7
 have a:l.take (l.takeWhile fun y=>O' y x).length=l.takeWhile fun y=>O' y x:=by
  conv=>lhs;arg 2;rw[<-cP (p:=fun y=>O' y x) (l:=l)]
  exact List.take_left' rfl
 have b:l.drop (l.takeWhile fun y=>O' y x).length=l.dropWhile fun y=>O' y x:=by
  conv=>lhs;arg 2;rw[<-cP (p:=fun y=>O' y x) (l:=l)]
  exact List.drop_left' rfl
 rw[a,b,aU];rfl
theorem yxV{l:kH}(x:L8)(a:l.length<=1048576):qM X' l x=some (uc l x):=by
 have b:=kX x l;unfold qM;rw[oI _ _ a,p'];unfold uc;cases d:l.contains x with
 |true=>rfl|false=>
  rw[zH,ZS (l:=l) (key:=fun y=>y) a x (fun k c=>by
   unfold zqT
   rw[X5 (by omega),Y6 rfl c,p'];rfl) (by
   unfold zqT
   rw[l6 (by omega)]),p',List.map_id']
  rw[lN b,p',Pe b,p',mh _ (by rw[bX];omega),p',O7 (by rw[bX];simp;omega),p',O7 (by rw[aD,bX,List.length_drop];simp;omega),xeA];rfl
theorem Hz{G:GM}{u n y:L8}(h:Reach G n y):sf G u y->sf G u n:=by
 induction h with
 |refl=>exact id|step _ a b c=>exact fun d=>c (.sub a b d)
theorem Iz{G:GM}{u n:L8}(h:sf G u n):∃y g,Reach G n y/\(y,g)∈G/\u∈Q3 0 g:=by
 induction h with
 |dir a b=>exact⟨_,_,.refl,a,b⟩|sub a c _ d=>obtain⟨y,g,e,f,i⟩:=d;exact⟨y,g,(Reach.step .refl a c).trans e,f,i⟩
theorem ywS{s:PS}(h:o7 s)(a:se s)(x:L8):∃(g:u6) (b:Bool),fv X' (P1 s) x=some (g,b)/\g.2.1=Q3 0 (r6 j' s.2.1 x zG)/\g.2.2.1=Q3 1 (r6 j' s.2.1 x zG)/\g.2.2.2.1=Q3 2 (r6 j' s.2.1 x zG):=by
 rcases yuP h a x with⟨g,c,e⟩|⟨d,e⟩
 ·refine⟨_,_,e,?_⟩;rw[pb,kS.get_mem h.gR c];exact⟨rfl,rfl,rfl⟩
 ·refine⟨_,_,e,?_⟩;rw[pb,kS.Qm d];exact⟨rfl,rfl,rfl⟩
theorem tu{s:PS}(h:o7 s)(g:se s)(x:L8):∃(r:Ro) (b:Bool),oO X' (P1 s) x=some (r,b)/\r.2=(r6 j' s.2.2.1 x zR).2:=by
 unfold oO;rw[jT h g,p'];simp only;cases c:J' j' s.2.2.1 x with
 |false=>
  rw[kc]at c;rw[pb];cases d:W0 j' s.2.2.1 x with
  |none=>exact⟨_,_,rfl,rfl⟩|some r=>rw[d]at c;cases c
 |true=>
  rw[aK,zH];have a:=kI (YA h.rR) (x:=x);rw[ZA,c]at a;generalize y7 x (s.2.2.1.map (·.1))=j at a ⊢;by_cases f:j<s.2.2.1.length
  ·rw[aH (show j<(s.2.2.1.map (·.1)).length by rw[aE];exact f),cG]at a;have e:(s.2.2.1[j]).1=x:=by have:=a.symm;simpa using this
   have i:(x,(s.2.2.1[j]).2)∈s.2.2.1:=by rw[<-e];exact bC f
   have d:(P1 s).2.2.1=X1 s:=rfl;rw[d,Y6 rfl (show j<(X1 s).length by unfold X1;rw[aE];exact f),p'];refine⟨_,_,rfl,?_⟩;rw[pb,kS.get_mem h.rR i];unfold X1;rw[cG];rfl
  ·rw[cB (by rw[aE];omega)]at a;cases a
theorem ytY(n a:L8)(l:kH):y7 n (a::l)=bif O' a n then y7 n l+1 else 0:=by unfold y7;rw[eC];cases O' a n<;>rfl
theorem lr{γ:Type}(n:L8)(v:γ):∀{es:List (L8×γ)},Ri O' es->J' j' es n=true->Z9 j' es n v=es.take (y7 n (es.map (·.1)))++(n,v)::es.drop (y7 n (es.map (·.1))+1)
 |[],_,h=>by cases h
 |(k,w)::m,c,h=>by
  have a:=bD.1 c;rw[bF,ytY];unfold Z9;unfold J' at h;cases b:j' k n with
  |true=>have e:k=n:=kS.e.1 b;subst e;rw[show O' k k=false from kS.Vu];rfl|false=>rw[b,dB]at h;obtain⟨x,d⟩:=kS.n0.1 h;rw[show O' k n=true from a.1 _ d,zH,lr n v a.2 h];rfl
theorem mr{γ:Type}(n:L8)(v:γ):∀(es:List (L8×γ)),ab O' es n v=es.take (y7 n (es.map (·.1)))++(n,v)::es.drop (y7 n (es.map (·.1)))
 |[]=>rfl|(k,w)::m=>by
  rw[bF,ytY];unfold ab;cases O' k n with
  |true=>rw[zF,mr n v m];rfl|false=>rfl
theorem MF{γ:Type}(n:L8)(v:γ){es:List (L8×γ)}(h:Ri O' es):Y0 j' O' es n v=es.take (y7 n (es.map (·.1)))++(n,v)::es.drop (bif J' j' es n then y7 n (es.map (·.1))+1 else y7 n (es.map (·.1))):=by
 unfold Y0;cases a:J' j' es n with
 |true=>exact lr n v h a|false=>exact mr n v es
theorem rr{γ:Type}(n:L8):∀{es:List (L8×γ)},Ri O' es->J' j' es n=true->l5 j' es n=es.take (y7 n (es.map (·.1)))++es.drop (y7 n (es.map (·.1))+1)
 |[],_,h=>by cases h
 |(k,w)::m,c,h=>by
  have a:=bD.1 c;rw[bF,ytY];unfold l5;unfold J' at h;cases b:j' k n with
  |true=>have e:k=n:=kS.e.1 b;subst e;rw[show O' k k=false from kS.Vu];rfl|false=>rw[b,dB]at h;obtain⟨x,d⟩:=kS.n0.1 h;rw[show O' k n=true from a.1 _ d,zH,rr n a.2 h];rfl
theorem NF{γ:Type}{n:L8}{es:List (L8×γ)}(h:Ri O' es)(b:J' j' es n=true):y7 n (es.map (·.1))<es.length:=by have a:=kI (YA h) (x:=n);rw[ZA,b]at a;refine Nat.lt_of_not_le fun c=>?_;rw[cB (by rw[aE];exact c)]at a;cases a
theorem lT{γ:Type}(n:L8)(es:List (L8×γ)):y7 n (es.map (·.1))<=es.length:=by
 have:=kX n (es.map (·.1))
 rwa[aE]at this
abbrev uI:Type:=List Us×List u6×List Ro×List Cl×kG
theorem ytN{d τ β γ:Type}{c:d->Option (d⊕β)}{e:τ->Option (τ⊕γ)}(F:d->τ)(G:β->γ)(h:∀a,e (F a)=(c a).map (Sum.map F G)):∀(n:Nat) (a:d),X9 e n (F a)=(X9 c n a).map G
 |0,_=>rfl|n+1,a=>by
  show jn (e (F a)) (X9 e n) some=Option.map G (jn (c a) (X9 c n) some);rw[h a];cases c a with
  |none=>rfl|some r=>cases r with
   |inl s=>exact ytN F G h n s|inr b=>rfl
theorem uM{s:PS}(x:L8):XA X' x (n3 s) (n1 s) (X1 s) (U1 s) (Y1 s)=(fv X' (P1 s) x).map fun r=>(r.1,r.2,P1 s):=by
 unfold XA fv P1;cases An X' (n3 s,n1 s,X1 s,U1 s,Y1 s) x with
 |none=>rfl|some v=>
  rw[p',p'];cases v.2 with
  |false=>rfl|true=>simp only[aK,zH];cases idx (n1 s) v.1<;>rfl
theorem ur{s:PS}(x:L8):pO X' x (n3 s) (n1 s) (X1 s) (U1 s) (Y1 s)=(oO X' (P1 s) x).map fun r=>(r.1,r.2,P1 s):=by
 unfold pO oO P1;cases Ez X' (n3 s,n1 s,X1 s,U1 s,Y1 s) x with
 |none=>rfl|some v=>
  rw[p',p'];cases v.2 with
  |false=>rfl|true=>simp only[aK,zH];cases idx (X1 s) v.1<;>rfl
theorem Sj{s:PS}(x:L8):nO X' x (n3 s) (n1 s) (X1 s) (U1 s) (Y1 s)=(CX X' (P1 s) x).map fun l=>(n3 s,n1 s,X1 s,U1 s,Y1 s,l):=by
 have inner:∀(l:kH) (g:u6),iter (fun x:Int×List Us×List u6×List Ro×List Cl×kG×kH×u6=>FX X' x.1 x.2.1 x.2.2.1 x.2.2.2.1 x.2.2.2.2.1 x.2.2.2.2.2.1 x.2.2.2.2.2.2.1 x.2.2.2.2.2.2.2.1 x.2.2.2.2.2.2.2.2.1 x.2.2.2.2.2.2.2.2.2.1 x.2.2.2.2.2.2.2.2.2.2.1 x.2.2.2.2.2.2.2.2.2.2.2) ((0:Int),n3 s,n1 s,X1 s,U1 s,Y1 s,l,g)=(iter (fun x:Int×kH×u6=>JF X' x.1 x.2.1 x.2.2.1 x.2.2.2.1 x.2.2.2.2.1 x.2.2.2.2.2.1 x.2.2.2.2.2.2) ((0:Int),l,g)).map fun l=>(n3 s,n1 s,X1 s,U1 s,Y1 s,l):=fun l g=>by
  refine ytN (fun z:Int×kH×u6=>(z.1,n3 s,n1 s,X1 s,U1 s,Y1 s,z.2)) (fun l=>(n3 s,n1 s,X1 s,U1 s,Y1 s,l)) (fun z=>?_) FU ((0:Int),l,g);obtain⟨k,l,n,u,b,r,v⟩:=z;simp only;unfold FX JF;cases decide (k<(b.length:Int)) with
  |false=>rfl|true=>
   rw[zF,zF];cases idx b k with
   |none=>rfl|some y=>
    simp only[p'];cases Zm X' l y with
    |none=>rfl|some c=>
     simp only[p'];cases c with
     |true=>rfl|false=>simp only[cX,zF];cases X0 l [y]<;>rfl
 unfold nO CX
 have e:iter (fun x:Int×List Us×List u6×List Ro×List Cl×kG×kH=>ziJ X' x.1 x.2.1 x.2.2.1 x.2.2.2.1 x.2.2.2.2.1 x.2.2.2.2.2.1 x.2.2.2.2.2.2) ((0:Int),n3 s,n1 s,X1 s,U1 s,Y1 s,[x])=(iter (fun x:Int×kH=>MS X' (P1 s) x.1 x.2) ((0:Int),[x])).map fun l=>(n3 s,n1 s,X1 s,U1 s,Y1 s,l):=by
  refine ytN (fun z:Int×kH=>(z.1,n3 s,n1 s,X1 s,U1 s,Y1 s,z.2)) (fun l=>(n3 s,n1 s,X1 s,U1 s,Y1 s,l)) (fun z=>?_) FU ((0:Int),[x]);obtain⟨k,l⟩:=z;simp only;unfold ziJ MS;cases decide (k<(l.length:Int)) with
  |false=>rfl|true=>
   rw[zF,zF];cases o6 (decide ((0:Int)<=k)&&true) with
   |none=>rfl|some _=>
    rw[p',p'];cases idx l k with
    |none=>rfl|some y=>
     rw[p',p',uM];cases fv X' (P1 s) y with
     |none=>rfl|some g=>rw[aX,p',p'];simp only;rw[show iter (fun x:Int×List Us×List u6×List Ro×List Cl×kG×kH×u6=>FX X' x.1 x.2.1 x.2.2.1 x.2.2.2.1 x.2.2.2.2.1 x.2.2.2.2.2.1 x.2.2.2.2.2.2.1 x.2.2.2.2.2.2.2.1 x.2.2.2.2.2.2.2.2.1 x.2.2.2.2.2.2.2.2.2.1 x.2.2.2.2.2.2.2.2.2.2.1 x.2.2.2.2.2.2.2.2.2.2.2) ((0:Int),(P1 s).1,(P1 s).2.1,(P1 s).2.2.1,(P1 s).2.2.2.1,(P1 s).2.2.2.2,l,g.1)=_ from inner l g.1];cases iter (fun x:Int×kH×u6=>JF X' x.1 x.2.1 x.2.2.1 x.2.2.2.1 x.2.2.2.2.1 x.2.2.2.2.2.1 x.2.2.2.2.2.2) ((0:Int),l,g.1)<;>rfl
 rw[show iter _ ((0:Int),n3 s,n1 s,X1 s,U1 s,Y1 s,[x])=_ from e];cases iter (fun x:Int×kH=>MS X' (P1 s) x.1 x.2) ((0:Int),[x])<;>rfl
theorem vM{s:PS}(h:o7 s){i:Nat}(a:i<3)(x:L8):(Q3 i (r6 j' s.2.1 x zG)).length<=1048576:=by
 rw[pb];cases b:W0 j' s.2.1 x with
 |none=>
  match i,a with
  |0,_=>exact bG _|1,_=>exact bG _|2,_=>exact bG _
 |some g=>exact h.sz x g (kS.get_some b) i a
theorem Jz{s:PS}{i:Nat}(b:i<s.2.1.length)(a:i<(n1 s).length):((n1 s)[i]'a).1=(s.2.1[i]).1:=by
 have h:(n1 s)[i]? = (s.2.1[i]?).map fun p=>(p.1,p.2.1.1,p.2.1.2.1,p.2.1.2.2,p.2.2):=by unfold n1;rw[List.getElem?_map]
 rw[aH a,aH b]at h;rw[ka h]
def OF(G:GM)(u y:L8):Bool:=(Q3 0 (r6 j' G y zG)).contains u
theorem En{s:PS}(h:o7 s)(m:se s){i:Nat}(p:i<s.2.1.length)(u:L8){bl:kH}(t:bl.length<=1048576):∀(f k:Nat) (a:kH),f+k=bl.length->a.length+f<=1048576->∀n,f<n ->
  X9 (fun x:kH×Int×List Us×List u6×List Ro×List Cl×kG×kH=>OS X' u (i:Int) x.1 x.2.1 x.2.2.1 x.2.2.2.1 x.2.2.2.2.1 x.2.2.2.2.2.1 x.2.2.2.2.2.2.1 x.2.2.2.2.2.2.2) n (a,(k:Int),n3 s,n1 s,X1 s,U1 s,Y1 s,bl)=some (bif(bl.drop k).any (OF s.2.1 u)then uc a (s.2.1[i]).1 else a,P1 s)
 |0,k,a,q,_,n+1,_=>by
  have q:k=bl.length:=by omega
  subst q;refine Ba ?_;simp only;unfold OS;rw[l6 (by omega),bT];rfl
 |f+1,k,a,q,y,n+1,z=>by
  have c:k<bl.length:=by omega
  have d:i<(n1 s).length:=by unfold n1;rw[aE];exact p
  have r:((n1 s)[i]'d).1=(s.2.1[i]).1:=Jz (by omega) d;obtain⟨g,b,e,j,_,_⟩:=ywS h m bl[k];have v:=vM h (i:=0) (by decide) bl[k];rw[bA c,List.any_cons];have A:(uc a (s.2.1[i]).1).length<=a.length+1:=RX;cases w:OF s.2.1 u bl[k] with
  |true=>
   have l:=En h m p u t f (k+1) (uc a (s.2.1[i]).1) (by omega) (by omega) n (by omega);rw[su (xdH.2 (.inr rfl))]at l;rw[Bool.true_or,zF];refine(sb ?_).trans (l.trans ?_)
   ·simp only;unfold OS;rw[X5 (by omega),av c,p',Y6 rfl c,p',uM,e,aX,p'];simp only;rw[oI _ _ (by rw[j];exact v),p',j,show(Q3 0 (r6 j' s.2.1 bl[k] zG)).contains u=true from w,zF,show(P1 s).2.1=n1 s from rfl,Y6 rfl d,p',r,yxV _ (by omega),p',Y7 (by omega)];rfl
   ·cases (bl.drop (k+1)).any (OF s.2.1 u)<;>rfl
  |false=>have l:=En h m p u t f (k+1) a (by omega) (by omega) n (by omega);rw[dB];refine(sb ?_).trans l;simp only;unfold OS;rw[X5 (by omega),av c,p',Y6 rfl c,p',uM,e,aX,p'];simp only;rw[oI _ _ (by rw[j];exact v),p',j,show(Q3 0 (r6 j' s.2.1 bl[k] zG)).contains u=false from w,zH,Y7 (by omega)];rfl
theorem Tj{s:PS}(w:Vq s):se s:=by have:=w.uL;have:=w.gL;have:=w.rL;have:=w.cL;have:=w.mL;exact⟨by omega,by omega,by omega,by omega,by omega⟩
open Classical in
theorem PF{s:PS}(h:o7 s){u n:L8}{l:kH}(c:∀y,y∈l↔Reach s.2.1 n y):l.any (OF s.2.1 u)=decide (sf s.2.1 u n):=by
 rw[dS,List.any_eq_true,decide_eq_true_iff];constructor
 ·rintro⟨y,d,a⟩;have a:u∈Q3 0 (r6 j' s.2.1 y zG):=bE.1 a;rw[pb]at a;cases b:W0 j' s.2.1 y with
  |none=>rw[b]at a;cases a
  |some g=>rw[b]at a;exact Hz ((c y).1 d) (.dir (kS.get_some b) a)
 ·intro e;obtain⟨y,g,f,i,j⟩:=Iz e;refine⟨y,(c y).2 f,bE.2 ?_⟩;rw[pb,kS.get_mem h.gR i];exact j
open Classical in
theorem Kz{s:PS}(h:o7 s)(w:Vq s)(u:L8):sM X' u (n3 s) (n1 s) (X1 s) (U1 s) (Y1 s)=some (Y8 s.2.1 u,P1 s):=by
 have v:=Tj w;have e:=w.gL;have key:∀(f i:Nat) (a:kH),f+i=s.2.1.length->a.length+f<=1024->∀n,f<n ->
   X9 (fun x:kH×Int×uI=>QS X' u x.1 x.2.1 x.2.2.1 x.2.2.2.1 x.2.2.2.2.1 x.2.2.2.2.2.1 x.2.2.2.2.2.2) n (a,(i:Int),P1 s)=some ((((s.2.1.map (·.1)).drop i).filter fun n=>decide (sf s.2.1 u n)).foldl uc a,P1 s):=by
  intro f;induction f with
  |zero=>
   intro i a j _ n A;obtain⟨n,rfl⟩:∃m,n=m+1:=⟨n-1,by omega⟩;have j:i=s.2.1.length:=by omega
   subst j;refine Ba ?_;unfold QS;simp only;rw[show(P1 s).2.1=n1 s from rfl,l6 (by unfold n1;rw[aE];omega),List.drop_eq_nil_of_le (by rw[aE];omega)];rfl
  |succ f y=>
   intro i a j F n A;obtain⟨n,rfl⟩:∃m,n=m+1:=⟨n-1,by omega⟩;have b:i<s.2.1.length:=by omega
   have c:i<(n1 s).length:=by unfold n1;rw[aE];exact b
   have p:i<(s.2.1.map (·.1)).length:=by rw[aE];exact b
   have q:((n1 s)[i]'c).1=(s.2.1[i]).1:=Jz (by omega) c;have H:(uc a (s.2.1[i]).1).length<=a.length+1:=RX;obtain⟨l,B,I,C⟩:=jr h v (fun k g r=>w.gl k g r 1 (by decide)) e (s.2.1[i]).1;have d:=En h v b u (bl:=l) (by omega) l.length 0 a (by omega) (by omega) FU (by unfold FU;omega);rw[bQ,PF h C]at d;rw[bA p,cG,List.filter_cons];have step:QS X' u a (i:Int) (n3 s) (n1 s) (X1 s) (U1 s) (Y1 s)=some (.inl (bif decide (sf s.2.1 u (s.2.1[i]).1)then uc a (s.2.1[i]).1 else a,((i+1:Nat):Int),P1 s)):=by unfold QS;rw[X5 (by omega),Y6 rfl c,p',q,Sj,B,aX,p'];rw[show iter _ (a,(0:Int),n3 s,n1 s,X1 s,U1 s,Y1 s,l)=_ from d,p',Y7 (by omega)]
   refine(sb step).trans ?_;by_cases z:sf s.2.1 u (s.2.1[i]).1
   ·rw[zA z,zJ rfl,dN];exact y (i+1) (uc a (s.2.1[i]).1) (by omega) (by omega) n (by omega)
   ·rw[zB z,zI (by simp)];exact y (i+1) a (by omega) (by omega) n (by omega)
 unfold sM;rw[show iter _ (([]:kH),(0:Int),n3 s,n1 s,X1 s,U1 s,Y1 s)=_ from key s.2.1.length 0 [] (by omega) (by simp;omega) FU (by unfold FU;omega),p',bQ];have t:((s.2.1.map (·.1)).filter fun n=>decide (sf s.2.1 u n))=Y8 s.2.1 u:=rfl;rw[t];obtain⟨D,E,_⟩:=Rj (Y8 s.2.1 u) [] List.Pairwise.nil;rw[D.ext (tn h.gR u) fun x=>by rw[E x];simp]
theorem Gn{l:kH}(q:l.Pairwise fun a b=>De a b=true):j8 (Lib.compact l):=by
 have g:∀(j:Nat) (f:j<l.length),l.toArray[j]! = l[j]:=fun j f=>by rw[getElem!_pos l.toArray j (by simpa using f)];simp
 have c:∀{a b:L8},De a b=true->a≠b->O' a b=true:=fun {a b} h u=>kS.xH (show O' b a=false by
  unfold De at h;show j9 b a=false;cases v:j9 b a with
  |false=>rfl|true=>rw[v]at h;cases h) (Ne.symm u)
 have key:∀m,m<=l.length->j8 (Lib.compactUpTo l.toArray m)/\∀x∈Lib.compactUpTo l.toArray m,∃(j:Nat) (f:j<l.length),j<m/\l[j]=x:=by
  intro m;induction m with
  |zero=>intro _;exact⟨List.Pairwise.nil,fun x d=>by cases d⟩|succ m w=>
   intro B;obtain⟨r,k⟩:=w (by omega);rw[Lib.compactUpTo_succ];cases s:Lib.keeps l.toArray m with
   |false=>
    rw[zI (by simp),List.append_nil]
    exact⟨r,fun x d=>by
     obtain⟨j,f,i,e⟩:=k x d
     exact⟨j,f,by omega,e⟩⟩
   |true=>
    rw[zJ rfl,g m (by omega)];refine⟨List.pairwise_append.2 ⟨r,dA _ _,fun x d y z=>?_⟩,fun x d=>?_⟩
    ·rw[aZ.1 z];obtain⟨j,f,i,rfl⟩:=k x d;have n:l[m-1]≠l[m]:=fun e=>by have:Lib.keeps l.toArray m=false:=Lib.keeps_neg (by omega) (by rw[g m (by omega),g (m-1) (by omega)];exact e.symm);rw[this]at s;cases s
     have t:O' l[m-1] l[m]=true:=c (dD.1 q _ _ (by omega) (by omega) (by omega)) n;by_cases p:l[j]=l[m-1]
     ·rw[p];exact t
     ·have A:j≠m-1:=fun e=>by subst e;exact p rfl
      exact kS.tr (c (dD.1 q _ _ (by omega) (by omega) (by omega)) p) t
    ·rcases List.mem_append.1 d with d|d
     ·obtain⟨j,f,i,e⟩:=k x d;exact⟨j,f,by omega,e⟩
     ·rw[aZ.1 d];exact⟨m,by omega,by omega,rfl⟩
 exact(key l.length (aL _)).1
theorem Uj(s:PS)(u:L8):j8 (GF s u):=Gn (WD yV AV _)
theorem QF(s:PS)(u:L8):((Y8 s.2.1 u).flatMap (O9 s)).foldl uc []=GF s u:=by obtain⟨a,b,_⟩:=Rj ((Y8 s.2.1 u).flatMap (O9 s)) [] List.Pairwise.nil;refine a.ext (Uj s u) fun x=>?_;rw[b x];unfold GF;rw[yuY];have c:x∈Mi ((Y8 s.2.1 u).flatMap (O9 s))↔x∈(Y8 s.2.1 u).flatMap (O9 s):=(jh De _).mem_iff;rw[c];simp
theorem Mz{s:PS}{g:u6}{r:Ro}(d:r.2.length<=1048576):∀(f j:Nat) (a:kH),f+j=r.2.length->a.length+f<=1048576->∀n,f<n ->
  X9 (fun x:kH×Int×List Us×List u6×List Ro×List Cl×kG×L8×kH×kH×kH×Int×Ro=>HX X' x.1 x.2.1 x.2.2.1 x.2.2.2.1 x.2.2.2.2.1 x.2.2.2.2.2.1 x.2.2.2.2.2.2.1 x.2.2.2.2.2.2.2.1 x.2.2.2.2.2.2.2.2.1 x.2.2.2.2.2.2.2.2.2.1 x.2.2.2.2.2.2.2.2.2.2.1 x.2.2.2.2.2.2.2.2.2.2.2.1 x.2.2.2.2.2.2.2.2.2.2.2.2.1 x.2.2.2.2.2.2.2.2.2.2.2.2.2) n (a,(j:Int),n3 s,n1 s,X1 s,U1 s,Y1 s,g.1,g.2.1,g.2.2.1,g.2.2.2.1,g.2.2.2.2,r)=some ((r.2.drop j).foldl uc a,n3 s,n1 s,X1 s,U1 s,Y1 s,g)
 |0,j,a,c,_,n+1,_=>by
  have c:j=r.2.length:=by omega
  subst c;refine Ba ?_;simp only;unfold HX;rw[l6 (by omega),bT];rfl
 |f+1,j,a,c,e,n+1,h=>by
  have b:j<r.2.length:=by omega
  have i:(uc a r.2[j]).length<=a.length+1:=RX;rw[bA b,dN];refine(sb ?_).trans (Mz d f (j+1) _ (by omega) (by omega) n (by omega));simp only;unfold HX;rw[X5 (by omega),Y6 rfl b,p',yxV _ (by omega),p',Y7 (by omega)]
theorem vr{s:PS}(h:o7 s)(p:se s){g:u6}(i:g.2.2.2.1.length<=1048576)(q:∀k,(r6 j' s.2.2.1 k zR).2.length<=16):∀(f k:Nat) (a:kH),j8 a->f+k=g.2.2.2.1.length->a.length+16*f<=1048576->∀n,f<n ->
  X9 (fun x:kH×Int×List Us×List u6×List Ro×List Cl×kG×u6=>IX X' x.1 x.2.1 x.2.2.1 x.2.2.2.1 x.2.2.2.2.1 x.2.2.2.2.2.1 x.2.2.2.2.2.2.1 x.2.2.2.2.2.2.2.1 x.2.2.2.2.2.2.2.2.1 x.2.2.2.2.2.2.2.2.2.1 x.2.2.2.2.2.2.2.2.2.2.1 x.2.2.2.2.2.2.2.2.2.2.2) n (a,(k:Int),n3 s,n1 s,X1 s,U1 s,Y1 s,g)=some (((g.2.2.2.1.drop k).flatMap fun r=>(r6 j' s.2.2.1 r zR).2).foldl uc a,P1 s)
 |0,k,a,_,j,_,n+1,_=>by
  have j:k=g.2.2.2.1.length:=by omega
  subst j;refine Ba ?_;simp only;unfold IX;rw[l6 (by omega),bT];rfl
 |f+1,k,a,l,j,v,n+1,w=>by
  have c:k<g.2.2.2.1.length:=by omega
  have m:=q g.2.2.2.1[k];obtain⟨r,b,e,t⟩:=tu h p g.2.2.2.1[k];rw[<-t]at m;obtain⟨u,y,z⟩:=Rj r.2 a l;rw[bA c,cO,jN,<-t];refine(sb ?_).trans (vr h p i q f (k+1) _ u (by omega) (by omega) n (by omega));simp only;unfold IX;rw[X5 (by omega),Y6 rfl c,p',ur,e,aX,p'];simp only;have d:=Mz (s:=s) (g:=g) (r:=r) (by omega) r.2.length 0 a (by omega) (by omega) FU (by unfold FU;omega);rw[bQ]at d;rw[show iter _ (a,(0:Int),(P1 s).1,(P1 s).2.1,(P1 s).2.2.1,(P1 s).2.2.2.1,(P1 s).2.2.2.2,g.1,g.2.1,g.2.2.1,g.2.2.2.1,g.2.2.2.2,r)=_ from d,p',Y7 (by omega)]
theorem Nz{s:PS}(h:o7 s)(w:Vq s)(u:L8):SS X' u (n3 s) (n1 s) (X1 s) (U1 s) (Y1 s)=some (GF s u,P1 s):=by
 have y:=Tj w;have B:=h.inv w
 have z:∀k,(r6 j' s.2.2.1 k zR).2.length<=16:=fun k=>by
  rw[pb];cases d:W0 j' s.2.2.1 k with
  |none=>exact bG _|some r=>exact UL (h.ro k r (kS.get_some d)).2
 have d:∀n,(Q3 2 (r6 j' s.2.1 n zG)).length<=64:=fun n=>by
  rw[pb];cases d:W0 j' s.2.1 n with
  |none=>exact bG _|some g=>exact B.Z4 (kS.get_some d) (by decide)
 have t:∀n,(O9 s n).length<=1024:=fun n=>by
  have:∀l:kH,(l.flatMap fun r=>(r6 j' s.2.2.1 r zR).2).length<=16*l.length:=by
   intro l;induction l with
   |nil=>exact bG _|cons a l A=>have:=z a;rw[cO,aD,aQ];omega
  have F:=this (Q3 2 (r6 j' s.2.1 n zG));have H:=d n;unfold O9;omega
 have C:(Y8 s.2.1 u).length<=32:=by unfold Y8;exact bB (fZ _ _) (by rw[aE];exact w.gL)
 have key:∀(f i:Nat) (c:kH),j8 c->f+i=(Y8 s.2.1 u).length->c.length+1024*f<=65536->∀n,f<n ->
   X9 (fun x:kH×Int×uI=>JX X' (Y8 s.2.1 u,P1 s) x.1 x.2.1 x.2.2.1 x.2.2.2.1 x.2.2.2.2.1 x.2.2.2.2.2.1 x.2.2.2.2.2.2) n (c,(i:Int),P1 s)=some ((((Y8 s.2.1 u).drop i).flatMap (O9 s)).foldl uc c,P1 s):=by
  intro f;induction f with
  |zero=>
   intro i c _ v _ n D;obtain⟨n,rfl⟩:∃m,n=m+1:=⟨n-1,by omega⟩;have v:i=(Y8 s.2.1 u).length:=by omega
   subst v;refine Ba ?_;unfold JX;simp only;rw[l6 (by omega),bT];rfl
  |succ f A=>
   intro i c j v I n D;obtain⟨n,rfl⟩:∃m,n=m+1:=⟨n-1,by omega⟩;have p:i<(Y8 s.2.1 u).length:=by omega
   obtain⟨g,b,e,_,_,q⟩:=ywS h y (Y8 s.2.1 u)[i];have J:=d (Y8 s.2.1 u)[i];have K:=t (Y8 s.2.1 u)[i];obtain⟨E,L,M⟩:=Rj (O9 s (Y8 s.2.1 u)[i]) c j;rw[bA p,cO,jN];refine(sb ?_).trans (A (i+1) _ E (by omega) (by omega) n (by omega));unfold JX;simp only;rw[X5 (by omega),Y6 rfl p,p',show XA X' (Y8 s.2.1 u)[i] (P1 s).1 (P1 s).2.1 (P1 s).2.2.1 (P1 s).2.2.2.1 (P1 s).2.2.2.2=_ from uM (s:=s) (Y8 s.2.1 u)[i],e,aX,p'];simp only;have em:=vr h y (g:=g) (by rw[q];omega) z g.2.2.2.1.length 0 c j (by omega) (by rw[q];omega) FU (by rw[q];unfold FU;omega);rw[bQ,q]at em;rw[show iter _ (c,(0:Int),(P1 s).1,(P1 s).2.1,(P1 s).2.2.1,(P1 s).2.2.2.1,(P1 s).2.2.2.2,g)=_ from em,p',Y7 (by omega)];rfl
 unfold SS;rw[Kz h w,p'];simp only;rw[show iter _ (([]:kH),(0:Int),P1 s)=_ from key (Y8 s.2.1 u).length 0 [] List.Pairwise.nil (by omega) (by simp;omega) FU (by unfold FU;omega),p',bQ];rw[QF]
theorem nT{a R τ:Type}{n:Nat}{st:a}{out:τ}{body:Int×a->Option ((Int×a)⊕(R⊕τ))}(j:n<=1048576)(c:∀i,i<n->body ((i:Int),st)=some (.inl (((i+1:Nat):Int),st)))(d:body ((n:Int),st)=some (.inr (.inr out))):iter body ((0:Int),st)=some (.inr out):=by
 have key:∀(f i:Nat),f+i=n->∀g,f<g->X9 body g ((i:Int),st)=some (.inr out):=by
  intro f;induction f with
  |zero=>
   intro i b g e;obtain⟨g,rfl⟩:∃m,g=m+1:=⟨g-1,by omega⟩;have b:i=n:=by omega
   subst b;exact Ba d
  |succ f h=>intro i b g e;obtain⟨g,rfl⟩:∃m,g=m+1:=⟨g-1,by omega⟩;exact(sb (c i (by omega))).trans (h (i+1) (by omega) g (by omega))
 exact key n 0 (by omega) FU (by unfold FU;omega)
theorem RF{a:kH}(h:a.length<=1048576):Wu X' a a=some true:=by
 have key:∀(f i:Nat),f+i=a.length->∀g,f<g->X9 (XR X' a a) g (i:Int)=some (.inr ()):=by
  intro f;induction f with
  |zero=>
   intro i b g d;obtain⟨g,rfl⟩:∃m,g=m+1:=⟨g-1,by omega⟩;have b:i=a.length:=by omega
   subst b;refine Ba ?_;unfold XR;rw[l6 (by omega)]
  |succ f e=>
   intro i b g d;obtain⟨g,rfl⟩:∃m,g=m+1:=⟨g-1,by omega⟩;have c:i<a.length:=by omega
   refine(sb ?_).trans (e (i+1) (by omega) g (by omega));unfold XR;rw[X5 (by omega),Y6 rfl c,p',p',bne_self_eq_false,Y7 (by omega)];rfl
 unfold Wu;rw[bne_self_eq_false,zH,show iter (XR X' a a) (0:Int)=_ from key a.length 0 (by omega) FU (by unfold FU;omega),p']
theorem Vj{g:u6}(a:g.2.1.length<=1048576)(b:g.2.2.1.length<=1048576)(c:g.2.2.2.1.length<=1048576):US X' g g=some true:=by unfold US;simp only[beq_self_eq_true,zF];rw[RF a,p',zF,RF b,p',zF,RF c,p']
theorem Wj{r:Ro}(h:r.2.length<=1048576):VS X' r r=some true:=by unfold VS;simp only[beq_self_eq_true,zF];rw[RF h,p']
theorem Xj{c:Cl}(a:c.2.2.1.length<=1048576)(b:c.2.2.2.1.length<=1048576):WS X' c c=some true:=by unfold WS;simp only[beq_self_eq_true,zF];rw[RF a,p',zF,RF b,p']
theorem Yj{a:Type}{f:a->kH}{c:Nat}:∀{l:List a},(∀x∈l,(f x).length<=c)->(l.flatMap f).length<=c*l.length
 |[],_=>bG _|x::l,h=>by have d:=h x aO;have e:=Yj (l:=l) fun y b=>h y (aM _ b);rw[cO,aD,aQ,Nat.mul_add];omega
theorem Oz{s:PS}(w:Vq s)(u:L8):(Y8 s.2.1 u).length<=1048576:=by have:=w.gL;unfold Y8;exact bB (fZ _ _) (by rw[aE];omega)
theorem Hn{s:PS}(h:o7 s)(w:Vq s)(u:L8):(GF s u).length<=1048576:=by
 have d:=(Uj s u).Jd (m:=s.2.2.1.flatMap fun p=>p.2.2) fun x a=>by obtain⟨n,g,k,r,_,_,_,b,a⟩:=(ju h.gR h.rR).1 a;exact List.mem_flatMap.2 ⟨_,b,a⟩
 have e:=Yj (f:=fun p:L8×Ro=>p.2.2) (c:=16) (l:=s.2.2.1) fun p hp=>UL (h.ro p.1 p.2 hp).2;have:=w.rL;omega
abbrev TS:Type:=List Us×List u6×List Ro×List Cl×kG×UM×GM×RM×CM×MM
theorem Pz{s:PS}(h:o7 s)(w:Vq s):XS X' (n3 s) (n1 s) (X1 s) (U1 s) (Y1 s) s.1 s.2.1 s.2.2.1 s.2.2.2.1 s.2.2.2.2=some (true,n3 s,n1 s,X1 s,U1 s,Y1 s,s):=by
 have c:=h.inv w;have lu:(n3 s).length<=64:=by unfold n3;rw[aE];exact w.uL
 have q:(n1 s).length<=32:=by unfold n1;rw[aE];exact w.gL
 have r:(X1 s).length<=32:=by unfold X1;rw[aE];exact w.rL
 have t:(U1 s).length<=32:=by unfold U1;rw[aE];exact w.cL
 have u:(Y1 s).length<=64:=by unfold Y1;rw[aE];exact w.mL
 unfold XS;rw[Hj c,p'];simp only;rw[xcV c,p'];simp only;rw[Ij c,p'];simp only;rw[yvR c,p'];simp only;rw[Oq c,p'];have e:zoZ X' (n3 s) (n1 s) (X1 s) (U1 s) (Y1 s) (s.1,s.2.1,s.2.2.1,s.2.2.2.1,s.2.2.2.2,n3 s) (s.1,s.2.1,s.2.2.1,s.2.2.2.1,s.2.2.2.2,n1 s) (s.1,s.2.1,s.2.2.1,s.2.2.2.1,s.2.2.2.2,X1 s) (s.1,s.2.1,s.2.2.1,s.2.2.2.1,s.2.2.2.2,U1 s) (Y1 s,s)=some (.inr (n3 s,n1 s,X1 s,U1 s,Y1 s,s.1,s.2.1,s.2.2.1,s.2.2.2.1,s.2.2.2.2,n3 s,n1 s,X1 s,U1 s)):=by unfold zoZ;simp only[bne_self_eq_false,zH]
 rw[e,p'];simp only
 have l1:=nT (body:=fun x:Int×List Us×List u6×List Ro×List Cl×kG×UM×GM×RM×CM×MM×List Us×List u6×List Ro×List Cl=>KX X' x.1 x.2.1 x.2.2.1 x.2.2.2.1 x.2.2.2.2.1 x.2.2.2.2.2.1 x.2.2.2.2.2.2.1 x.2.2.2.2.2.2.2.1 x.2.2.2.2.2.2.2.2.1 x.2.2.2.2.2.2.2.2.2.1 x.2.2.2.2.2.2.2.2.2.2.1 x.2.2.2.2.2.2.2.2.2.2.2.1 x.2.2.2.2.2.2.2.2.2.2.2.2.1 x.2.2.2.2.2.2.2.2.2.2.2.2.2.1 x.2.2.2.2.2.2.2.2.2.2.2.2.2.2) (n:=(n3 s).length) (st:=(n3 s,n1 s,X1 s,U1 s,Y1 s,s.1,s.2.1,s.2.2.1,s.2.2.2.1,s.2.2.2.2,n3 s,n1 s,X1 s,U1 s)) (out:=(n3 s,n1 s,X1 s,U1 s,Y1 s,s.1,s.2.1,s.2.2.1,s.2.2.2.1,s.2.2.2.2,n1 s,X1 s,U1 s)) (by omega) (fun i b=>by
  simp only;unfold KX;rw[X5 (by omega),av b];simp only[p'];rw[Y6 rfl b];simp only[p',beq_self_eq_true,decide_true,gG,aK,zH];rw[nz c,p'];simp only;rw[Kz h w,p'];simp only;rw[RF (Oz w _),p',aK,zH,Bz c,p'];simp only;rw[show SS X' (n3 s)[i].1 (P1 s).1 (P1 s).2.1 (P1 s).2.2.1 (P1 s).2.2.2.1 (P1 s).2.2.2.2=_ from Nz h w _,p'];simp only;rw[RF (Hn h w _),p',aK,zH,Y7 (by omega)]
  rfl) (by
  simp only;unfold KX
  rw[l6 (by omega)])
 rw[l1,p'];simp only
 have l2:=nT (body:=fun x:Int×List Us×List u6×List Ro×List Cl×kG×UM×GM×RM×CM×MM×List u6×List Ro×List Cl=>LX X' x.1 x.2.1 x.2.2.1 x.2.2.2.1 x.2.2.2.2.1 x.2.2.2.2.2.1 x.2.2.2.2.2.2.1 x.2.2.2.2.2.2.2.1 x.2.2.2.2.2.2.2.2.1 x.2.2.2.2.2.2.2.2.2.1 x.2.2.2.2.2.2.2.2.2.2.1 x.2.2.2.2.2.2.2.2.2.2.2.1 x.2.2.2.2.2.2.2.2.2.2.2.2.1 x.2.2.2.2.2.2.2.2.2.2.2.2.2) (n:=(n1 s).length) (st:=(n3 s,n1 s,X1 s,U1 s,Y1 s,s.1,s.2.1,s.2.2.1,s.2.2.2.1,s.2.2.2.2,n1 s,X1 s,U1 s)) (out:=(n3 s,n1 s,X1 s,U1 s,Y1 s,s.1,s.2.1,s.2.2.1,s.2.2.2.1,s.2.2.2.2,X1 s,U1 s)) (by omega) (fun i b=>by
  simp only;unfold LX;obtain⟨p,hp,a⟩:=aY.1 (bC b);rw[X5 (by omega),av b];simp only[p'];rw[Y6 rfl b];simp only[p']
  rw[Vj (by rw[<-a];exact h.sz p.1 p.2 hp 0 (by decide)) (by rw[<-a];exact h.sz p.1 p.2 hp 1 (by decide)) (by rw[<-a];exact h.sz p.1 p.2 hp 2 (by decide)),p',aK,zH,Y7 (by omega)]) (by
  simp only;unfold LX
  rw[l6 (by omega)])
 rw[l2,p'];simp only
 have f:=nT (body:=fun x:Int×List Us×List u6×List Ro×List Cl×kG×UM×GM×RM×CM×MM×List Ro×List Cl=>MX X' x.1 x.2.1 x.2.2.1 x.2.2.2.1 x.2.2.2.2.1 x.2.2.2.2.2.1 x.2.2.2.2.2.2.1 x.2.2.2.2.2.2.2.1 x.2.2.2.2.2.2.2.2.1 x.2.2.2.2.2.2.2.2.2.1 x.2.2.2.2.2.2.2.2.2.2.1 x.2.2.2.2.2.2.2.2.2.2.2.1 x.2.2.2.2.2.2.2.2.2.2.2.2) (n:=(X1 s).length) (st:=(n3 s,n1 s,X1 s,U1 s,Y1 s,s.1,s.2.1,s.2.2.1,s.2.2.2.1,s.2.2.2.2,X1 s,U1 s)) (out:=(n3 s,n1 s,X1 s,U1 s,Y1 s,s.1,s.2.1,s.2.2.1,s.2.2.2.1,s.2.2.2.2,U1 s)) (by omega) (fun i b=>by
  simp only;unfold MX;obtain⟨p,hp,a⟩:=aY.1 (bC b);have d:(X1 s)[i].2.length<=1048576:=by rw[<-a];exact bB (UL (h.ro p.1 p.2 hp).2) (by decide)
  rw[X5 (by omega),av b];simp only[p'];rw[Y6 rfl b];simp only[p']
  rw[Wj d,p',aK,zH,Y7 (by omega)]) (by
  simp only;unfold MX
  rw[l6 (by omega)])
 rw[f,p'];simp only
 have g:=nT (body:=fun x:Int×List Us×List u6×List Ro×List Cl×kG×UM×GM×RM×CM×MM×List Cl=>NX X' x.1 x.2.1 x.2.2.1 x.2.2.2.1 x.2.2.2.2.1 x.2.2.2.2.2.1 x.2.2.2.2.2.2.1 x.2.2.2.2.2.2.2.1 x.2.2.2.2.2.2.2.2.1 x.2.2.2.2.2.2.2.2.2.1 x.2.2.2.2.2.2.2.2.2.2.1 x.2.2.2.2.2.2.2.2.2.2.2) (n:=(U1 s).length) (st:=(n3 s,n1 s,X1 s,U1 s,Y1 s,s.1,s.2.1,s.2.2.1,s.2.2.2.1,s.2.2.2.2,U1 s)) (out:=(n3 s,n1 s,X1 s,U1 s,Y1 s,s.1,s.2.1,s.2.2.1,s.2.2.2.1,s.2.2.2.2)) (by omega) (fun i b=>by
  simp only;unfold NX;obtain⟨p,hp,a⟩:=aY.1 (bC b);have d:=rX (h.cl p.1 p.2 hp).2;have j:(U1 s)[i].2.2.1.length<=1048576:=by rw[<-a];exact bB d.1 (by decide)
  have k:(U1 s)[i].2.2.2.1.length<=1048576:=by rw[<-a];exact bB d.2 (by decide)
  rw[X5 (by omega),av b];simp only[p'];rw[Y6 rfl b];simp only[p']
  rw[Xj j k,p',aK,zH,Y7 (by omega)]) (by
  simp only;unfold NX
  rw[l6 (by omega)])
 rw[g,p'];simp only
 have l:=nT (body:=fun x:Int×TS=>OX X' (Y1 s,s) x.1 x.2.1 x.2.2.1 x.2.2.2.1 x.2.2.2.2.1 x.2.2.2.2.2.1 x.2.2.2.2.2.2.1 x.2.2.2.2.2.2.2.1 x.2.2.2.2.2.2.2.2.1 x.2.2.2.2.2.2.2.2.2.1 x.2.2.2.2.2.2.2.2.2.2) (n:=(Y1 s).length) (st:=(n3 s,n1 s,X1 s,U1 s,Y1 s,s.1,s.2.1,s.2.2.1,s.2.2.2.1,s.2.2.2.2)) (out:=(n3 s,n1 s,X1 s,U1 s,Y1 s,s.1,s.2.1,s.2.2.1,s.2.2.2.1,s.2.2.2.2)) (by omega) (fun i b=>by
  simp only;unfold OX;obtain⟨p,hp,a⟩:=aY.1 (bC b);have m:J' (o5 (.pr .s .s)) s.2.2.2.2 ((Y1 s)[i].1,(Y1 s)[i].2)=true:=by show J' W8 s.2.2.2.2 (Y1 s)[i]=true;rw[<-a];exact yy.n0.2 ⟨p.2,hp⟩
  simp only;rw[X5 (by omega),Y6 rfl b];simp only[p',beq_self_eq_true,gG,aK,zH];unfold XE;simp only;rw[m,p'];simp only[aK,zH]
  rw[Y7 (by omega)]) (by
  simp only;unfold OX;simp only
  rw[l6 (by omega)])
 rw[l,p']
section
variable {P:Program}{G:List (Nat×Obj)}
theorem oT{f:FuncId}{K V:Ty}(m:s8 P f) (M:∀(b:Nat) (es:Array MapEntry) (ck:Nat) (w:World),w.heap[b]? = some (.map es ck)->Calls P f #[.map (some b)] w fun e w'=>e = .returned (.map (some w.heap.size))/\w'=w.alloc (.map es ck)):
  P' P G f ⟨⟨[(0,.mpr 0)],[.mp true K V]⟩,1,[(none,⟨[(0,.mpr 1)],[.mp true K V,.mp true K V]⟩)],fun(es:List (den K×den V))=>some (es,es)⟩:=by
 obtain⟨q,B⟩:=ei (.mp K V);have C:∀y:den (.mp K V),w8 [.mp true K V] [.v (.mp K V) y]=[.mp 0 K V y]:=fun y=>by simp only[w8,B];rfl
 refine⟨m,fun c a n l j (es:List (den K×den V)) (d:List (den K×den V)×List (den K×den V)) _ h R N=>?_⟩;have O:d=(es,es):=(ka N).symm;subst O;have h:n.length=1:=h;obtain⟨u,rfl⟩:∃u,n=[u]:=by
  match n,h with
  |[u],_=>exact⟨u,rfl⟩
 have Zb:(c7.put (⟨[(0,.mpr 0)],[.mp true K V]⟩:c7) es)=⟨[(0,.mpr 0)],[.mp 0 K V es]⟩:=congrArg (fun hp=>(⟨[(0,.mpr 0)],hp⟩:St)) (C es);have R:l3 ⟨c,U5 j,a⟩ c l j ⟨[(0,.mpr 0)],[.mp 0 K V es]⟩ (fun t=>[u].getD t undef) a:=by rw[<-Zb];exact R
 obtain⟨r1,Q,D,E,b,Q',ck,rfl,rfl,F,I⟩:=R.P6 (i:=0) rfl;obtain⟨_,e1,J,S⟩:=(show VB c l (.mpr 0) u from R.sl 0);rw[E]at J;cases J;have T:=S _ _ _ _ rfl;subst T;have p:a.heap[b]? = some (.map Q'.toArray ck):=R.hs.own 0 _ D;have L:j.length=1:=R.lL;have r:l.length=1:=R.lE;refine(M b _ ck a p).mono ?_;rintro x w' ⟨rfl,rfl⟩;have H:HS ⟨c,U5 j,a⟩ c (a.alloc (.map Q'.toArray ck)) (.obj a.heap.size (.map Q'.toArray ck)::j):=R.hs.push (Ext.alloc a _) (Od a _) fun b U=>by cases U;exact aL _
 refine⟨_,rfl,c,l++[.mp 0 a.heap.size ck Q'],j++[.obj a.heap.size (.map Q'.toArray ck)],⟨[(0,.mpr 1)],[.mp 0 K V es,.mp 0 K V es]⟩,fun _=>.map (some a.heap.size),fun k=>?_,Mem.le_refl _,l8.of (V4.push _ _),⟨HS.snoc H,by simp[L],by simp[r],fun i o s=>?_,fun t=>?_⟩,?_,by simp,rfl⟩
 ·show k (cd none) _=_;have W:(c7.put (⟨[(0,.mpr 1)],[.mp true K V,.mp true K V]⟩:c7) ((es,es):List (den K×den V)×List (den K×den V)))=⟨[(0,.mpr 1)],[.mp 0 K V es,.mp 0 K V es]⟩:=by
   have X:∀y z:den (.mp K V),w8 [.mp true K V,.mp true K V] [.v (.mp K V) y,.v (.mp K V) z]=[.mp 0 K V y,.mp 0 K V z]:=fun y z=>by rw[w8,B];simp only[];rw[C];rfl
   exact congrArg (fun hp=>(⟨[(0,.mpr 1)],hp⟩:St)) (X es es)
  rw[W];rfl
 ·cases i with
  |zero=>cases s;exact⟨_,_,by rw[aF (by omega),<-N7];exact D,by rw[aF (by omega)];exact E,b,Q',ck,rfl,rfl,F,I⟩
  |succ i=>
   cases i with
   |zero=>cases s;exact⟨_,_,by rw[aG (by omega),L];rfl,by rw[aG (by omega),r];rfl,a.heap.size,Q',ck,rfl,rfl,F,I⟩
   |succ i=>simp at s
 ·cases t with
  |zero=>exact VR.ig (show VC c _ (.mpr 1) _ from⟨rfl,.mp 0 a.heap.size ck Q',by rw[aG (by omega),r];rfl,fun g b ck es Y=>by cases Y;rfl⟩)|succ t=>trivial
 ·intro i Z e' T' xs' A;cases i with
  |zero=>cases A
  |succ i=>
   cases i with
   |zero=>cases A
   |succ i=>simp at A
end
end Go.Proofs.YtopanhneegpgcaaGreatDoor.Am
namespace Go.Proofs
open Go.Shelf
def Tryz.Ge:Go.Shelf.Ren:=⟨fun|5=>134|7=>216|n=>n,fun|23=>122|25=>9|3=>77|4=>4|20=>20|n=>n,fun|n=>n⟩
theorem Tryz.Gc:Go.Proofs.SlLaysW.n5 aA Tryz.Ge:={mixed:=by kernel_rfl,f5:=⟨Tryz.f134.name,by decide,U0 func134⟩,f7:=U0 H0,t4:=A0,a4:=A1,z4:=A3,v4:=A4,t20:=D4,a20:=D5,z20:=D7,v20:=D8,t23:=underlying122,a23:=isAgg122,z23:=sizeOf122,v23:=zeroValue122 }
def Tryz.He:Go.Shelf.Ren:=⟨fun|5=>135|7=>216|n=>n,fun|23=>123|25=>9|3=>133|4=>4|20=>20|n=>n,fun|n=>n⟩
theorem Tryz.Hc:Go.Proofs.SlLaysW.n5 aA Tryz.He:={mixed:=by kernel_rfl,f5:=⟨Tryz.f135.name,by decide,U0 func135⟩,f7:=U0 H0,t4:=A0,a4:=A1,z4:=A3,v4:=A4,t20:=D4,a20:=D5,z20:=D7,v20:=D8,t23:=underlying123,a23:=isAgg123,z23:=sizeOf123,v23:=zeroValue123 }
def Tryz.Ie:Go.Shelf.Ren:=⟨fun|5=>136|7=>216|n=>n,fun|23=>124|25=>9|3=>49|4=>4|20=>20|n=>n,fun|n=>n⟩
theorem Tryz.Ic:Go.Proofs.SlLaysW.n5 aA Tryz.Ie:={mixed:=by kernel_rfl,f5:=⟨Tryz.f136.name,by decide,U0 func136⟩,f7:=U0 H0,t4:=A0,a4:=A1,z4:=A3,v4:=A4,t20:=D4,a20:=D5,z20:=D7,v20:=D8,t23:=underlying124,a23:=isAgg124,z23:=sizeOf124,v23:=zeroValue124 }
def Tryz.Je:Go.Shelf.Ren:=⟨fun|5=>137|7=>216|n=>n,fun|23=>125|25=>9|3=>51|4=>4|20=>20|n=>n,fun|n=>n⟩
theorem Tryz.Jc:Go.Proofs.SlLaysW.n5 aA Tryz.Je:={mixed:=by kernel_rfl,f5:=⟨Tryz.f137.name,by decide,U0 func137⟩,f7:=U0 H0,t4:=A0,a4:=A1,z4:=A3,v4:=A4,t20:=D4,a20:=D5,z20:=D7,v20:=D8,t23:=underlying125,a23:=isAgg125,z23:=sizeOf125,v23:=zeroValue125 }
def Tryz.Ke:Go.Shelf.Ren:=⟨fun|5=>138|7=>216|n=>n,fun|23=>126|25=>75|3=>157|4=>4|20=>20|n=>n,fun|n=>n⟩
theorem Tryz.Kc:Go.Proofs.SlLaysW.n5 aA Tryz.Ke:={mixed:=by kernel_rfl,f5:=⟨Tryz.f138.name,by decide,U0 func138⟩,f7:=U0 H0,t4:=A0,a4:=A1,z4:=A3,v4:=A4,t20:=D4,a20:=D5,z20:=D7,v20:=D8,t23:=underlying126,a23:=isAgg126,z23:=sizeOf126,v23:=zeroValue126 }
end Go.Proofs
namespace Go.Proofs.YtopanhneegpgcaaGreatDoor.Am
open Go Go.RowKit
theorem Gc(b:Nat)(es:Array MapEntry)(ck:Nat)(w:World)(a:w.heap[b]? = some (.map es ck)):Calls aA 134 #[.map (some b)] w fun e w'=>e = .returned (.map (some w.heap.size))/\w'=w.alloc (.map es ck):=AnyW.maps_Clone Tryz.Gc b es ck w a
theorem Hc(b:Nat)(es:Array MapEntry)(ck:Nat)(w:World)(a:w.heap[b]? = some (.map es ck)):Calls aA 135 #[.map (some b)] w fun e w'=>e = .returned (.map (some w.heap.size))/\w'=w.alloc (.map es ck):=AnyW.maps_Clone Tryz.Hc b es ck w a
theorem Ic(b:Nat)(es:Array MapEntry)(ck:Nat)(w:World)(a:w.heap[b]? = some (.map es ck)):Calls aA 136 #[.map (some b)] w fun e w'=>e = .returned (.map (some w.heap.size))/\w'=w.alloc (.map es ck):=AnyW.maps_Clone Tryz.Ic b es ck w a
theorem Jc(b:Nat)(es:Array MapEntry)(ck:Nat)(w:World)(a:w.heap[b]? = some (.map es ck)):Calls aA 137 #[.map (some b)] w fun e w'=>e = .returned (.map (some w.heap.size))/\w'=w.alloc (.map es ck):=AnyW.maps_Clone Tryz.Jc b es ck w a
theorem Kc(b:Nat)(es:Array MapEntry)(ck:Nat)(w:World)(a:w.heap[b]? = some (.map es ck)):Calls aA 138 #[.map (some b)] w fun e w'=>e = .returned (.map (some w.heap.size))/\w'=w.alloc (.map es ck):=AnyW.maps_Clone Tryz.Kc b es ck w a
end Go.Proofs.YtopanhneegpgcaaGreatDoor.Am
