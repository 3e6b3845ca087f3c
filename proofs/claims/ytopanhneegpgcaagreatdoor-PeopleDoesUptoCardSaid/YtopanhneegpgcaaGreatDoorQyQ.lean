/- Parts of one proof. Conditions: as each theorem says. -/
import Derived.KernelRfl
import Derived.Test.YtopanhneegpgcaaGreatDoorQyP
open Bool renaming false_and->gN,false_or->dB,not_false->cX,not_true->aK,true_and->cJ
open Int renaming tdiv->fR,tmod->dX
open List renaming append_assoc->aU,append_nil->bJ,flatMap_cons->cO,getElem_map->cG,getElem_mem->bC,length_append->aD,length_drop->bL,length_map->aE,length_take->bX,map_append->cC,map_map->cW
open Nat renaming le_trans->bB
open Option renaming bind->aR,getD_some->dH,isSome_some->eG
open Go.Proofs.Tryz renaming prog->aA
open Go.Op renaming bytesLess->j9
open Go.Proofs.Tryz renaming func219->O4
open Go.Proofs.Tryz
namespace Go.Proofs.YtopanhneegpgcaaGreatDoor.Am
open Go Go.RowKit
def xr:TE:=[(3,⟨.int .i64,1,[.v (.i .i64) (show Int from 0)],(.i .i64),8⟩),
 (4,⟨.b,1,[.v .b (show Bool from false)],.b,1⟩),
 (9,⟨.s,1,[.v .s (show Bs from [])],.s,16⟩),
 (22,⟨.sl 9,1,[.Y'],(.sl .s),24⟩),
 (31,⟨.sl 33,1,[.Y'],(.sl (.pr .s .s)),24⟩),
 (33,⟨.st [(9,0),(9,1)],2,[.v .s (show Bs from []),.v .s (show Bs from [])],(.pr .s .s),32⟩),
 (34,⟨.pt 128,1,[.v7],.un,8⟩),
 (38,⟨.pt 84,1,[.v7],.un,8⟩),
 (45,⟨.sl 53,1,[.Y'],(.sl (.pr (.i .i64) (.pr (.i .i64) (.pr .s (.pr .s (.pr .b (.pr (.pr .s (.sl .s)) (.pr .s (.pr .s (.pr (.sl .s) (.pr (.sl .s) (.pr .b (.pr .b (.pr .b .b)))))))))))))),24⟩),
 (49,⟨.st [(9,0),(22,1)],2,[.v .s (show Bs from []),.Y'],(.pr .s (.sl .s)),40⟩),
 (51,⟨.st [(9,0),(9,1),(22,2),(22,3),(4,4),(4,5),(4,6),(4,7)],8,[.v .s (show Bs from []),.v .s (show Bs from []),.Y',.Y',.v .b (show Bool from false),.v .b (show Bool from false),.v .b (show Bool from false),.v .b (show Bool from false)],(.pr .s (.pr .s (.pr (.sl .s) (.pr (.sl .s) (.pr .b (.pr .b (.pr .b .b))))))),88⟩),
 (53,⟨.st [(3,0),(3,1),(9,2),(9,3),(4,4),(49,5),(51,7)],15,[.v (.i .i64) (show Int from 0),.v (.i .i64) (show Int from 0),.v .s (show Bs from []),.v .s (show Bs from []),.v .b (show Bool from false),.v .s (show Bs from []),.Y',.v .s (show Bs from []),.v .s (show Bs from []),.Y',.Y',.v .b (show Bool from false),.v .b (show Bool from false),.v .b (show Bool from false),.v .b (show Bool from false)],(.pr (.i .i64) (.pr (.i .i64) (.pr .s (.pr .s (.pr .b (.pr (.pr .s (.sl .s)) (.pr .s (.pr .s (.pr (.sl .s) (.pr (.sl .s) (.pr .b (.pr .b (.pr .b .b))))))))))))),184⟩),
 (54,⟨.sl 57,1,[.Y'],(.sl (.pr .s (.pr (.sl .s) (.pr (.sl .s) (.pr (.sl .s) (.i .i64)))))),24⟩),
 (57,⟨.st [(9,0),(22,1),(22,2),(22,3),(3,4)],5,[.v .s (show Bs from []),.Y',.Y',.Y',.v (.i .i64) (show Int from 0)],(.pr .s (.pr (.sl .s) (.pr (.sl .s) (.pr (.sl .s) (.i .i64))))),96⟩),
 (64,⟨.sl 51,1,[.Y'],(.sl (.pr .s (.pr .s (.pr (.sl .s) (.pr (.sl .s) (.pr .b (.pr .b (.pr .b .b)))))))),24⟩),
 (67,⟨.sl 77,1,[.Y'],(.sl (.pr .s (.pr .s (.pr .b (.i .i64))))),24⟩),
 (69,⟨.sl 49,1,[.Y'],(.sl (.pr .s (.sl .s))),24⟩),
 (72,⟨.sl 75,1,[.Y'],(.sl (.pr .s .s)),24⟩),
 (75,⟨.st [(9,0),(9,1)],2,[.v .s (show Bs from []),.v .s (show Bs from [])],(.pr .s .s),32⟩),
 (77,⟨.st [(9,0),(9,1),(4,2),(3,3)],4,[.v .s (show Bs from []),.v .s (show Bs from []),.v .b (show Bool from false),.v (.i .i64) (show Int from 0)],(.pr .s (.pr .s (.pr .b (.i .i64)))),48⟩),
 (82,⟨.sl 34,1,[.Y'],.un,24⟩),
 (84,⟨.st [(67,0),(54,1),(69,2),(64,3),(72,4)],5,[.Y',.Y',.Y',.Y',.Y'],(.pr (.sl (.pr .s (.pr .s (.pr .b (.i .i64))))) (.pr (.sl (.pr .s (.pr (.sl .s) (.pr (.sl .s) (.pr (.sl .s) (.i .i64)))))) (.pr (.sl (.pr .s (.sl .s))) (.pr (.sl (.pr .s (.pr .s (.pr (.sl .s) (.pr (.sl .s) (.pr .b (.pr .b (.pr .b .b)))))))) (.sl (.pr .s .s)))))),120⟩),
 (85,⟨.sl 38,1,[.Y'],.un,24⟩),
 (122,⟨.map 9 77,1,[.z6],(.mp .s (.pr .s (.pr .s (.pr .b (.i .i64))))),8⟩),
 (123,⟨.map 9 133,1,[.z6],(.mp .s (.pr (.pr (.sl .s) (.pr (.sl .s) (.sl .s))) (.i .i64))),8⟩),
 (124,⟨.map 9 49,1,[.z6],(.mp .s (.pr .s (.sl .s))),8⟩),
 (125,⟨.map 9 51,1,[.z6],(.mp .s (.pr .s (.pr .s (.pr (.sl .s) (.pr (.sl .s) (.pr .b (.pr .b (.pr .b .b)))))))),8⟩),
 (126,⟨.map 75 157,1,[.z6],(.mp (.pr .s .s) .un),8⟩),
 (128,⟨.st [(122,0),(123,1),(124,2),(125,3),(126,4)],5,[.z6,.z6,.z6,.z6,.z6],(.pr (.mp .s (.pr .s (.pr .s (.pr .b (.i .i64))))) (.pr (.mp .s (.pr (.pr (.sl .s) (.pr (.sl .s) (.sl .s))) (.i .i64))) (.pr (.mp .s (.pr .s (.sl .s))) (.pr (.mp .s (.pr .s (.pr .s (.pr (.sl .s) (.pr (.sl .s) (.pr .b (.pr .b (.pr .b .b)))))))) (.mp (.pr .s .s) .un))))),40⟩),
 (133,⟨.st [(131,0),(3,3)],4,[.Y',.Y',.Y',.v (.i .i64) (show Int from 0)],(.pr (.pr (.sl .s) (.pr (.sl .s) (.sl .s))) (.i .i64)),80⟩)]
theorem Zj:P3 aA xr:=NG (by kernel_rfl) (by kernel_rfl)
theorem Qz:Tryz.prog.follows .mixedOrders=true:=by kernel_rfl
theorem zkV {G : List (Nat × Obj)} {o : D'} [kb G] [Xa G o] {Γ : CT} {η : HT} {f : FuncId} {fn : Func} {c : SC} (a : ∀ B, GB G B -> X6 aA Γ B) (hf : Tryz.prog.funcs[f]? = some fn) (i : (fn.name == "runtime.NumGoroutine") = false := by kernel_rfl) (j : fn.body.isNone = false := by kernel_rfl) (l : Nat.ble c.I.sl.length fn.ntmps = true := by kernel_rfl) (r : Nat.beq fn.results.toList.length c.nr = true := by kernel_rfl) (e : Ms xr Γ η fn c.I c.outs = c.p := by kernel_rfl) : P' aA G f c := jc (G := G) (o := o) <| af Qz Zj a hf (Y5 hf i j) l r e
theorem Lb {G : List (Nat × Obj)} (o : D') [kb G] [Xa G o] (η : HT) (A : List (Nat × PC)) (B : List (Nat × SC)) {f : FuncId} {fn : Func} {c : SC} (x : PL aA G A) (y : SL aA G B) (hf : Tryz.prog.funcs[f]? = some fn) (i : (fn.name == "runtime.NumGoroutine") = false := by kernel_rfl) (j : fn.body.isNone = false := by kernel_rfl) (l : Nat.ble c.I.sl.length fn.ntmps = true := by kernel_rfl) (r : Nat.beq fn.results.toList.length c.nr = true := by kernel_rfl) (e : Ms xr ⟨A, B, false, []⟩ η fn c.I c.outs = c.p := by kernel_rfl) : P' aA G f c := zkV (o := o) (η := η) (Γ := ⟨A, B, false, []⟩) (X4 x y) hf i j l r e
theorem Rz {G : List (Nat × Obj)} {o : D'} [kb G] [Xa G o] {Γ : CT} {η : HT} {f : FuncId} {fn : Func} {c : PC} (a : ∀ B, GB G B -> X6 aA Γ B) (hf : Tryz.prog.funcs[f]? = some fn) (i : (fn.name == "runtime.NumGoroutine") = false := by kernel_rfl) (j : fn.body.isNone = false := by kernel_rfl) (l : Nat.ble c.ash.length fn.ntmps = true := by kernel_rfl) (r : c.cl = false := by kernel_rfl) (e : zw xr Γ η fn c.ash c.rts = c.p := by kernel_rfl) : Z0 aA G f c := jc (G := G) (o := o) <| Ze Qz Zj a hf (Y5 hf i j) l r e
abbrev uu:Type:=Bs×kE
abbrev o4:Type:=List uu
abbrev sd:Ty:=.pr .s (.sl .s)
abbrev Sz:Type:=Bs×Bs×Bool×Int
abbrev Q4:Type:=List Sz
abbrev Mb:Ty:=.pr .s (.pr .s (.pr .b (.i .i64)))
abbrev wM:Type:=Bs×uu
abbrev xM:Type:=Bs×Sz
abbrev Tz:Type:=(kE×kE×kE)×Int
abbrev ak:Ty:=.pr (.pr (.sl .s) (.pr (.sl .s) (.sl .s))) (.i .i64)
abbrev yM:Type:=Bs×Tz
abbrev dk:Type:=Bs×kE×kE×kE×Int
abbrev U3:Type:=List dk
abbrev Va:Ty:=.pr .s (.pr (.sl .s) (.pr (.sl .s) (.pr (.sl .s) (.i .i64))))
abbrev ek:Type:=Bs×Bs×kE×kE×Bool×Bool×Bool×Bool
abbrev P4:Type:=List ek
abbrev Lc:Ty:=.pr .s (.pr .s (.pr (.sl .s) (.pr (.sl .s) (.pr .b (.pr .b (.pr .b .b))))))
abbrev zM:Type:=Bs×ek
abbrev ik:Type:=Int×Int×Bs×Bs×Bool×uu×ek
abbrev wI:Ty:=.pr (.i .i64) (.pr (.i .i64) (.pr .s (.pr .s (.pr .b (.pr sd Lc)))))
abbrev w9:Type:=Q4×U3×o4×P4×kD
abbrev Vg:Ty:=.pr (.sl Mb) (.pr (.sl Va) (.pr (.sl sd) (.pr (.sl Lc) (.sl (.pr .s .s)))))
abbrev jk:Type:=(List (Bs×Sz))×(List (Bs×Tz))×(List (Bs×uu))×(List (Bs×ek))×kC
abbrev V6:X3:=.N' 84 [(.h (.sl Mb)),(.h (.sl Va)),(.h (.sl sd)),(.h (.sl Lc)),(.h (.sl (.pr .s .s)))]
abbrev yr:X3:=.N' 84 [(.own 1),(.h (.sl Va)),(.h (.sl sd)),(.h (.sl Lc)),(.h (.sl (.pr .s .s)))]
abbrev nk:X3:=.N' 84 [(.h (.sl Mb)),(.own 1),(.h (.sl sd)),(.h (.sl Lc)),(.h (.sl (.pr .s .s)))]
abbrev Uz:X3:=.N' 84 [(.h (.sl Mb)),(.h (.sl Va)),(.own 1),(.h (.sl Lc)),(.h (.sl (.pr .s .s)))]
abbrev zr:X3:=.N' 84 [(.h (.sl Mb)),(.h (.sl Va)),(.h (.sl sd)),(.own 1),(.h (.sl (.pr .s .s)))]
abbrev pk:X3:=.N' 84 [(.own 1),(.own 2),(.h (.sl sd)),(.h (.sl Lc)),(.h (.sl (.pr .s .s)))]
abbrev Vz:X3:=.N' 51 [hS,hS,(.h (.sl .s)),(.h (.sl .s)),hB,hB,hB,hB]
abbrev qk:X3:=.N' 57 [hS,(.h (.sl .s)),(.h (.sl .s)),(.h (.sl .s)),hI]
abbrev yf:X3:=.N' 128 [(.mpr 1),(.mpr 2),(.mpr 3),(.mpr 4),(.mpr 5)]
abbrev Ar:X3:=.N' 128 [(.mpr 2),(.mpr 3),(.mpr 4),(.mpr 5),(.mpr 6)]
abbrev Jn:X3:=.N' 49 [hS,(.h (.sl .s))]
abbrev Br:X3:=.mp true .s Mb
abbrev Cr:X3:=.mp true .s ak
abbrev Dr:X3:=.mp true .s sd
abbrev Er:X3:=.mp true .s Lc
def Kn:Nat×Hint:=(4000005,.x7 ([(.pu,0,[2])]++j7 2 6++[(.pu,9,[2]),(.la,10,[]),(.pu,12,[2]),(.mn,1,[]),(.mn,8,[2]),(.rv,10,[]),(.mn,11,[2]),(.mn,13,[2]),(.pu,14,[]),(.pu,15,[]),(.mn,16,[0])]))
def Wg:Nat×Hint:=(4000006,.x7 ([(.pu,0,[1])]++j7 2 6++[(.pu,9,[1]),(.pu,10,[1]),(.pu,11,[1]),(.pu,12,[1]),(.pu,13,[1]),(.pu,14,[1]),(.pu,15,[1]),(.mn,1,[]),(.mn,8,[1]),(.mn,16,[1]),(.pu,17,[]),(.pu,18,[]),(.mn,19,[0])]))
section
variable {tabs:List (Nat×Obj)}[kb tabs]{o:D'}[Xa tabs o]
def SX(_o:D')(b:Int)(a:Int):Option (Int):=
 (o6 (decide (0<a))).bind fun _=>bif decide ((dX b a)<0)then(some (P0 ((dX b a)+a)))else(some (dX b a))
def zwJ(o:D'):PC:=⟨[hI,hI],[(.i .i64)],fun x=>SX o x.1 x.2,false⟩
theorem yhI:Z0 aA tabs 51 (zwJ o):=Rz (o:=o) (η:=[]) (Γ:=⟨[],[],false,[]⟩) (X4 trivial trivial) func51
def xbO:SC:=⟨⟨[(0,(.mpr 0))],[Br]⟩,1,[(none,⟨[(0,(.mpr 1))],[Br,Br]⟩)],fun(a:List xM)=>some (a,a)⟩
theorem vu:P' aA tabs 134 xbO:=Ce (G:=tabs)<|oT (Y5 func134) Gc
def ywF:SC:=⟨⟨[(0,(.mpr 0))],[Cr]⟩,1,[(none,⟨[(0,(.mpr 1))],[Cr,Cr]⟩)],fun(a:List yM)=>some (a,a)⟩
theorem Ln:P' aA tabs 135 ywF:=Ce (G:=tabs)<|oT (Y5 func135) Hc
def yvV:SC:=⟨⟨[(0,(.mpr 0))],[Dr]⟩,1,[(none,⟨[(0,(.mpr 1))],[Dr,Dr]⟩)],fun(a:List wM)=>some (a,a)⟩
theorem Mn:P' aA tabs 136 yvV:=Ce (G:=tabs)<|oT (Y5 func136) Ic
def ywT:SC:=⟨⟨[(0,(.mpr 0))],[Er]⟩,1,[(none,⟨[(0,(.mpr 1))],[Er,Er]⟩)],fun(a:List zM)=>some (a,a)⟩
theorem Nn:P' aA tabs 137 ywT:=Ce (G:=tabs)<|oT (Y5 func137) Jc
def ywC:SC:=⟨⟨[(0,(.mpr 0))],[Z']⟩,1,[(none,⟨[(0,(.mpr 1))],[Z',Z']⟩)],fun(a:kC)=>some (a,a)⟩
theorem On:P' aA tabs 138 ywC:=Ce (G:=tabs)<|oT (Y5 func138) Kc
def zrT(_o:D')(f:List xM)(g:List yM)(h:List wM)(i:List zM)(j:kC):Option (((List xM)×(List yM)×(List wM)×(List zM)×kC×jk)):=
 ((fun(k:List xM)=>some (k,k)) f).bind fun a=>((fun(k:List yM)=>some (k,k)) g).bind fun b=>((fun(k:List wM)=>some (k,k)) h).bind fun c=>((fun(k:List zM)=>some (k,k)) i).bind fun d=>((fun(k:kC)=>some (k,k)) j).bind fun e=>some (a.1,b.1,c.1,d.1,e.1,a.2,b.2,c.2,d.2,e.2)
def zyJ(o:D'):SC:=⟨⟨[(0,(.ptr 0 0))],[yf,Br,Cr,Dr,Er,Z']⟩,1,[(none,⟨[(0,(.ptr 6 0))],[yf,Br,Cr,Dr,Er,Z',.N' 128 [(.mpr 7),(.mpr 8),(.mpr 9),(.mpr 10),(.mpr 11)],Br,Cr,Dr,Er,Z']⟩)],rq (zrT o)⟩
theorem yjD:P' aA tabs 52 (zyJ o):=Lb o [(4000001,.x7 (j7 0 4++[(.pu,5,[1]),(.pu,6,[1]),(.pu,7,[1]),(.pu,8,[1]),(.pu,10,[1,2]),(.pu,11,[1,2]),(.pu,12,[1,2]),(.pu,13,[1,2]),(.pu,15,[1,2,3]),(.pu,16,[1,2,3]),(.pu,17,[1,2,3]),(.pu,18,[1,2,3]),(.pu,20,[1,2,3,4]),(.pu,21,[1,2,3,4]),(.pu,22,[1,2,3,4]),(.pu,23,[1,2,3,4]),(.mn,4,[1]),(.mn,9,[2]),(.mn,14,[3]),(.mn,19,[4]),(.mn,24,[5]),(.pu,25,[]),(.mn,26,[0,1,2,3,4,5,6,7,8,9,10,11,12,13,14,15]),(.pu,27,[])]))] [] [(134,xbO),(135,ywF),(136,yvV),(137,ywT),(138,ywC)] ⟨⟩ ⟨vu,⟨Ln,⟨Mn,⟨Nn,⟨On,⟨⟩⟩⟩⟩⟩⟩ func52
def zkL(_o:D')(a:Q4)(b:U3)(c:o4)(d:P4)(e:kD):Option ((Q4×U3×o4×P4×kD×w9)):=
 some (a,b,c,d,e,a,b,c,d,e)
def zpT(o:D'):SC:=⟨⟨[(0,(.ptr 0 0))],[V6]⟩,1,[(none,⟨[(0,(.ptr 1 0))],[V6,V6]⟩)],rq (zkL o)⟩
theorem ybY:P' aA tabs 53 (zpT o):=Lb o [] [] [] ⟨⟩ ⟨⟩ func53
def zmM(_o:D')(b:Sz)(a:Q4)(c:U3)(d:o4)(e:P4)(f:kD)(g:Int×Bool)(h:Q4):Option ((Q4×Q4×U3×o4×P4×kD×Sz)):=
 bif g.2 then((T4 a (P0 (g.1+1))).bind fun i=>some (i,a,c,d,e,f,b))else some (h,a,c,d,e,f,b)
def sO(o:D')(d:Sz)(b:Q4)(e:U3)(f:o4)(g:P4)(h:kD):Option ((U3×o4×P4×kD×Q4)):=
 (dv o (b,e,f,g,h) d.1).bind fun c=>(T4 b c.1).bind fun i=>(zmM o d b e f g h c i).bind fun a=>(Z6 a.2.1 c.1).bind fun j=>(X0 ([]:Q4) j).bind fun k=>(X0 k ([a.2.2.2.2.2.2]:Q4)).bind fun l=>(X0 l a.1).bind fun m=>some (a.2.2.1,a.2.2.2.1,a.2.2.2.2.1,a.2.2.2.2.2.1,m)
def TX(o:D'):SC:=⟨⟨[(0,(.ptr 0 0)),(1,(.h Mb))],[V6]⟩,0,[(none,⟨[],[yr,.H' Mb 77]⟩)],Y9 (sO o)⟩
theorem zhS:P' aA tabs 218 (TX o):=Lb o [(2000005,.join [] [4] [(none,⟨[(0,(.ptr 0 0)),(3,(.ptr 1 0)),(6,(.h (.sl Mb)))],[V6,.N' 77 [hS,hS,hB,hI]]⟩)]),
 Kn] [(217,(oM o))] [] ⟨kO,⟨⟩⟩ ⟨⟩ func218
def zmQ(o:D')(f:Bs)(g:Bs)(a:Q4)(b:U3)(c:o4)(d:P4)(e:kD):Option ((Int×w9)⊕w9):=
 (Hg o f).bind fun h=>bif(!h)then some (.inl (120,a,b,c,d,e))else((RN o g).bind fun i=>bif(!i)then some (.inl (120,a,b,c,d,e))else some (.inr (a,b,c,d,e)))
def UX(o:D')(c:Bs)(d:Bs)(e:Q4)(f:U3)(g:o4)(h:P4)(i:kD):Option ((Int×w9)):=
 (zmQ o c d e f g h i).bind fun j=>match j with
 |.inl k=>some k|.inr a=>((dv o a c).bind fun l=>bif l.2 then some (121,a)else(bif decide ((a.1.length:Int)≥64)then some (124,a)else((sO o (c,d,true,1) a.1 a.2.1 a.2.2.1 a.2.2.2.1 a.2.2.2.2).bind fun b=>some (0,b.2.2.2.2,b.1,b.2.1,b.2.2.1,b.2.2.2.1))))
def znN(o:D'):SC:=⟨⟨[(0,(.ptr 0 0)),(1,hS),(2,hS)],[V6]⟩,1,[(none,⟨[(0,hI)],[V6]⟩)],Aa (UX o)⟩
theorem zxT:P' aA tabs 139 (znN o):=Lb o [(2000003,.join [] [1,2] [(some 1000000,⟨[(6,hI)],[V6]⟩),(none,⟨[(0,(.ptr 0 0))],[V6]⟩)])] [(14,(Dq o)),(16,(AW o)),(217,(oM o))] [(218,(TX o))] ⟨Qt,⟨zqX,⟨kO,⟨⟩⟩⟩⟩ ⟨zhS,⟨⟩⟩ func139
def kB(o:D')(a:w9)(c:Bs):Option (Sz×Bool):=
 (dv o a c).bind fun b=>bif(!b.2)then(some ((([]:Bs),([]:Bs),false,0),false))else((idx a.1 b.1).bind fun d=>some (d,true))
def pT(o:D'):PC:=⟨[(.hr Vg),hS],[Mb,.b],fun x=>kB o x.1 x.2,false⟩
theorem VX:Z0 aA tabs 154 (pT o):=Rz (o:=o) (η:=[]) (Γ:=⟨[(217,(oM o))],[],false,[]⟩) (X4 ⟨kO,trivial⟩ trivial) func154
def znA(o:D')(f:Bs)(g:Bs)(a:Q4)(b:U3)(c:o4)(d:P4)(e:kD):Option ((Int×w9)⊕w9):=
 (Hg o f).bind fun h=>bif(!h)then some (.inl (120,a,b,c,d,e))else((RN o g).bind fun i=>bif(!i)then some (.inl (120,a,b,c,d,e))else some (.inr (a,b,c,d,e)))
def WX(o:D')(e:Bs)(d:Bs)(f:Q4)(g:U3)(h:o4)(i:P4)(j:kD):Option ((Int×w9)):=
 (znA o e d f g h i j).bind fun k=>match k with
 |.inl l=>some l|.inr a=>((kB o a e).bind fun b=>bif(!b.2)then some (122,a)else(bif(b.1.2.1 != d)then((sO o (b.1.1,d,b.1.2.2.1,P0 (b.1.2.2.2+1)) a.1 a.2.1 a.2.2.1 a.2.2.2.1 a.2.2.2.2).bind fun c=>some (0,c.2.2.2.2,c.1,c.2.1,c.2.2.1,c.2.2.2.1))else some (0,a)))
def znO(o:D'):SC:=⟨⟨[(0,(.ptr 0 0)),(1,hS),(2,hS)],[V6]⟩,1,[(none,⟨[(0,hI)],[V6]⟩)],Aa (WX o)⟩
theorem zxX:P' aA tabs 140 (znO o):=Lb o [(2000003,.join [] [1,2] [(some 1000000,⟨[(6,hI)],[V6]⟩),(none,⟨[(0,(.ptr 0 0))],[V6]⟩)])] [(14,(Dq o)),(16,(AW o)),(154,(pT o))] [(218,(TX o))] ⟨Qt,⟨zqX,⟨VX,⟨⟩⟩⟩⟩ ⟨zhS,⟨⟩⟩ func140
def XX(o:D')(h:Bs)(i:Bool)(a:Q4)(b:U3)(c:o4)(d:P4)(e:kD):Option ((Int×w9)):=
 (Hg o h).bind fun j=>bif(!j)then some (120,a,b,c,d,e)else((kB o (a,b,c,d,e) h).bind fun f=>bif(!f.2)then some (122,a,b,c,d,e)else(bif(f.1.2.2.1 != i)then((sO o (f.1.1,f.1.2.1,i,P0 (f.1.2.2.2+1)) a b c d e).bind fun g=>some (0,g.2.2.2.2,g.1,g.2.1,g.2.2.1,g.2.2.2.1))else some (0,a,b,c,d,e)))
def zlY(o:D'):SC:=⟨⟨[(0,(.ptr 0 0)),(1,hS),(2,hB)],[V6]⟩,1,[(none,⟨[(0,hI)],[V6]⟩)],Aa (XX o)⟩
theorem zvQ:P' aA tabs 141 (zlY o):=Lb o [] [(14,(Dq o)),(154,(pT o))] [(218,(TX o))] ⟨Qt,⟨VX,⟨⟩⟩⟩ ⟨zhS,⟨⟩⟩ func141
def Xg(_o:D')(a:dk)(b:Int):Option kE:=
 bif(b==0)then(some a.2.1)else(bif(b==1)then(some a.2.2.1)else(some a.2.2.2.1))
def tO(o:D'):PC:=⟨[(.h Va),hI],[(.sl .s)],fun x=>Xg o x.1 x.2,false⟩
theorem qT:Z0 aA tabs 224 (tO o):=Rz (o:=o) (η:=[]) (Γ:=⟨[],[],false,[]⟩) (X4 trivial trivial) func224
def YX(_o:D')(b:kE)(d:Bs)(a:Int)(c:kE):Option ((Int×kE)⊕kE):=
 bif decide (a<(b.length:Int))then((idx b a).bind fun e=>bif(e != d)then((idx b a).bind fun f=>(X0 c ([f]:kE)).bind fun g=>some (.inl (P0 (a+1),g)))else some (.inl (P0 (a+1),c)))else some (.inr c)
def xI(o:D')(a:kE)(b:Bs):Option kE:=
 (iter (fun x=>YX o a b x.1 x.2) (0,([]:kE))).bind fun c=>some c
def rT(o:D'):PC:=⟨[(.h (.sl .s)),hS],[(.sl .s)],fun x=>xI o x.1 x.2,false⟩
theorem ZX:Z0 aA tabs 226 (rT o):=Rz (o:=o) (η:=[(200003,.loop [] ⟨[(5,(.own 0)),(6,hI)],[.H' .s 9]⟩ [0,1,4] [(some 0,⟨[(5,(.own 0))],[.H' .s 9]⟩)])]) (Γ:=⟨[],[],false,[]⟩) (X4 trivial trivial) func226
def ztZ(_o:D')(a:dk)(c:Int)(b:kE):Option ((Bs×kE×kE×kE×Int×Bs×Int)):=
 bif(c==0)then some (a.1,b,a.2.2.1,a.2.2.2.1,a.2.2.2.2,([]:Bs),0)else(bif(c==1)then some (a.1,a.2.1,b,a.2.2.2.1,a.2.2.2.2,([]:Bs),0)else some (a.1,a.2.1,a.2.2.1,b,a.2.2.2.2,([]:Bs),0))
def iv(o:D')(b:dk)(c:Int)(d:kE):Option dk:=
 (ztZ o b c d).bind fun a=>some (a.1,a.2.1,a.2.2.1,a.2.2.2.1,P0 (a.2.2.2.2.1+1))
def uO(o:D'):PC:=⟨[(.h Va),hI,(.h (.sl .s))],[Va],fun x=>iv o x.1 x.2.1 x.2.2,false⟩
theorem tT:Z0 aA tabs 225 (uO o):=Rz (o:=o) (η:=[(2000007,.join [] [] [(none,⟨[(3,(.ptr 0 0)),(6,(.ptr 1 0))],[qk,.N' 57 [hS,.Y',.Y',.Y',hI]]⟩)])]) (Γ:=⟨[],[],false,[]⟩) (X4 trivial trivial) func225
def jY(o:D')(d:Int)(j:Bs)(b:Int)(a:U3)(e:o4)(f:P4)(g:kD)(h:Q4)(i:U3):Option ((Int×U3×o4×P4×kD×Q4×U3)⊕((U3×o4×P4×kD×Q4×U3))):=
 bif decide (b<(a.length:Int))then((idx a b).bind fun c=>(Xg o c d).bind fun k=>(Zm o k j).bind fun l=>bif l then((Xg o c d).bind fun m=>(xI o m j).bind fun n=>(iv o c d n).bind fun p=>(X0 i ([p]:U3)).bind fun q=>some (.inl (P0 (b+1),a,e,f,g,h,q)))else((X0 i ([c]:U3)).bind fun r=>some (.inl (P0 (b+1),a,e,f,g,h,r))))else some (.inr (a,e,f,g,h,i))
def kY(o:D')(a:Int)(b:Bs)(c:U3)(d:o4)(e:P4)(f:kD)(g:Q4):Option ((o4×P4×kD×Q4×U3)):=
 (iter (fun x=>jY o a b x.1 x.2.1 x.2.2.1 x.2.2.2.1 x.2.2.2.2.1 x.2.2.2.2.2.1 x.2.2.2.2.2.2) (0,c,d,e,f,g,([]:U3))).bind fun h=>some h.2
def zoL(o:D'):SC:=⟨⟨[(0,(.ptr 0 0)),(1,hI),(2,hS)],[yr,.H' Mb 77]⟩,0,[(none,⟨[],[pk,.H' Mb 77,.H' Va 57]⟩)],Aa (kY o)⟩
theorem zzI:P' aA tabs 219 (zoL o):=Lb o [(200002,.loop [] ⟨[(0,(.ptr 0 0)),(6,(.own 2)),(7,hI)],[yr,.H' Mb 77,.H' Va 57]⟩ [1,2] [(some 0,⟨[(0,(.ptr 0 0)),(6,(.own 2))],[yr,.H' Mb 77,.H' Va 57]⟩)]),
 (4000006,.x7 (j7 0 4++[(.pu,5,[]),(.mn,4,[]),(.mn,6,[]),(.mn,7,[]),(.mn,8,[3])]))] [(224,(tO o)),(46,(YE o)),(226,(rT o)),(225,(uO o))] [] ⟨qT,⟨ZH,⟨ZX,⟨tT,⟨⟩⟩⟩⟩⟩ ⟨⟩ O4
def zoS(_o:D')(b:Bs)(c:Int)(d:o4)(e:P4)(a:kD)(f:Q4)(g:U3)(h:kD):Option ((Bool×o4×P4×kD×Q4×U3×kD)):=
 (idx a c).bind fun i=>bif(i.1 != b)then((idx a c).bind fun j=>some ((j.2 != b),d,e,a,f,g,h))else some (false,d,e,a,f,g,h)
def lY(o:D')(i:Bs)(b:Int)(d:o4)(e:P4)(c:kD)(f:Q4)(g:U3)(h:kD):Option ((Int×o4×P4×kD×Q4×U3×kD)⊕((o4×P4×kD×Q4×U3×kD))):=
 bif decide (b<(c.length:Int))then((zoS o i b d e c f g h).bind fun a=>bif a.1 then((idx a.2.2.2.1 b).bind fun j=>(X0 a.2.2.2.2.2.2 ([j]:kD)).bind fun k=>some (.inl (P0 (b+1),a.2.1,a.2.2.1,a.2.2.2.1,a.2.2.2.2.1,a.2.2.2.2.2.1,k)))else some (.inl (P0 (b+1),a.2)))else some (.inr (d,e,c,f,g,h))
def mY(o:D')(b:Bs)(c:o4)(d:P4)(e:kD)(f:Q4)(g:U3):Option ((o4×P4×Q4×U3×kD)):=
 (iter (fun x=>lY o b x.1 x.2.1 x.2.2.1 x.2.2.2.1 x.2.2.2.2.1 x.2.2.2.2.2.1 x.2.2.2.2.2.2) (0,c,d,e,f,g,([]:kD))).bind fun a=>some (a.1,a.2.1,a.2.2.2)
def zoT(o:D'):SC:=⟨⟨[(0,(.ptr 0 0)),(1,hS)],[pk,.H' Mb 77,.H' Va 57]⟩,0,[(none,⟨[],[.N' 84 [(.own 1),(.own 2),(.h (.sl sd)),(.h (.sl Lc)),(.own 3)],.H' Mb 77,.H' Va 57,.H' (.pr .s .s) 75]⟩)],Y9 (mY o)⟩
theorem yaO:P' aA tabs 220 (zoT o):=Lb o [(2300005,.join [] [1,5] [(none,⟨[(0,(.ptr 0 0)),(4,(.own 3)),(37,hB)],[pk,.H' Mb 77,.H' Va 57,.H' (.pr .s .s) 75]⟩)]),
 (200002,.loop [] ⟨[(0,(.ptr 0 0)),(4,(.own 3)),(5,hI)],[pk,.H' Mb 77,.H' Va 57,.H' (.pr .s .s) 75]⟩ [1] [(some 0,⟨[(0,(.ptr 0 0)),(4,(.own 3))],[pk,.H' Mb 77,.H' Va 57,.H' (.pr .s .s) 75]⟩)])] [] [] ⟨⟩ ⟨⟩ func220
def nY(o:D')(d:Bs)(a:Q4)(e:U3)(f:o4)(g:P4)(h:kD):Option ((Int×w9)):=
 (Hg o d).bind fun j=>bif(!j)then some (120,a,e,f,g,h)else((dv o (a,e,f,g,h) d).bind fun i=>bif(!i.2)then some (122,a,e,f,g,h)else((Z6 a i.1).bind fun k=>(T4 a (P0 (i.1+1))).bind fun l=>(X0 ([]:Q4) k).bind fun m=>(X0 m l).bind fun n=>(kY o 0 d e f g h n).bind fun b=>(X0 ([117,58]:Bs) d).bind fun p=>(mY o p b.1 b.2.1 b.2.2.1 b.2.2.2.1 b.2.2.2.2).bind fun c=>some (0,c.2.2.1,c.2.2.2.1,c.1,c.2.1,c.2.2.2.2)))
def zmV(o:D'):SC:=⟨⟨[(0,(.ptr 0 0)),(1,hS)],[V6]⟩,1,[(none,⟨[(0,hI)],[V6]⟩)],Y9 (nY o)⟩
theorem zxD:P' aA tabs 142 (zmV o):=Lb o [Wg] [(14,(Dq o)),(217,(oM o))] [(219,(zoL o)),(220,(zoT o))] ⟨Qt,⟨kO,⟨⟩⟩⟩ ⟨zzI,⟨yaO,⟨⟩⟩⟩ func142
def zmC(_o:D')(b:Bs)(c:Int)(d:Q4)(a:U3)(e:o4)(f:P4)(g:kD)(h:Int×Bool)(i:U3):Option ((U3×Q4×U3×o4×P4×kD×Bs×Int)):=
 bif h.2 then((T4 a (P0 (h.1+1))).bind fun j=>some (j,d,a,e,f,g,b,c))else some (i,d,a,e,f,g,b,c)
def oY(o:D')(d:Bs)(i:Int)(e:Q4)(b:U3)(f:o4)(g:P4)(h:kD):Option ((Q4×o4×P4×kD×U3)):=
 (An o (e,b,f,g,h) d).bind fun c=>(T4 b c.1).bind fun j=>(zmC o d i e b f g h c j).bind fun a=>(Z6 a.2.2.1 c.1).bind fun k=>(X0 ([]:U3) k).bind fun l=>(X0 l ([(a.2.2.2.2.2.2.1,([]:kE),([]:kE),([]:kE),a.2.2.2.2.2.2.2)]:U3)).bind fun m=>(X0 m a.1).bind fun n=>some (a.2.1,a.2.2.2.1,a.2.2.2.2.1,a.2.2.2.2.2.1,n)
def znC(o:D'):SC:=⟨⟨[(0,(.ptr 0 0)),(1,(.ag [hS,.Y',.Y',.Y',hI]))],[V6]⟩,0,[(none,⟨[],[nk,.H' Va 57]⟩)],Aa (oY o)⟩
theorem zvU:P' aA tabs 222 (znC o):=Lb o [(2000005,.join [] [4] [(none,⟨[(0,(.ptr 0 0)),(3,(.ptr 1 0)),(6,(.h (.sl Va)))],[V6,.N' 57 [hS,.Y',.Y',.Y',hI]]⟩)]),
 Kn] [(221,(pM o))] [] ⟨lO,⟨⟩⟩ ⟨⟩ func222
def pY(o:D')(g:Bs)(b:Q4)(a:U3)(c:o4)(d:P4)(e:kD):Option ((Int×w9)):=
 (Hg o g).bind fun h=>bif(!h)then some (120,b,a,c,d,e)else((An o (b,a,c,d,e) g).bind fun i=>bif i.2 then some (121,b,a,c,d,e)else(bif decide ((a.length:Int)≥32)then some (124,b,a,c,d,e)else((oY o g 1 b a c d e).bind fun f=>some (0,f.1,f.2.2.2.2,f.2.1,f.2.2.1,f.2.2.2.1))))
def zmR(o:D'):SC:=⟨⟨[(0,(.ptr 0 0)),(1,hS)],[V6]⟩,1,[(none,⟨[(0,hI)],[V6]⟩)],Y9 (pY o)⟩
theorem zwI:P' aA tabs 143 (zmR o):=Lb o [] [(14,(Dq o)),(221,(pM o))] [(222,(znC o))] ⟨Qt,⟨lO,⟨⟩⟩⟩ ⟨zvU,⟨⟩⟩ func143
def qY(o:D')(d:Int)(j:Bs)(a:Int)(e:Q4)(f:o4)(g:P4)(h:kD)(b:U3)(i:U3):Option ((Int×Q4×o4×P4×kD×U3×U3)⊕((Q4×o4×P4×kD×U3×U3))):=
 bif decide (a<(b.length:Int))then((o6 (decide (0<=a)&&decide (a<(b.length:Int)))).bind fun _=>(idx b a).bind fun c=>(Xg o c d).bind fun k=>(Zm o k j).bind fun l=>bif l then((Xg o c d).bind fun m=>(xI o m j).bind fun n=>(iv o c d n).bind fun p=>(X0 i ([p]:U3)).bind fun q=>some (.inl (P0 (a+1),e,f,g,h,b,q)))else((X0 i ([c]:U3)).bind fun r=>some (.inl (P0 (a+1),e,f,g,h,b,r))))else some (.inr (e,f,g,h,b,i))
def rY(o:D')(a:Int)(b:Bs)(c:Q4)(d:o4)(e:P4)(f:kD)(g:U3):Option ((Q4×o4×P4×kD×U3×U3)):=
 (iter (fun x=>qY o a b x.1 x.2.1 x.2.2.1 x.2.2.2.1 x.2.2.2.2.1 x.2.2.2.2.2.1 x.2.2.2.2.2.2) (0,c,d,e,f,g,([]:U3))).bind fun h=>some h
def znL(o:D'):SC:=⟨⟨[(0,(.ptr 0 0)),(1,hI),(2,hS)],[nk,.H' Va 57]⟩,0,[(none,⟨[],[.N' 84 [(.h (.sl Mb)),(.own 2),(.h (.sl sd)),(.h (.sl Lc)),(.h (.sl (.pr .s .s)))],.H' Va 57,.H' Va 57]⟩)],Aa (rY o)⟩
theorem zxU:P' aA tabs 219 (znL o):=Lb o [(200002,.loop [] ⟨[(0,(.ptr 0 0)),(6,(.own 2)),(7,hI)],[nk,.H' Va 57,.H' Va 57]⟩ [1,2] [(some 0,⟨[(0,(.ptr 0 0)),(6,(.own 2))],[nk,.H' Va 57,.H' Va 57]⟩)]),
 (4000006,.x7 (j7 0 4++[(.pu,5,[]),(.mn,4,[]),(.mn,6,[]),(.mn,7,[]),(.mn,8,[3])]))] [(224,(tO o)),(46,(YE o)),(226,(rT o)),(225,(uO o))] [] ⟨qT,⟨ZH,⟨ZX,⟨tT,⟨⟩⟩⟩⟩⟩ ⟨⟩ O4
def sY(o:D')(g:Bs)(c:Q4)(a:U3)(d:o4)(e:P4)(f:kD):Option ((Int×w9)):=
 (Hg o g).bind fun i=>bif(!i)then some (120,c,a,d,e,f)else((An o (c,a,d,e,f) g).bind fun h=>bif(!h.2)then some (122,c,a,d,e,f)else((Z6 a h.1).bind fun j=>(T4 a (P0 (h.1+1))).bind fun k=>(X0 ([]:U3) j).bind fun l=>(X0 l k).bind fun m=>(rY o 1 g c d e f m).bind fun b=>some (0,b.1,b.2.2.2.2.2,b.2.1,b.2.2.1,b.2.2.2.1)))
def zmB(o:D'):SC:=⟨⟨[(0,(.ptr 0 0)),(1,hS)],[V6]⟩,1,[(none,⟨[(0,hI)],[V6]⟩)],Y9 (sY o)⟩
theorem zvR:P' aA tabs 144 (zmB o):=Lb o [Wg] [(14,(Dq o)),(221,(pM o))] [(219,(znL o))] ⟨Qt,⟨lO,⟨⟩⟩⟩ ⟨zxU,⟨⟩⟩ func144
def zmA(_o:D')(b:dk)(c:Q4)(a:U3)(d:o4)(e:P4)(f:kD)(g:Int×Bool)(h:U3):Option ((U3×Q4×U3×o4×P4×kD×dk)):=
 bif g.2 then((T4 a (P0 (g.1+1))).bind fun i=>some (i,c,a,d,e,f,b))else some (h,c,a,d,e,f,b)
def AM(o:D')(d:dk)(e:Q4)(b:U3)(f:o4)(g:P4)(h:kD):Option ((Q4×o4×P4×kD×U3)):=
 (An o (e,b,f,g,h) d.1).bind fun c=>(T4 b c.1).bind fun i=>(zmA o d e b f g h c i).bind fun a=>(Z6 a.2.2.1 c.1).bind fun j=>(X0 ([]:U3) j).bind fun k=>(X0 k ([a.2.2.2.2.2.2]:U3)).bind fun l=>(X0 l a.1).bind fun m=>some (a.2.1,a.2.2.2.1,a.2.2.2.2.1,a.2.2.2.2.2.1,m)
def zgZ(o:D'):SC:=⟨⟨[(0,(.ptr 0 0)),(1,(.h Va))],[V6]⟩,0,[(none,⟨[],[nk,.H' Va 57]⟩)],Y9 (AM o)⟩
theorem zlZ:P' aA tabs 222 (zgZ o):=Lb o [(2000005,.join [] [4] [(none,⟨[(0,(.ptr 0 0)),(3,(.ptr 1 0)),(6,(.h (.sl Va)))],[V6,qk]⟩)]),
 Kn] [(221,(pM o))] [] ⟨lO,⟨⟩⟩ ⟨⟩ func222
def zpY(o:D')(f:Bs)(g:Bs)(a:Q4)(b:U3)(c:o4)(d:P4)(e:kD):Option ((Int×w9)⊕w9):=
 (Hg o f).bind fun h=>bif(!h)then some (.inl (120,a,b,c,d,e))else((Hg o g).bind fun i=>bif(!i)then some (.inl (120,a,b,c,d,e))else some (.inr (a,b,c,d,e)))
def zpW(o:D')(b:Int)(c:Bs)(a:(dk×Bool×w9)):Option ((Int×w9)⊕(Q4×U3×o4×P4×kD×dk)):=
 bif(!a.2.1)then some (.inl (122,a.2.2))else((LS o a.2.2 b c).bind fun d=>bif(!d)then some (.inl (122,a.2.2))else some (.inr (a.2.2.1,a.2.2.2.1,a.2.2.2.2.1,a.2.2.2.2.2.1,a.2.2.2.2.2.2,a.1)))
def zqF(o:D')(c:Bs)(d:Int)(e:Bs)(b:Q4×U3×o4×P4×kD×dk):Option ((Int×w9)⊕(Q4×U3×o4×P4×kD×dk)):=
 bif(d==1)then((nO o e b.1 b.2.1 b.2.2.1 b.2.2.2.1 b.2.2.2.2.1).bind fun a=>(Zm o a.2.2.2.2.2 c).bind fun f=>bif f then some (.inl (123,a.1,a.2.1,a.2.2.1,a.2.2.2.1,a.2.2.2.2.1))else some (.inr (a.1,a.2.1,a.2.2.1,a.2.2.2.1,a.2.2.2.2.1,b.2.2.2.2.2)))else some (.inr b)
def tY(o:D')(g:Bs)(c:Int)(d:Bs)(h:Q4)(i:U3)(j:o4)(k:P4)(l:kD):Option ((Int×w9)):=
 (zpY o g d h i j k l).bind fun m=>match m with
 |.inl n=>some n|.inr e=>((XA o g e.1 e.2.1 e.2.2.1 e.2.2.2.1 e.2.2.2.2).bind fun p=>(zpW o c d p).bind fun q=>match q with
 |.inl r=>some r|.inr a=>((Xg o a.2.2.2.2.2 c).bind fun s=>(Zm o s d).bind fun t=>bif t then some (121,a.1,a.2.1,a.2.2.1,a.2.2.2.1,a.2.2.2.2.1)else((zqF o g c d a).bind fun u=>match u with
 |.inl v=>some v|.inr b=>((Xg o b.2.2.2.2.2 c).bind fun w=>(qM o w d).bind fun y=>(iv o b.2.2.2.2.2 c y).bind fun z=>(AM o z b.1 b.2.1 b.2.2.1 b.2.2.2.1 b.2.2.2.2.1).bind fun f=>some (0,f.1,f.2.2.2.2,f.2.1,f.2.2.1,f.2.2.2.1)))))
def zrH(o:D'):SC:=⟨⟨[(0,(.ptr 0 0)),(1,hS),(2,hI),(3,hS)],[V6]⟩,1,[(none,⟨[(0,hI)],[V6]⟩)],uN8 (tY o)⟩
theorem ycL:P' aA tabs 145 (zrH o):=Lb o [(2000003,.join [] [1,2,3] [(some 1000000,⟨[(8,hI)],[V6]⟩),(none,⟨[(0,(.ptr 0 0))],[V6]⟩)]),
 (2000006,.join [] [1,2,3] [(some 1000000,⟨[(8,hI)],[V6]⟩),(none,⟨[(0,(.ptr 0 0)),(9,(.ptr 1 0))],[V6,qk]⟩)]),
 (2000010,.join [] [2,3] [(some 1000000,⟨[(8,hI)],[V6]⟩),(none,⟨[(0,(.ptr 0 0)),(9,(.ptr 1 0))],[V6,qk]⟩)]),
 (4000010,.x7 (j7 0 5++[(.pu,6,[]),(.mn,5,[]),(.mn,7,[]),(.mn,8,[]),(.mn,9,[0])]))] [(14,(Dq o)),(223,(ziY o)),(224,(tO o)),(46,(YE o)),(186,(EX o)),(225,(uO o))] [(156,(rM o)),(184,(zjH o)),(222,(zgZ o))] ⟨Qt,⟨zoW,⟨qT,⟨ZH,⟨zqM,⟨tT,⟨⟩⟩⟩⟩⟩⟩⟩ ⟨mO,⟨zoQ,⟨zlZ,⟨⟩⟩⟩⟩ func145
def zpV(o:D')(f:Bs)(g:Bs)(a:Q4)(b:U3)(c:o4)(d:P4)(e:kD):Option ((Int×w9)⊕w9):=
 (Hg o f).bind fun h=>bif(!h)then some (.inl (120,a,b,c,d,e))else((Hg o g).bind fun i=>bif(!i)then some (.inl (120,a,b,c,d,e))else some (.inr (a,b,c,d,e)))
def zqE(o:D')(b:Int)(c:Bs)(a:(dk×Bool×w9)):Option ((Int×w9)⊕(Q4×U3×o4×P4×kD×dk)):=
 bif(!a.2.1)then some (.inl (122,a.2.2))else((LS o a.2.2 b c).bind fun d=>bif(!d)then some (.inl (122,a.2.2))else((Xg o a.1 b).bind fun e=>(Zm o e c).bind fun f=>bif(!f)then some (.inl (122,a.2.2))else some (.inr (a.2.2.1,a.2.2.2.1,a.2.2.2.2.1,a.2.2.2.2.2.1,a.2.2.2.2.2.2,a.1))))
def uY(o:D')(f:Bs)(d:Int)(e:Bs)(g:Q4)(h:U3)(i:o4)(j:P4)(k:kD):Option ((Int×w9)):=
 (zpV o f e g h i j k).bind fun l=>match l with
 |.inl m=>some m|.inr b=>((XA o f b.1 b.2.1 b.2.2.1 b.2.2.2.1 b.2.2.2.2).bind fun n=>(zqE o d e n).bind fun p=>match p with
 |.inl q=>some q|.inr a=>((Xg o a.2.2.2.2.2 d).bind fun r=>(xI o r e).bind fun s=>(iv o a.2.2.2.2.2 d s).bind fun t=>(AM o t a.1 a.2.1 a.2.2.1 a.2.2.2.1 a.2.2.2.2.1).bind fun c=>some (0,c.1,c.2.2.2.2,c.2.1,c.2.2.1,c.2.2.2.1)))
def zrK(o:D'):SC:=⟨⟨[(0,(.ptr 0 0)),(1,hS),(2,hI),(3,hS)],[V6]⟩,1,[(none,⟨[(0,hI)],[V6]⟩)],uN8 (uY o)⟩
theorem ycE:P' aA tabs 146 (zrK o):=Lb o [(2000003,.join [] [1,2,3] [(some 1000000,⟨[(8,hI)],[V6]⟩),(none,⟨[(0,(.ptr 0 0))],[V6]⟩)]),
 (2000006,.join [] [2,3] [(some 1000000,⟨[(8,hI)],[V6]⟩),(none,⟨[(0,(.ptr 0 0)),(9,(.ptr 1 0))],[V6,qk]⟩)]),
 (4000006,.x7 (j7 0 5++[(.pu,6,[]),(.mn,5,[]),(.mn,7,[]),(.mn,8,[]),(.mn,9,[0])]))] [(14,(Dq o)),(223,(ziY o)),(224,(tO o)),(46,(YE o)),(226,(rT o)),(225,(uO o))] [(156,(rM o)),(222,(zgZ o))] ⟨Qt,⟨zoW,⟨qT,⟨ZH,⟨ZX,⟨tT,⟨⟩⟩⟩⟩⟩⟩⟩ ⟨mO,⟨zlZ,⟨⟩⟩⟩ func146
def zmN(_o:D')(f:uu)(b:Q4)(c:U3)(a:o4)(d:P4)(e:kD)(g:Int×Bool):Option ((Int×w9)⊕(Q4×U3×o4×P4×kD×uu)):=
 bif(!g.2)then(bif decide ((a.length:Int)≥32)then some (.inl (124,b,c,a,d,e))else some (.inr (b,c,a,d,e,f)))else some (.inr (b,c,a,d,e,f))
def zmU(_o:D')(b:Int×Bool)(a:Q4×U3×o4×P4×kD×uu)(c:o4):Option ((o4×Q4×U3×o4×P4×kD×uu)):=
 bif b.2 then((T4 a.2.2.1 (P0 (b.1+1))).bind fun d=>some (d,a))else some (c,a)
def zmJ(_o:D')(a:o4×Q4×U3×o4×P4×kD×uu):Option ((Q4×U3×o4×P4×kD×uu)):=
 (X0 ([]:kE) a.2.2.2.2.2.2.2).bind fun b=>some (a.2.1,a.2.2.1,a.2.2.2.1,a.2.2.2.2.1,a.2.2.2.2.2.1,a.2.2.2.2.2.2.1,b)
def vY(o:D')(c:uu)(d:Q4)(e:U3)(f:o4)(g:P4)(h:kD):Option ((Int×w9)):=
 (AX o c).bind fun k=>bif(!k)then some (120,d,e,f,g,h)else((Ez o (d,e,f,g,h) c.1).bind fun b=>(zmN o c d e f g h b).bind fun l=>match l with
 |.inl m=>some m|.inr i=>((T4 i.2.2.1 b.1).bind fun n=>(zmU o b i n).bind fun j=>(zmJ o j).bind fun a=>(Z6 a.2.2.1 b.1).bind fun p=>(X0 ([]:o4) p).bind fun q=>(X0 q ([a.2.2.2.2.2]:o4)).bind fun r=>(X0 r j.1).bind fun s=>some (0,a.1,a.2.1,s,a.2.2.2.1,a.2.2.2.2.1)))
def znM(o:D'):SC:=⟨⟨[(0,(.ptr 0 0)),(1,(.h sd))],[V6]⟩,1,[(none,⟨[(0,hI)],[V6]⟩)],Y9 (vY o)⟩
theorem zxS:P' aA tabs 147 (znM o):=Lb o [(2000006,.join [] [5,6] [(some 1000000,⟨[(4,hI)],[V6]⟩),(none,⟨[(0,(.ptr 0 0)),(3,(.ptr 1 0))],[V6,Jn]⟩)]),
 (2000009,.join [] [5] [(none,⟨[(0,(.ptr 0 0)),(3,(.ptr 1 0)),(7,(.h (.sl sd)))],[V6,Jn]⟩)]),
 (2000010,.join [] [5,7] [(none,⟨[(0,(.ptr 0 0)),(3,(.ptr 1 0))],[V6,Jn]⟩)]),
 (4000010,.x7 ([(.pu,0,[2])]++j7 2 6++[(.pu,9,[2]),(.la,10,[]),(.pu,12,[2]),(.mn,1,[]),(.mn,8,[2]),(.rv,10,[]),(.mn,11,[2]),(.mn,13,[2]),(.pu,14,[]),(.pu,15,[]),(.mn,16,[0])]))] [(181,(ztV o)),(227,(KS o))] [] ⟨yfD,⟨BX,⟨⟩⟩⟩ ⟨⟩ func147
def wY(o:D')(d:Int)(j:Bs)(b:Int)(e:Q4)(a:U3)(f:P4)(g:kD)(h:o4)(i:U3):Option ((Int×Q4×U3×P4×kD×o4×U3)⊕((Q4×U3×P4×kD×o4×U3))):=
 bif decide (b<(a.length:Int))then((idx a b).bind fun c=>(Xg o c d).bind fun k=>(Zm o k j).bind fun l=>bif l then((Xg o c d).bind fun m=>(xI o m j).bind fun n=>(iv o c d n).bind fun p=>(X0 i ([p]:U3)).bind fun q=>some (.inl (P0 (b+1),e,a,f,g,h,q)))else((X0 i ([c]:U3)).bind fun r=>some (.inl (P0 (b+1),e,a,f,g,h,r))))else some (.inr (e,a,f,g,h,i))
def xY(o:D')(b:Int)(c:Bs)(d:Q4)(e:U3)(f:P4)(g:kD)(h:o4):Option ((Q4×P4×kD×o4×U3)):=
 (iter (fun x=>wY o b c x.1 x.2.1 x.2.2.1 x.2.2.2.1 x.2.2.2.2.1 x.2.2.2.2.2.1 x.2.2.2.2.2.2) (0,d,e,f,g,h,([]:U3))).bind fun a=>some (a.1,a.2.2)
def znP(o:D'):SC:=⟨⟨[(0,(.ptr 0 0)),(1,hI),(2,hS)],[Uz,.H' sd 49]⟩,0,[(none,⟨[],[.N' 84 [(.h (.sl Mb)),(.own 2),(.own 1),(.h (.sl Lc)),(.h (.sl (.pr .s .s)))],.H' sd 49,.H' Va 57]⟩)],Aa (xY o)⟩
theorem zxY:P' aA tabs 219 (znP o):=Lb o [(200002,.loop [] ⟨[(0,(.ptr 0 0)),(6,(.own 2)),(7,hI)],[Uz,.H' sd 49,.H' Va 57]⟩ [1,2] [(some 0,⟨[(0,(.ptr 0 0)),(6,(.own 2))],[Uz,.H' sd 49,.H' Va 57]⟩)]),
 (4000006,.x7 (j7 0 4++[(.pu,5,[]),(.mn,4,[]),(.mn,6,[]),(.mn,7,[]),(.mn,8,[3])]))] [(224,(tO o)),(46,(YE o)),(226,(rT o)),(225,(uO o))] [] ⟨qT,⟨ZH,⟨ZX,⟨tT,⟨⟩⟩⟩⟩⟩ ⟨⟩ O4
def yY(o:D')(g:Bs)(c:Q4)(d:U3)(a:o4)(e:P4)(f:kD):Option ((Int×w9)):=
 (Hg o g).bind fun i=>bif(!i)then some (120,c,d,a,e,f)else((Ez o (c,d,a,e,f) g).bind fun h=>bif(!h.2)then some (122,c,d,a,e,f)else((Z6 a h.1).bind fun j=>(T4 a (P0 (h.1+1))).bind fun k=>(X0 ([]:o4) j).bind fun l=>(X0 l k).bind fun m=>(xY o 2 g c d e f m).bind fun b=>some (0,b.1,b.2.2.2.2,b.2.2.2.1,b.2.1,b.2.2.1)))
def zmS(o:D'):SC:=⟨⟨[(0,(.ptr 0 0)),(1,hS)],[V6]⟩,1,[(none,⟨[(0,hI)],[V6]⟩)],Y9 (yY o)⟩
theorem zwS:P' aA tabs 148 (zmS o):=Lb o [Wg] [(14,(Dq o)),(227,(KS o))] [(219,(znP o))] ⟨Qt,⟨BX,⟨⟩⟩⟩ ⟨zxY,⟨⟩⟩ func148
def zlC(_o:D')(f:ek)(b:Q4)(c:U3)(d:o4)(a:P4)(e:kD)(g:Int×Bool):Option ((Int×w9)⊕(Q4×U3×o4×P4×kD×ek)):=
 bif(!g.2)then(bif decide ((a.length:Int)≥32)then some (.inl (124,b,c,d,a,e))else some (.inr (b,c,d,a,e,f)))else some (.inr (b,c,d,a,e,f))
def zkX(_o:D')(b:Int×Bool)(a:Q4×U3×o4×P4×kD×ek)(c:P4):Option ((P4×Q4×U3×o4×P4×kD×ek)):=
 bif b.2 then((T4 a.2.2.2.1 (P0 (b.1+1))).bind fun d=>some (d,a))else some (c,a)
def zlE(_o:D')(a:P4×Q4×U3×o4×P4×kD×ek)(b:kE):Option ((Q4×U3×o4×P4×kD×ek)):=
 (X0 ([]:kE) a.2.2.2.2.2.2.2.2.2.1).bind fun c=>some (a.2.1,a.2.2.1,a.2.2.2.1,a.2.2.2.2.1,a.2.2.2.2.2.1,a.2.2.2.2.2.2.1,a.2.2.2.2.2.2.2.1,b,c,a.2.2.2.2.2.2.2.2.2.2)
def zY(o:D')(c:ek)(d:Q4)(e:U3)(f:o4)(g:P4)(h:kD):Option ((Int×w9)):=
 (zX o c).bind fun k=>bif(!k)then some (120,d,e,f,g,h)else((WA o (d,e,f,g,h) c.1).bind fun b=>(zlC o c d e f g h b).bind fun l=>match l with
 |.inl m=>some m|.inr j=>((T4 j.2.2.2.1 b.1).bind fun n=>(zkX o b j n).bind fun i=>(X0 ([]:kE) i.2.2.2.2.2.2.2.2.1).bind fun p=>(zlE o i p).bind fun a=>(Z6 a.2.2.2.1 b.1).bind fun q=>(X0 ([]:P4) q).bind fun r=>(X0 r ([a.2.2.2.2.2]:P4)).bind fun s=>(X0 s i.1).bind fun t=>some (0,a.1,a.2.1,a.2.2.1,t,a.2.2.2.2.1)))
def zlX(o:D'):SC:=⟨⟨[(0,(.ptr 0 0)),(1,(.h Lc))],[V6]⟩,1,[(none,⟨[(0,hI)],[V6]⟩)],Y9 (zY o)⟩
theorem zvP:P' aA tabs 149 (zlX o):=Lb o [(2000006,.join [] [5,6] [(some 1000000,⟨[(4,hI)],[V6]⟩),(none,⟨[(0,(.ptr 0 0)),(3,(.ptr 1 0))],[V6,Vz]⟩)]),
 (2000009,.join [] [5] [(none,⟨[(0,(.ptr 0 0)),(3,(.ptr 1 0)),(7,(.h (.sl Lc)))],[V6,Vz]⟩)]),
 (2000011,.join [] [5,7] [(none,⟨[(0,(.ptr 0 0)),(3,(.ptr 1 0))],[V6,Vz]⟩)]),
 (4000011,.x7 ([(.pu,0,[2])]++j7 2 6++[(.pu,9,[2]),(.la,10,[]),(.pu,12,[2]),(.mn,1,[]),(.mn,8,[2]),(.rv,10,[]),(.mn,11,[2]),(.mn,13,[2]),(.pu,14,[]),(.pu,15,[]),(.mn,16,[0])]))] [(179,(zsN o)),(228,(NS o))] [] ⟨ycU,⟨DX,⟨⟩⟩⟩ ⟨⟩ func149
def zoC(_o:D')(b:Bs)(c:Int)(d:Q4)(e:U3)(f:o4)(a:kD)(g:P4)(h:kD):Option ((Bool×Q4×U3×o4×kD×P4×kD)):=
 (idx a c).bind fun i=>bif(i.1 != b)then((idx a c).bind fun j=>some ((j.2 != b),d,e,f,a,g,h))else some (false,d,e,f,a,g,h)
def AY(o:D')(i:Bs)(b:Int)(d:Q4)(e:U3)(f:o4)(c:kD)(g:P4)(h:kD):Option ((Int×Q4×U3×o4×kD×P4×kD)⊕((Q4×U3×o4×kD×P4×kD))):=
 bif decide (b<(c.length:Int))then((zoC o i b d e f c g h).bind fun a=>bif a.1 then((idx a.2.2.2.2.1 b).bind fun j=>(X0 a.2.2.2.2.2.2 ([j]:kD)).bind fun k=>some (.inl (P0 (b+1),a.2.1,a.2.2.1,a.2.2.2.1,a.2.2.2.2.1,a.2.2.2.2.2.1,k)))else some (.inl (P0 (b+1),a.2)))else some (.inr (d,e,f,c,g,h))
def BY(o:D')(b:Bs)(c:Q4)(d:U3)(e:o4)(f:kD)(g:P4):Option (w9):=
 (iter (fun x=>AY o b x.1 x.2.1 x.2.2.1 x.2.2.2.1 x.2.2.2.2.1 x.2.2.2.2.2.1 x.2.2.2.2.2.2) (0,c,d,e,f,g,([]:kD))).bind fun a=>some (a.1,a.2.1,a.2.2.1,a.2.2.2.2)
def zoG(o:D'):SC:=⟨⟨[(0,(.ptr 0 0)),(1,hS)],[zr,.H' Lc 51]⟩,0,[(none,⟨[],[.N' 84 [(.h (.sl Mb)),(.h (.sl Va)),(.h (.sl sd)),(.own 1),(.own 2)],.H' Lc 51,.H' (.pr .s .s) 75]⟩)],Y9 (BY o)⟩
theorem zzJ:P' aA tabs 220 (zoG o):=Lb o [(2300005,.join [] [1,5] [(none,⟨[(0,(.ptr 0 0)),(4,(.own 2)),(37,hB)],[zr,.H' Lc 51,.H' (.pr .s .s) 75]⟩)]),
 (200002,.loop [] ⟨[(0,(.ptr 0 0)),(4,(.own 2)),(5,hI)],[zr,.H' Lc 51,.H' (.pr .s .s) 75]⟩ [1] [(some 0,⟨[(0,(.ptr 0 0)),(4,(.own 2))],[zr,.H' Lc 51,.H' (.pr .s .s) 75]⟩)])] [] [] ⟨⟩ ⟨⟩ func220
def CY(o:D')(f:Bs)(b:Q4)(c:U3)(d:o4)(a:P4)(e:kD):Option ((Int×w9)):=
 (Hg o f).bind fun h=>bif(!h)then some (120,b,c,d,a,e)else((WA o (b,c,d,a,e) f).bind fun g=>bif(!g.2)then some (122,b,c,d,a,e)else((Z6 a g.1).bind fun i=>(T4 a (P0 (g.1+1))).bind fun j=>(X0 ([]:P4) i).bind fun k=>(X0 k j).bind fun l=>(X0 ([99,58]:Bs) f).bind fun m=>(BY o m b c d e l).bind fun n=>some (0,n)))
def zlG(o:D'):SC:=⟨⟨[(0,(.ptr 0 0)),(1,hS)],[V6]⟩,1,[(none,⟨[(0,hI)],[V6]⟩)],Y9 (CY o)⟩
theorem zuK:P' aA tabs 150 (zlG o):=Lb o [Wg] [(14,(Dq o)),(228,(NS o))] [(220,(zoG o))] ⟨Qt,⟨DX,⟨⟩⟩⟩ ⟨zzJ,⟨⟩⟩ func150
def zqJ(o:D')(a:Bs)(b:Bs):Option (Int⊕Unit):=
 (SN o a).bind fun c=>bif(!c)then some (.inl 120)else((SN o b).bind fun d=>bif(!d)then some (.inl 120)else some (.inr ()))
def BM(o:D')(a:w9)(b:Bs)(c:Bs):Option (Int):=
 (zqJ o b c).bind fun d=>match d with
 |.inl e=>(some e)|.inr _=>((tI o a b).bind fun f=>bif(!f)then(some 122)else((tI o a c).bind fun g=>bif(!g)then(some 122)else(some 0)))
def zjQ(o:D'):PC:=⟨[(.hr Vg),hS,hS],[(.i .i64)],fun x=>BM o x.1 x.2.1 x.2.2,false⟩
theorem zqC:Z0 aA tabs 229 (zjQ o):=Rz (o:=o) (η:=[(2000003,.join [] [0,1,2] [(some 1000000,⟨[(6,hI)],[]⟩),(none,⟨[],[]⟩)])]) (Γ:=⟨[(20,(zkZ o)),(185,(zlB o))],[],false,[]⟩) (X4 ⟨zsP,⟨zsD,trivial⟩⟩ trivial) func229
def zkA(_o:D')(b:w9)(c:Bs)(d:Bs)(a:Int):Option (Int⊕(Bool⊕Unit)):=
 bif decide (a<(b.2.2.2.2.length:Int))then((idx b.2.2.2.2 a).bind fun e=>bif(e.1==c)then((idx b.2.2.2.2 a).bind fun f=>bif(f.2==d)then some (.inr (.inl true))else some (.inl (P0 (a+1))))else some (.inl (P0 (a+1))))else some (.inr (.inr ()))
def yI(o:D')(a:w9)(b:Bs)(c:Bs):Option (Bool):=
 (iter (zkA o a b c) 0).bind fun d=>match d with
 |.inl e=>(some e)|.inr _=>(some false)
def DY(o:D'):PC:=⟨[(.hr Vg),hS,hS],[.b],fun x=>yI o x.1 x.2.1 x.2.2,false⟩
theorem zkH:Z0 aA tabs 57 (DY o):=Rz (o:=o) (η:=[(200002,.loop [] ⟨[(7,hI)],[]⟩ [0,1,2] [(some 1000000,⟨[(6,hB)],[]⟩),(some 0,⟨[],[]⟩)])]) (Γ:=⟨[],[],false,[]⟩) (X4 trivial trivial) func57
def vO(_o:D')(g:Bs)(h:Bs)(a:Int)(c:Q4)(d:U3)(e:o4)(f:P4)(b:kD):Option ((Int×w9)⊕((Int×w9))):=
 bif decide (a<(b.length:Int))then((idx b a).bind fun i=>bif j9 i.1 g then some (.inl (P0 (a+1),c,d,e,f,b))else((idx b a).bind fun j=>bif(j.1==g)then((idx b a).bind fun k=>bif j9 k.2 h then some (.inl (P0 (a+1),c,d,e,f,b))else some (.inr (a,c,d,e,f,b)))else some (.inr (a,c,d,e,f,b))))else some (.inr (a,c,d,e,f,b))
def EY(o:D')(g:Bs)(h:Bs)(c:Q4)(d:U3)(e:o4)(f:P4)(b:kD):Option ((Int×w9)):=
 (BM o (c,d,e,f,b) g h).bind fun i=>bif(i != 0)then some (i,c,d,e,f,b)else((yI o (c,d,e,f,b) g h).bind fun j=>bif j then some (121,c,d,e,f,b)else(bif decide ((b.length:Int)≥64)then some (124,c,d,e,f,b)else((iter (fun x=>vO o g h x.1 x.2.1 x.2.2.1 x.2.2.2.1 x.2.2.2.2.1 x.2.2.2.2.2) (0,c,d,e,f,b)).bind fun a=>(Z6 a.2.2.2.2.2 a.1).bind fun k=>(T4 a.2.2.2.2.2 a.1).bind fun l=>(X0 ([]:kD) k).bind fun m=>(X0 m ([(g,h)]:kD)).bind fun n=>(X0 n l).bind fun p=>some (0,a.2.1,a.2.2.1,a.2.2.2.1,a.2.2.2.2.1,p))))
def zoV(o:D'):SC:=⟨⟨[(0,(.ptr 0 0)),(1,hS),(2,hS)],[V6]⟩,1,[(none,⟨[(0,hI)],[V6]⟩)],Aa (EY o)⟩
theorem yaR:P' aA tabs 151 (zoV o):=Lb o [(200009,.loop [] ⟨[(0,(.ptr 0 0)),(8,hI)],[V6]⟩ [1,2,6] [(some 0,⟨[(0,(.ptr 0 0)),(8,hI)],[V6]⟩)]),
 (4000011,.x7 ([(.pu,0,[1])]++j7 2 6++[(.pu,9,[1]),(.pu,10,[1]),(.pu,11,[1]),(.la,12,[]),(.pu,14,[1]),(.pu,15,[1]),(.pu,16,[1]),(.pu,17,[1]),(.pu,18,[1]),(.pu,19,[1]),(.mn,1,[]),(.mn,8,[1]),(.rv,12,[]),(.mn,13,[1]),(.mn,20,[1]),(.pu,21,[]),(.pu,22,[]),(.mn,23,[0])]))] [(229,(zjQ o)),(57,(DY o))] [] ⟨zqC,⟨zkH,⟨⟩⟩⟩ ⟨⟩ func151
def zoU(_o:D')(h:Bs)(i:Bs)(b:Int)(c:Q4)(d:U3)(e:o4)(f:P4)(a:kD)(g:kD):Option ((Bool×Q4×U3×o4×P4×kD×kD)):=
 (idx a b).bind fun j=>bif(j.1 != h)then some (true,c,d,e,f,a,g)else((idx a b).bind fun k=>some ((k.2 != i),c,d,e,f,a,g))
def FY(o:D')(i:Bs)(j:Bs)(b:Int)(d:Q4)(e:U3)(f:o4)(g:P4)(c:kD)(h:kD):Option ((Int×Q4×U3×o4×P4×kD×kD)⊕((Q4×U3×o4×P4×kD×kD))):=
 bif decide (b<(c.length:Int))then((zoU o i j b d e f g c h).bind fun a=>bif a.1 then((idx a.2.2.2.2.2.1 b).bind fun k=>(X0 a.2.2.2.2.2.2 ([k]:kD)).bind fun l=>some (.inl (P0 (b+1),a.2.1,a.2.2.1,a.2.2.2.1,a.2.2.2.2.1,a.2.2.2.2.2.1,l)))else some (.inl (P0 (b+1),a.2)))else some (.inr (d,e,f,g,c,h))
def GY(o:D')(g:Bs)(h:Bs)(a:Q4)(b:U3)(c:o4)(d:P4)(e:kD):Option ((Int×w9)):=
 (BM o (a,b,c,d,e) g h).bind fun i=>bif(i != 0)then some (i,a,b,c,d,e)else((yI o (a,b,c,d,e) g h).bind fun j=>bif(!j)then some (122,a,b,c,d,e)else((iter (fun x=>FY o g h x.1 x.2.1 x.2.2.1 x.2.2.2.1 x.2.2.2.2.1 x.2.2.2.2.2.1 x.2.2.2.2.2.2) (0,a,b,c,d,e,([]:kD))).bind fun f=>some (0,f.1,f.2.1,f.2.2.1,f.2.2.2.1,f.2.2.2.2.2)))
def zpX(o:D'):SC:=⟨⟨[(0,(.ptr 0 0)),(1,hS),(2,hS)],[V6]⟩,1,[(none,⟨[(0,hI)],[V6]⟩)],Aa (GY o)⟩
theorem ybM:P' aA tabs 152 (zpX o):=Lb o [(2300011,.join [] [1,2,9] [(none,⟨[(0,(.ptr 0 0)),(8,(.own 1)),(53,hB)],[V6,.H' (.pr .s .s) 75]⟩)]),
 (200008,.loop [] ⟨[(0,(.ptr 0 0)),(8,(.own 1)),(9,hI)],[V6,.H' (.pr .s .s) 75]⟩ [1,2,6] [(some 0,⟨[(0,(.ptr 0 0)),(8,(.own 1))],[V6,.H' (.pr .s .s) 75]⟩)])] [(229,(zjQ o)),(57,(DY o))] [] ⟨zqC,⟨zkH,⟨⟩⟩⟩ ⟨⟩ func152
def zvW(_o:D')(a:ik)(b:Q4)(c:U3)(d:o4)(e:P4)(f:kD):Option ((Bool×Q4×U3×o4×P4×kD×Int×Int×Bs×Bs×Bool×Bs×kE×ek)):=
 bif(a.2.1==6)then some ((a.2.1==6),b,c,d,e,f,a.1,a.2.1,a.2.2.1,a.2.2.2.1,a.2.2.2.2.1,a.2.2.2.2.2.1.1,a.2.2.2.2.2.1.2,a.2.2.2.2.2.2)else(bif(a.2.1==8)then some ((a.2.1==8),b,c,d,e,f,a.1,a.2.1,a.2.2.1,a.2.2.2.1,a.2.2.2.2.1,a.2.2.2.2.2.1.1,a.2.2.2.2.2.1.2,a.2.2.2.2.2.2)else some ((a.2.1==10),b,c,d,e,f,a.1,a.2.1,a.2.2.1,a.2.2.2.1,a.2.2.2.2.1,a.2.2.2.2.2.1.1,a.2.2.2.2.2.1.2,a.2.2.2.2.2.2))
def uT(_o:D')(a:ik)(b:Bool×Q4×U3×o4×P4×kD×Int×Int×Bs×Bs×Bool×Bs×kE×ek):Option ((Bool×Q4×U3×o4×P4×kD×Int×Int×Bs×Bs×Bool×Bs×kE×ek)):=
 bif(a.2.1==7)then some ((a.2.1==7),b.2)else(bif(a.2.1==9)then some ((a.2.1==9),b.2)else some ((a.2.1==11),b.2))
def vT(o:D')(b:ik)(d:Q4)(e:U3)(f:o4)(g:P4)(h:kD):Option ((Int×w9)):=
 bif(b.2.1==0)then((UX o b.2.2.1 b.2.2.2.1 d e f g h).bind fun i=>some i)else(bif(b.2.1==1)then((WX o b.2.2.1 b.2.2.2.1 d e f g h).bind fun j=>some j)else(bif(b.2.1==2)then((XX o b.2.2.1 b.2.2.2.2.1 d e f g h).bind fun k=>some k)else(bif(b.2.1==3)then((nY o b.2.2.1 d e f g h).bind fun l=>some l)else(bif(b.2.1==4)then((pY o b.2.2.1 d e f g h).bind fun m=>some m)else(bif(b.2.1==5)then((sY o b.2.2.1 d e f g h).bind fun n=>some n)else((zvW o b d e f g h).bind fun c=>bif c.1 then((o6 (((2:Int) != 0))).bind fun _=>let p:Int:=P0 (fR (P0 (c.2.2.2.2.2.2.2.1-6)) 2)
 (tY o c.2.2.2.2.2.2.2.2.1 p c.2.2.2.2.2.2.2.2.2.1 c.2.1 c.2.2.1 c.2.2.2.1 c.2.2.2.2.1 c.2.2.2.2.2.1).bind fun q=>some q)else((uT o b c).bind fun a=>bif a.1 then((o6 (((2:Int) != 0))).bind fun _=>let r:Int:=P0 (fR (P0 (a.2.2.2.2.2.2.2.1-7)) 2)
 (uY o a.2.2.2.2.2.2.2.2.1 r a.2.2.2.2.2.2.2.2.2.1 a.2.1 a.2.2.1 a.2.2.2.1 a.2.2.2.2.1 a.2.2.2.2.2.1).bind fun s=>some s)else(bif(b.2.1==12)then((vY o (a.2.2.2.2.2.2.2.2.2.2.2.1,a.2.2.2.2.2.2.2.2.2.2.2.2.1) a.2.1 a.2.2.1 a.2.2.2.1 a.2.2.2.2.1 a.2.2.2.2.2.1).bind fun t=>some t)else(bif(b.2.1==13)then((yY o a.2.2.2.2.2.2.2.2.1 a.2.1 a.2.2.1 a.2.2.2.1 a.2.2.2.2.1 a.2.2.2.2.2.1).bind fun u=>some u)else(bif(b.2.1==14)then((zY o a.2.2.2.2.2.2.2.2.2.2.2.2.2 a.2.1 a.2.2.1 a.2.2.2.1 a.2.2.2.2.1 a.2.2.2.2.2.1).bind fun v=>some v)else(bif(b.2.1==15)then((CY o a.2.2.2.2.2.2.2.2.1 a.2.1 a.2.2.1 a.2.2.2.1 a.2.2.2.2.1 a.2.2.2.2.2.1).bind fun w=>some w)else(bif(b.2.1==16)then((EY o a.2.2.2.2.2.2.2.2.1 a.2.2.2.2.2.2.2.2.2.1 a.2.1 a.2.2.1 a.2.2.2.1 a.2.2.2.2.1 a.2.2.2.2.2.1).bind fun y=>some y)else(bif(b.2.1==17)then((GY o a.2.2.2.2.2.2.2.2.1 a.2.2.2.2.2.2.2.2.2.1 a.2.1 a.2.2.1 a.2.2.2.1 a.2.2.2.2.1 a.2.2.2.2.2.1).bind fun z=>some z)else some (0,a.2.1,a.2.2.1,a.2.2.2.1,a.2.2.2.2.1,a.2.2.2.2.2.1))))))))))))))
def zxE(o:D'):SC:=⟨⟨[(0,(.ptr 0 0)),(1,(.h wI))],[V6]⟩,1,[(none,⟨[(0,hI)],[V6]⟩)],Y9 (vT o)⟩
theorem yhC:P' aA tabs 54 (zxE o):=Lb o [(2300017,.join [] [6] [(none,⟨[(0,(.ptr 0 0)),(3,(.ptr 1 0)),(49,hB)],[V6,.N' 53 [hI,hI,hS,hS,hB,hS,(.h (.sl .s)),hS,hS,(.h (.sl .s)),(.h (.sl .s)),hB,hB,hB,hB]]⟩)]),
 (2300021,.join [] [6] [(none,⟨[(0,(.ptr 0 0)),(3,(.ptr 1 0)),(63,hB)],[V6,.N' 53 [hI,hI,hS,hS,hB,hS,(.h (.sl .s)),hS,hS,(.h (.sl .s)),(.h (.sl .s)),hB,hB,hB,hB]]⟩)])] [] [(139,(znN o)),(140,(znO o)),(141,(zlY o)),(142,(zmV o)),(143,(zmR o)),(144,(zmB o)),(145,(zrH o)),(146,(zrK o)),(147,(znM o)),(148,(zmS o)),(149,(zlX o)),(150,(zlG o)),(151,(zoV o)),(152,(zpX o))] ⟨⟩ ⟨zxT,⟨zxX,⟨zvQ,⟨zxD,⟨zwI,⟨zvR,⟨ycL,⟨ycE,⟨zxS,⟨zwS,⟨zvP,⟨zuK,⟨yaR,⟨ybM,⟨⟩⟩⟩⟩⟩⟩⟩⟩⟩⟩⟩⟩⟩⟩⟩ func54
def ztM(_o:D')(b:Bs)(a:List xM)(c:List yM)(d:List wM)(e:List zM)(f:kC):Option ((Sz×Bool×jk)):=
 let g:Sz:=r6 j' a b (([]:Bs),([]:Bs),false,0)
 some (g,J' j' a b,a,c,d,e,f)
def yaQ(o:D'):SC:=⟨⟨[(0,(.ptr 0 0)),(1,hS)],[yf,Br,Cr,Dr,Er,Z']⟩,2,[(none,⟨[(0,(.h Mb)),(1,hB)],[yf,Br,Cr,Dr,Er,Z']⟩)],Y9 (ztM o)⟩
theorem ykS:P' aA tabs 153 (yaQ o):=Lb o [] [] [] ⟨⟩ ⟨⟩ func153
def HY(o:D')(b:Bs)(c:List xM)(a:List yM)(d:List wM)(e:List zM)(f:kC):Option ((dk×Bool×jk)):=
 let g:Tz:=r6 j' a b ((([]:kE),([]:kE),([]:kE)),0)
 bif(!(J' j' a b))then some ((([]:Bs),([]:kE),([]:kE),([]:kE),0),false,c,a,d,e,f)else((HR o b g).bind fun h=>some (h,true,c,a,d,e,f))
def zyO(o:D'):SC:=⟨⟨[(0,(.ptr 0 0)),(1,hS)],[yf,Br,Cr,Dr,Er,Z']⟩,2,[(none,⟨[(0,(.h Va)),(1,hB)],[yf,Br,Cr,Dr,Er,Z']⟩)],Y9 (HY o)⟩
theorem yjC:P' aA tabs 155 (zyO o):=Lb o [] [(100,(yeO o))] [] ⟨ymF,⟨⟩⟩ ⟨⟩ func155
def wT(o:D')(g:Bs)(b:Q4)(c:U3)(d:o4)(a:P4)(e:kD):Option ((ek×Bool×w9)):=
 (WA o (b,c,d,a,e) g).bind fun f=>bif(!f.2)then some ((([]:Bs),([]:Bs),([]:kE),([]:kE),false,false,false,false),false,b,c,d,a,e)else((idx a f.1).bind fun h=>some (h,true,b,c,d,a,e))
def zoH(o:D'):SC:=⟨⟨[(0,(.ptr 0 0)),(1,hS)],[V6]⟩,2,[(none,⟨[(0,(.h Lc)),(1,hB)],[V6]⟩)],Y9 (wT o)⟩
theorem zzR:P' aA tabs 158 (zoH o):=Lb o [] [(228,(NS o))] [] ⟨DX,⟨⟩⟩ ⟨⟩ func158
def SF(o:D')(b:w9)(a:Bs):Option (Bool):=
 (tI o b a).bind fun c=>bif(!c)then(some false)else((idx a 0).bind fun d=>bif((d.toNat:Int)==((99:UInt8).toNat:Int))then(some true)else((T4 a 2).bind fun e=>(kB o b e).bind fun f=>some f.1.2.2.1))
def zoI(o:D'):PC:=⟨[(.hr Vg),hS],[.b],fun x=>SF o x.1 x.2,false⟩
theorem zzP:Z0 aA tabs 159 (zoI o):=Rz (o:=o) (η:=[]) (Γ:=⟨[(185,(zlB o)),(154,(pT o))],[],false,[]⟩) (X4 ⟨zsD,⟨VX,trivial⟩⟩ trivial) func159
noncomputable def zvT(o:D')(c:(Sz×Bool×jk))(d:Sz×Bool)(e:(dk×Bool×jk))(f:(dk×Bool×w9))(g:(uu×Bool×jk))(h:(uu×Bool×w9))(b:(ek×Bool×jk))(a:(ek×Bool×w9)):Option ((Bool×Q4×U3×o4×P4×kD×jk)⊕(Q4×U3×o4×P4×kD×jk)):=
 let i:Bool:=(!((c.1.1==d.1.1)&&((c.1.2.1==d.1.2.1)&&((c.1.2.2.1==d.1.2.2.1)&&(decide (c.1.2.2.2=d.1.2.2.2))))))
 bif i then some (.inl (false,a.2.2.1,a.2.2.2.1,a.2.2.2.2.1,a.2.2.2.2.2.1,a.2.2.2.2.2.2,b.2.2))else(bif(c.2.1 != d.2)then some (.inl (false,a.2.2.1,a.2.2.2.1,a.2.2.2.2.1,a.2.2.2.2.2.1,a.2.2.2.2.2.2,b.2.2))else((US o e.1 f.1).bind fun j=>bif(!j)then some (.inl (false,a.2.2.1,a.2.2.2.1,a.2.2.2.2.1,a.2.2.2.2.2.1,a.2.2.2.2.2.2,b.2.2))else(bif(e.2.1 != f.2.1)then some (.inl (false,a.2.2.1,a.2.2.2.1,a.2.2.2.2.1,a.2.2.2.2.2.1,a.2.2.2.2.2.2,b.2.2))else((VS o g.1 h.1).bind fun k=>bif(!k)then some (.inl (false,a.2.2.1,a.2.2.2.1,a.2.2.2.2.1,a.2.2.2.2.2.1,a.2.2.2.2.2.2,b.2.2))else(bif(g.2.1 != h.2.1)then some (.inl (false,a.2.2.1,a.2.2.2.1,a.2.2.2.2.1,a.2.2.2.2.2.1,a.2.2.2.2.2.2,b.2.2))else((WS o b.1 a.1).bind fun l=>bif(!l)then some (.inl (false,a.2.2.1,a.2.2.2.1,a.2.2.2.2.1,a.2.2.2.2.2.1,a.2.2.2.2.2.2,b.2.2))else(bif(b.2.1 != a.2.1)then some (.inl (false,a.2.2.1,a.2.2.2.1,a.2.2.2.2.1,a.2.2.2.2.2.1,a.2.2.2.2.2.2,b.2.2))else some (.inr (a.2.2.1,a.2.2.2.1,a.2.2.2.2.1,a.2.2.2.2.2.1,a.2.2.2.2.2.2,b.2.2)))))))))
noncomputable def xT(o:D')(b:Bs)(l:Q4)(m:U3)(n:o4)(p:P4)(q:kD)(s:List xM)(t:List yM)(u:List wM)(v:List zM)(w:kC):Option ((Bool×Q4×U3×o4×P4×kD×jk)):=
 (ztM o b s t u v w).bind fun f=>(kB o (l,m,n,p,q) b).bind fun y=>(HY o b f.2.2.1 f.2.2.2.1 f.2.2.2.2.1 f.2.2.2.2.2.1 f.2.2.2.2.2.2).bind fun g=>(XA o b l m n p q).bind fun h=>(ztJ o b g.2.2.1 g.2.2.2.1 g.2.2.2.2.1 g.2.2.2.2.2.1 g.2.2.2.2.2.2).bind fun i=>(pO o b h.2.2.1 h.2.2.2.1 h.2.2.2.2.1 h.2.2.2.2.2.1 h.2.2.2.2.2.2).bind fun j=>(zrA o b i.2.2.1 i.2.2.2.1 i.2.2.2.2.1 i.2.2.2.2.2.1 i.2.2.2.2.2.2).bind fun z=>(wT o b j.2.2.1 j.2.2.2.1 j.2.2.2.2.1 j.2.2.2.2.2.1 j.2.2.2.2.2.2).bind fun A=>(zvT o f y g h i j z A).bind fun B=>match B with
 |.inl C=>some C|.inr a=>((X0 ([117,58]:Bs) b).bind fun D=>(sL o D a.2.2.2.2.2.1 a.2.2.2.2.2.2.1 a.2.2.2.2.2.2.2.1 a.2.2.2.2.2.2.2.2.1 a.2.2.2.2.2.2.2.2.2).bind fun c=>(X0 ([117,58]:Bs) b).bind fun E=>(SF o (a.1,a.2.1,a.2.2.1,a.2.2.2.1,a.2.2.2.2.1) E).bind fun F=>bif(c.1==F)then((X0 ([99,58]:Bs) b).bind fun G=>(sL o G c.2.1 c.2.2.1 c.2.2.2.1 c.2.2.2.2.1 c.2.2.2.2.2).bind fun d=>(X0 ([99,58]:Bs) b).bind fun H=>(SF o (a.1,a.2.1,a.2.2.1,a.2.2.2.1,a.2.2.2.2.1) H).bind fun I=>bif(d.1==I)then((sL o b d.2.1 d.2.2.1 d.2.2.2.1 d.2.2.2.2.1 d.2.2.2.2.2).bind fun e=>(SF o (a.1,a.2.1,a.2.2.1,a.2.2.2.1,a.2.2.2.2.1) b).bind fun J=>bif(e.1==J)then((QA o b e.2.1 e.2.2.1 e.2.2.2.1 e.2.2.2.2.1 e.2.2.2.2.2).bind fun r=>(sM o b a.1 a.2.1 a.2.2.1 a.2.2.2.1 a.2.2.2.2.1).bind fun k=>(Wu o r.1 k.1).bind fun K=>some (K,k.2.1,k.2.2.1,k.2.2.2.1,k.2.2.2.2.1,k.2.2.2.2.2,r.2))else some (false,a.1,a.2.1,a.2.2.1,a.2.2.2.1,a.2.2.2.2.1,e.2))else some (false,a.1,a.2.1,a.2.2.1,a.2.2.2.1,a.2.2.2.2.1,d.2))else some (false,a.1,a.2.1,a.2.2.1,a.2.2.2.1,a.2.2.2.2.1,c.2))
noncomputable def zwW(o:D'):SC:=⟨⟨[(0,(.ptr 0 0)),(1,(.ptr 1 0)),(2,hS)],[Ar,V6,Br,Cr,Dr,Er,Z']⟩,1,[(none,⟨[(0,hB)],[Ar,V6,Br,Cr,Dr,Er,Z']⟩)],uN11 (xT o)⟩
theorem yhK:P' aA tabs 55 (zwW o):=Lb o [(2000011,.join [] [2] [(some 1000000,⟨[(6,hB)],[Ar,V6,Br,Cr,Dr,Er,Z']⟩),(none,⟨[(0,(.ptr 0 0)),(1,(.ptr 1 0))],[Ar,V6,Br,Cr,Dr,Er,Z']⟩)])] [(154,(pT o)),(81,(zlD o)),(82,(zmE o)),(83,(zkO o)),(159,(zoI o)),(21,(TN o))] [(153,(yaQ o)),(155,(zyO o)),(156,(rM o)),(47,(yaI o)),(157,(zjP o)),(48,(zwC o)),(158,(zoH o)),(49,(zpS o)),(50,(CR o)),(79,(GX o))] ⟨VX,⟨zsO,⟨ztC,⟨zrG,⟨zzP,⟨YR,⟨⟩⟩⟩⟩⟩⟩⟩ ⟨ykS,⟨yjC,⟨mO,⟨ylI,⟨zpZ,⟨yhP,⟨zzR,⟨zwN,⟨tW,⟨zlA,⟨⟩⟩⟩⟩⟩⟩⟩⟩⟩⟩⟩ func55
def DM(_o:D')(a:Bool):Option Bs:=
 bif a then(some ([49]:Bs))else(some ([48]:Bs))
def zzD(o:D'):PC:=⟨[hB],[.s],fun x=>DM o x,false⟩
theorem yjB:Z0 aA tabs 160 (zzD o):=Rz (o:=o) (η:=[]) (Γ:=⟨[],[],false,[]⟩) (X4 trivial trivial) func160
def TF(o:D')(a:kE):Option kE:=
 (CL o (a.length:Int)).bind fun b=>(X0 ([b]:kE) a).bind fun c=>some c
def zvA(o:D'):PC:=⟨[(.h (.sl .s))],[(.sl .s)],fun x=>TF o x,false⟩
theorem yfR:Z0 aA tabs 161 (zvA o):=Rz (o:=o) (η:=[]) (Γ:=⟨[(70,(BW o))],[],false,[]⟩) (X4 ⟨zsF,trivial⟩ trivial) func161
def yT(_o:D')(d:kD)(a:Int)(b:Bs)(c:Bs):Option ((Int×Bs×Bs)⊕((Int×Bs×Bs))):=
 bif decide (a<(d.length:Int))then((idx d a).bind fun e=>bif j9 e.1 b then some (.inl (P0 (a+1),b,c))else some (.inr (a,b,c)))else some (.inr (a,b,c))
def IY(o:D')(a:kD)(c:Bs×Bs):Option (kD):=
 (iter (fun x=>yT o a x.1 x.2.1 x.2.2) (0,c)).bind fun b=>(Z6 a b.1).bind fun d=>(T4 a b.1).bind fun e=>(X0 ([]:kD) d).bind fun f=>(X0 f ([b.2]:kD)).bind fun g=>(X0 g e).bind fun h=>some h
def yaE(o:D'):SC:=⟨⟨[(0,(.h (.sl (.pr .s .s)))),(1,(.h (.pr .s .s)))],[]⟩,1,[(none,⟨[(0,(.own 0))],[.H' (.pr .s .s) 33]⟩)],Ek (IY o)⟩
theorem ykB:P' aA tabs 162 (yaE o):=Lb o [(200002,.loop [] ⟨[(3,(.ptr 0 0)),(5,hI)],[.N' 33 [hS,hS]]⟩ [0,4] [(some 0,⟨[(3,(.ptr 0 0)),(5,hI)],[.N' 33 [hS,hS]]⟩)]),
 (4000002,.x7 (j7 0 14)),
 (4000004,.x7 (j7 1 3++[(.pu,5,[1]),(.la,6,[]),(.pu,8,[1]),(.pu,9,[1]),(.pu,10,[1]),(.mn,0,[]),(.mn,4,[1]),(.rv,6,[]),(.mn,7,[1]),(.mn,11,[1]),(.pu,12,[])]))] [] [] ⟨⟩ ⟨⟩ func162
def wO(o:D')(c:Int)(d:Q4)(e:U3)(f:o4)(b:P4)(g:kD)(h:kD):Option ((Int×Q4×U3×o4×P4×kD×kD)⊕((Q4×U3×o4×P4×kD×kD))):=
 bif decide (c<(b.length:Int))then((idx b c).bind fun a=>(DM o a.2.2.2.2.1).bind fun i=>(DM o a.2.2.2.2.2.1).bind fun j=>(X0 i j).bind fun k=>(DM o a.2.2.2.2.2.2.1).bind fun l=>(X0 k l).bind fun m=>(DM o a.2.2.2.2.2.2.2).bind fun n=>(X0 m n).bind fun p=>(TF o a.2.2.1).bind fun q=>(X0 ([a.2.1,p]:kE) q).bind fun r=>(X0 ([99,108,105,101,110,116,47]:Bs) a.1).bind fun s=>(TF o a.2.2.2.1).bind fun t=>(X0 r t).bind fun u=>(BH o u).bind fun v=>(X0 h ([(s,v)]:kD)).bind fun w=>some (.inl (P0 (c+1),d,e,f,b,g,w)))else some (.inr (d,e,f,b,g,h))
def xO(o:D')(c:Int)(d:Q4)(b:U3)(e:o4)(f:P4)(g:kD)(h:kD):Option ((Int×Q4×U3×o4×P4×kD×kD)⊕((Q4×U3×o4×P4×kD×kD))):=
 bif decide (c<(b.length:Int))then((idx b c).bind fun a=>(CL o a.2.2.2.2).bind fun i=>(TF o a.2.1).bind fun j=>(X0 ([i]:kE) j).bind fun k=>(TF o a.2.2.1).bind fun l=>(X0 k l).bind fun m=>(TF o a.2.2.2.1).bind fun n=>(X0 m n).bind fun p=>(X0 ([103,114,111,117,112,47]:Bs) a.1).bind fun q=>(BH o p).bind fun r=>(X0 h ([(q,r)]:kD)).bind fun s=>some (.inl (P0 (c+1),d,b,e,f,g,s)))else some (.inr (d,b,e,f,g,h))
def yO(o:D')(b:Int)(c:Q4)(d:U3)(e:o4)(f:P4)(a:kD)(g:kD):Option ((Int×Q4×U3×o4×P4×kD×kD)⊕((Q4×U3×o4×P4×kD×kD))):=
 bif decide (b<(a.length:Int))then((idx a b).bind fun h=>(X0 ([109,97,121,47]:Bs) h.1).bind fun i=>(X0 i ([124]:Bs)).bind fun j=>(idx a b).bind fun k=>(X0 j k.2).bind fun l=>(IY o g (l,([]:Bs))).bind fun m=>some (.inl (P0 (b+1),c,d,e,f,a,m)))else some (.inr (c,d,e,f,a,g))
def zO(o:D')(b:Int)(c:Q4)(d:U3)(a:o4)(e:P4)(f:kD)(g:kD):Option ((Int×Q4×U3×o4×P4×kD×kD)⊕((Q4×U3×o4×P4×kD×kD))):=
 bif decide (b<(a.length:Int))then((idx a b).bind fun h=>(X0 ([114,111,108,101,47]:Bs) h.1).bind fun i=>(idx a b).bind fun j=>(TF o j.2).bind fun k=>(BH o k).bind fun l=>(X0 g ([(i,l)]:kD)).bind fun m=>some (.inl (P0 (b+1),c,d,a,e,f,m)))else some (.inr (c,d,a,e,f,g))
def BO(o:D')(c:Int)(a:Q4)(d:U3)(e:o4)(f:P4)(g:kD)(h:kD):Option ((Int×Q4×U3×o4×P4×kD×kD)⊕((Q4×U3×o4×P4×kD×kD))):=
 bif decide (c<(a.length:Int))then((idx a c).bind fun b=>(X0 ([117,115,101,114,47]:Bs) b.1).bind fun i=>(DM o b.2.2.1).bind fun j=>(CL o b.2.2.2).bind fun k=>(BH o ([b.2.1,j,k]:kE)).bind fun l=>(X0 h ([(i,l)]:kD)).bind fun m=>some (.inl (P0 (c+1),a,d,e,f,g,m)))else some (.inr (a,d,e,f,g,h))
def zT(o:D')(a:Q4)(b:U3)(c:o4)(d:P4)(e:kD):Option ((Q4×U3×o4×P4×kD×kD)):=
 (iter (fun x=>wO o x.1 x.2.1 x.2.2.1 x.2.2.2.1 x.2.2.2.2.1 x.2.2.2.2.2.1 x.2.2.2.2.2.2) (0,a,b,c,d,e,([]:kD))).bind fun f=>(iter (fun x=>xO o x.1 x.2.1 x.2.2.1 x.2.2.2.1 x.2.2.2.2.1 x.2.2.2.2.2.1 x.2.2.2.2.2.2) (0,f)).bind fun g=>(iter (fun x=>yO o x.1 x.2.1 x.2.2.1 x.2.2.2.1 x.2.2.2.2.1 x.2.2.2.2.2.1 x.2.2.2.2.2.2) (0,g)).bind fun h=>(iter (fun x=>zO o x.1 x.2.1 x.2.2.1 x.2.2.2.1 x.2.2.2.2.1 x.2.2.2.2.2.1 x.2.2.2.2.2.2) (0,h)).bind fun i=>(iter (fun x=>BO o x.1 x.2.1 x.2.2.1 x.2.2.2.1 x.2.2.2.2.1 x.2.2.2.2.2.1 x.2.2.2.2.2.2) (0,i)).bind fun j=>some j
def zqA(o:D'):SC:=⟨⟨[(0,(.ptr 0 0))],[V6]⟩,1,[(none,⟨[(0,(.own 1))],[V6,.H' (.pr .s .s) 33]⟩)],rq (zT o)⟩
theorem ybK:P' aA tabs 58 (zqA o):=Lb o [(200003,.loop [] ⟨[(0,(.ptr 0 0)),(3,(.own 1)),(4,hI)],[V6,.H' (.pr .s .s) 33]⟩ [2] [(some 0,⟨[(0,(.ptr 0 0)),(3,(.own 1))],[V6,.H' (.pr .s .s) 33]⟩)]),
 (200009,.loop [] ⟨[(0,(.ptr 0 0)),(3,(.own 1)),(7,hI)],[V6,.H' (.pr .s .s) 33]⟩ [2] [(some 2,⟨[(0,(.ptr 0 0)),(3,(.own 1))],[V6,.H' (.pr .s .s) 33]⟩)]),
 (200016,.loop [] ⟨[(0,(.ptr 0 0)),(3,(.own 1)),(10,hI)],[V6,.H' (.pr .s .s) 33]⟩ [2] [(some 4,⟨[(0,(.ptr 0 0)),(3,(.own 1))],[V6,.H' (.pr .s .s) 33]⟩)]),
 (200020,.loop [] ⟨[(0,(.ptr 0 0)),(3,(.own 1)),(11,hI)],[V6,.H' (.pr .s .s) 33]⟩ [2] [(some 6,⟨[(0,(.ptr 0 0)),(3,(.own 1))],[V6,.H' (.pr .s .s) 33]⟩)]),
 (200024,.loop [] ⟨[(0,(.ptr 0 0)),(3,(.own 1)),(12,hI)],[V6,.H' (.pr .s .s) 33]⟩ [2] [(some 8,⟨[(3,(.own 1))],[V6,.H' (.pr .s .s) 33]⟩)]),
 (4000006,.x7 (j7 0 4++[(.pu,5,[]),(.pu,6,[]),(.pu,9,[]),(.pu,10,[]),(.pu,13,[]),(.pu,14,[]),(.pu,18,[]),(.pu,19,[]),(.mn,4,[]),(.mn,7,[]),(.pu,8,[]),(.mn,11,[]),(.pu,12,[]),(.mn,15,[]),(.pu,16,[]),(.la,17,[]),(.mn,20,[]),(.rv,17,[]),(.mn,21,[3]),(.pu,22,[])])),
 (4000007,.x7 ([(.pu,0,[3]),(.pu,1,[3]),(.pu,2,[3]),(.pu,3,[3])]++j7 4 3++[(.mn,7,[]),(.mn,8,[3]),(.mn,9,[]),(.pu,10,[]),(.mn,11,[]),(.mn,12,[1]),(.mn,13,[])])),
 (4000012,.x7 [(.pu,0,[]),(.pu,1,[]),(.pu,4,[]),(.pu,5,[]),(.mn,2,[]),(.la,3,[]),(.mn,6,[]),(.rv,3,[]),(.mn,7,[3]),(.pu,8,[])]),
 (4000013,.x7 (j7 0 3++[(.pu,5,[3]),(.pu,6,[3]),(.mn,3,[]),(.mn,4,[3]),(.mn,7,[]),(.mn,8,[3]),(.mn,9,[])])),
 (4000014,.x7 (j7 0 5++[(.mn,5,[]),(.pu,6,[]),(.mn,7,[]),(.mn,8,[1]),(.mn,9,[])])),
 (4000018,.x7 (j7 0 21++[(.mn,21,[0,1]),(.mn,22,[])])),
 (4000022,.x7 (j7 0 18++[(.mn,18,[]),(.mn,19,[]),(.pu,20,[]),(.mn,21,[]),(.mn,22,[1]),(.mn,23,[])])),
 (4000027,.x7 (j7 0 8++[(.pu,9,[]),(.pu,10,[]),(.mn,8,[]),(.mn,11,[]),(.mn,12,[]),(.mn,13,[]),(.pu,14,[]),(.mn,15,[]),(.mn,16,[1]),(.mn,17,[])]))] [(160,(zzD o)),(161,(zvA o)),(23,(zzG o)),(70,(BW o))] [(162,(yaE o))] ⟨yjB,⟨yfR,⟨yiP,⟨zsF,⟨⟩⟩⟩⟩⟩ ⟨ykB,⟨⟩⟩ func58
noncomputable def AT(o:D')(u:List ik)(p:Int)(b:List jk)(c:List w9):Option ((Int×(List jk)×List w9)⊕(Bool⊕((List jk)×List w9))):=
 bif decide (p<(u.length:Int))then((idx u p).bind fun d=>(SX o d.1 (b.length:Int)).bind fun a=>bif(d.2.1==18)then((o6 (decide (0<=a)&&decide (a<(b.length:Int)))).bind fun _=>(o6 (decide (0<=a)&&decide (a<(b.length:Int)))).bind fun _=>(idx b a).bind fun h=>(zrT o h.1 h.2.1 h.2.2.1 h.2.2.2.1 h.2.2.2.2).bind fun f=>(Da b a (f.1,f.2.1,f.2.2.1,f.2.2.2.1,f.2.2.2.2.1)).bind fun A=>(X0 A ([f.2.2.2.2.2]:List jk)).bind fun B=>(o6 (decide (0<=a)&&decide (a<(c.length:Int)))).bind fun _=>(o6 (decide (0<=a)&&decide (a<(c.length:Int)))).bind fun _=>(idx c a).bind fun i=>(zkL o i.1 i.2.1 i.2.2.1 i.2.2.2.1 i.2.2.2.2).bind fun g=>(Da c a (g.1,g.2.1,g.2.2.1,g.2.2.2.1,g.2.2.2.2.1)).bind fun C=>(X0 C ([g.2.2.2.2.2]:List w9)).bind fun D=>some (.inl (P0 (p+1),B,D)))else((o6 (decide (0<=a)&&decide (a<(b.length:Int)))).bind fun _=>(o6 (decide (0<=a)&&decide (a<(b.length:Int)))).bind fun _=>(o6 (decide (0<=a)&&decide (a<(c.length:Int)))).bind fun _=>(o6 (decide (0<=a)&&decide (a<(c.length:Int)))).bind fun _=>(idx b a).bind fun j=>(jX o d j.1 j.2.1 j.2.2.1 j.2.2.2.1 j.2.2.2.2).bind fun v=>(Da b a v.2).bind fun q=>(idx c a).bind fun k=>(vT o d k.1 k.2.1 k.2.2.1 k.2.2.2.1 k.2.2.2.2).bind fun w=>(Da c a w.2).bind fun r=>bif(v.1 != w.1)then some (.inr (.inl false))else((o6 (decide (0<=a)&&decide (a<(q.length:Int)))).bind fun _=>(o6 (decide (0<=a)&&decide (a<(q.length:Int)))).bind fun _=>(o6 (decide (0<=a)&&decide (a<(r.length:Int)))).bind fun _=>(o6 (decide (0<=a)&&decide (a<(r.length:Int)))).bind fun _=>(idx q a).bind fun l=>(idx r a).bind fun m=>(xT o d.2.2.1 m.1 m.2.1 m.2.2.1 m.2.2.2.1 m.2.2.2.2 l.1 l.2.1 l.2.2.1 l.2.2.2.1 l.2.2.2.2).bind fun e=>(Da r a (e.2.1,e.2.2.1,e.2.2.2.1,e.2.2.2.2.1,e.2.2.2.2.2.1)).bind fun s=>(Da q a e.2.2.2.2.2.2).bind fun t=>bif(!e.1)then some (.inr (.inl false))else((o6 (decide (0<=a)&&decide (a<(t.length:Int)))).bind fun _=>(o6 (decide (0<=a)&&decide (a<(t.length:Int)))).bind fun _=>(o6 (decide (0<=a)&&decide (a<(s.length:Int)))).bind fun _=>(o6 (decide (0<=a)&&decide (a<(s.length:Int)))).bind fun _=>(idx t a).bind fun n=>(XE o d.2.2.1 d.2.2.2.1 n.1 n.2.1 n.2.2.1 n.2.2.2.1 n.2.2.2.2).bind fun y=>(Da t a y.2).bind fun E=>(idx s a).bind fun z=>(yI o z d.2.2.1 d.2.2.2.1).bind fun F=>(Da s a z).bind fun G=>bif(y.1 != F)then some (.inr (.inl false))else some (.inl (P0 (p+1),E,G))))))else some (.inr (.inr (b,c)))
noncomputable def BT(o:D')(a:Int)(d:List jk)(i:List w9):Option ((Int×(List jk)×List w9)⊕(Bool⊕Unit)):=
 bif decide (a<(d.length:Int))then((o6 (decide (0<=a)&&decide (a<(d.length:Int)))).bind fun _=>(o6 (decide (0<=a)&&decide (a<(d.length:Int)))).bind fun _=>(o6 (decide (0<=a)&&decide (a<(i.length:Int)))).bind fun _=>(o6 (decide (0<=a)&&decide (a<(i.length:Int)))).bind fun _=>(idx d a).bind fun e=>(idx i a).bind fun f=>(XS o f.1 f.2.1 f.2.2.1 f.2.2.2.1 f.2.2.2.2 e.1 e.2.1 e.2.2.1 e.2.2.2.1 e.2.2.2.2).bind fun b=>(Da i a (b.2.1,b.2.2.1,b.2.2.2.1,b.2.2.2.2.1,b.2.2.2.2.2.1)).bind fun j=>(Da d a b.2.2.2.2.2.2).bind fun k=>bif(!b.1)then some (.inr (.inl false))else((o6 (decide (0<=a)&&decide (a<(k.length:Int)))).bind fun _=>(o6 (decide (0<=a)&&decide (a<(k.length:Int)))).bind fun _=>(o6 (decide (0<=a)&&decide (a<(j.length:Int)))).bind fun _=>(o6 (decide (0<=a)&&decide (a<(j.length:Int)))).bind fun _=>(idx k a).bind fun g=>(vL o g.1 g.2.1 g.2.2.1 g.2.2.2.1 g.2.2.2.2).bind fun l=>(Da k a l.2).bind fun m=>(idx j a).bind fun h=>(zT o h.1 h.2.1 h.2.2.1 h.2.2.2.1 h.2.2.2.2).bind fun c=>(Da j a (c.1,c.2.1,c.2.2.1,c.2.2.2.1,c.2.2.2.2.1)).bind fun n=>(xX o l.1 c.2.2.2.2.2).bind fun p=>bif(!p)then some (.inr (.inl false))else some (.inl (P0 (a+1),m,n))))else some (.inr (.inr ()))
noncomputable def JY(o:D')(a:List ik):Option (Bool):=
 (dL o).bind fun b=>(iter (fun x=>AT o a x.1 x.2.1 x.2.2) (0,([b]:List jk),([(([]:Q4),([]:U3),([]:o4),([]:P4),([]:kD))]:List w9))).bind fun c=>match c with
 |.inl d=>(some d)|.inr e=>((iter (fun x=>BT o x.1 x.2.1 x.2.2) (0,e)).bind fun f=>match f with
 |.inl g=>(some g)|.inr _=>((some true).bind fun h=>some h))
noncomputable def ycC(o:D'):PC:=⟨[(.h (.sl wI))],[.b],fun x=>JY o x,false⟩
theorem yrZ:Z0 aA tabs 10 (ycC o):=Rz (o:=o) (η:=[(200006,.loop [] ⟨[(4,(.fs 0)),(5,(.fs 1)),(6,hI)],[.U4 34 [x6.N' 128 [.mpr 1,.mpr 2,.mpr 3,.mpr 4,.mpr 5],.mp .s Mb,.mp .s ak,.mp .s sd,.mp .s Lc,.mp (.pr .s .s) .un],.U4 38 [x6.N' 84 [.h (.sl Mb),.h (.sl Va),.h (.sl sd),.h (.sl Lc),.h (.sl (.pr .s .s))]]]⟩ [0] [(some 1000000,⟨[(2,hB)],[]⟩),(some 0,⟨[(4,(.fs 0)),(5,(.fs 1))],[.U4 34 [x6.N' 128 [.mpr 1,.mpr 2,.mpr 3,.mpr 4,.mpr 5],.mp .s Mb,.mp .s ak,.mp .s sd,.mp .s Lc,.mp (.pr .s .s) .un],.U4 38 [x6.N' 84 [.h (.sl Mb),.h (.sl Va),.h (.sl sd),.h (.sl Lc),.h (.sl (.pr .s .s))]]]⟩)]),
 (200019,.loop [] ⟨[(4,(.fs 0)),(5,(.fs 1)),(10,hI)],[.U4 34 [x6.N' 128 [.mpr 1,.mpr 2,.mpr 3,.mpr 4,.mpr 5],.mp .s Mb,.mp .s ak,.mp .s sd,.mp .s Lc,.mp (.pr .s .s) .un],.U4 38 [x6.N' 84 [.h (.sl Mb),.h (.sl Va),.h (.sl sd),.h (.sl Lc),.h (.sl (.pr .s .s))]]]⟩ [] [(some 1000000,⟨[(2,hB)],[]⟩),(some 2,⟨[],[]⟩)]),
 (4000016,.x7 (j7 0 5++[(.pu,6,[0]),(.pu,7,[0]),(.pu,8,[0]),(.pu,9,[0]),(.pu,10,[0]),(.mn,5,[0]),(.mn,11,[1])]++j7 12 12++[(.mn,24,[0,1])]++j7 25 11++[(.pu,37,[0]),(.pu,38,[0]),(.pu,39,[0]),(.pu,40,[0]),(.pu,41,[0]),(.pu,42,[0]),(.pu,43,[0]),(.pu,44,[0]),(.mn,36,[0]),(.mn,45,[1]),(.pu,46,[]),(.pu,47,[])])),
 (4000021,.x7 (j7 0 8++[(.mn,8,[0,1])]++j7 9 6++[(.pu,16,[0]),(.pu,17,[0]),(.pu,18,[0]),(.pu,19,[0]),(.mn,15,[0]),(.mn,20,[1]),(.mn,21,[]),(.pu,22,[]),(.pu,23,[])]))]) (Γ:=⟨[(51,(zwJ o)),(57,(DY o)),(27,(ztB o)),(24,mj)],[(30,(KV o)),(52,(zyJ o)),(53,(zpT o)),(31,(zzE o)),(54,(zxE o)),(55,(zwW o)),(56,(xS o)),(28,(zvY o)),(29,(zsH o)),(58,(zqA o))],false,[(34,[x6.N' 128 [.mpr 1,.mpr 2,.mpr 3,.mpr 4,.mpr 5],.mp .s Mb,.mp .s ak,.mp .s sd,.mp .s Lc,.mp (.pr .s .s) .un]),(38,[x6.N' 84 [.h (.sl Mb),.h (.sl Va),.h (.sl sd),.h (.sl Lc),.h (.sl (.pr .s .s))]])]⟩) (X4 ⟨yhI,⟨zkH,⟨ydX,⟨By,trivial⟩⟩⟩⟩ ⟨ygO,⟨yjD,⟨ybY,⟨yiX,⟨yhC,⟨yhK,⟨XW,⟨ygV,⟨yaH,⟨ybK,trivial⟩⟩⟩⟩⟩⟩⟩⟩⟩⟩) func10
end
theorem M0.pre{B:Int}(hB:B<=1099511627776){s:PS}(h:M0 B s):o7 s where
 uR:=h.uR
 gR:=h.gR
 rR:=h.rR
 cR:=h.cR
 mR:=h.mR
 us:=fun k u f=>by obtain⟨a,b,c,d,e⟩:=h.us k u f;exact⟨a,b,c,d,by omega⟩
 gn:=fun k g f=>by obtain⟨a,b,c⟩:=h.gn k g f;exact⟨a,b,by omega⟩
 ro:=h.ro
 cl:=h.cl
 ma:=fun p hp=>⟨(h.ma p hp).1,(h.ma p hp).2.1⟩
 sz:=fun k g f i j=>bB (h.Z4 f j) (by decide)
 gz:=by have:=h.gL;omega
theorem M0.whole{B:Int}{s:PS}(h:M0 B s):Vq s where
 uL:=h.uL
 gL:=h.gL
 rL:=h.rL
 cL:=h.cL
 mL:=h.mL
 gl:=h.gl
 ma:=fun p hp=>⟨(h.ma p hp).2.2.1,(h.ma p hp).2.2.2⟩
 nc:=fun k g b x c d=>by
  obtain⟨r,a⟩:=h.ac
  have key:∀y,Reach s.2.1 x y->r y<=r x:=fun y e=>by
   induction e with
   |refl=>exact Nat.le_refl _|step _ b c f=>have:=a _ _ b _ c;omega
  have i:=key k d;have j:=a k g b x c;omega
theorem DT{γ a:Type}{es:List (L8×γ)}(h:Ri O' es)(n:L8)(v:γ)(f:L8×γ->a):(Y0 j' O' es n v).map f=(es.map f).take (y7 n (es.map (·.1)))++[f (n,v)]++(es.map f).drop (bif J' j' es n then y7 n (es.map (·.1))+1 else y7 n (es.map (·.1))):=by rw[MF n v h,cC,List.map_cons,List.map_take,List.map_drop,aU];rfl
theorem KY{γ a:Type}{es:List (L8×γ)}(h:Ri O' es){n:L8}(b:J' j' es n=true)(f:L8×γ->a):(l5 j' es n).map f=(es.map f).take (y7 n (es.map (·.1)))++(es.map f).drop (y7 n (es.map (·.1))+1):=by rw[rr n h b,cC,List.map_take,List.map_drop]
theorem lB{a:Type}{l:List a}{k m:Nat}(x:a)(hk:k<=l.length)(e:l.length<=1048576){β:Type}(f:List a->Option β):(aR (Z6 l (k:Int)) fun b=>aR (X0 ([]:List a) b) fun c=>aR (X0 c [x]) fun d=>aR (X0 d (l.drop m)) f)=f (l.take k++[x]++l.drop m):=by rw[lN hk,p',mh _ (by rw[bX];omega),p',O7 (by rw[bX];simp;omega),p',O7 (by simp only[aD,bX,bL,List.length_singleton];omega),p']
theorem yzN{s:PS}(h:o7 s)(a:se s)(u:Us):sO X' u (n3 s) (n1 s) (X1 s) (U1 s) (Y1 s)=some (n1 s,X1 s,U1 s,Y1 s,(Y0 j' O' s.1 u.1 u).map (·.2)):=by
 have e:=lT u.1 s.1;have c:(n3 s).length=s.1.length:=by unfold n3;rw[aE]
 have b:=a.1;rw[DT h.uR u.1 u (·.2),show s.1.map (·.2)=n3 s from rfl];unfold sO zmM;rw[show dv X' (n3 s,n1 s,X1 s,U1 s,Y1 s) u.1=_ from qO h a u.1,p'];simp only;rw[Pe (by omega),p'];cases d:J' j' s.1 u.1 with
 |true=>have f:=NF h.uR d;simp only[zF];rw[Y7 (by omega),Pe (by omega),p',p'];simp only;rw[lB u (by omega) (by omega)]|false=>simp only[zH];rw[p'];simp only;rw[lB u (by omega) (by omega)]
def Q8(p:L8×Gr):u6:=(p.1,p.2.1.1,p.2.1.2.1,p.2.1.2.2,p.2.2)
theorem rk{s:PS}(h:o7 s)(a:se s)(g:u6):AM X' g (n3 s) (n1 s) (X1 s) (U1 s) (Y1 s)=some (n3 s,X1 s,U1 s,Y1 s,(Y0 j' O' s.2.1 g.1 ((g.2.1,g.2.2.1,g.2.2.2.1),g.2.2.2.2)).map Q8):=by
 have e:=lT g.1 s.2.1;have c:(n1 s).length=s.2.1.length:=by unfold n1;rw[aE]
 have b:=a.2.1;rw[DT h.gR g.1 _ Q8,show s.2.1.map Q8=n1 s from rfl];unfold AM zmA;rw[show An X' (n3 s,n1 s,X1 s,U1 s,Y1 s) g.1=_ from rO h a g.1,p'];simp only;rw[Pe (by omega),p'];cases d:J' j' s.2.1 g.1 with
 |true=>have f:=NF h.gR d;simp only[zF];rw[Y7 (by omega),Pe (by omega),p',p'];simp only;rw[lB _ (by omega) (by omega)];rfl|false=>simp only[zH];rw[p'];simp only;rw[lB _ (by omega) (by omega)];rfl
theorem Wz{s:PS}(h:o7 s)(a:se s)(n:L8)(v:Int):oY X' n v (n3 s) (n1 s) (X1 s) (U1 s) (Y1 s)=some (n3 s,X1 s,U1 s,Y1 s,(Y0 j' O' s.2.1 n ((([]:kH),([]:kH),([]:kH)),v)).map Q8):=by
 have e:=lT n s.2.1;have c:(n1 s).length=s.2.1.length:=by unfold n1;rw[aE]
 have b:=a.2.1;rw[DT h.gR n _ Q8,show s.2.1.map Q8=n1 s from rfl];unfold oY zmC;rw[show An X' (n3 s,n1 s,X1 s,U1 s,Y1 s) n=_ from rO h a n,p'];simp only;rw[Pe (by omega),p'];cases d:J' j' s.2.1 n with
 |true=>have f:=NF h.gR d;simp only[zF];rw[Y7 (by omega),Pe (by omega),p',p'];simp only;rw[lB _ (by omega) (by omega)];rfl|false=>simp only[zH];rw[p'];simp only;rw[lB _ (by omega) (by omega)];rfl
theorem Xz{s:PS}(h:o7 s)(w:Vq s){n m:L8}(d:n.length<=1048576)(e:m.length<=1048576):UX X' n m (n3 s) (n1 s) (X1 s) (U1 s) (Y1 s)=some ((HH n m s).1,P1 (HH n m s).2):=by
 have b:=Tj w;have a:(n3 s).length=s.1.length:=by unfold n3;rw[aE]
 unfold UX zmQ HH;rw[Wm d,p'];cases U6 n with
 |false=>rfl|true=>
  rw[yxS e];cases Fc m with
  |false=>rfl|true=>
   simp only[aK,zH,p',Bool.or_false];rw[show dv X' (n3 s,n1 s,X1 s,U1 s,Y1 s) n=_ from qO h b n,p'];simp only;cases J' j' s.1 n with
   |true=>rfl|false=>
    rw[a];simp only[zH];by_cases c:64<=s.1.length
    ·rw[X5 (show(s.1.length:Int)≥64 by omega),zA c];rfl
    ·rw[l6 (show ¬(s.1.length:Int)≥64 by omega),zB c,yzN h b,p'];rfl
theorem LY{s:PS}(h:o7 s)(f:se s)(x:L8):kB X' (P1 s) x=some (r6 j' s.1 x zU,J' j' s.1 x):=by
 unfold kB;rw[qO h f,p'];simp only;cases b:J' j' s.1 x with
 |false=>
  rw[kc]at b;rw[pb];cases c:W0 j' s.1 x with
  |none=>rfl|some r=>rw[c]at b;cases b
 |true=>
  rw[aK,zH];have a:=kI (YA h.uR) (x:=x);rw[ZA,b]at a;generalize y7 x (s.1.map (·.1))=j at a ⊢;by_cases d:j<s.1.length
  ·rw[List.getElem?_eq_getElem (show j<(s.1.map (·.1)).length by rw[aE];exact d),cG]at a;have e:(s.1[j]).1=x:=by have:=a.symm;simpa using this
   have g:(x,(s.1[j]).2)∈s.1:=by rw[<-e];exact bC d
   have c:(P1 s).1=n3 s:=rfl;rw[c,Y6 rfl (show j<(n3 s).length by unfold n3;rw[aE];exact d),p'];rw[pb,kS.get_mem h.uR g];unfold n3;rw[cG];rfl
  ·rw[List.getElem?_eq_none (by rw[aE];omega)]at a;cases a
theorem xbR{γ:Type}{es:List (L8×γ)}(a:Ri O' es){n:L8}{u:γ}(b:W0 j' es n=some u):Y0 j' O' es n u=es:=
 kS.ext_get (kS.O8 a) a fun k=>by
  rw[kS.Gd a];split
  ·rename_i h;rw[<-kS.e.1 h,b]
  ·rfl
theorem Yz{B:Int}(hB:B<=1099511627776){s:PS}(h:M0 B s){n m:L8}(d:n.length<=1048576)(f:m.length<=1048576):WX X' n m (n3 s) (n1 s) (X1 s) (U1 s) (Y1 s)=some ((IH n m s).1,P1 (IH n m s).2):=by
 have hp:=h.pre hB;have b:=Tj h.whole;unfold WX znA IH RA;rw[Wm d,p'];cases U6 n with
 |false=>cases Fc m<;>rfl
 |true=>
  rw[yxS f];cases Fc m with
  |false=>rfl|true=>
   simp only[aK,zH,p'];rw[show kB X' (n3 s,n1 s,X1 s,U1 s,Y1 s) n=_ from LY hp b n,p'];rw[kc,pb];cases c:W0 j' s.1 n with
   |none=>rfl|some u=>
    obtain⟨g,_,_,i,j⟩:=h.us n u (kS.get_some c);simp only[eG,dH,aK,zH];by_cases a:u.2.1=m
    ·subst a;rw[bne_self_eq_false,zH,zJ rfl,xbR h.uR c];rfl
    ·rw[show(u.2.1 != m)=true from by simpa using a,zF,oe (by omega) (by omega),yzN hp b,p',zI (fun e=>a (by rw[<-congrArg (fun z:Us=>z.2.1) e]))];simp only;rw[g];rfl
theorem Zz{B:Int}(hB:B<=1099511627776){s:PS}(h:M0 B s){n:L8}(b:Bool)(f:n.length<=1048576):XX X' n b (n3 s) (n1 s) (X1 s) (U1 s) (Y1 s)=some ((QE n b s).1,P1 (QE n b s).2):=by
 have hp:=h.pre hB;have c:=Tj h.whole;unfold XX QE RA;rw[Wm f,p'];cases U6 n with
 |false=>rfl|true=>
  simp only[aK,zH];rw[show kB X' (n3 s,n1 s,X1 s,U1 s,Y1 s) n=_ from LY hp c n,p'];rw[kc,pb];cases d:W0 j' s.1 n with
  |none=>rfl|some u=>
   obtain⟨g,_,_,i,j⟩:=h.us n u (kS.get_some d);simp only[eG,dH,aK,zH];by_cases a:u.2.2.1=b
   ·subst a;rw[bne_self_eq_false,zH,zJ rfl,xbR h.uR d];rfl
   ·rw[show(u.2.2.1 != b)=true from by simpa using a,zF,oe (by omega) (by omega),yzN hp c,p',zI (fun e=>a (by rw[<-congrArg (fun z:Us=>z.2.2.1) e]))];simp only;rw[g];rfl
theorem kA{s:PS}(h:o7 s)(w:Vq s){n:L8}(d:n.length<=1048576):pY X' n (n3 s) (n1 s) (X1 s) (U1 s) (Y1 s)=some ((KH n s).1,P1 (KH n s).2):=by
 have b:=Tj w;have a:(n1 s).length=s.2.1.length:=by unfold n1;rw[aE]
 unfold pY KH;rw[Wm d,p'];cases U6 n with
 |false=>rfl|true=>
  simp only[aK,zH];rw[show An X' (n3 s,n1 s,X1 s,U1 s,Y1 s) n=_ from rO h b n,p'];simp only;cases J' j' s.2.1 n with
  |true=>rfl|false=>
   rw[a];simp only[zH];by_cases c:32<=s.2.1.length
   ·rw[X5 (show(s.2.1.length:Int)≥32 by omega),zA c];rfl
   ·rw[l6 (show ¬(s.2.1.length:Int)≥32 by omega),zB c,Wz h b,p'];rfl
theorem EM{e c X Y:Type}{l:List e}{F:List c->X}{F':List c->Y}{g:e->List c}{body:Int×X->Option ((Int×X)⊕Y)}(r:l.length<=1048576)(h:∀x∈l,(g x).length<=1) (j:∀(i:Nat) (d:i<l.length) (a:List c),a.length<=1048576->body ((i:Int),F a)=some (.inl (((i+1:Nat):Int),F (a++g l[i])))) (k:∀a,body ((l.length:Int),F a)=some (.inr (F' a))):iter body ((0:Int),F [])=some (F' (l.flatMap g)):=by
 have key:∀(f i:Nat) (a:List c),f+i=l.length->a.length+f<=1048576->∀n,f<n->X9 body n ((i:Int),F a)=some (F' (a++(l.drop i).flatMap g)):=by
  intro f;induction f with
  |zero=>
   intro i a d _ n p;obtain⟨n,rfl⟩:∃m,n=m+1:=⟨n-1,by omega⟩;have d:i=l.length:=by omega
   subst d;rw[Ba (k a),List.drop_length,List.flatMap_nil,bJ]
  |succ f q=>
   intro i a d s n p;obtain⟨n,rfl⟩:∃m,n=m+1:=⟨n-1,by omega⟩;have b:i<l.length:=by omega
   have t:=h _ (bC b);rw[sb (j i b a (by omega)),q (i+1) _ (by omega) (by rw[aD];omega) n (by omega),List.drop_eq_getElem_cons b,cO,aU]
 have:=key l.length 0 [] (by omega) (by simp;omega) FU (by unfold FU;omega);rw[List.drop_zero,List.nil_append]at this;exact this
theorem MY{a b:Type}(f:a->b):∀l:List a,(l.flatMap fun x=>[f x])=l.map f
 |[]=>rfl|x::l=>by rw[cO,MY f l];rfl
theorem ET{a:Type}(p:a->Bool):∀l:List a,(l.flatMap fun x=>bif p x then [x]else [])=l.filter p
 |[]=>rfl|x::l=>by rw[cO,ET p l,List.filter_cons];cases p x<;>rfl
theorem lA{l:kH}(x:L8)(c:l.length<=1048576):xI X' l x=some (vj x l):=by
 unfold xI
 rw[show iter (fun b:Int×kH=>YX X' l x b.1 b.2) ((0:Int),([]:kH))=_ from EM (l:=l) (F:=fun a:kH=>a) (F':=fun a:kH=>a) (g:=fun y=>bif !(y==x)then [y]else []) c (fun y _=>by cases !(y==x)<;>simp) (fun i d a e=>by
  simp only;unfold YX;rw[X5 (by omega),Y6 rfl d,p',p',Y7 (by omega)];show(bif !(l[i]==x)then _ else _)=_;cases !(l[i]==x) with
  |true=>rw[zF,zF,O7 (by simp;omega),p']|false=>rw[zH,zH,bJ]) (fun a=>by
  simp only;unfold YX
  rw[l6 (by omega)]),p',ET]
 rfl
theorem FT{k:Nat}(hk:k<3)(p:L8×Gr):Xg X' (Q8 p) (k:Int)=some (Q3 k p.2):=by
 match k,hk with
 |0,_=>rfl|1,_=>rfl|2,_=>rfl
theorem yyX{k:Nat}(hk:k<3){p:L8×Gr}(a:1<=p.2.2)(b:p.2.2<=1099511627776)(l:kH):iv X' (Q8 p) (k:Int) l=some (Q8 (p.1,xj k p.2 l)):=by
 have e:P0 (p.2.2+1)=p.2.2+1:=oe (by omega) (by omega);unfold iv ztZ Q8
 match k,hk with
 |0,_=>exact congrArg (fun z=>some (p.1,l,p.2.1.2.1,p.2.1.2.2,z)) e|1,_=>exact congrArg (fun z=>some (p.1,p.2.1.1,l,p.2.1.2.2,z)) e|2,_=>exact congrArg (fun z=>some (p.1,p.2.1.1,p.2.1.2.1,l,z)) e
def CO(k:Nat)(n:L8)(p:L8×Gr):L8×Gr:=(p.1,bif(Q3 k p.2).contains n then xj k p.2 (vj n (Q3 k p.2))else p.2)
theorem yuK(k:Nat)(n:L8)(es:GM):qd k n es=es.map (CO k n):=rfl
def Fit(k:Nat)(es:GM):Prop:=es.length<=1048576/\∀p∈es,(Q3 k p.2).length<=1048576/\1<=p.2.2/\p.2.2<=1099511627776
theorem mA{k:Nat}(hk:k<3)(n:L8){p:L8×Gr}(i:(Q3 k p.2).length<=1048576/\1<=p.2.2/\p.2.2<=1099511627776){a:List u6}(m:a.length<=1048576){β:Type}(f:List u6->Option β):(aR (Xg X' (Q8 p) (k:Int)) fun b=>aR (Zm X' b n) fun c=>bif c then(aR (Xg X' (Q8 p) (k:Int)) fun d=>aR (xI X' d n) fun e=>aR (iv X' (Q8 p) (k:Int) e) fun g=>aR (X0 a [g]) f)else aR (X0 a [Q8 p]) f)=f (a++[Q8 (CO k n p)]):=by
 obtain⟨h,j,l⟩:=i;rw[FT hk,p',oI _ _ h,p'];unfold CO;cases (Q3 k p.2).contains n with
 |true=>rw[zF,p',lA _ h,p',yyX hk j l,p',O7 (by simp;omega),p'];rfl|false=>rw[zH,O7 (by simp;omega),p'];rfl
theorem Qn{n:L8}{es:GM}(hf:Fit 0 es)(R:List Ro)(C:List Cl)(M:kG)(U:List Us):kY X' (0:Int) n (es.map Q8) R C M U=some (R,C,M,U,(qd 0 n es).map Q8):=by
 unfold kY
 rw[show iter _ ((0:Int),es.map Q8,R,C,M,U,([]:List u6))=_ from EM (l:=es) (F:=fun a:List u6=>(es.map Q8,R,C,M,U,a)) (F':=fun a:List u6=>(es.map Q8,R,C,M,U,a)) (g:=fun p=>[Q8 (CO 0 n p)]) (body:=fun x:Int×List u6×List Ro×List Cl×kG×List Us×List u6=>jY X' (0:Int) n x.1 x.2.1 x.2.2.1 x.2.2.2.1 x.2.2.2.2.1 x.2.2.2.2.2.1 x.2.2.2.2.2.2) hf.1 (fun _ _=>by simp) (fun i b a c=>by
  simp only;unfold jY;rw[X5 (by rw[aE];omega),Y6 rfl (by rw[aE];exact b),p',cG];refine(mA (k:=0) (by decide) n (hf.2 _ (bC b)) c (β:=(Int×List u6×List Ro×List Cl×kG×List Us×List u6)⊕(List u6×List Ro×List Cl×kG×List Us×List u6)) fun v=>some (.inl (P0 ((i:Int)+1),es.map Q8,R,C,M,U,v))).trans ?_;have:=hf.1
  rw[Y7 (by omega)]) (fun a=>by
  simp only;unfold jY
  rw[l6 (by rw[aE];omega)]),p',MY,yuK,cW]
 rfl
theorem xfD{n:L8}{es:GM}(hf:Fit 1 es)(U:List Us)(R:List Ro)(C:List Cl)(M:kG):rY X' (1:Int) n U R C M (es.map Q8)=some (U,R,C,M,es.map Q8,(qd 1 n es).map Q8):=by
 unfold rY
 rw[show iter _ ((0:Int),U,R,C,M,es.map Q8,([]:List u6))=_ from EM (l:=es) (F:=fun a:List u6=>(U,R,C,M,es.map Q8,a)) (F':=fun a:List u6=>(U,R,C,M,es.map Q8,a)) (g:=fun p=>[Q8 (CO 1 n p)]) (body:=fun x:Int×List Us×List Ro×List Cl×kG×List u6×List u6=>qY X' (1:Int) n x.1 x.2.1 x.2.2.1 x.2.2.2.1 x.2.2.2.2.1 x.2.2.2.2.2.1 x.2.2.2.2.2.2) hf.1 (fun _ _=>by simp) (fun i c a d=>by
  simp only;unfold qY;have b:i<(es.map Q8).length:=by rw[aE];exact c
  rw[X5 (by omega),av b,p',Y6 rfl b,p',cG];refine(mA (k:=1) (by decide) n (hf.2 _ (bC c)) d (β:=(Int×List Us×List Ro×List Cl×kG×List u6×List u6)⊕(List Us×List Ro×List Cl×kG×List u6×List u6)) fun v=>some (.inl (P0 ((i:Int)+1),U,R,C,M,es.map Q8,v))).trans ?_;have:=hf.1
  rw[Y7 (by omega)]) (fun a=>by
  simp only;unfold qY
  rw[l6 (by rw[aE];omega)]),p',MY,yuK,cW]
 rfl
theorem xdT{n:L8}{es:GM}(hf:Fit 2 es)(U:List Us)(C:List Cl)(M:kG)(R:List Ro):xY X' (2:Int) n U (es.map Q8) C M R=some (U,C,M,R,(qd 2 n es).map Q8):=by
 unfold xY
 rw[show iter _ ((0:Int),U,es.map Q8,C,M,R,([]:List u6))=_ from EM (l:=es) (F:=fun a:List u6=>(U,es.map Q8,C,M,R,a)) (F':=fun a:List u6=>(U,es.map Q8,C,M,R,a)) (g:=fun p=>[Q8 (CO 2 n p)]) (body:=fun x:Int×List Us×List u6×List Cl×kG×List Ro×List u6=>wY X' (2:Int) n x.1 x.2.1 x.2.2.1 x.2.2.2.1 x.2.2.2.2.1 x.2.2.2.2.2.1 x.2.2.2.2.2.2) hf.1 (fun _ _=>by simp) (fun i b a c=>by
  simp only;unfold wY;rw[X5 (by rw[aE];omega),Y6 rfl (by rw[aE];exact b),p',cG];refine(mA (k:=2) (by decide) n (hf.2 _ (bC b)) c (β:=(Int×List Us×List u6×List Cl×kG×List Ro×List u6)⊕(List Us×List u6×List Cl×kG×List Ro×List u6)) fun v=>some (.inl (P0 ((i:Int)+1),U,es.map Q8,C,M,R,v))).trans ?_;have:=hf.1
  rw[Y7 (by omega)]) (fun a=>by
  simp only;unfold wY
  rw[l6 (by rw[aE];omega)]),p',MY,yuK,cW]
 rfl
def mB(p:L8)(m:L8×L8):Bool:=!(m.1==p||m.2==p)
theorem sk(p:L8)(M:MM):(yj p M).map (·.1)=(M.map (·.1)).filter (mB p):=by unfold yj mB;rw[List.filter_map];rfl
theorem wu(p:L8){M:kG}(c:M.length<=1048576)(R:List Ro)(C:List Cl)(U:List Us)(G:List u6):mY X' p R C M U G=some (R,C,U,G,M.filter (mB p)):=by
 unfold mY
 rw[show iter _ ((0:Int),R,C,M,U,G,([]:kG))=_ from EM (l:=M) (F:=fun a:kG=>(R,C,M,U,G,a)) (F':=fun a:kG=>(R,C,M,U,G,a)) (g:=fun m=>bif mB p m then [m]else []) (body:=fun x:Int×List Ro×List Cl×kG×List Us×List u6×kG=>lY X' p x.1 x.2.1 x.2.2.1 x.2.2.2.1 x.2.2.2.2.1 x.2.2.2.2.2.1 x.2.2.2.2.2.2) c (fun m _=>by cases mB p m<;>simp) (fun i b a d=>by
  simp only;unfold lY zoS;rw[X5 (by omega),Y6 rfl b,p',p',Y7 (by omega)];unfold mB bne;cases M[i].1==p with
  |true=>simp only[aK,zH,p',Bool.true_or,bJ]|false=>
   simp only[cX,zF,p',dB];cases M[i].2==p with
   |true=>simp only[aK,zH,bJ]|false=>
    simp only[cX,zF]
    rw[Y6 rfl b,p',O7 (by simp;omega),p']) (fun a=>by
  simp only;unfold lY
  rw[l6 (by omega)]),p',ET]
theorem Rn(p:L8){M:kG}(c:M.length<=1048576)(U:List Us)(G:List u6)(R:List Ro)(C:List Cl):BY X' p U G R M C=some (U,G,R,C,M.filter (mB p)):=by
 unfold BY
 rw[show iter _ ((0:Int),U,G,R,M,C,([]:kG))=_ from EM (l:=M) (F:=fun a:kG=>(U,G,R,M,C,a)) (F':=fun a:kG=>(U,G,R,M,C,a)) (g:=fun m=>bif mB p m then [m]else []) (body:=fun x:Int×List Us×List u6×List Ro×kG×List Cl×kG=>AY X' p x.1 x.2.1 x.2.2.1 x.2.2.2.1 x.2.2.2.2.1 x.2.2.2.2.2.1 x.2.2.2.2.2.2) c (fun m _=>by cases mB p m<;>simp) (fun i b a d=>by
  simp only;unfold AY zoC;rw[X5 (by omega),Y6 rfl b,p',p',Y7 (by omega)];unfold mB bne;cases M[i].1==p with
  |true=>simp only[aK,zH,p',Bool.true_or,bJ]|false=>
   simp only[cX,zF,p',dB];cases M[i].2==p with
   |true=>simp only[aK,zH,bJ]|false=>
    simp only[cX,zF]
    rw[Y6 rfl b,p',O7 (by simp;omega),p']) (fun a=>by
  simp only;unfold AY
  rw[l6 (by omega)]),p',ET]
theorem Sn{B:Int}(hB:B<=1099511627776){s:PS}(h:M0 B s){k:Nat}(hk:k<3){es:GM}(a:es.Sublist s.2.1):Fit k es:=by have:=a.length_le;have:=h.gL;refine⟨by omega,fun p hp=>?_⟩;have b:=a.subset hp;obtain⟨_,c,d⟩:=h.gn p.1 p.2 b;exact⟨bB (h.Z4 b hk) (by decide),c,by omega⟩
theorem Yg{a:Type}{l:List a}{k:Nat}(hk:k<l.length)(d:l.length<=1048576){β:Type}(f:List a->Option β):(aR (Z6 l (k:Int)) fun c=>aR (T4 l (P0 ((k:Int)+1))) fun v9=>aR (X0 ([]:List a) c) fun b=>aR (X0 b v9) f)=f (l.take k++l.drop (k+1)):=by rw[lN (by omega),p',Y7 (by omega),Pe (by omega),p',mh _ (by rw[bX];omega),p',O7 (by rw[bX,bL];omega),p']
theorem nA(s:PS):(n3 s).length=s.1.length:=by unfold n3;rw[aE]
theorem oA(s:PS):(n1 s).length=s.2.1.length:=by unfold n1;rw[aE]
theorem Tn(s:PS):(X1 s).length=s.2.2.1.length:=by unfold X1;rw[aE]
theorem Un(s:PS):(U1 s).length=s.2.2.2.1.length:=by unfold U1;rw[aE]
theorem DO(s:PS):(Y1 s).length=s.2.2.2.2.length:=by unfold Y1;rw[aE]
theorem xu{B:Int}(hB:B<=1099511627776){s:PS}(h:M0 B s){n:L8}(b:n.length<=1048576):nY X' n (n3 s) (n1 s) (X1 s) (U1 s) (Y1 s)=some ((JH n s).1,P1 (JH n s).2):=by
 have hp:=h.pre hB;have c:=Tj h.whole;have d:=nA s;have e:=DO s;have f:=h.uL;have g:=h.mL;unfold nY JH;rw[Wm b,p'];cases U6 n with
 |false=>rfl|true=>
  simp only[aK,zH];rw[show dv X' (n3 s,n1 s,X1 s,U1 s,Y1 s) n=_ from qO hp c n,p'];simp only;cases a:J' j' s.1 n with
  |false=>rfl|true=>have i:=NF h.uR a;simp only[aK,zH];rw[Yg (by omega) (by omega),show n1 s=s.2.1.map Q8 from rfl,Qn (Sn hB h (by decide) (List.Sublist.refl _)),p'];simp only;rw[O7 (by simp;omega),p',wu _ (by omega),p'];simp only;rw[show P1 (l5 j' s.1 n,qd 0 n s.2.1,s.2.2.1,s.2.2.2.1,yj (117::58::n) s.2.2.2.2)=((l5 j' s.1 n).map (·.2),(qd 0 n s.2.1).map Q8,X1 s,U1 s,(yj (117::58::n) s.2.2.2.2).map (·.1))from rfl,KY h.uR a (·.2),sk];rfl
theorem yu{B:Int}(hB:B<=1099511627776){s:PS}(h:M0 B s){n:L8}(b:n.length<=1048576):sY X' n (n3 s) (n1 s) (X1 s) (U1 s) (Y1 s)=some ((LH n s).1,P1 (LH n s).2):=by
 have hp:=h.pre hB;have c:=Tj h.whole;have d:=oA s;have e:=h.gL;unfold sY LH;rw[Wm b,p'];cases U6 n with
 |false=>rfl|true=>
  simp only[aK,zH];rw[show An X' (n3 s,n1 s,X1 s,U1 s,Y1 s) n=_ from rO hp c n,p'];simp only;cases a:J' j' s.2.1 n with
  |false=>rfl|true=>have f:=NF h.gR a;simp only[aK,zH];rw[Yg (by omega) (by omega),show(n1 s).take (y7 n (s.2.1.map (·.1)))++(n1 s).drop (y7 n (s.2.1.map (·.1))+1)=(l5 j' s.2.1 n).map Q8 from(KY h.gR a Q8).symm,xfD (Sn hB h (by decide) (xy _ _)),p'];rfl
theorem zu{B:Int}(hB:B<=1099511627776){s:PS}(h:M0 B s){n:L8}(b:n.length<=1048576):yY X' n (n3 s) (n1 s) (X1 s) (U1 s) (Y1 s)=some ((OH n s).1,P1 (OH n s).2):=by
 have hp:=h.pre hB;have c:=Tj h.whole;have d:=Tn s;have e:=h.rL;unfold yY OH;rw[Wm b,p'];cases U6 n with
 |false=>rfl|true=>
  simp only[aK,zH];rw[show Ez X' (n3 s,n1 s,X1 s,U1 s,Y1 s) n=_ from jT hp c n,p'];simp only;cases a:J' j' s.2.2.1 n with
  |false=>rfl|true=>have f:=NF h.rR a;simp only[aK,zH];rw[Yg (by omega) (by omega),show(X1 s).take (y7 n (s.2.2.1.map (·.1)))++(X1 s).drop (y7 n (s.2.2.1.map (·.1))+1)=(l5 j' s.2.2.1 n).map (·.2)from(KY h.rR a (·.2)).symm,show n1 s=s.2.1.map Q8 from rfl,xdT (Sn hB h (by decide) (List.Sublist.refl _)),p'];rfl
theorem Au{B:Int}(hB:B<=1099511627776){s:PS}(h:M0 B s){n:L8}(b:n.length<=1048576):CY X' n (n3 s) (n1 s) (X1 s) (U1 s) (Y1 s)=some ((QH n s).1,P1 (QH n s).2):=by
 have hp:=h.pre hB;have c:=Tj h.whole;have d:=Un s;have e:=DO s;have f:=h.cL;have g:=h.mL;unfold CY QH;rw[Wm b,p'];cases U6 n with
 |false=>rfl|true=>
  simp only[aK,zH];rw[show WA X' (n3 s,n1 s,X1 s,U1 s,Y1 s) n=_ from QX hp c n,p'];simp only;cases a:J' j' s.2.2.2.1 n with
  |false=>rfl|true=>have i:=NF h.cR a;simp only[aK,zH];rw[Yg (by omega) (by omega),O7 (by simp;omega),p',show(U1 s).take (y7 n (s.2.2.2.1.map (·.1)))++(U1 s).drop (y7 n (s.2.2.2.1.map (·.1))+1)=(l5 j' s.2.2.2.1 n).map (·.2)from(KY h.cR a (·.2)).symm,Rn _ (by omega),p'];rw[show P1 (s.1,s.2.1,s.2.2.1,l5 j' s.2.2.2.1 n,yj (99::58::n) s.2.2.2.2)=(n3 s,n1 s,X1 s,(l5 j' s.2.2.2.1 n).map (·.2),(yj (99::58::n) s.2.2.2.2).map (·.1))from rfl,sk];rfl
theorem pA{s:PS}(h:o7 s)(w:Vq s){r:Ro}(g:r.1.length<=1048576)(i:Sm r.2):vY X' r (n3 s) (n1 s) (X1 s) (U1 s) (Y1 s)=some ((MH r s).1,P1 (MH r s).2):=by
 have j:=Tj w;have l:=lT r.1 s.2.2.1;have c:=Tn s;have m:=w.rL;unfold vY MH;rw[Fz g i,p'];cases d:Gq r with
 |false=>rfl|true=>
  have k:=UL d;simp only[aK,zH];rw[show Ez X' (n3 s,n1 s,X1 s,U1 s,Y1 s) r.1=_ from jT h j r.1,p'];unfold zmN zmU zmJ;simp only;rw[c];have a:P1 (s.1,s.2.1,Y0 j' O' s.2.2.1 r.1 r,s.2.2.2)=(n3 s,n1 s,(Y0 j' O' s.2.2.1 r.1 r).map (·.2),U1 s,Y1 s):=rfl;have b:=DT h.rR r.1 r (·.2);rw[show s.2.2.1.map (·.2)=X1 s from rfl]at b;cases e:J' j' s.2.2.1 r.1 with
  |true=>have n:=NF h.rR e;rw[e,zF]at b;simp only[aK,zH,p',zF,gN];rw[Pe (by omega),p',Y7 (by omega),Pe (by omega)];simp only[p'];rw[mh _ (by omega)];simp only[p'];rw[lB _ (by omega) (by omega),a,b]|false=>
   rw[e,zH]at b;simp only[cX,zF,zH,cJ];by_cases f:32<=s.2.2.1.length
   ·rw[X5 (show(s.2.2.1.length:Int)≥32 by omega),zA f];rfl
   ·rw[l6 (show ¬(s.2.2.1.length:Int)≥32 by omega),zB f,p'];simp only[zH];rw[Pe (by omega)];simp only[p'];rw[mh _ (by omega)];simp only[p'];rw[lB _ (by omega) (by omega),a,b]
theorem qA{s:PS}(h:o7 s)(w:Vq s){c:Cl}(i:c.1.length<=1048576)(j:c.2.1.length<=1048576)(k:Sm c.2.2.1)(l:Sm c.2.2.2.1):zY X' c (n3 s) (n1 s) (X1 s) (U1 s) (Y1 s)=some ((PH c s).1,P1 (PH c s).2):=by
 have m:=Tj w;have q:=lT c.1 s.2.2.2.1;have d:=Un s;have r:=w.cL;unfold zY PH;rw[LF i j k l,p'];cases e:Ha c with
 |false=>rfl|true=>
  obtain⟨n,p⟩:=rX e;simp only[aK,zH];rw[show WA X' (n3 s,n1 s,X1 s,U1 s,Y1 s) c.1=_ from QX h m c.1,p'];unfold zlC zkX zlE;simp only;rw[d];have a:P1 (s.1,s.2.1,s.2.2.1,Y0 j' O' s.2.2.2.1 c.1 c,s.2.2.2.2)=(n3 s,n1 s,X1 s,(Y0 j' O' s.2.2.2.1 c.1 c).map (·.2),Y1 s):=rfl;have b:=DT h.cR c.1 c (·.2);rw[show s.2.2.2.1.map (·.2)=U1 s from rfl]at b;cases f:J' j' s.2.2.2.1 c.1 with
  |true=>have t:=NF h.cR f;rw[f,zF]at b;simp only[aK,zH,p',zF,gN];rw[Pe (by omega),p',Y7 (by omega),Pe (by omega)];simp only[p'];rw[mh _ (by omega)];simp only[p'];rw[mh _ (by omega)];simp only[p'];rw[lB _ (by omega) (by omega),a,b]|false=>
   rw[f,zH]at b;simp only[cX,zF,zH,cJ];by_cases g:32<=s.2.2.2.1.length
   ·rw[X5 (show(s.2.2.2.1.length:Int)≥32 by omega),zA g];rfl
   ·rw[l6 (show ¬(s.2.2.2.1.length:Int)≥32 by omega),zB g,p'];simp only[zH];rw[Pe (by omega)];simp only[p'];rw[mh _ (by omega)];simp only[p'];rw[mh _ (by omega)];simp only[p'];rw[lB _ (by omega) (by omega),a,b]
end Go.Proofs.YtopanhneegpgcaaGreatDoor.Am
