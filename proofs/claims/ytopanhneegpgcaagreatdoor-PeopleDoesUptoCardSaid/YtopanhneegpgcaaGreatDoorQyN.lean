/- Parts of one proof. Conditions: as each theorem says. -/
import Derived.KernelRfl
import Derived.Test.YtopanhneegpgcaaGreatDoorQyM
open Bool renaming and_eq_true->aI,and_false->iI,and_true->eV,eq_iff_iff->dS,false_and->gN,false_or->dB,not_eq_true'->bM,not_eq_true->cM,not_false->cX,not_true->aK,or_false->eA,true_and->cJ
open List renaming all_cons->cT,append_assoc->aU,contains_iff_mem->bE,drop_eq_getElem_cons->bA,drop_length->bT,drop_zero->bQ,filter_congr->iQ,foldl_cons->dN,getElem?_eq_getElem->aH,getElem_cons_succ->iW,length_append->aD,length_cons->aQ,length_map->aE,map->cU,map_congr_left->dI,mem_cons->aN,mem_cons_of_mem->aM,mem_cons_self->aO,mem_map->aY,mem_singleton->aZ,takeWhile_cons->eC
open Nat renaming add_sub_cancel->jG,le_refl->aL,le_trans->bB
open Option renaming getD_some->dH,isSome_some->eG,map_some->aX
open Go.Proofs.Tryz renaming prog->aA
open Go.Op renaming bytesLess->j9
open Go.Proofs.Tryz renaming func116->O2,func194->O3
open Go.Proofs.Tryz
namespace Go.Proofs.YtopanhneegpgcaaGreatDoor.Am
open Go Go.RowKit
def Jq:TE:=[(3,⟨.int .i64,1,[.v (.i .i64) (show Int from 0)],(.i .i64),8⟩),
 (4,⟨.b,1,[.v .b (show Bool from false)],.b,1⟩),
 (9,⟨.s,1,[.v .s (show Bs from [])],.s,16⟩),
 (22,⟨.sl 9,1,[.Y'],(.sl .s),24⟩),
 (34,⟨.pt 128,1,[.v7],.un,8⟩),
 (45,⟨.sl 53,1,[.Y'],(.sl (.pr (.i .i64) (.pr (.i .i64) (.pr .s (.pr .s (.pr .b (.pr (.pr .s (.sl .s)) (.pr .s (.pr .s (.pr (.sl .s) (.pr (.sl .s) (.pr .b (.pr .b (.pr .b .b)))))))))))))),24⟩),
 (49,⟨.st [(9,0),(22,1)],2,[.v .s (show Bs from []),.Y'],(.pr .s (.sl .s)),40⟩),
 (51,⟨.st [(9,0),(9,1),(22,2),(22,3),(4,4),(4,5),(4,6),(4,7)],8,[.v .s (show Bs from []),.v .s (show Bs from []),.Y',.Y',.v .b (show Bool from false),.v .b (show Bool from false),.v .b (show Bool from false),.v .b (show Bool from false)],(.pr .s (.pr .s (.pr (.sl .s) (.pr (.sl .s) (.pr .b (.pr .b (.pr .b .b))))))),88⟩),
 (53,⟨.st [(3,0),(3,1),(9,2),(9,3),(4,4),(49,5),(51,7)],15,[.v (.i .i64) (show Int from 0),.v (.i .i64) (show Int from 0),.v .s (show Bs from []),.v .s (show Bs from []),.v .b (show Bool from false),.v .s (show Bs from []),.Y',.v .s (show Bs from []),.v .s (show Bs from []),.Y',.Y',.v .b (show Bool from false),.v .b (show Bool from false),.v .b (show Bool from false),.v .b (show Bool from false)],(.pr (.i .i64) (.pr (.i .i64) (.pr .s (.pr .s (.pr .b (.pr (.pr .s (.sl .s)) (.pr .s (.pr .s (.pr (.sl .s) (.pr (.sl .s) (.pr .b (.pr .b (.pr .b .b))))))))))))),184⟩),
 (54,⟨.sl 57,1,[.Y'],(.sl (.pr .s (.pr (.sl .s) (.pr (.sl .s) (.pr (.sl .s) (.i .i64)))))),24⟩),
 (57,⟨.st [(9,0),(22,1),(22,2),(22,3),(3,4)],5,[.v .s (show Bs from []),.Y',.Y',.Y',.v (.i .i64) (show Int from 0)],(.pr .s (.pr (.sl .s) (.pr (.sl .s) (.pr (.sl .s) (.i .i64))))),96⟩),
 (64,⟨.sl 51,1,[.Y'],(.sl (.pr .s (.pr .s (.pr (.sl .s) (.pr (.sl .s) (.pr .b (.pr .b (.pr .b .b)))))))),24⟩),
 (67,⟨.sl 77,1,[.Y'],(.sl (.pr .s (.pr .s (.pr .b (.i .i64))))),24⟩),
 (69,⟨.sl 49,1,[.Y'],(.sl (.pr .s (.sl .s))),24⟩),
 (72,⟨.sl 75,1,[.Y'],(.sl (.pr .s .s)),24⟩),
 (75,⟨.st [(9,0),(9,1)],2,[.v .s (show Bs from []),.v .s (show Bs from [])],(.pr .s .s),32⟩),
 (77,⟨.st [(9,0),(9,1),(4,2),(3,3)],4,[.v .s (show Bs from []),.v .s (show Bs from []),.v .b (show Bool from false),.v (.i .i64) (show Int from 0)],(.pr .s (.pr .s (.pr .b (.i .i64)))),48⟩),
 (122,⟨.map 9 77,1,[.z6],(.mp .s (.pr .s (.pr .s (.pr .b (.i .i64))))),8⟩),
 (123,⟨.map 9 133,1,[.z6],(.mp .s (.pr (.pr (.sl .s) (.pr (.sl .s) (.sl .s))) (.i .i64))),8⟩),
 (124,⟨.map 9 49,1,[.z6],(.mp .s (.pr .s (.sl .s))),8⟩),
 (125,⟨.map 9 51,1,[.z6],(.mp .s (.pr .s (.pr .s (.pr (.sl .s) (.pr (.sl .s) (.pr .b (.pr .b (.pr .b .b)))))))),8⟩),
 (126,⟨.map 75 157,1,[.z6],(.mp (.pr .s .s) .un),8⟩),
 (128,⟨.st [(122,0),(123,1),(124,2),(125,3),(126,4)],5,[.z6,.z6,.z6,.z6,.z6],(.pr (.mp .s (.pr .s (.pr .s (.pr .b (.i .i64))))) (.pr (.mp .s (.pr (.pr (.sl .s) (.pr (.sl .s) (.sl .s))) (.i .i64))) (.pr (.mp .s (.pr .s (.sl .s))) (.pr (.mp .s (.pr .s (.pr .s (.pr (.sl .s) (.pr (.sl .s) (.pr .b (.pr .b (.pr .b .b)))))))) (.mp (.pr .s .s) .un))))),40⟩),
 (131,⟨.ar 3 22,3,[.Y',.Y',.Y'],(.pr (.sl .s) (.pr (.sl .s) (.sl .s))),72⟩),
 (133,⟨.st [(131,0),(3,3)],4,[.Y',.Y',.Y',.v (.i .i64) (show Int from 0)],(.pr (.pr (.sl .s) (.pr (.sl .s) (.sl .s))) (.i .i64)),80⟩),
 (157,⟨.st [],0,[],.un,0⟩),
 (187,⟨.st [(3,0),(25,1)],2,[.v (.i .i64) (show Int from 0),.xb],.un,16⟩),
 (188,⟨.ar 3 187,6,[.v (.i .i64) (show Int from 0),.xb,.v (.i .i64) (show Int from 0),.xb,.v (.i .i64) (show Int from 0),.xb],.un,48⟩)]
theorem Bj:P3 aA Jq:=NG (by kernel_rfl) (by kernel_rfl)
theorem Vy:Tryz.prog.follows .mixedOrders=true:=by kernel_rfl
theorem FW {G : List (Nat × Obj)} {o : D'} [kb G] [Xa G o] {Γ : CT} {η : HT} {f : FuncId} {fn : Func} {c : SC} (a : ∀ B, GB G B -> X6 aA Γ B) (hf : Tryz.prog.funcs[f]? = some fn) (i : (fn.name == "runtime.NumGoroutine") = false := by kernel_rfl) (j : fn.body.isNone = false := by kernel_rfl) (l : Nat.ble c.I.sl.length fn.ntmps = true := by kernel_rfl) (r : Nat.beq fn.results.toList.length c.nr = true := by kernel_rfl) (e : Ms Jq Γ η fn c.I c.outs = c.p := by kernel_rfl) : P' aA G f c := jc (G := G) (o := o) <| af Vy Bj a hf (Y5 hf i j) l r e
theorem eb {G : List (Nat × Obj)} (o : D') [kb G] [Xa G o] (η : HT) (A : List (Nat × PC)) (B : List (Nat × SC)) {f : FuncId} {fn : Func} {c : SC} (x : PL aA G A) (y : SL aA G B) (hf : Tryz.prog.funcs[f]? = some fn) (i : (fn.name == "runtime.NumGoroutine") = false := by kernel_rfl) (j : fn.body.isNone = false := by kernel_rfl) (l : Nat.ble c.I.sl.length fn.ntmps = true := by kernel_rfl) (r : Nat.beq fn.results.toList.length c.nr = true := by kernel_rfl) (e : Ms Jq ⟨A, B, false, []⟩ η fn c.I c.outs = c.p := by kernel_rfl) : P' aA G f c := FW (o := o) (η := η) (Γ := ⟨A, B, false, []⟩) (X4 x y) hf i j l r e
theorem Wy {G : List (Nat × Obj)} {o : D'} [kb G] [Xa G o] {Γ : CT} {η : HT} {f : FuncId} {fn : Func} {c : PC} (a : ∀ B, GB G B -> X6 aA Γ B) (hf : Tryz.prog.funcs[f]? = some fn) (i : (fn.name == "runtime.NumGoroutine") = false := by kernel_rfl) (j : fn.body.isNone = false := by kernel_rfl) (l : Nat.ble c.ash.length fn.ntmps = true := by kernel_rfl) (r : c.cl = false := by kernel_rfl) (e : zw Jq Γ η fn c.ash c.rts = c.p := by kernel_rfl) : Z0 aA G f c := jc (G := G) (o := o) <| Ze Vy Bj a hf (Y5 hf i j) l r e
abbrev mf:Type:=Bs×kE
abbrev Kq:Ty:=.pr .s (.sl .s)
abbrev VE:Type:=Bs×Bs×Bool×Int
abbrev UH:Ty:=.pr .s (.pr .s (.pr .b (.i .i64)))
abbrev zdR:Type:=Bs×mf
abbrev l7:Type:=List zdR
abbrev zdM:Type:=Bs×VE
abbrev b7:Type:=List zdM
abbrev nf:Type:=(kE×kE×kE)×Int
abbrev VH:Ty:=.pr (.pr (.sl .s) (.pr (.sl .s) (.sl .s))) (.i .i64)
abbrev GW:Type:=Bs×nf
abbrev Q6:Type:=List GW
abbrev TA:Type:=Bs×Bs×kE×kE×Bool×Bool×Bool×Bool
abbrev pf:Ty:=.pr .s (.pr .s (.pr (.sl .s) (.pr (.sl .s) (.pr .b (.pr .b (.pr .b .b))))))
abbrev zdO:Type:=Bs×TA
abbrev e7:Type:=List zdO
abbrev pS:Type:=Int×Int×Bs×Bs×Bool×mf×TA
abbrev qS:Ty:=.pr (.i .i64) (.pr (.i .i64) (.pr .s (.pr .s (.pr .b (.pr Kq pf)))))
abbrev Ia:Type:=(List (Bs×VE))×(List (Bs×nf))×(List (Bs×mf))×(List (Bs×TA))×kC
abbrev qf:X3:=.N' 128 [(.mpr 2),(.mpr 3),(.mpr 4),(.mpr 5),(.mpr 6)]
abbrev s7:X3:=.N' 128 [(.mpr 1),(.mpr 2),(.mpr 3),(.mpr 4),(.mpr 5)]
abbrev WH:X3:=.N' 128 [(.mpr 3),(.mpr 4),(.mpr 5),(.mpr 6),(.mpr 7)]
abbrev Ym:X3:=.N' 133 [(.h (.sl .s)),(.h (.sl .s)),(.h (.sl .s)),hI]
abbrev rf:X3:=.N' 77 [hS,hS,hB,hI]
abbrev XH:X3:=.N' 34 [(.ptr 2 0)]
abbrev YH:X3:=.N' 34 [(.ptr 3 0)]
abbrev Cj:X3:=.mp false .s UH
abbrev JL:X3:=.mp false .s VH
abbrev W5:X3:=.mp true .s UH
abbrev b6:X3:=.mp true .s VH
abbrev r5:X3:=.mp true .s Kq
abbrev u5:X3:=.mp true .s pf
section
variable {tabs:List (Nat×Obj)}[kb tabs]{o:D'}[Xa tabs o]
def znE(_o:D')(b:Bs)(_:Bs)(c:Bool)(d:Int)(a:Bs):Option ((Bs×Bs×Bool×Int×Bs)):=
 some (b,a,c,d,a)
def zsZ(o:D'):SC:=⟨⟨[(0,(.ptr 0 0)),(1,(.ptr 1 0))],[rf,.N' 9 [hS]]⟩,0,[(none,⟨[],[rf,.N' 9 [hS]]⟩)],rq (znE o)⟩
theorem ydR:P' aA tabs 192 (zsZ o):=eb o [] [] [] ⟨⟩ ⟨⟩ func192
def zrO(_o:D')(c:b7)(d:Q6)(e:l7)(f:e7)(g:kC)(b:VE)(a:(Bs×Bs×Bool×Int×Bs)):Option ((Bs×b7×Q6×l7×e7×kC×VE)):=
 let h:Bool:=(!((a.1==b.1)&&((a.2.1==b.2.1)&&((a.2.2.1==b.2.2.1)&&(decide (a.2.2.2.1=b.2.2.2))))))
 bif h then some (a.2.2.2.2,c,d,e,f,g,a.1,a.2.1,a.2.2.1,P0 (a.2.2.2.1+1))else some (a.2.2.2.2,c,d,e,f,g,a.1,a.2.1,a.2.2.1,a.2.2.2.1)
def HW(o:D')(d:Bs)(e:Bs)(b:b7)(f:Q6)(g:l7)(h:e7)(i:kC):Option ((Int×Bs×Ia)):=
 (Ec o d).bind fun j=>bif(!j)then some (120,e,b,f,g,h,i)else(let c:VE:=r6 j' b d (([]:Bs),([]:Bs),false,0)
 bif(!(J' j' b d))then some (122,e,b,f,g,h,i)else((znE o c.1 c.2.1 c.2.2.1 c.2.2.2 e).bind fun k=>(zrO o b f g h i c k).bind fun a=>let l:b7:=Y0 j' O' a.2.1 d a.2.2.2.2.2.2
 some (0,a.1,l,a.2.2.1,a.2.2.2.1,a.2.2.2.2.1,a.2.2.2.2.2.1)))
def ybE(o:D'):SC:=⟨⟨[(0,(.ptr 0 0)),(1,hS),(2,(.fn 192 [] [(.ptr 1 0)]))],[qf,.N' 9 [hS],W5,b6,r5,u5,Z']⟩,1,[(none,⟨[(0,hI)],[qf,.N' 9 [hS],Cj,b6,r5,u5,Z']⟩)],Aa (HW o)⟩
theorem yjM:P' aA tabs 191 (ybE o):=eb o [(2000010,.join [] [1] [(none,⟨[(0,(.ptr 0 0)),(7,(.ptr 7 0))],[qf,.N' 9 [hS],W5,b6,r5,u5,Z',rf]⟩)]),
 (4000010,.x7 (j7 0 6++[(.mn,6,[0,1,2,3,4,5,6,7])]))] [(13,(Hk o))] [(192,(zsZ o))] ⟨Im,⟨⟩⟩ ⟨ydR,⟨⟩⟩ func191
def IW(o:D')(h:Bs)(a:Bs)(b:b7)(c:Q6)(d:l7)(e:e7)(f:kC):Option ((Int×Ia)):=
 (py o a).bind fun i=>bif(!i)then some (120,b,c,d,e,f)else((HW o h a b c d e f).bind fun g=>some (g.1,g.2.2))
def zvF(o:D'):SC:=⟨⟨[(0,(.ptr 0 0)),(1,hS),(2,hS)],[s7,W5,b6,r5,u5,Z']⟩,1,[(none,⟨[(0,hI)],[s7,Cj,b6,r5,u5,Z']⟩)],Aa (IW o)⟩
theorem yfL:P' aA tabs 92 (zvF o):=eb o [] [(15,(pR o))] [(191,(ybE o))] ⟨PV,⟨⟩⟩ ⟨yjM,⟨⟩⟩ func92
def zkW(_o:D')(b:Bs)(c:Bs)(_:Bool)(d:Int)(a:Bool):Option ((Bs×Bs×Bool×Int×Bool)):=
 some (b,c,a,d,a)
def zrM(o:D'):SC:=⟨⟨[(0,(.ptr 0 0)),(1,(.ptr 1 0))],[rf,.N' 4 [hB]]⟩,0,[(none,⟨[],[rf,.N' 4 [hB]]⟩)],rq (zkW o)⟩
theorem ycN:P' aA tabs 193 (zrM o):=eb o [] [] [] ⟨⟩ ⟨⟩ func193
def zrF(_o:D')(c:b7)(d:Q6)(e:l7)(f:e7)(g:kC)(b:VE)(a:(Bs×Bs×Bool×Int×Bool)):Option ((Bool×b7×Q6×l7×e7×kC×VE)):=
 let h:Bool:=(!((a.1==b.1)&&((a.2.1==b.2.1)&&((a.2.2.1==b.2.2.1)&&(decide (a.2.2.2.1=b.2.2.2))))))
 bif h then some (a.2.2.2.2,c,d,e,f,g,a.1,a.2.1,a.2.2.1,P0 (a.2.2.2.1+1))else some (a.2.2.2.2,c,d,e,f,g,a.1,a.2.1,a.2.2.1,a.2.2.2.1)
def JW(o:D')(d:Bs)(e:Bool)(b:b7)(f:Q6)(g:l7)(h:e7)(i:kC):Option ((Int×Bool×Ia)):=
 (Ec o d).bind fun j=>bif(!j)then some (120,e,b,f,g,h,i)else(let c:VE:=r6 j' b d (([]:Bs),([]:Bs),false,0)
 bif(!(J' j' b d))then some (122,e,b,f,g,h,i)else((zkW o c.1 c.2.1 c.2.2.1 c.2.2.2 e).bind fun k=>(zrF o b f g h i c k).bind fun a=>let l:b7:=Y0 j' O' a.2.1 d a.2.2.2.2.2.2
 some (0,a.1,l,a.2.2.1,a.2.2.2.1,a.2.2.2.2.1,a.2.2.2.2.2.1)))
def zyZ(o:D'):SC:=⟨⟨[(0,(.ptr 0 0)),(1,hS),(2,(.fn 193 [] [(.ptr 1 0)]))],[qf,.N' 4 [hB],W5,b6,r5,u5,Z']⟩,1,[(none,⟨[(0,hI)],[qf,.N' 4 [hB],Cj,b6,r5,u5,Z']⟩)],Aa (JW o)⟩
theorem yjE:P' aA tabs 191 (zyZ o):=eb o [(2000010,.join [] [1] [(none,⟨[(0,(.ptr 0 0)),(7,(.ptr 7 0))],[qf,.N' 4 [hB],W5,b6,r5,u5,Z',rf]⟩)]),
 (4000010,.x7 (j7 0 6++[(.mn,6,[0,1,2,3,4,5,6,7])]))] [(13,(Hk o))] [(193,(zrM o))] ⟨Im,⟨⟩⟩ ⟨ycN,⟨⟩⟩ func191
def KW(o:D')(b:Bs)(c:Bool)(d:b7)(e:Q6)(f:l7)(g:e7)(h:kC):Option ((Int×Ia)):=
 (JW o b c d e f g h).bind fun a=>some (a.1,a.2.2)
def ztE(o:D'):SC:=⟨⟨[(0,(.ptr 0 0)),(1,hS),(2,hB)],[s7,W5,b6,r5,u5,Z']⟩,1,[(none,⟨[(0,hI)],[s7,Cj,b6,r5,u5,Z']⟩)],Aa (KW o)⟩
theorem ydT:P' aA tabs 93 (ztE o):=eb o [] [] [(191,(zyZ o))] ⟨⟩ ⟨yjE,⟨⟩⟩ func93
def Lq:SC:=⟨⟨[(0,(.own 0)),(1,(.fn 275 [] [(.ptr 1 0)]))],[.H' .s 9,.N' 9 [hS]]⟩,1,[(none,⟨[(0,(.h (.sl .s)))],[.dead,.N' 9 [hS]]⟩)],fun(x:kE×Bs)=>jR x.1 x.2⟩
theorem WE:P' aA tabs 274 Lq:=Ce (G:=tabs)<|ly
def Ik(_o:D')(a:kE)(b:Bs):Option kE:=
 (X0 ([]:kE) a).bind fun c=>((fun(e:kE) (s:Bs)=>bif decide (e.length<1152921504606846976)then some (e.filter fun x=>!(x==s),s)else none) c b).bind fun d=>some d.1
def KL(o:D'):PC:=⟨[(.h (.sl .s)),hS],[(.sl .s)],fun x=>Ik o x.1 x.2,false⟩
theorem VN:Z0 aA tabs 206 (KL o):=Wy (o:=o) (η:=[]) (Γ:=⟨[],[(198,oL),(274,Lq)],false,[]⟩) (X4 trivial ⟨JN,⟨WE,trivial⟩⟩) func206
noncomputable def zvV(o:D')(b:Bs)(c:b7)(d:Q6)(e:l7)(f:e7)(g:kC)(h:kE)(i:GW)(a:nf):Option ((Bool×b7×Q6×l7×e7×kC×kE×kE×kE×Int×kE)):=
 (Ed o a.1.1 b).bind fun j=>some (j,c,d,e,f,g,a.1.1,a.1.2.1,a.1.2.2,a.2,U7 j' h i.1)
noncomputable def zxK(o:D')(b:Bs)(a:Bool×b7×Q6×l7×e7×kC×kE×kE×kE×Int×kE):Option ((b7×Q6×l7×e7×kC×kE×kE×kE×Int×kE)):=
 (Ik o a.2.2.2.2.2.2.1 b).bind fun c=>some (a.2.1,a.2.2.1,a.2.2.2.1,a.2.2.2.2.1,a.2.2.2.2.2.1,c,a.2.2.2.2.2.2.2)
noncomputable def zwM(o:D')(e:Bs)(f:b7)(c:Q6)(g:l7)(h:e7)(i:kC)(j:kE):List (Option ((b7×Q6×l7×e7×kC×kE)⊕(Ia))):=
 cb (Ra j' c j) (some (.inr (f,c,g,h,i))) fun d=>(W0 j' c d.1).bind fun k=>(zvV o e f c g h i j d k).bind fun b=>bif b.1 then((zxK o e b).bind fun a=>(o6 (J' j' a.2.1 d.1)).bind fun _=>let l:Q6:=Z9 j' a.2.1 d.1 ((a.2.2.2.2.2.1,a.2.2.2.2.2.2.1,a.2.2.2.2.2.2.2.1),P0 (a.2.2.2.2.2.2.2.2.1+1))
 some (.inl (a.1,l,a.2.2.1,a.2.2.2.1,a.2.2.2.2.1,a.2.2.2.2.2.2.2.2.2)))else some (.inl (b.2.1,b.2.2.1,b.2.2.2.1,b.2.2.2.2.1,b.2.2.2.2.2.1,b.2.2.2.2.2.2.2.2.2.2))
noncomputable def LW(o:D')(b:Bs)(c:b7)(a:Q6)(d:l7)(e:e7)(f:kC):Option (Ia):=
 (U8 (fun x=>zwM o b x.1 x.2.1 x.2.2.1 x.2.2.2.1 x.2.2.2.2.1 x.2.2.2.2.2) (c,a,d,e,f,cU Prod.fst a)).bind fun g=>some g
noncomputable def zxC(o:D'):SC:=⟨⟨[(0,(.ptr 0 0)),(1,(.kn .i64 0)),(2,hS)],[s7,W5,b6,r5,u5,Z']⟩,0,[(none,⟨[],[s7,W5,b6,r5,u5,Z']⟩)],Y9 (LW o)⟩
theorem yhR:P' aA tabs 116 (zxC o):=FW (o:=o) (η:=[(2300004,.join [] [1,2,6] [(none,⟨[(0,(.ptr 0 0)),(7,(.ptr 6 0)),(12,(.ptr 7 0)),(23,hB)],[s7,W5,b6,r5,u5,Z',Ym,.it 2 true .s]⟩)]),
 (2000005,.join [] [1,2,6] [(none,⟨[(0,(.ptr 0 0)),(7,(.ptr 6 0)),(12,(.ptr 7 0))],[s7,W5,b6,r5,u5,Z',Ym,.it 2 true .s]⟩)]),
 (200001,.HG [] ⟨[(0,(.ptr 0 0)),(12,(.ptr 6 0))],[s7,W5,b6,r5,u5,Z',.it 2 true .s]⟩ [1,2] [(some 0,⟨[],[s7,W5,b6,r5,u5,Z']⟩)]),
 (4000006,.x7 (j7 0 6++[(.mn,6,[0,1,2,3,4,5,6,7])]))]) (Γ:=⟨[(131,(qy o)),(206,(KL o))],[],true,[]⟩) (X4 ⟨PA,⟨VN,trivial⟩⟩ trivial) O2
def zoN(_o:D')(b:Bs×Bs)(_:Unit)(a:Bs):Option ((Bool×Bs)):=
 bif(b.1==a)then some (true,a)else some ((b.2==a),a)
def ztR(o:D'):SC:=⟨⟨[(0,(.h (.pr .s .s))),(1,(.h .un)),(2,(.ptr 0 0))],[.N' 9 [hS]]⟩,1,[(none,⟨[(0,hB)],[.N' 9 [hS]]⟩)],JV (zoN o)⟩
theorem yeW:P' aA tabs 208 (ztR o):=eb o [] [] [] ⟨⟩ ⟨⟩ func208
noncomputable def yeJ(o:D')(a:kC)(e:Bs)(c:kD):List (Option ((kC×Bs×kD)⊕((kC×Bs)))):=
 cb (Ra (o5 (.pr .s .s)) a c) (some (.inr (a,e))) fun b=>(W0 (o5 (.pr .s .s)) a b.1).bind fun _=>(zoN o b.1 () e).bind fun d=>bif d.1 then some (.inl (l5 (o5 (.pr .s .s)) a b.1,d.2,U7 (o5 (.pr .s .s)) c b.1))else some (.inl (a,d.2,U7 (o5 (.pr .s .s)) c b.1))
noncomputable def zzM(o:D')(a:kC)(b:Bs):Option ((kC×Bs)):=
 (U8 (fun x=>yeJ o x.1 x.2.1 x.2.2) (a,b,cU Prod.fst a)).bind fun c=>some c
noncomputable def ydZ(o:D'):SC:=⟨⟨[(0,(.mpr 0)),(1,(.fn 208 [] [(.ptr 1 0)]))],[Z',.N' 9 [hS]]⟩,0,[(none,⟨[],[Z',.N' 9 [hS]]⟩)],Ek (zzM o)⟩
theorem yoI:P' aA tabs 207 (ydZ o):=eb o [(200001,.HG [] ⟨[(0,(.mpr 0)),(1,(.fn 208 [] [(.ptr 1 0)])),(7,(.ptr 2 0))],[Z',.N' 9 [hS],.it 0 true (.pr .s .s)]⟩ [] [(some 0,⟨[],[Z',.N' 9 [hS]]⟩)])] [] [(208,(ztR o))] ⟨⟩ ⟨yeW,⟨⟩⟩ func207
noncomputable def sS(o:D')(a:Bs)(b:b7)(c:Q6)(d:l7)(e:e7)(f:kC):Option (Ia):=
 (zzM o f a).bind fun g=>some (b,c,d,e,g.1)
noncomputable def zpL(o:D'):SC:=⟨⟨[(0,(.ptr 0 0)),(1,hS)],[s7,W5,b6,r5,u5,Z']⟩,0,[(none,⟨[],[s7,W5,b6,r5,u5,Z']⟩)],Y9 (sS o)⟩
theorem zwY:P' aA tabs 117 (zpL o):=eb o [] [] [(207,(ydZ o))] ⟨⟩ ⟨yoI,⟨⟩⟩ func117
noncomputable def zmH(o:D')(b:Bs)(c:b7)(d:Q6)(e:l7)(f:e7)(g:kC):Option ((Bs×Ia)):=
 (LW o b c d e f g).bind fun a=>(X0 ([117,58]:Bs) b).bind fun h=>(sS o h a.1 a.2.1 a.2.2.1 a.2.2.2.1 a.2.2.2.2).bind fun i=>some (b,i)
noncomputable def zrR(o:D'):SC:=⟨⟨[(0,(.ptr 0 0)),(1,(.ptr 1 0))],[XH,.N' 9 [hS],WH,W5,b6,r5,u5,Z']⟩,0,[(none,⟨[],[XH,.N' 9 [hS],WH,W5,b6,r5,u5,Z']⟩)],Y9 (zmH o)⟩
theorem ydK:P' aA tabs 115 (zrR o):=eb o [] [] [(116,(zxC o)),(117,(zpL o))] ⟨⟩ ⟨yhR,⟨zwY,⟨⟩⟩⟩ func115
noncomputable def ygL(o:D')(b:Bs)(a:b7)(c:Bs)(d:Q6)(e:l7)(f:e7)(g:kC):Option ((Int×b7×Bs×Q6×l7×e7×kC)):=
 (Ec o b).bind fun i=>bif(!i)then some (120,a,c,d,e,f,g)else(let _:VE:=r6 j' a b (([]:Bs),([]:Bs),false,0)
 bif(!(J' j' a b))then some (122,a,c,d,e,f,g)else((zmH o c (l5 j' a b) d e f g).bind fun h=>some (0,h.2.1,h.1,h.2.2)))
noncomputable def ymE(o:D'):SC:=⟨⟨[(0,(.mpr 0)),(1,hS),(2,(.fn 115 [] [(.ptr 1 0),(.ptr 2 0)]))],[W5,YH,.N' 9 [hS],.N' 128 [(.mpr 0),(.mpr 4),(.mpr 5),(.mpr 6),(.mpr 7)],b6,r5,u5,Z']⟩,1,[(none,⟨[(0,hI)],[W5,YH,.N' 9 [hS],.N' 128 [(.mpr 0),(.mpr 4),(.mpr 5),(.mpr 6),(.mpr 7)],b6,r5,u5,Z']⟩)],Aa (ygL o)⟩
theorem yvM:P' aA tabs 114 (ymE o):=eb o [] [(13,(Hk o))] [(115,(zrR o))] ⟨Im,⟨⟩⟩ ⟨ydK,⟨⟩⟩ func114
noncomputable def MW(o:D')(b:Bs)(c:b7)(d:Q6)(e:l7)(f:e7)(g:kC):Option ((Int×Ia)):=
 (ygL o b c b d e f g).bind fun a=>some (a.1,a.2.1,a.2.2.2)
noncomputable def ztU(o:D'):SC:=⟨⟨[(0,(.ptr 0 0)),(1,hS)],[s7,W5,b6,r5,u5,Z']⟩,1,[(none,⟨[(0,hI)],[s7,W5,b6,r5,u5,Z']⟩)],Y9 (MW o)⟩
theorem yeQ:P' aA tabs 41 (ztU o):=eb o [(4000001,.x7 (j7 0 6++[(.mn,6,[0,1,2,3,4,5,6,7]),(.pu,7,[])]))] [] [(114,(ymE o))] ⟨⟩ ⟨yvM,⟨⟩⟩ func41
noncomputable def zuV(o:D')(b:Bs)(c:b7)(d:Q6)(e:l7)(f:e7)(g:kC)(h:kE)(i:GW)(a:nf):Option ((Bool×b7×Q6×l7×e7×kC×kE×kE×kE×Int×kE)):=
 (Ed o a.1.2.1 b).bind fun j=>some (j,c,d,e,f,g,a.1.1,a.1.2.1,a.1.2.2,a.2,U7 j' h i.1)
noncomputable def zuQ(o:D')(b:Bs)(a:Bool×b7×Q6×l7×e7×kC×kE×kE×kE×Int×kE):Option ((b7×Q6×l7×e7×kC×kE×kE×kE×Int×kE)):=
 (Ik o a.2.2.2.2.2.2.2.1 b).bind fun c=>some (a.2.1,a.2.2.1,a.2.2.2.1,a.2.2.2.2.1,a.2.2.2.2.2.1,a.2.2.2.2.2.2.1,c,a.2.2.2.2.2.2.2.2)
noncomputable def zuT(o:D')(e:Bs)(f:b7)(c:Q6)(g:l7)(h:e7)(i:kC)(j:kE):List (Option ((b7×Q6×l7×e7×kC×kE)⊕(Ia))):=
 cb (Ra j' c j) (some (.inr (f,c,g,h,i))) fun d=>(W0 j' c d.1).bind fun k=>(zuV o e f c g h i j d k).bind fun b=>bif b.1 then((zuQ o e b).bind fun a=>(o6 (J' j' a.2.1 d.1)).bind fun _=>let l:Q6:=Z9 j' a.2.1 d.1 ((a.2.2.2.2.2.1,a.2.2.2.2.2.2.1,a.2.2.2.2.2.2.2.1),P0 (a.2.2.2.2.2.2.2.2.1+1))
 some (.inl (a.1,l,a.2.2.1,a.2.2.2.1,a.2.2.2.2.1,a.2.2.2.2.2.2.2.2.2)))else some (.inl (b.2.1,b.2.2.1,b.2.2.2.1,b.2.2.2.2.1,b.2.2.2.2.2.1,b.2.2.2.2.2.2.2.2.2.2))
noncomputable def NW(o:D')(b:Bs)(c:b7)(a:Q6)(d:l7)(e:e7)(f:kC):Option (Ia):=
 (U8 (fun x=>zuT o b x.1 x.2.1 x.2.2.1 x.2.2.2.1 x.2.2.2.2.1 x.2.2.2.2.2) (c,a,d,e,f,cU Prod.fst a)).bind fun g=>some g
noncomputable def zvG(o:D'):SC:=⟨⟨[(0,(.ptr 0 0)),(1,(.kn .i64 1)),(2,hS)],[s7,W5,b6,r5,u5,Z']⟩,0,[(none,⟨[],[s7,W5,b6,r5,u5,Z']⟩)],Y9 (NW o)⟩
theorem yfJ:P' aA tabs 116 (zvG o):=FW (o:=o) (η:=[(2300004,.join [] [1,2,6] [(none,⟨[(0,(.ptr 0 0)),(7,(.ptr 6 0)),(12,(.ptr 7 0)),(23,hB)],[s7,W5,b6,r5,u5,Z',Ym,.it 2 true .s]⟩)]),
 (2000005,.join [] [1,2,6] [(none,⟨[(0,(.ptr 0 0)),(7,(.ptr 6 0)),(12,(.ptr 7 0))],[s7,W5,b6,r5,u5,Z',Ym,.it 2 true .s]⟩)]),
 (200001,.HG [] ⟨[(0,(.ptr 0 0)),(12,(.ptr 6 0))],[s7,W5,b6,r5,u5,Z',.it 2 true .s]⟩ [1,2] [(some 0,⟨[],[s7,W5,b6,r5,u5,Z']⟩)]),
 (4000006,.x7 (j7 0 6++[(.mn,6,[0,1,2,3,4,5,6,7])]))]) (Γ:=⟨[(131,(qy o)),(206,(KL o))],[],true,[]⟩) (X4 ⟨PA,⟨VN,trivial⟩⟩ trivial) O2
noncomputable def zlF(o:D')(a:Bs)(b:b7)(c:Q6)(d:l7)(e:e7)(f:kC):Option ((Bs×Ia)):=
 (NW o a b c d e f).bind fun g=>some (a,g)
noncomputable def zrL(o:D'):SC:=⟨⟨[(0,(.ptr 0 0)),(1,(.ptr 1 0))],[XH,.N' 9 [hS],WH,W5,b6,r5,u5,Z']⟩,0,[(none,⟨[],[XH,.N' 9 [hS],WH,W5,b6,r5,u5,Z']⟩)],Y9 (zlF o)⟩
theorem ycJ:P' aA tabs 119 (zrL o):=eb o [] [] [(116,(zvG o))] ⟨⟩ ⟨yfJ,⟨⟩⟩ func119
noncomputable def yeR(o:D')(b:Bs)(a:Q6)(d:Bs)(e:b7)(f:l7)(g:e7)(h:kC):Option ((Int×Q6×Bs×b7×l7×e7×kC)):=
 (Ec o b).bind fun i=>bif(!i)then some (120,a,d,e,f,g,h)else(let _:nf:=r6 j' a b ((([]:kE),([]:kE),([]:kE)),0)
 bif(!(J' j' a b))then some (122,a,d,e,f,g,h)else((zlF o d e (l5 j' a b) f g h).bind fun c=>some (0,c.2.2.1,c.1,c.2.1,c.2.2.2)))
noncomputable def ykI(o:D'):SC:=⟨⟨[(0,(.mpr 0)),(1,hS),(2,(.fn 119 [] [(.ptr 1 0),(.ptr 2 0)]))],[b6,YH,.N' 9 [hS],.N' 128 [(.mpr 4),(.mpr 0),(.mpr 5),(.mpr 6),(.mpr 7)],W5,r5,u5,Z']⟩,1,[(none,⟨[(0,hI)],[b6,YH,.N' 9 [hS],.N' 128 [(.mpr 4),(.mpr 0),(.mpr 5),(.mpr 6),(.mpr 7)],W5,r5,u5,Z']⟩)],Aa (yeR o)⟩
theorem yuX:P' aA tabs 118 (ykI o):=eb o [] [(13,(Hk o))] [(119,(zrL o))] ⟨Im,⟨⟩⟩ ⟨ycJ,⟨⟩⟩ func118
noncomputable def OW(o:D')(b:Bs)(c:b7)(d:Q6)(e:l7)(f:e7)(g:kC):Option ((Int×Ia)):=
 (yeR o b d b c e f g).bind fun a=>some (a.1,a.2.2.2.1,a.2.1,a.2.2.2.2)
noncomputable def ztF(o:D'):SC:=⟨⟨[(0,(.ptr 0 0)),(1,hS)],[s7,W5,b6,r5,u5,Z']⟩,1,[(none,⟨[(0,hI)],[s7,W5,b6,r5,u5,Z']⟩)],Y9 (OW o)⟩
theorem ydU:P' aA tabs 42 (ztF o):=eb o [(4000001,.x7 (j7 0 6++[(.mn,6,[0,1,2,3,4,5,6,7]),(.pu,7,[])]))] [] [(118,(ykI o))] ⟨⟩ ⟨yuX,⟨⟩⟩ func42
def zyY(o:D')(c:Bs)(d:Bs)(e:b7)(f:Q6)(g:l7)(h:e7)(i:kC):Option ((Int×b7×Q6×l7×e7×kC×kE×kE×kE×Int)):=
 (sq o e f g h i).bind fun b=>(vR o c d b.1 b.2.1 b.2.2.1 b.2.2.2.1 b.2.2.2.2).bind fun a=>some (a.2.1,a.2.2.1,a.2.2.2.1,a.2.2.2.2.1,a.2.2.2.2.2.1,a.2.2.2.2.2.2,a.1.1.1,a.1.1.2.1,a.1.1.2.2,a.1.2)
def zyU(o:D')(b:Bs)(a:Int×b7×Q6×l7×e7×kC×kE×kE×kE×Int):Option ((Int×Ia)⊕(b7×Q6×l7×e7×kC×kE×kE×kE×Int)):=
 bif(a.1 != 0)then some (.inl (a.1,a.2.1,a.2.2.1,a.2.2.2.1,a.2.2.2.2.1,a.2.2.2.2.2.1))else((Ed o a.2.2.2.2.2.2.1 b).bind fun c=>bif(!c)then some (.inl (122,a.2.1,a.2.2.1,a.2.2.2.1,a.2.2.2.2.1,a.2.2.2.2.2.1))else some (.inr a.2))
def zyI(o:D')(b:Bs)(a:b7×Q6×l7×e7×kC×kE×kE×kE×Int):Option ((b7×Q6×l7×e7×kC×kE×kE×kE×Int)):=
 (Ik o a.2.2.2.2.2.1 b).bind fun c=>some (a.1,a.2.1,a.2.2.1,a.2.2.2.1,a.2.2.2.2.1,c,a.2.2.2.2.2.2)
def PW(o:D')(c:Bs)(b:Bs)(d:b7)(e:Q6)(f:l7)(g:e7)(h:kC):Option ((Int×Ia)):=
 (zyY o c b d e f g h).bind fun i=>(zyU o b i).bind fun j=>match j with
 |.inl k=>some k|.inr l=>((zyI o b l).bind fun a=>let m:Q6:=Y0 j' O' a.2.1 c ((a.2.2.2.2.2.1,a.2.2.2.2.2.2.1,a.2.2.2.2.2.2.2.1),P0 (a.2.2.2.2.2.2.2.2+1))
 some (0,a.1,m,a.2.2.1,a.2.2.2.1,a.2.2.2.2.1))
def zzH(o:D'):SC:=⟨⟨[(0,(.ptr 0 0)),(1,hS),(2,(.kn .i64 0)),(3,hS)],[s7,W5,b6,r5,u5,Z']⟩,1,[(none,⟨[(0,hI)],[s7,W5,JL,r5,u5,Z']⟩)],Aa (PW o)⟩
theorem yiY:P' aA tabs 194 (zzH o):=eb o [(2100000,.join [] [1,2,3] [(none,⟨[(0,(.ptr 0 0)),(9,(.ptr 6 0)),(10,hI)],[s7,W5,b6,r5,u5,Z',Ym]⟩)]),
 (2000006,.join [] [1,2,3] [(some 1000000,⟨[(8,hI)],[s7,W5,b6,r5,u5,Z']⟩),(none,⟨[(0,(.ptr 0 0)),(9,(.ptr 6 0))],[s7,W5,b6,r5,u5,Z',Ym]⟩)]),
 (2000007,.join [] [1] [(none,⟨[(0,(.ptr 0 0)),(9,(.ptr 6 0))],[s7,W5,b6,r5,u5,Z',Ym]⟩)]),
 (4000008,.x7 (j7 0 6++[(.mn,6,[0,1,2,3,4,5,6])]))] [(131,(qy o)),(206,(KL o))] [(173,(tH o)),(199,(zrE o))] ⟨PA,⟨VN,⟨⟩⟩⟩ ⟨nL,⟨zxZ,⟨⟩⟩⟩ O3
def zsL(o:D')(a:Bs)(b:Bs)(c:b7)(d:Q6)(e:l7)(f:e7)(g:kC):Option ((Int×Ia)):=
 (PW o a b c d e f g).bind fun h=>some h
def zzC(o:D'):SC:=⟨⟨[(0,(.ptr 0 0)),(1,hS),(2,hS)],[s7,W5,b6,r5,u5,Z']⟩,1,[(none,⟨[(0,hI)],[s7,W5,JL,r5,u5,Z']⟩)],Aa (zsL o)⟩
theorem yiQ:P' aA tabs 94 (zzC o):=eb o [] [] [(194,(zzH o))] ⟨⟩ ⟨yiY,⟨⟩⟩ func94
def zwD(o:D')(c:Bs)(d:Bs)(e:b7)(f:Q6)(g:l7)(h:e7)(i:kC):Option ((Int×b7×Q6×l7×e7×kC×kE×kE×kE×Int)):=
 (sq o e f g h i).bind fun b=>(qR o c d b.1 b.2.1 b.2.2.1 b.2.2.2.1 b.2.2.2.2).bind fun a=>some (a.2.1,a.2.2.1,a.2.2.2.1,a.2.2.2.2.1,a.2.2.2.2.2.1,a.2.2.2.2.2.2,a.1.1.1,a.1.1.2.1,a.1.1.2.2,a.1.2)
def zwK(o:D')(b:Bs)(a:Int×b7×Q6×l7×e7×kC×kE×kE×kE×Int):Option ((Int×Ia)⊕(b7×Q6×l7×e7×kC×kE×kE×kE×Int)):=
 bif(a.1 != 0)then some (.inl (a.1,a.2.1,a.2.2.1,a.2.2.2.1,a.2.2.2.2.1,a.2.2.2.2.2.1))else((Ed o a.2.2.2.2.2.2.2.1 b).bind fun c=>bif(!c)then some (.inl (122,a.2.1,a.2.2.1,a.2.2.2.1,a.2.2.2.2.1,a.2.2.2.2.2.1))else some (.inr a.2))
def zwB(o:D')(b:Bs)(a:b7×Q6×l7×e7×kC×kE×kE×kE×Int):Option ((b7×Q6×l7×e7×kC×kE×kE×kE×Int)):=
 (Ik o a.2.2.2.2.2.2.1 b).bind fun c=>some (a.1,a.2.1,a.2.2.1,a.2.2.2.1,a.2.2.2.2.1,a.2.2.2.2.2.1,c,a.2.2.2.2.2.2.2)
def QW(o:D')(c:Bs)(b:Bs)(d:b7)(e:Q6)(f:l7)(g:e7)(h:kC):Option ((Int×Ia)):=
 (zwD o c b d e f g h).bind fun i=>(zwK o b i).bind fun j=>match j with
 |.inl k=>some k|.inr l=>((zwB o b l).bind fun a=>let m:Q6:=Y0 j' O' a.2.1 c ((a.2.2.2.2.2.1,a.2.2.2.2.2.2.1,a.2.2.2.2.2.2.2.1),P0 (a.2.2.2.2.2.2.2.2+1))
 some (0,a.1,m,a.2.2.1,a.2.2.2.1,a.2.2.2.2.1))
def zwX(o:D'):SC:=⟨⟨[(0,(.ptr 0 0)),(1,hS),(2,(.kn .i64 1)),(3,hS)],[s7,W5,b6,r5,u5,Z']⟩,1,[(none,⟨[(0,hI)],[s7,W5,JL,r5,u5,Z']⟩)],Aa (QW o)⟩
theorem ygQ:P' aA tabs 194 (zwX o):=eb o [(2100000,.join [] [1,2,3] [(none,⟨[(0,(.ptr 0 0)),(9,(.ptr 6 0)),(10,hI)],[s7,W5,b6,r5,u5,Z',Ym]⟩)]),
 (2000006,.join [] [1,2,3] [(some 1000000,⟨[(8,hI)],[s7,W5,b6,r5,u5,Z']⟩),(none,⟨[(0,(.ptr 0 0)),(9,(.ptr 6 0))],[s7,W5,b6,r5,u5,Z',Ym]⟩)]),
 (2000007,.join [] [1] [(none,⟨[(0,(.ptr 0 0)),(9,(.ptr 6 0))],[s7,W5,b6,r5,u5,Z',Ym]⟩)]),
 (4000008,.x7 (j7 0 6++[(.mn,6,[0,1,2,3,4,5,6])]))] [(131,(qy o)),(206,(KL o))] [(173,(tH o)),(199,(zsK o))] ⟨PA,⟨VN,⟨⟩⟩⟩ ⟨nL,⟨yaJ,⟨⟩⟩⟩ O3
def zqL(o:D')(a:Bs)(b:Bs)(c:b7)(d:Q6)(e:l7)(f:e7)(g:kC):Option ((Int×Ia)):=
 (QW o a b c d e f g).bind fun h=>some h
def zwT(o:D'):SC:=⟨⟨[(0,(.ptr 0 0)),(1,hS),(2,hS)],[s7,W5,b6,r5,u5,Z']⟩,1,[(none,⟨[(0,hI)],[s7,W5,JL,r5,u5,Z']⟩)],Aa (zqL o)⟩
theorem ygU:P' aA tabs 95 (zwT o):=eb o [] [] [(194,(zwX o))] ⟨⟩ ⟨ygQ,⟨⟩⟩ func95
def zxN(o:D')(c:Bs)(d:Bs)(e:b7)(f:Q6)(g:l7)(h:e7)(i:kC):Option ((Int×b7×Q6×l7×e7×kC×kE×kE×kE×Int)):=
 (sq o e f g h i).bind fun b=>(AR o c d b.1 b.2.1 b.2.2.1 b.2.2.2.1 b.2.2.2.2).bind fun a=>some (a.2.1,a.2.2.1,a.2.2.2.1,a.2.2.2.2.1,a.2.2.2.2.2.1,a.2.2.2.2.2.2,a.1.1.1,a.1.1.2.1,a.1.1.2.2,a.1.2)
def zxJ(o:D')(b:Bs)(a:Int×b7×Q6×l7×e7×kC×kE×kE×kE×Int):Option ((Int×Ia)⊕(b7×Q6×l7×e7×kC×kE×kE×kE×Int)):=
 bif(a.1 != 0)then some (.inl (a.1,a.2.1,a.2.2.1,a.2.2.2.1,a.2.2.2.2.1,a.2.2.2.2.2.1))else((Ed o a.2.2.2.2.2.2.2.2.1 b).bind fun c=>bif(!c)then some (.inl (122,a.2.1,a.2.2.1,a.2.2.2.1,a.2.2.2.2.1,a.2.2.2.2.2.1))else some (.inr a.2))
def zwH(o:D')(b:Bs)(a:b7×Q6×l7×e7×kC×kE×kE×kE×Int):Option ((b7×Q6×l7×e7×kC×kE×kE×kE×Int)):=
 (Ik o a.2.2.2.2.2.2.2.1 b).bind fun c=>some (a.1,a.2.1,a.2.2.1,a.2.2.2.1,a.2.2.2.2.1,a.2.2.2.2.2.1,a.2.2.2.2.2.2.1,c,a.2.2.2.2.2.2.2.2)
def RW(o:D')(c:Bs)(b:Bs)(d:b7)(e:Q6)(f:l7)(g:e7)(h:kC):Option ((Int×Ia)):=
 (zxN o c b d e f g h).bind fun i=>(zxJ o b i).bind fun j=>match j with
 |.inl k=>some k|.inr l=>((zwH o b l).bind fun a=>let m:Q6:=Y0 j' O' a.2.1 c ((a.2.2.2.2.2.1,a.2.2.2.2.2.2.1,a.2.2.2.2.2.2.2.1),P0 (a.2.2.2.2.2.2.2.2+1))
 some (0,a.1,m,a.2.2.1,a.2.2.2.1,a.2.2.2.2.1))
def zxF(o:D'):SC:=⟨⟨[(0,(.ptr 0 0)),(1,hS),(2,(.kn .i64 2)),(3,hS)],[s7,W5,b6,r5,u5,Z']⟩,1,[(none,⟨[(0,hI)],[s7,W5,JL,r5,u5,Z']⟩)],Aa (RW o)⟩
theorem yhY:P' aA tabs 194 (zxF o):=eb o [(2100000,.join [] [1,2,3] [(none,⟨[(0,(.ptr 0 0)),(9,(.ptr 6 0)),(10,hI)],[s7,W5,b6,r5,u5,Z',Ym]⟩)]),
 (2000006,.join [] [1,2,3] [(some 1000000,⟨[(8,hI)],[s7,W5,b6,r5,u5,Z']⟩),(none,⟨[(0,(.ptr 0 0)),(9,(.ptr 6 0))],[s7,W5,b6,r5,u5,Z',Ym]⟩)]),
 (2000007,.join [] [1] [(none,⟨[(0,(.ptr 0 0)),(9,(.ptr 6 0))],[s7,W5,b6,r5,u5,Z',Ym]⟩)]),
 (4000008,.x7 (j7 0 6++[(.mn,6,[0,1,2,3,4,5,6])]))] [(131,(qy o)),(206,(KL o))] [(173,(tH o)),(199,(zqZ o))] ⟨PA,⟨VN,⟨⟩⟩⟩ ⟨nL,⟨zyA,⟨⟩⟩⟩ O3
def ztN(o:D')(a:Bs)(b:Bs)(c:b7)(d:Q6)(e:l7)(f:e7)(g:kC):Option ((Int×Ia)):=
 (RW o a b c d e f g).bind fun h=>some h
def ybA(o:D'):SC:=⟨⟨[(0,(.ptr 0 0)),(1,hS),(2,hS)],[s7,W5,b6,r5,u5,Z']⟩,1,[(none,⟨[(0,hI)],[s7,W5,JL,r5,u5,Z']⟩)],Aa (ztN o)⟩
theorem yjV:P' aA tabs 96 (ybA o):=eb o [] [] [(194,(zxF o))] ⟨⟩ ⟨yhY,⟨⟩⟩ func96
noncomputable def zuR(o:D')(b:Bs)(c:b7)(d:Q6)(e:l7)(f:e7)(g:kC)(h:kE)(i:GW)(a:nf):Option ((Bool×b7×Q6×l7×e7×kC×kE×kE×kE×Int×kE)):=
 (Ed o a.1.2.2 b).bind fun j=>some (j,c,d,e,f,g,a.1.1,a.1.2.1,a.1.2.2,a.2,U7 j' h i.1)
noncomputable def zvL(o:D')(b:Bs)(a:Bool×b7×Q6×l7×e7×kC×kE×kE×kE×Int×kE):Option ((b7×Q6×l7×e7×kC×kE×kE×kE×Int×kE)):=
 (Ik o a.2.2.2.2.2.2.2.2.1 b).bind fun c=>some (a.2.1,a.2.2.1,a.2.2.2.1,a.2.2.2.2.1,a.2.2.2.2.2.1,a.2.2.2.2.2.2.1,a.2.2.2.2.2.2.2.1,c,a.2.2.2.2.2.2.2.2.2)
noncomputable def zvE(o:D')(e:Bs)(f:b7)(c:Q6)(g:l7)(h:e7)(i:kC)(j:kE):List (Option ((b7×Q6×l7×e7×kC×kE)⊕(Ia))):=
 cb (Ra j' c j) (some (.inr (f,c,g,h,i))) fun d=>(W0 j' c d.1).bind fun k=>(zuR o e f c g h i j d k).bind fun b=>bif b.1 then((zvL o e b).bind fun a=>(o6 (J' j' a.2.1 d.1)).bind fun _=>let l:Q6:=Z9 j' a.2.1 d.1 ((a.2.2.2.2.2.1,a.2.2.2.2.2.2.1,a.2.2.2.2.2.2.2.1),P0 (a.2.2.2.2.2.2.2.2.1+1))
 some (.inl (a.1,l,a.2.2.1,a.2.2.2.1,a.2.2.2.2.1,a.2.2.2.2.2.2.2.2.2)))else some (.inl (b.2.1,b.2.2.1,b.2.2.2.1,b.2.2.2.2.1,b.2.2.2.2.2.1,b.2.2.2.2.2.2.2.2.2.2))
noncomputable def TW(o:D')(b:Bs)(c:b7)(a:Q6)(d:l7)(e:e7)(f:kC):Option (Ia):=
 (U8 (fun x=>zvE o b x.1 x.2.1 x.2.2.1 x.2.2.2.1 x.2.2.2.2.1 x.2.2.2.2.2) (c,a,d,e,f,cU Prod.fst a)).bind fun g=>some g
noncomputable def zuX(o:D'):SC:=⟨⟨[(0,(.ptr 0 0)),(1,(.kn .i64 2)),(2,hS)],[s7,W5,b6,r5,u5,Z']⟩,0,[(none,⟨[],[s7,W5,b6,r5,u5,Z']⟩)],Y9 (TW o)⟩
theorem yfZ:P' aA tabs 116 (zuX o):=FW (o:=o) (η:=[(2300004,.join [] [1,2,6] [(none,⟨[(0,(.ptr 0 0)),(7,(.ptr 6 0)),(12,(.ptr 7 0)),(23,hB)],[s7,W5,b6,r5,u5,Z',Ym,.it 2 true .s]⟩)]),
 (2000005,.join [] [1,2,6] [(none,⟨[(0,(.ptr 0 0)),(7,(.ptr 6 0)),(12,(.ptr 7 0))],[s7,W5,b6,r5,u5,Z',Ym,.it 2 true .s]⟩)]),
 (200001,.HG [] ⟨[(0,(.ptr 0 0)),(12,(.ptr 6 0))],[s7,W5,b6,r5,u5,Z',.it 2 true .s]⟩ [1,2] [(some 0,⟨[],[s7,W5,b6,r5,u5,Z']⟩)]),
 (4000006,.x7 (j7 0 6++[(.mn,6,[0,1,2,3,4,5,6,7])]))]) (Γ:=⟨[(131,(qy o)),(206,(KL o))],[],true,[]⟩) (X4 ⟨PA,⟨VN,trivial⟩⟩ trivial) O2
noncomputable def zmG(o:D')(a:Bs)(b:b7)(c:Q6)(d:l7)(e:e7)(f:kC):Option ((Bs×Ia)):=
 (TW o a b c d e f).bind fun g=>some (a,g)
noncomputable def zsR(o:D'):SC:=⟨⟨[(0,(.ptr 0 0)),(1,(.ptr 1 0))],[XH,.N' 9 [hS],WH,W5,b6,r5,u5,Z']⟩,0,[(none,⟨[],[XH,.N' 9 [hS],WH,W5,b6,r5,u5,Z']⟩)],Y9 (zmG o)⟩
theorem ydQ:P' aA tabs 121 (zsR o):=eb o [] [] [(116,(zuX o))] ⟨⟩ ⟨yfZ,⟨⟩⟩ func121
noncomputable def yeL(o:D')(c:Bs)(a:l7)(d:Bs)(e:b7)(f:Q6)(g:e7)(h:kC):Option ((Int×l7×Bs×b7×Q6×e7×kC)):=
 (Ec o c).bind fun i=>bif(!i)then some (120,a,d,e,f,g,h)else(let _:mf:=r6 j' a c (([]:Bs),([]:kE))
 bif(!(J' j' a c))then some (122,a,d,e,f,g,h)else((zmG o d e f (l5 j' a c) g h).bind fun b=>some (0,b.2.2.2.1,b.1,b.2.1,b.2.2.1,b.2.2.2.2)))
noncomputable def ylH(o:D'):SC:=⟨⟨[(0,(.mpr 0)),(1,hS),(2,(.fn 121 [] [(.ptr 1 0),(.ptr 2 0)]))],[r5,YH,.N' 9 [hS],.N' 128 [(.mpr 4),(.mpr 5),(.mpr 0),(.mpr 6),(.mpr 7)],W5,b6,u5,Z']⟩,1,[(none,⟨[(0,hI)],[r5,YH,.N' 9 [hS],.N' 128 [(.mpr 4),(.mpr 5),(.mpr 0),(.mpr 6),(.mpr 7)],W5,b6,u5,Z']⟩)],Aa (yeL o)⟩
theorem yuN:P' aA tabs 120 (ylH o):=eb o [] [(13,(Hk o))] [(121,(zsR o))] ⟨Im,⟨⟩⟩ ⟨ydQ,⟨⟩⟩ func120
noncomputable def UW(o:D')(b:Bs)(c:b7)(d:Q6)(e:l7)(f:e7)(g:kC):Option ((Int×Ia)):=
 (yeL o b e b c d f g).bind fun a=>some (a.1,a.2.2.2.1,a.2.2.2.2.1,a.2.1,a.2.2.2.2.2)
noncomputable def ztS(o:D'):SC:=⟨⟨[(0,(.ptr 0 0)),(1,hS)],[s7,W5,b6,r5,u5,Z']⟩,1,[(none,⟨[(0,hI)],[s7,W5,b6,r5,u5,Z']⟩)],Y9 (UW o)⟩
theorem yfA:P' aA tabs 43 (ztS o):=eb o [(4000001,.x7 (j7 0 6++[(.mn,6,[0,1,2,3,4,5,6,7]),(.pu,7,[])]))] [] [(120,(ylH o))] ⟨⟩ ⟨yuN,⟨⟩⟩ func43
def ztA(_o:D')(b:TA)(c:b7)(d:Q6)(e:l7)(a:e7)(f:kC):Option ((Int×Ia)⊕(b7×Q6×l7×e7×kC×TA)):=
 let _:TA:=r6 j' a b.1 (([]:Bs),([]:Bs),([]:kE),([]:kE),false,false,false,false)
 bif(!(J' j' a b.1))then(bif decide ((a.length:Int)≥32)then some (.inl (124,c,d,e,a,f))else some (.inr (c,d,e,a,f,b)))else some (.inr (c,d,e,a,f,b))
def VW(o:D')(b:TA)(c:b7)(d:Q6)(e:l7)(f:e7)(g:kC):Option ((Int×Ia)):=
 (PR o b).bind fun h=>bif(!h)then some (120,c,d,e,f,g)else((ztA o b c d e f g).bind fun i=>match i with
 |.inl j=>some j|.inr a=>((NN o a.2.2.2.2.2).bind fun k=>let l:e7:=Y0 j' O' a.2.2.2.1 a.2.2.2.2.2.1 k
 some (0,a.1,a.2.1,a.2.2.1,l,a.2.2.2.2.1)))
def ztG(o:D'):SC:=⟨⟨[(0,(.ptr 0 0)),(1,(.h pf))],[s7,W5,b6,r5,u5,Z']⟩,1,[(none,⟨[(0,hI)],[s7,W5,b6,r5,.mp false .s pf,Z']⟩)],Y9 (VW o)⟩
theorem ydW:P' aA tabs 37 (ztG o):=eb o [(2000006,.join [] [] [(some 1000000,⟨[(4,hI)],[s7,W5,b6,r5,u5,Z']⟩),(none,⟨[(0,(.ptr 0 0)),(3,(.ptr 6 0))],[s7,W5,b6,r5,u5,Z',.N' 51 [hS,hS,(.h (.sl .s)),(.h (.sl .s)),hB,hB,hB,hB]]⟩)]),
 (4000003,.x7 (j7 0 9++[(.pu,9,[7]),(.mn,10,[]),(.mn,11,[7]),(.pu,12,[])])),
 (4000006,.x7 (j7 0 7++[(.mn,7,[]),(.mn,8,[0,1,2,3,4,5,6])]))] [(106,(ybI o)),(107,(wW o))] [] ⟨yiL,⟨ybX,⟨⟩⟩⟩ ⟨⟩ func37
noncomputable def zkK(o:D')(a:Bs)(b:b7)(c:Q6)(d:l7)(e:e7)(f:kC):Option ((Bs×Ia)):=
 (X0 ([99,58]:Bs) a).bind fun g=>(sS o g b c d e f).bind fun h=>some (a,h)
noncomputable def zqG(o:D'):SC:=⟨⟨[(0,(.ptr 0 0)),(1,(.ptr 1 0))],[XH,.N' 9 [hS],WH,W5,b6,r5,u5,Z']⟩,0,[(none,⟨[],[XH,.N' 9 [hS],WH,W5,b6,r5,u5,Z']⟩)],Y9 (zkK o)⟩
theorem ybL:P' aA tabs 123 (zqG o):=eb o [] [] [(117,(zpL o))] ⟨⟩ ⟨zwY,⟨⟩⟩ func123
noncomputable def yeT(o:D')(c:Bs)(b:e7)(d:Bs)(e:b7)(f:Q6)(g:l7)(h:kC):Option ((Int×e7×Bs×b7×Q6×l7×kC)):=
 (Ec o c).bind fun i=>bif(!i)then some (120,b,d,e,f,g,h)else(let _:TA:=r6 j' b c (([]:Bs),([]:Bs),([]:kE),([]:kE),false,false,false,false)
 bif(!(J' j' b c))then some (122,b,d,e,f,g,h)else((zkK o d e f g (l5 j' b c) h).bind fun a=>some (0,a.2.2.2.2.1,a.1,a.2.1,a.2.2.1,a.2.2.2.1,a.2.2.2.2.2)))
noncomputable def ylB(o:D'):SC:=⟨⟨[(0,(.mpr 0)),(1,hS),(2,(.fn 123 [] [(.ptr 1 0),(.ptr 2 0)]))],[u5,YH,.N' 9 [hS],.N' 128 [(.mpr 4),(.mpr 5),(.mpr 6),(.mpr 0),(.mpr 7)],W5,b6,r5,Z']⟩,1,[(none,⟨[(0,hI)],[u5,YH,.N' 9 [hS],.N' 128 [(.mpr 4),(.mpr 5),(.mpr 6),(.mpr 0),(.mpr 7)],W5,b6,r5,Z']⟩)],Aa (yeT o)⟩
theorem yuA:P' aA tabs 122 (ylB o):=eb o [] [(13,(Hk o))] [(123,(zqG o))] ⟨Im,⟨⟩⟩ ⟨ybL,⟨⟩⟩ func122
noncomputable def WW(o:D')(b:Bs)(c:b7)(d:Q6)(e:l7)(f:e7)(g:kC):Option ((Int×Ia)):=
 (yeT o b f b c d e g).bind fun a=>some (a.1,a.2.2.2.1,a.2.2.2.2.1,a.2.2.2.2.2.1,a.2.1,a.2.2.2.2.2.2)
noncomputable def zsE(o:D'):SC:=⟨⟨[(0,(.ptr 0 0)),(1,hS)],[s7,W5,b6,r5,u5,Z']⟩,1,[(none,⟨[(0,hI)],[s7,W5,b6,r5,u5,Z']⟩)],Y9 (WW o)⟩
theorem ycY:P' aA tabs 44 (zsE o):=eb o [(4000001,.x7 (j7 0 6++[(.mn,6,[0,1,2,3,4,5,6,7]),(.pu,7,[])]))] [] [(122,(ylB o))] ⟨⟩ ⟨yuA,⟨⟩⟩ func44
def yaZ(o:D')(f:Bs)(g:Bs)(a:b7)(b:Q6)(c:l7)(d:e7)(e:kC):Option ((Int×Ia)⊕Ia):=
 (Uu o f).bind fun h=>bif(!h)then some (.inl (120,a,b,c,d,e))else((Uu o g).bind fun i=>bif(!i)then some (.inl (120,a,b,c,d,e))else some (.inr (a,b,c,d,e)))
def tS(o:D')(d:Bs)(e:Bs)(f:b7)(g:Q6)(h:l7)(i:e7)(j:kC):Option ((Int×Ia)):=
 (yaZ o d e f g h i j).bind fun k=>match k with
 |.inl l=>some l|.inr b=>((uH o d b.1 b.2.1 b.2.2.1 b.2.2.2.1 b.2.2.2.2).bind fun a=>bif(!a.1)then some (122,a.2)else((uH o e a.2.1 a.2.2.1 a.2.2.2.1 a.2.2.2.2.1 a.2.2.2.2.2).bind fun c=>bif(!c.1)then some (122,c.2)else some (0,c.2)))
def zrU(o:D'):SC:=⟨⟨[(0,(.ptr 0 0)),(1,hS),(2,hS)],[s7,W5,b6,r5,u5,Z']⟩,1,[(none,⟨[(0,hI)],[s7,W5,b6,r5,u5,Z']⟩)],Aa (tS o)⟩
theorem yaM:P' aA tabs 195 (zrU o):=eb o [(2000003,.join [] [1,2] [(some 1000000,⟨[(6,hI)],[s7,W5,b6,r5,u5,Z']⟩),(none,⟨[(0,(.ptr 0 0))],[s7,W5,b6,r5,u5,Z']⟩)])] [(19,(rW o))] [(128,(sW o))] ⟨zuJ,⟨⟩⟩ ⟨zqS,⟨⟩⟩ func195
def XE(_o:D')(b:Bs)(c:Bs)(d:b7)(e:Q6)(f:l7)(g:e7)(a:kC):Option ((Bool×Ia)):=
 let _:Unit:=r6 (o5 (.pr .s .s)) a (b,c) ()
 some (J' (o5 (.pr .s .s)) a (b,c),d,e,f,g,a)
def xS(o:D'):SC:=⟨⟨[(0,(.ptr 0 0)),(1,hS),(2,hS)],[s7,W5,b6,r5,u5,Z']⟩,1,[(none,⟨[(0,hB)],[s7,W5,b6,r5,u5,Z']⟩)],Aa (XE o)⟩
theorem XW:P' aA tabs 56 (xS o):=eb o [] [] [] ⟨⟩ ⟨⟩ func56
def YW(o:D')(c:Bs)(d:Bs)(e:b7)(f:Q6)(g:l7)(h:e7)(i:kC):Option ((Int×Ia)):=
 (tS o c d e f g h i).bind fun b=>bif(b.1 != 0)then some b else((XE o c d b.2.1 b.2.2.1 b.2.2.2.1 b.2.2.2.2.1 b.2.2.2.2.2).bind fun a=>bif a.1 then some (121,a.2)else(bif decide ((a.2.2.2.2.2.length:Int)≥64)then some (124,a.2)else(let j:kC:=Y0 (o5 (.pr .s .s)) (Ho (.pr .s .s)) a.2.2.2.2.2 (c,d) ()
 some (0,a.2.1,a.2.2.1,a.2.2.2.1,a.2.2.2.2.1,j))))
def zyB(o:D'):SC:=⟨⟨[(0,(.ptr 0 0)),(1,hS),(2,hS)],[s7,W5,b6,r5,u5,Z']⟩,1,[(none,⟨[(0,hI)],[s7,W5,b6,r5,u5,.mp false (.pr .s .s) .un]⟩)],Aa (YW o)⟩
theorem yiW:P' aA tabs 97 (zyB o):=eb o [] [] [(195,(zrU o)),(56,(xS o))] ⟨⟩ ⟨yaM,⟨XW,⟨⟩⟩⟩ func97
def ZW(o:D')(c:Bs)(d:Bs)(e:b7)(f:Q6)(g:l7)(h:e7)(i:kC):Option ((Int×Ia)):=
 (tS o c d e f g h i).bind fun a=>bif(a.1 != 0)then some a else((XE o c d a.2.1 a.2.2.1 a.2.2.2.1 a.2.2.2.2.1 a.2.2.2.2.2).bind fun b=>bif(!b.1)then some (122,b.2)else some (0,b.2.1,b.2.2.1,b.2.2.2.1,b.2.2.2.2.1,l5 (o5 (.pr .s .s)) b.2.2.2.2.2 (c,d)))
def yaT(o:D'):SC:=⟨⟨[(0,(.ptr 0 0)),(1,hS),(2,hS)],[s7,W5,b6,r5,u5,Z']⟩,1,[(none,⟨[(0,hI)],[s7,W5,b6,r5,u5,Z']⟩)],Aa (ZW o)⟩
theorem ykG:P' aA tabs 98 (yaT o):=eb o [] [] [(195,(zrU o)),(56,(xS o))] ⟨⟩ ⟨yaM,⟨XW,⟨⟩⟩⟩ func98
noncomputable def jX(o:D')(a:pS)(b:b7)(c:Q6)(d:l7)(e:e7)(f:kC):Option ((Int×Ia)):=
 bif(a.2.1==0)then((HN o a.2.2.1 a.2.2.2.1 b c d e f).bind fun g=>some g)else(bif(a.2.1==1)then((IW o a.2.2.1 a.2.2.2.1 b c d e f).bind fun h=>some h)else(bif(a.2.1==2)then((KW o a.2.2.1 a.2.2.2.2.1 b c d e f).bind fun i=>some i)else(bif(a.2.1==3)then((MW o a.2.2.1 b c d e f).bind fun j=>some j)else(bif(a.2.1==4)then((IN o a.2.2.1 b c d e f).bind fun k=>some k)else(bif(a.2.1==5)then((OW o a.2.2.1 b c d e f).bind fun l=>some l)else(bif(a.2.1==6)then((mW o a.2.2.1 a.2.2.2.1 b c d e f).bind fun m=>some m)else(bif(a.2.1==7)then((zsL o a.2.2.1 a.2.2.2.1 b c d e f).bind fun n=>some n)else(bif(a.2.1==8)then((tR o a.2.2.1 a.2.2.2.1 b c d e f).bind fun p=>some p)else(bif(a.2.1==9)then((zqL o a.2.2.1 a.2.2.2.1 b c d e f).bind fun q=>some q)else(bif(a.2.1==10)then((qW o a.2.2.1 a.2.2.2.1 b c d e f).bind fun r=>some r)else(bif(a.2.1==11)then((ztN o a.2.2.1 a.2.2.2.1 b c d e f).bind fun s=>some s)else(bif(a.2.1==12)then((yR o a.2.2.2.2.2.1 b c d e f).bind fun t=>some t)else(bif(a.2.1==13)then((UW o a.2.2.1 b c d e f).bind fun u=>some u)else(bif(a.2.1==14)then((VW o a.2.2.2.2.2.2 b c d e f).bind fun v=>some v)else(bif(a.2.1==15)then((WW o a.2.2.1 b c d e f).bind fun w=>some w)else(bif(a.2.1==16)then((YW o a.2.2.1 a.2.2.2.1 b c d e f).bind fun y=>some y)else(bif(a.2.1==17)then((ZW o a.2.2.1 a.2.2.2.1 b c d e f).bind fun z=>some z)else some (0,b,c,d,e,f))))))))))))))))))
noncomputable def zzE(o:D'):SC:=⟨⟨[(0,(.ptr 0 0)),(1,(.h qS))],[s7,W5,b6,r5,u5,Z']⟩,1,[(none,⟨[(0,hI)],[s7,Cj,JL,.mp false .s Kq,.mp false .s pf,.mp false (.pr .s .s) .un]⟩)],Y9 (jX o)⟩
theorem yiX:P' aA tabs 31 (zzE o):=eb o [] [] [(71,(zoA o)),(92,(zvF o)),(93,(ztE o)),(41,(ztU o)),(72,(znG o)),(42,(ztF o)),(73,(zsI o)),(94,(zzC o)),(33,(zsB o)),(95,(zwT o)),(74,(zsM o)),(96,(ybA o)),(36,(zoF o)),(43,(ztS o)),(37,(ztG o)),(44,(zsE o)),(97,(zyB o)),(98,(yaT o))] ⟨⟩ ⟨zvM,⟨yfL,⟨ydT,⟨yeQ,⟨ztQ,⟨ydU,⟨ybF,⟨yiQ,⟨yaA,⟨ygU,⟨yaC,⟨yjV,⟨zuW,⟨yfA,⟨ydW,⟨ycY,⟨yiW,⟨ykG,⟨⟩⟩⟩⟩⟩⟩⟩⟩⟩⟩⟩⟩⟩⟩⟩⟩⟩⟩⟩ func31
def WN(_o:D')(b:kE)(c:Bs)(a:Int):Option (Int⊕(Bool⊕Unit)):=
 bif decide (a<(b.length:Int))then((idx b a).bind fun d=>bif(d==c)then some (.inr (.inl true))else some (.inl (P0 (a+1))))else some (.inr (.inr ()))
def Zm(o:D')(a:kE)(b:Bs):Option (Bool):=
 (iter (WN o a b) 0).bind fun c=>match c with
 |.inl d=>(some d)|.inr _=>(some false)
def YE(o:D'):PC:=⟨[(.h (.sl .s)),hS],[.b],fun x=>Zm o x.1 x.2,false⟩
theorem ZH:Z0 aA tabs 46 (YE o):=Wy (o:=o) (η:=[(200002,.loop [] ⟨[(5,hI)],[]⟩ [0,1] [(some 1000000,⟨[(4,hB)],[]⟩),(some 0,⟨[],[]⟩)])]) (Γ:=⟨[],[],false,[]⟩) (X4 trivial trivial) func46
def ztJ(o:D')(b:Bs)(c:b7)(d:Q6)(a:l7)(e:e7)(f:kC):Option ((mf×Bool×Ia)):=
 let g:mf:=r6 j' a b (([]:Bs),([]:kE))
 (LN o g).bind fun h=>some (h,J' j' a b,c,d,a,e,f)
def yaI(o:D'):SC:=⟨⟨[(0,(.ptr 0 0)),(1,hS)],[s7,W5,b6,r5,u5,Z']⟩,2,[(none,⟨[(0,(.h Kq)),(1,hB)],[s7,W5,b6,r5,u5,Z']⟩)],Y9 (ztJ o)⟩
theorem ylI:P' aA tabs 47 (yaI o):=eb o [] [(105,(nW o))] [] ⟨ztK,⟨⟩⟩ ⟨⟩ func47
def zrA(o:D')(b:Bs)(c:b7)(d:Q6)(e:l7)(a:e7)(f:kC):Option ((TA×Bool×Ia)):=
 let g:TA:=r6 j' a b (([]:Bs),([]:Bs),([]:kE),([]:kE),false,false,false,false)
 (NN o g).bind fun h=>some (h,J' j' a b,c,d,e,a,f)
def zwC(o:D'):SC:=⟨⟨[(0,(.ptr 0 0)),(1,hS)],[s7,W5,b6,r5,u5,Z']⟩,2,[(none,⟨[(0,(.h pf)),(1,hB)],[s7,W5,b6,r5,u5,Z']⟩)],Y9 (zrA o)⟩
theorem yhP:P' aA tabs 48 (zwC o):=eb o [] [(107,(wW o))] [] ⟨ybX,⟨⟩⟩ ⟨⟩ func48
end
theorem ZE{a b:Nat}(h:a+b<1099511627776):P0 ((i64 (xc .u64 ((i64 (P0 ((a:Int)+(b:Int)))).toNat:Int) ((1:UInt64).toNat:Int))).toNat:Int)=(((a+b)/2:Nat):Int):=by
 have c:P0 ((a:Int)+(b:Int))=((a+b:Nat):Int):=by rw[oe (by omega) (by omega)];omega
 have d:((i64 ((a+b:Nat):Int)).toNat:Int)=((a+b:Nat):Int):=yP (by omega) (by omega);rw[c,d];have e:xc .u64 ((a+b:Nat):Int) ((1:UInt64).toNat:Int)=(((a+b)/2:Nat):Int):=by unfold xc;rw[show(min ((1:UInt64).toNat:Int).toNat IntKind.u64.bits)=1 from rfl,XT]
 rw[e,yP (by omega) (by omega),oe (by omega) (by omega)]
theorem kF(x y:L8):TV X' x y=some (O' x y):=by unfold TV RV;rw[p',bne_self_eq_false];rfl
def y7(x:L8)(l:kH):Nat:=(l.takeWhile fun y=>O' y x).length
theorem kX(x:L8)(l:kH):y7 x l<=l.length:=(List.takeWhile_sublist _).length_le
theorem lX{x:L8}:∀{l:kH},j8 l->∀{m:Nat} (c:m<l.length),O' l[m] x=decide (m<y7 x l)
 |y::l,h,m,c=>by
  have d:=List.pairwise_cons.1 h;cases b:O' y x with
  |true=>
   have e:y7 x (y::l)=y7 x l+1:=by unfold y7;rw[eC,zJ b];rfl
   rw[e];cases m with
   |zero=>rw[zA (by omega)];exact b|succ m=>
    have a:m<l.length:=by simpa using c
    rw[iW,lX (x:=x) d.2 a];exact decide_eq_decide.2 (by omega)
  |false=>
   have e:y7 x (y::l)=0:=by unfold y7;rw[eC,zI (by rw[b];simp)];rfl
   rw[e,zB (by omega)];cases m with
   |zero=>exact b|succ m=>
    have a:m<l.length:=by simpa using c
    rw[iW];cases f:O' l[m] x with
    |false=>rfl|true=>have:=kS.tr (d.1 _ (List.getElem_mem a)) f;rw[b]at this;cases this
theorem kI{x:L8}{l:kH}(h:j8 l):l.contains x=match l[y7 x l]? with
  |some y=>y==x|none=>false:=by
 cases a:l.contains x with
 |true=>
  obtain⟨m,b,e⟩:=List.getElem_of_mem (bE.1 a);have c:=lX (x:=x) h b;rw[e,kS.Vu]at c;have c:¬m<y7 x l:=of_decide_eq_false c.symm;have g:y7 x l=m:=by refine Nat.le_antisymm (by omega) (Nat.le_of_not_lt fun i=>?_);have d:O' l[y7 x l] l[m]=true:=List.pairwise_iff_getElem.1 h _ _ (by omega) b i;rw[e]at d;rw[lX h (by omega)]at d;have:=zD d;omega
  rw[g,aH b,e];simp
 |false=>
  cases j:l[y7 x l]? with
  |none=>rfl|some y=>
   have f:=List.mem_of_getElem? j;show false=(y==x);cases k:y==x with
   |false=>rfl|true=>rw[beq_iff_eq.1 k]at f;rw[bE.2 f]at a;cases a
theorem lI{l:kH}(x:L8)(h:j8 l)(n:l.length<=1048576):sR X' l x=some ((y7 x l:Int),l.contains x):=by
 have e:=kX x l
 have f:iter (fun s:Int×Int=>WV X' l x s.1 s.2) ((0:Int),(l.length:Int))=some (y7 x l:Int):=by
  have g:T (iter (fun s:Int×Int=>WV X' l x s.1 s.2) ((0:Int),(l.length:Int))) fun r=>r=(y7 x l:Int):=by
   refine T.iter (fun s=>∃i j:Nat,s=((i:Int),(j:Int))/\i<=y7 x l/\y7 x l<=j/\j<=l.length) (fun s=>(s.2-s.1).toNat) _ ?_ ⟨0,l.length,rfl,by omega,e,by omega⟩ (by simp;omega);rintro s ⟨i,j,rfl,c,k,m⟩;unfold WV;simp only;refine T.IE (fun b=>?_) fun b=>T.ok (by show(i:Int)=_;omega);have b:i<j:=by omega
   rw[show o6 (decide ((0:Int)<=((1:UInt64).toNat:Int)))=some ()from rfl,p',ZE (by omega)];have d:(i+j)/2<l.length:=by omega
   rw[Y6 rfl d,p',kF,p',lX h d];refine T.IE (fun a=>?_) fun a=>?_
   ·refine T.ok ⟨⟨(i+j)/2+1,j,?_,by omega,k,m⟩,?_⟩
    ·rw[Y7 (by omega)]
    ·rw[Y7 (by omega)];simp only;omega
   ·exact T.ok ⟨⟨i,(i+j)/2,rfl,c,by omega,by omega⟩,by simp only;omega⟩
  obtain⟨r,c,rfl⟩:=g;exact c
 unfold sR;rw[f,p',kI h];by_cases a:y7 x l<l.length
 ·rw[X5 (show(y7 x l:Int)<(l.length:Int) by omega),Y6 rfl a,p',aH a];simp only;cases p:l[y7 x l]==x with
  |true=>rfl|false=>rw[zH,p'];unfold VV;rw[p',bne_self_eq_false];rfl
 ·rw[l6 (show ¬(y7 x l:Int)<(l.length:Int) by omega),List.getElem?_eq_none (by omega)]
theorem lF{l:kH}(x:L8)(h:j8 l)(a:l.length<=1048576):Ed X' l x=some (l.contains x):=by unfold Ed;rw[lI x h a,p']
theorem bn(x:L8)(l:kH):l.take (y7 x l)++[x]++l.drop (y7 x l)=uj x l:=by have e:=List.takeWhile_append_dropWhile (p:=fun y=>O' y x) (l:=l);unfold uj y7;generalize l.takeWhile (fun y=>O' y x)=a at e ⊢;generalize l.dropWhile (fun y=>O' y x)=b at e ⊢;subst e;rw[List.take_left' rfl,List.drop_left' rfl,aU];rfl
theorem xdR{l:kH}(x:L8)(h:j8 l)(a:l.length<=1048575):AE X' l x=some (uj x l):=by have b:=kX x l;unfold AE;rw[lI x h (by omega),p',mh _ (by omega),p'];simp only[kq,Sx];rw[show(decide ((0:Int)<=(y7 x l:Int))&&decide ((y7 x l:Int).toNat<=l.length)&&decide (1<=[x].length)&&decide (l.length+[x].length<=1048576))=true by simp;omega,zF,p',Int.toNat_natCast,bn]
theorem mX(l:kH)(x:L8)(a:l.length<=1048576):Ik X' l x=some (vj x l):=by unfold Ik;rw[mh _ (by omega),p'];simp only;rw[X5 (by omega)];rfl
theorem Kg{l:List L8}{may:L8->Bool}{n:Nat}{body:Int->Option (Int⊕(Bool⊕Unit))}(hl:l.length<=1048576) (hb:∀(k:Nat) (hk:k<l.length),body (k:Int)=bif !may l[k]then some (.inr (.inl false))else bif decide ((k:Int)>(0:Int))then(idx l (P0 ((k:Int)-(1:Int)))).bind fun v5=>bif(Op.bytesLess l[k] v5||l[k]==v5)then some (.inr (.inl false))else some (.inl (P0 ((k:Int)+(1:Int))))else some (.inl (P0 ((k:Int)+(1:Int))))) (he:body (l.length:Int)=some (.inr (.inr ()))):((iter body (0:Int)).bind fun v6=>match v6 with
   |.inl w=>some w|.inr _=>some (decide ((l.length:Int)<=(n:Int))))=some (oh n may l):=by
 have key:∀(f k:Nat),f+k=l.length->∀g,f<g->(0<k->∀y,l[k-1]? = some y->True)->X9 body g (k:Int)=some (bif(l.drop k).all may&&gm (l.drop (k-1))then .inr ()else .inl false):=by
  intro f;induction f with
  |zero=>
   intro k hk g x _;obtain⟨g,rfl⟩:∃m,g=m+1:=⟨g-1,by omega⟩;have hk:k=l.length:=by omega
   subst hk;rw[Ba he,bT];have:gm (l.drop (l.length-1))=true:=by
    have d:(l.drop (l.length-1)).length<=1:=by rw[List.length_drop];omega
    match l.drop (l.length-1),d with
    |[],_=>rfl|[_],_=>rfl
   rw[this];rfl
  |succ f r=>
   intro k hk g x _;obtain⟨g,rfl⟩:∃m,g=m+1:=⟨g-1,by omega⟩;have i:k<l.length:=by omega
   have c:l.drop k=l[k]::l.drop (k+1):=bA i;have a:=hb k i;cases j:may l[k] with
   |false=>rw[j]at a;rw[Ba (b:=.inl false) a,c,cT,j];rfl|true=>
    rw[j]at a;simp only[aK,zH]at a;cases k with
    |zero=>rw[show decide (((0:Nat):Int)>(0:Int))=false from rfl,zH]at a;rw[sb (s':=((1:Nat):Int)) (by rw[a];rfl),r 1 (by omega) g (by omega) (fun _ _ _=>trivial),c,cT,j,cJ,<-c]|succ k=>
     have hp:k<l.length:=by omega
     have q:l.drop k=l[k]::l.drop (k+1):=bA hp;rw[zA (show(((k+1:Nat):Int))>0 by omega),zF,show P0 (((k+1:Nat):Int)-1)=(k:Int) by rw[oe (by omega) (by omega)];omega,Y6 rfl hp,p',Y7 (by omega)]at a;have z:gm (l.drop k)=(j9 l[k] l[k+1]&&gm (l.drop (k+1))):=by rw[q,c];rfl
     have A:(j9 l[k+1] l[k]||l[k+1]==l[k]) = !(j9 l[k] l[k+1]):=by
      have B:j9 l[k] l[k+1]=O' l[k] l[k+1]:=rfl;have C:j9 l[k+1] l[k]=O' l[k+1] l[k]:=rfl;rw[B,C];by_cases e:l[k+1]=l[k]
      ·rw[e,kS.Vu];simp
      ·rw[beq_false_of_ne e,eA];cases p:O' l[k] l[k+1] with
       |true=>
        cases D:O' l[k+1] l[k] with
        |false=>rfl|true=>have:=kS.tr p D;rw[kS.Vu]at this;cases this
       |false=>exact kS.xH p fun E=>e E.symm
     rw[A]at a;rw[jG,z,c,cT,j,cJ];cases p:j9 l[k] l[k+1] with
     |false=>rw[p]at a;rw[Ba (b:=.inl false) a];simp|true=>rw[p]at a;rw[sb (s':=((k+1+1:Nat):Int)) a,r (k+1+1) (by omega) g (by omega) (fun _ _ _=>trivial),jG,cJ,c]
 have s:=key l.length 0 (by omega) FU (by unfold FU;omega) (fun h=>by omega);unfold iter;rw[show((0:Nat):Int)=0 from rfl]at s;rw[s,p'];unfold oh;rw[Nat.zero_sub,bQ];cases l.all may&&gm l with
 |false=>rfl|true=>show some (decide ((l.length:Int)<=(n:Int)))=_;rw[cJ];congr 1;exact decide_eq_decide.2 (by omega)
theorem xdE{l:kH}(a:l.length<=1048576)(n:Nat):wR X' l (n:Int)=some (oh n Gy l):=by
 unfold wR;refine Kg a (fun k b=>?_) ?_
 ·unfold ydE;rw[X5 (by omega),Y6 rfl b,p',CH,p']
 ·unfold ydE;rw[l6 (by omega)]
theorem bu{l:kH}(a:l.length<=1048576)(n:Nat):yW X' l (n:Int)=some (oh n Fc l):=by
 unfold yW;refine Kg a (fun k b=>?_) ?_
 ·unfold ybU;rw[X5 (by omega),Y6 rfl b,p',qj,p']
 ·unfold ybU;rw[l6 (by omega)]
theorem mF{r:Ro}(h:r.2.length<=1048576):xR X' r=some (Gq r):=by
 unfold xR Gq;rw[Ig,p'];cases U6 r.1 with
 |false=>rfl|true=>rw[zF,show((16:Int))=((16:Nat):Int)from rfl,xdE h,p'];rfl
theorem nX{r:Ro}(h:r.2.length<=1048576):LN X' r=some r:=by unfold LN;rw[mh _ (by omega),p']
theorem oX{c:Cl}(h:c.2.2.1.length<=1048576)(k:c.2.2.2.1.length<=1048576):NN X' c=some c:=by unfold NN;rw[mh _ (by omega),p',mh _ (by omega),p']
abbrev nF:L8:=[48,49,50,51,52,53,54,55,56,57,97,98,99,100,101,102]
theorem LL(b:UInt8):nF.contains b=Jg b:=by have:=MQ (fun b=>nF.contains b==Jg b) (by kernel_rfl) b;simpa using this
theorem ML{c:Cl}(e:c.2.1.length<=1048576)(h:c.2.2.1.length<=1048576)(k:c.2.2.2.1.length<=1048576):PR X' c=some (Ha c):=by
 have d:ybW X' c=some (c.2.1==[]||(decide (c.2.1.length=64)&&c.2.1.all Jg),c):=by
  unfold ybW;cases f:c.2.1==([]:L8) with
  |true=>rfl|false=>
   rw[zH,dB];by_cases a:c.2.1.length=64
   ·rw[show((c.2.1.length:Int)==(64:Int))=true by rw[a];rfl,zF,show X'.trim c.2.1 nF=some (Lib.trimS c.2.1 nF)from OE (by omega) (by decide) (by decide),p',zA a,cJ];congr 2;rw[dS,beq_iff_eq,xbA,List.all_eq_true];exact forall_congr' fun b=>imp_congr Iff.rfl (by rw[LL])
   ·rw[show((c.2.1.length:Int)==(64:Int))=false by rw[beq_eq_false_iff_ne];omega,zB a];rfl
 unfold PR Ha;rw[d,p',Ig,p'];cases U6 c.1 with
 |false=>rfl|true=>
  rw[zF,cJ];cases (c.2.1==[]||(decide (c.2.1.length=64)&&c.2.1.all Jg)) with
  |false=>rfl|true=>
   rw[zF,cJ,show((16:Int))=((16:Nat):Int)from rfl,bu h,p'];cases oh 16 Fc c.2.2.1 with
   |false=>rfl|true=>rw[zF,xdE k,p'];rfl
theorem oF{G:GM}(_c:Ri O' G){a x:L8}(h:x∈Q3 1 (r6 j' G a zG)):∃g,(a,g)∈G/\x∈Q3 1 g:=by
 rw[pb]at h;cases b:W0 j' G a with
 |none=>rw[b]at h;cases h
 |some g=>rw[b]at h;exact⟨g,kS.get_some b,h⟩
theorem yzQ{G:GM}(b:Ri O' G){a:L8}{g:Gr}(h:(a,g)∈G):r6 j' G a zG=g:=by rw[pb,kS.get_mem b h];rfl
abbrev SM:Type:=List (L8×Unit)
def Mq(z:SM×kH)(x:L8):SM×kH:=bif J' j' z.1 x then z else(Y0 j' O' z.1 x (),z.2++[x])
theorem yxJ:∀(l:kH) (z:SM×kH),Ri O' z.1->Ri O' (l.foldl Mq z).1/\(∀x,J' j' (l.foldl Mq z).1 x=true↔J' j' z.1 x=true∨x∈l)/\∃n,(l.foldl Mq z).2=z.2++n/\(l.foldl Mq z).1.length=z.1.length+n.length/\(∀x∈n,x∈l)/\∀x,J' j' (l.foldl Mq z).1 x=true->J' j' z.1 x=true∨x∈n
 |[],z,h=>⟨h,fun x=>by simp,[],by simp,rfl,fun _ h=>h,fun _ h=>.inl h⟩|y::l,z,h=>by
  rw[dN];cases b:J' j' z.1 y with
  |true=>
   have e:Mq z y=z:=by unfold Mq;rw[b];rfl
   rw[e];obtain⟨d,f,n,g,i,j,k⟩:=yxJ l z h;refine⟨d,fun x=>?_,n,g,i,fun x a=>aM _ (j x a),k⟩;rw[f,aN];constructor
   ·rintro(h|h)
    ·exact .inl h
    ·exact .inr (.inr h)
   ·rintro(h|rfl|h)
    ·exact .inl h
    ·exact .inl b
    ·exact .inr h
  |false=>
   have e:Mq z y=(Y0 j' O' z.1 y (),z.2++[y]):=by unfold Mq;rw[b];rfl
   have m:∀x,J' j' (Y0 j' O' z.1 y ()) x=true↔x=y∨J' j' z.1 x=true:=fun x=>by
    rw[kc,kS.Gd h,kc];by_cases c:j' y x=true
    ·rw[zJ c];have:=kS.e.1 c;subst this;simp
    ·rw[zI c];have:x≠y:=fun e=>c (kS.e.2 e.symm);simp[this]
   rw[e];obtain⟨d,f,n,g,i,j,k⟩:=yxJ l (Y0 j' O' z.1 y (),z.2++[y]) (kS.O8 h);refine⟨d,fun x=>?_,y::n,by rw[g,aU];rfl,?_,fun x a=>?_,fun x a=>?_⟩
   ·rw[f,aN,m];constructor
    ·rintro((h|h)|h)
     ·exact .inr (.inl h)
     ·exact .inl h
     ·exact .inr (.inr h)
    ·rintro(h|h|h)
     ·exact .inl (.inr h)
     ·exact .inl (.inl h)
     ·exact .inr h
   ·rw[i];show(Y0 j' O' z.1 y ()).length+n.length=_;rw[QB,b,zI (by simp),aQ];omega
   ·rcases aN.1 a with rfl|a
    ·exact aO
    ·exact aM _ (j x a)
   ·rcases k x a with h|h
    ·rcases(m x).1 h with rfl|h
     ·exact .inr aO
     ·exact .inl h
    ·exact .inr (aM _ h)
def yS(G:GM):kH:=G.flatMap fun p=>Q3 1 p.2
theorem xcO{s:PS}{g:Gr}(c:(Q3 1 g).length<=1048576):∀(f k:Nat) (z:SM×kH),f+k=(Q3 1 g).length->z.2.length+f<=68719476736->∀n,f<n ->
  X9 (fun x:Int×UM×GM×RM×CM×MM×SM×kH=>XV X' g x.1 x.2.1 x.2.2.1 x.2.2.2.1 x.2.2.2.2.1 x.2.2.2.2.2.1 x.2.2.2.2.2.2.1 x.2.2.2.2.2.2.2) n ((k:Int),s.1,s.2.1,s.2.2.1,s.2.2.2.1,s.2.2.2.2,z.1,z.2)=some (s.1,s.2.1,s.2.2.1,s.2.2.2.1,s.2.2.2.2,((Q3 1 g).drop k).foldl Mq z)
 |0,k,z,b,_,n+1,_=>by
  have b:k=(Q3 1 g).length:=by omega
  subst b;rw[bT];refine Ba ?_;unfold XV;simp only;rw[l6 (by show ¬((Q3 1 g).length:Int)<((Q3 1 g).length:Int);omega)];rfl
 |f+1,k,z,b,d,n+1,h=>by
  have a:k<(Q3 1 g).length:=by omega
  rw[bA a,dN]
  have e:=xcO (s:=s) c f (k+1) (Mq z (Q3 1 g)[k]) (by omega) (by
   unfold Mq;cases J' j' z.1 (Q3 1 g)[k] with
   |true=>rw[zF];omega|false=>rw[zH];simp;omega) n (by omega)
  rw[<-e];refine sb ?_;unfold XV;simp only;rw[X5 (by show(k:Int)<((Q3 1 g).length:Int);omega),show idx g.1.2.1 (k:Int)=some (Q3 1 g)[k]from Y6 rfl a,p',Y7 (by omega)];unfold Mq;cases J' j' z.1 (Q3 1 g)[k] with
  |true=>rfl|false=>rw[cX,zF,O7 (by simp;omega),p'];rfl
theorem cu{B:Int}{s:PS}(h:M0 B s)(a b:L8):∃r:Bool,ZV X' a b s.1 s.2.1 s.2.2.1 s.2.2.2.1 s.2.2.2.2=some (r,s)/\(r=true↔Reach s.2.1 a b):=by
 have A:∀k g,(k,g)∈s.2.1->(Q3 1 g).length<=32:=fun k g C=>by
  obtain⟨l,i⟩:=h.gl k g C 1 (by decide);have:=l.Jd (m:=s.2.1.map (·.1)) fun x d=>by obtain⟨v,K⟩:=kS.n0.1 (show J' j' s.2.1 x=true from i x d);exact aY.2 ⟨_,K,rfl⟩
  rw[aE]at this;exact bB this h.gL
 have E:∀k,(Q3 1 (r6 j' s.2.1 k zG)).length<=32:=fun k=>by
  rw[pb];cases C:W0 j' s.2.1 k with
  |none=>exact Nat.zero_le _|some g=>exact A k g (kS.get_some C)
 have hU:(a::yS s.2.1).length<=1100:=by
  have:∀G:GM,(∀k g,(k,g)∈G->(Q3 1 g).length<=32)->(yS G).length<=32*G.length:=by
   intro G;induction G with
   |nil=>intro _;exact aL _|cons p G ih=>intro C;have l:=ih fun k g hk=>C k g (aM _ hk);have i:=C p.1 p.2 aO;unfold yS at *;rw[List.flatMap_cons,aD,aQ];omega
  have:=this s.2.1 A;have:=h.gL;rw[aQ];omega
 let I:UM×GM×RM×CM×MM×SM×kH->Prop:=fun t=>(t.1,t.2.1,t.2.2.1,t.2.2.2.1,t.2.2.2.2.1)=s/\Ri O' t.2.2.2.2.2.1/\(∀x,J' j' t.2.2.2.2.2.1 x=true->x∈a::yS s.2.1/\Reach s.2.1 a x)/\(∀x∈t.2.2.2.2.2.2,J' j' t.2.2.2.2.2.1 x=true)/\J' j' t.2.2.2.2.2.1 a=true /\
  (∀x,J' j' t.2.2.2.2.2.1 x=true->x∈t.2.2.2.2.2.2∨(x≠b/\∀y∈Q3 1 (r6 j' s.2.1 x zG),J' j' t.2.2.2.2.2.1 y=true))/\t.2.2.2.2.2.2.length<=t.2.2.2.2.2.1.length
 have j:∀t,I t->t.2.2.2.2.2.1.length<=1100:=fun t hI=>by
  obtain⟨_,l,i,_⟩:=hI;have hn:(t.2.2.2.2.2.1.map (·.1)).Nodup:=(List.pairwise_map.2 (l.imp fun {p q} hpq=>kS.Cb hpq):(t.2.2.2.2.2.1.map (·.1)).Pairwise (· ≠ ·));have:=XK hn (m:=a::yS s.2.1) fun x d=>by obtain⟨p,hp,rfl⟩:=aY.1 d;exact(i p.1 (kS.n0.2 ⟨p.2,hp⟩)).1
  rw[aE]at this;omega
 have ht:T (iter (fun x:UM×GM×RM×CM×MM×SM×kH=>YV X' b x.1 x.2.1 x.2.2.1 x.2.2.2.1 x.2.2.2.2.1 x.2.2.2.2.2.1 x.2.2.2.2.2.2) (s.1,s.2.1,s.2.2.1,s.2.2.2.1,s.2.2.2.2,Y0 j' O' ([]:SM) a (),[a])) fun r=>match r with
   |.inl v=>v.2=s/\v.1=true/\Reach s.2.1 a b|.inr v=>v=s/\¬Reach s.2.1 a b:=by
  refine T.iter I (fun t=>2*(1100-t.2.2.2.2.2.1.length)+t.2.2.2.2.2.2.length) _ ?_ ?_ ?_
  ·rintro t hI;have hS:=j t hI;obtain⟨u,g,r,c,m,F,row⟩:=t;obtain⟨hs,l,i,X,h4,Y,h6⟩:=hI;have hs:(u,g,r,c,m)=s:=hs;subst hs;simp only at l i X h4 Y h6 hS ⊢;unfold YV;cases row with
   |nil=>
    refine T.ok (P:=_) ?_;refine⟨rfl,fun hr=>?_⟩
    have key:∀x,Reach g a x->J' j' F x=true:=fun x d=>by
     induction d with
     |refl=>exact h4|step _ C d ih=>
      rcases Y _ ih with f|⟨_,f⟩
      ·cases f
      ·rw[yzQ h.gR C]at f;exact f _ d
    rcases Y b (key b hr)with f|⟨f,_⟩
    ·cases f
    ·exact f rfl
   |cons y row=>
    rw[X5 (by show((y::row).length:Int)>0;rw[aQ];omega)];have hck:o6 (decide ((0:Int)<=0)&&decide ((0:Int)<((y::row).length:Int)))=some ():=by rw[zA (show(0:Int)<((y::row).length:Int) by rw[aQ];omega)];rfl
    have hix:idx (y::row) (0:Int)=some y:=rfl;rw[hck,p',hix,p'];by_cases H:y=b
    ·subst H;rw[show(y==y)=true from beq_self_eq_true y,zF];exact T.ok ⟨rfl,rfl,(i y (X y aO)).2⟩
    ·rw[beq_false_of_ne H,zH,p',p'];have hy:=i y (X y aO);have hq:=E y;simp only at hq;generalize M:r6 j' g y zG=Z at hq;show T (Option.bind (iter _ ((0:Int),u,g,r,c,m,F,y::row)) _) _;rw[show iter _ ((0:Int),u,g,r,c,m,F,y::row)=_ from xcO (s:=(u,g,r,c,m)) (g:=Z) (by omega) (Q3 1 Z).length 0 (F,y::row) (by omega) (by simp only[aQ];simp only[aQ]at h6;omega) FU (by unfold FU;omega),p',bQ];obtain⟨p1,D,n,p3,p4,p5,p6⟩:=yxJ (Q3 1 Z) (F,y::row) l;generalize (Q3 1 Z).foldl Mq (F,y::row)=z at p1 D p3 p4 p6;obtain⟨J,row'⟩:=z;simp only at p1 D p3 p4 p6 ⊢;subst p3
     rw[show T4 (y::row++n) (1:Int)=some (row++n) by
      unfold T4;rw[zA (show(0:Int)<=1 by decide),zA (show(1:Int)<=((y::row++n).length:Int) by rw[List.cons_append,aQ];omega)]
      rfl,p']
     have N:I (u,g,r,c,m,J,row++n):=by
      refine⟨rfl,p1,fun x d=>?_,fun x d=>?_,(D a).2 (.inl h4),fun x d=>?_,?_⟩
      ·rcases(D x).1 d with d|d
       ·exact i x d
       ·rw[<-M]at d;obtain⟨g',O,Q⟩:=oF h.gR d;exact⟨aM _ (List.mem_flatMap.2 ⟨(y,g'),O,Q⟩),.step hy.2 O Q⟩
      ·rcases List.mem_append.1 d with d|d
       ·exact(D x).2 (.inl (X x (aM _ d)))
       ·exact(D x).2 (.inr (p5 x d))
      ·show x∈row++n∨(x≠b/\∀L∈Q3 1 (r6 j' g x zG),J' j' J L=true);by_cases R:x=y
       ·subst R;refine .inr ⟨H,fun L w=>?_⟩;rw[M]at w;exact(D L).2 (.inr w)
       ·by_cases S:J' j' F x=true
        ·rcases Y x S with f|⟨f,hb2⟩
         ·exact .inl (List.mem_append_left _ ((aN.1 f).resolve_left R))
         ·exact .inr ⟨f,fun L w=>(D L).2 (.inl (hb2 L w))⟩
        ·exact .inl (List.mem_append_right _ ((p6 x d).resolve_left S))
      ·show(row++n).length<=J.length;simp only[aQ]at h6;rw[p4,aD];omega
     refine T.ok ⟨N,?_⟩;have U:=j _ N;simp only at U ⊢;rw[p4]at U ⊢;rw[aD,aQ];omega
  ·have hset:Y0 j' O' ([]:SM) a ()=[(a,())]:=rfl;refine⟨rfl,kS.O8 .nil,fun x d=>?_,fun x d=>?_,kS.n0.2 ⟨(),aO⟩,fun x d=>?_,aL _⟩
   ·obtain⟨v,K⟩:=kS.n0.1 d;rw[show(Y0 j' O' ([]:SM) a (),[a]).1=[(a,())]from rfl]at K;cases aZ.1 K;exact⟨aO,.refl⟩
   ·rw[aZ.1 d];exact kS.n0.2 ⟨(),aO⟩
   ·obtain⟨v,K⟩:=kS.n0.1 d;cases aZ.1 (show(x,v)∈[(a,())]from K);exact .inl aO
  ·show 2*(1100-1)+1<1099511627776;decide
 obtain⟨r,l,i⟩:=ht;unfold ZV;refine ?_;have e:(iter (fun x:UM×GM×RM×CM×MM×SM×kH=>YV X' b x.1 x.2.1 x.2.2.1 x.2.2.2.1 x.2.2.2.2.1 x.2.2.2.2.2.1 x.2.2.2.2.2.2) (s.1,s.2.1,s.2.2.1,s.2.2.2.1,s.2.2.2.2,Y0 j' O' ([]:SM) a (),[a]))=some r:=l;simp only;rw[e,p']
 match r,i with
 |.inl (v1,v2),⟨V,W,q3⟩=>have V:v2=s:=V;have W:v1=true:=W;subst V;subst W;exact⟨true,rfl,fun _=>q3,fun _=>rfl⟩|.inr v,⟨V,W⟩=>subst V;exact⟨false,rfl,fun h=>(by cases h),fun h=>absurd h W⟩
theorem ph{s:L8}(h:U6 s=true):s.length<=24:=by rw[Iy,aI,aI]at h;exact zD h.1.2
theorem M0.Z4{B:Int}{s:PS}(h:M0 B s){k:L8}{g:Gr}(e:(k,g)∈s.2.1){i:Nat}(c:i<3):(Q3 i g).length<=64:=by
 obtain⟨f,b⟩:=h.gl k g e i c
 have key:∀{d:Type} {a:List (L8×d)},(∀x∈Q3 i g,J' j' a x=true)->(Q3 i g).length<=a.length:=fun {d a} j=>by
  have:=f.Jd (m:=a.map (·.1)) fun x l=>by obtain⟨v,n⟩:=kS.n0.1 (j x l);exact aY.2 ⟨_,n,rfl⟩
  rwa[aE]at this
 match i,c with
 |0,_=>exact bB (key b) h.uL|1,_=>exact bB (key b) (bB h.gL (by decide))|2,_=>exact bB (key b) (bB h.rL (by decide))
abbrev T6(γ:Type):Type:=UM×GM×RM×CM×MM×γ
theorem pF(n m:L8)(s:PS):HN X' n m s.1 s.2.1 s.2.2.1 s.2.2.2.1 s.2.2.2.2=some (HH n m s):=by
 unfold HN zuN HH;rw[Ig,p'];cases U6 n with
 |false=>rfl|true=>
  rw[aK,zH,qj,p'];cases Fc m with
  |false=>rfl|true=>
   rw[aK,zH,p'];simp only[eA,zH];cases J' j' s.1 n with
   |true=>rfl|false=>
    rw[zH,zH];by_cases h:64<=s.1.length
    ·rw[X5 (show(s.1.length:Int)≥64 by omega),zA h];rfl
    ·rw[l6 (show ¬(s.1.length:Int)≥64 by omega),zB h];rfl
theorem mI(a b:L8)(c:Bool)(d:Int)(u:Us):(!((a==u.1)&&((b==u.2.1)&&((c==u.2.2.1)&&(decide (d=u.2.2.2)))))) = !decide ((a,b,c,d)=u):=by congr 1;rw[dS];simp only[aI,beq_iff_eq,zE];obtain⟨e,f,g,h⟩:=u;simp
theorem NL(U:UM)(G:GM)(R:RM)(C:CM)(M:MM)(u:Us)(a b m:L8)(c:Bool)(d:Int):zrO X' U G R C M u (a,b,c,d,m)=some (m,U,G,R,C,M,if(a,b,c,d)=u then(a,b,c,d)else(a,b,c,P0 (d+1))):=by
 unfold zrO;show(bif(!((a==u.1)&&((b==u.2.1)&&((c==u.2.2.1)&&(decide (d=u.2.2.2))))))then _ else _)=_;rw[mI];by_cases e:(a,b,c,d)=u
 ·rw[zA e,zJ e];rfl
 ·rw[zB e,zI e];rfl
theorem QL(U:UM)(G:GM)(R:RM)(C:CM)(M:MM)(u:Us)(a b:L8)(m c:Bool)(d:Int):zrF X' U G R C M u (a,b,c,d,m)=some (m,U,G,R,C,M,if(a,b,c,d)=u then(a,b,c,d)else(a,b,c,P0 (d+1))):=by
 unfold zrF;show(bif(!((a==u.1)&&((b==u.2.1)&&((c==u.2.2.1)&&(decide (d=u.2.2.2))))))then _ else _)=_;rw[mI];by_cases e:(a,b,c,d)=u
 ·rw[zA e,zJ e];rfl
 ·rw[zB e,zI e];rfl
theorem Xy{B:Int}(hB:B<=1099511627776){s:PS}(h:M0 B s)(n m:L8):HW X' n m s.1 s.2.1 s.2.2.1 s.2.2.2.1 s.2.2.2.2=some ((RA n (fun u=>(u.1,m,u.2.2)) s).1,m,(RA n (fun u=>(u.1,m,u.2.2)) s).2):=by
 unfold HW RA;rw[Ig,p'];cases U6 n with
 |false=>rfl|true=>
  simp only[aK,zH];rw[kc,pb];cases a:W0 j' s.1 n with
  |none=>rfl|some u=>
   have b:=h.us n u (kS.get_some a);simp only[eG,aK,zH,dH];unfold znE;rw[p',NL,p',show P0 (u.2.2.2+1)=u.2.2.2+1 from oe (by omega) (by omega)];by_cases e:(u.1,m,u.2.2.1,u.2.2.2)=u
   ·rw[zJ e,zJ (show(u.1,m,u.2.2)=u from e),e]
   ·rw[zI e,zI (show ¬(u.1,m,u.2.2)=u from e)]
theorem Yy{B:Int}(hB:B<=1099511627776){s:PS}(h:M0 B s)(n:L8)(b:Bool):JW X' n b s.1 s.2.1 s.2.2.1 s.2.2.2.1 s.2.2.2.2=some ((QE n b s).1,b,(QE n b s).2):=by
 unfold JW QE RA;rw[Ig,p'];cases U6 n with
 |false=>rfl|true=>
  simp only[aK,zH];rw[kc,pb];cases a:W0 j' s.1 n with
  |none=>rfl|some u=>
   have c:=h.us n u (kS.get_some a);simp only[eG,aK,zH,dH];unfold zkW;rw[p',QL,p',show P0 (u.2.2.2+1)=u.2.2.2+1 from oe (by omega) (by omega)];by_cases e:(u.1,u.2.1,b,u.2.2.2)=u
   ·rw[zJ e,zJ e,e]
   ·rw[zI e,zI e]
theorem qF{B:Int}(hB:B<=1099511627776){s:PS}(h:M0 B s)(n m:L8):IW X' n m s.1 s.2.1 s.2.2.1 s.2.2.2.1 s.2.2.2.2=some (IH n m s):=by
 unfold IW IH;rw[qj,p'];cases Fc m with
 |false=>rfl|true=>rw[aK,zH,Xy hB h,p'];rfl
theorem rF{B:Int}(hB:B<=1099511627776){s:PS}(h:M0 B s)(n:L8)(b:Bool):KW X' n b s.1 s.2.1 s.2.2.1 s.2.2.2.1 s.2.2.2.2=some (QE n b s):=by unfold KW;rw[Yy hB h,p']
def stW:Nat->Gr->kH->Gr
 |0,g,l=>((l,g.1.2.1,g.1.2.2),P0 (g.2+1))|1,g,l=>((g.1.1,l,g.1.2.2),P0 (g.2+1))|_,g,l=>((g.1.1,g.1.2.1,l),P0 (g.2+1))
theorem TL(k:Nat){g:Gr}(l:kH)(h:1<=g.2/\g.2<=1099511627776):stW k g l=xj k g l:=by
 have e:P0 (g.2+1)=g.2+1:=oe (by omega) (by omega)
 match k with
 |0=>show((l,g.1.2.1,g.1.2.2),P0 (g.2+1))=_;rw[e];rfl
 |1=>show((g.1.1,l,g.1.2.2),P0 (g.2+1))=_;rw[e];rfl
 |k+2=>show((g.1.1,g.1.2.1,l),P0 (g.2+1))=_;rw[e];rfl
noncomputable def du(k:Nat)(n:L8)(x:T6 kH)(p:L8×Gr):Option (T6 kH⊕PS):=
 (W0 j' x.2.1 p.1).bind fun g=>(Ed X' (Q3 k g) n).bind fun q=>bif q then(Ik X' (Q3 k g) n).bind fun l=>(o6 (J' j' x.2.1 p.1)).bind fun _=>some (.inl (x.1,Z9 j' x.2.1 p.1 (stW k g l),x.2.2.1,x.2.2.2.1,x.2.2.2.2.1,U7 j' x.2.2.2.2.2 p.1))else some (.inl (x.1,x.2.1,x.2.2.1,x.2.2.2.1,x.2.2.2.2.1,U7 j' x.2.2.2.2.2 p.1))
def cn(k:Nat)(n:L8)(left:kH)(G:GM):GM:=Fe (fun m g=>bif left.contains m then g else(bif(Q3 k g).contains n then xj k g (vj n (Q3 k g))else g)) G
theorem ypQ{B:Int}(hB:B<=1099511627776){k:Nat}(_hk:k<3){n:L8}{s:PS}(G:GM)(q:Ri O' G)(z:∀m g,(m,g)∈G->j8 (Q3 k g)/\(Q3 k g).length<=64/\1<=g.2/\g.2<=B){f:T6 kH->List (Option (T6 kH⊕PS))}(hf:∀x,f x=cb (Ra j' x.2.1 x.2.2.2.2.2) (some (.inr (x.1,x.2.1,x.2.2.1,x.2.2.2.1,x.2.2.2.2.1))) (du k n x)):
  U8 f (s.1,G,s.2.2.1,s.2.2.2.1,s.2.2.2.2,cU Prod.fst G)=some (s.1,qd k n G,s.2.2):=by
 have r:∀m,J' j' G m=true->∃g,W0 j' G m=some g:=fun m i=>by rw[kc]at i;exact Option.isSome_iff_exists.1 i
 refine kS.kj (fun x=>∃left:kH,(∀m∈left,J' j' G m=true)/\x=(s.1,cn k n left G,s.2.2.1,s.2.2.2.1,s.2.2.2.2,left)) (fun x=>x.2.1) (fun x=>x.2.2.2.2.2) hf ?_ ?_ ⟨cU Prod.fst G,fun m i=>?_,?_⟩
 ·rintro x ⟨left,t,rfl⟩ u;simp only;have e:cn k n left G=qd k n G:=by
   unfold cn qd Fe;refine dI fun p hp=>?_;have:left.contains p.1=false:=by
    cases A:left.contains p.1 with
    |false=>rfl|true=>have v:(p.1,bif left.contains p.1 then p.2 else(bif(Q3 k p.2).contains n then xj k p.2 (vj n (Q3 k p.2))else p.2))∈cn k n left G:=aY.2 ⟨p,hp,rfl⟩;have C:=u _ v;exact absurd (bE.1 A) C
   show(p.1,bif left.contains p.1 then p.2 else _)=_;rw[this];rfl
  rw[e]
 ·rintro x p ⟨left,t,rfl⟩ hp c;left;simp only at hp c ⊢;obtain⟨g,j⟩:=r p.1 (t p.1 c);have w:=kS.get_some j;obtain⟨y,I,J,K⟩:=z p.1 g w;have a:W0 j' (cn k n left G) p.1=some g:=by unfold cn;rw[wL _ kS,j,aX,bE.2 c];rfl
  have d:∀m,(U7 j' left p.1).contains m=(left.contains m && !(m==p.1)):=fun m=>by rw[dS,bE,kS.oc,aI,bE,bM,<-cM,beq_iff_eq]
  have h:Ri O' (cn k n left G):=zW q;have b:∀m∈U7 j' left p.1,J' j' G m=true:=fun m i=>t m (kS.oc.1 i).1;cases l:(Q3 k g).contains n with
  |true=>
   refine⟨_,?_,⟨U7 j' left p.1,b,rfl⟩,rfl⟩;unfold du;simp only;rw[a,p',lF n y (by omega),p',l,zF,mX _ _ (by omega),p',show o6 (J' j' (cn k n left G) p.1)=some () by rw[kc,a];rfl,p',TL k _ (by omega)];congr 4;have D:J' j' (cn k n left G) p.1=true:=by rw[kc,a];rfl
   have E:Z9 j' (cn k n left G) p.1 (xj k g (vj n (Q3 k g)))=Y0 j' O' (cn k n left G) p.1 (xj k g (vj n (Q3 k g))):=by unfold Y0;rw[D];rfl
   rw[E];refine kS.ext_get (kS.O8 h) (zW q) fun m=>?_;rw[kS.Gd h];unfold cn;rw[wL _ kS,wL _ kS];by_cases e:j' p.1 m=true
   ·rw[zJ e];have e:=kS.e.1 e;subst e;rw[j,aX,d,beq_self_eq_true,aK,iI,zH,l];rfl
   ·rw[zI e];have:(m==p.1)=false:=beq_false_of_ne fun F=>e (kS.e.2 F.symm);cases W0 j' G m with
    |none=>rfl|some H=>rw[aX,aX,d,this,cX,eV]
  |false=>
   refine⟨_,?_,⟨U7 j' left p.1,b,rfl⟩,rfl⟩;unfold du;simp only;rw[a,p',lF n y (by omega),p',l,zH];congr 4;refine kS.ext_get h (zW q) fun m=>?_;unfold cn;rw[wL _ kS,wL _ kS];by_cases e:m=p.1
   ·subst e;rw[j,aX,aX,d,beq_self_eq_true,aK,iI,zH,l,bE.2 c];rfl
   ·have:(m==p.1)=false:=beq_false_of_ne e;cases W0 j' G m with
    |none=>rfl|some H=>rw[aX,aX,d,this,cX,eV]
 ·obtain⟨p,hp,rfl⟩:=aY.1 i;exact kS.n0.2 ⟨p.2,hp⟩
 ·have e:cn k n (cU Prod.fst G) G=G:=by unfold cn Fe;refine Eq.trans (dI fun p hp=>?_) (List.map_id G);show(p.1,bif(cU Prod.fst G).contains p.1 then p.2 else _)=p;rw[bE.2 (aY.2 ⟨p,hp,rfl⟩)];rfl
  rw[e]
theorem M0.fgt{B:Int}{s:PS}(h:M0 B s){k:Nat}(hk:k<3){G:GM}(a:G.Sublist s.2.1):∀m g,(m,g)∈G->j8 (Q3 k g)/\(Q3 k g).length<=64/\1<=g.2/\g.2<=B:=fun m g b=>
 ⟨(h.gl m g (a.subset b) k hk).1,h.Z4 (a.subset b) hk,(h.gn m g (a.subset b)).2⟩
theorem ln{B:Int}(hB:B<=1099511627776){s:PS}(h:M0 B s)(n:L8){G:GM}(a:G.Sublist s.2.1)(U:UM)(R:RM)(C:CM)(M:MM):LW X' n U G R C M=some (U,qd 0 n G,R,C,M):=by
 unfold LW;rw[show U8 _ (U,G,R,C,M,cU Prod.fst G)=_ from ypQ hB (k:=0) (by decide) (n:=n) (s:=(U,G,R,C,M)) G (h.gR.sublist a) (h.fgt (by decide) a) fun x=>?_,p'];unfold zwM;congr 1;funext p;unfold du zvV zxK;cases W0 j' x.2.1 p.1 with
 |none=>rfl|some g=>
  simp only[p',Q3];cases Ed X' g.1.1 n with
  |none=>rfl|some q=>
   simp only[p'];cases q with
   |false=>rfl|true=>simp only[zF];cases Ik X' g.1.1 n<;>rfl
theorem qn{B:Int}(hB:B<=1099511627776){s:PS}(h:M0 B s)(n:L8){G:GM}(a:G.Sublist s.2.1)(U:UM)(R:RM)(C:CM)(M:MM):NW X' n U G R C M=some (U,qd 1 n G,R,C,M):=by
 unfold NW;rw[show U8 _ (U,G,R,C,M,cU Prod.fst G)=_ from ypQ hB (k:=1) (by decide) (n:=n) (s:=(U,G,R,C,M)) G (h.gR.sublist a) (h.fgt (by decide) a) fun x=>?_,p'];unfold zuT;congr 1;funext p;unfold du zuV zuQ;cases W0 j' x.2.1 p.1 with
 |none=>rfl|some g=>
  simp only[p',Q3];cases Ed X' g.1.2.1 n with
  |none=>rfl|some q=>
   simp only[p'];cases q with
   |false=>rfl|true=>simp only[zF];cases Ik X' g.1.2.1 n<;>rfl
theorem sn{B:Int}(hB:B<=1099511627776){s:PS}(h:M0 B s)(n:L8){G:GM}(a:G.Sublist s.2.1)(U:UM)(R:RM)(C:CM)(M:MM):TW X' n U G R C M=some (U,qd 2 n G,R,C,M):=by
 unfold TW;rw[show U8 _ (U,G,R,C,M,cU Prod.fst G)=_ from ypQ hB (k:=2) (by decide) (n:=n) (s:=(U,G,R,C,M)) G (h.gR.sublist a) (h.fgt (by decide) a) fun x=>?_,p'];unfold zvE;congr 1;funext p;unfold du zuR zvL;cases W0 j' x.2.1 p.1 with
 |none=>rfl|some g=>
  simp only[p',Q3];cases Ed X' g.1.2.2 n with
  |none=>rfl|some q=>
   simp only[p'];cases q with
   |false=>rfl|true=>simp only[zF];cases Ik X' g.1.2.2 n<;>rfl
def Dj(left:kG)(p:L8)(M:MM):MM:=M.filter fun m=>left.contains m.1 || !(m.1.1==p||m.1.2==p)
theorem xcX{M:MM}(l:Ri V9 M)(p:L8)(U:UM)(G:GM)(R:RM)(C:CM):sS X' p U G R C M=some (U,G,R,C,yj p M):=by
 unfold sS zzM
 have e:U8 (fun x:MM×L8×kG=>yeJ X' x.1 x.2.1 x.2.2) (M,p,cU Prod.fst M)=some (yj p M,p):=by
  refine yy.kj (κ:=L8×L8) (γ:=Unit) (fun x=>∃left:kG,x=(Dj left p M,p,left)) (fun x=>x.1) (fun x=>x.2.2) (fun x=>rfl) ?_ ?_ ⟨cU Prod.fst M,?_⟩
  ·rintro x ⟨left,rfl⟩ h;simp only;congr 3;unfold yj Dj;refine iQ fun m b=>?_;cases j:left.contains m.1 with
   |false=>rfl|true=>have:=h m (List.mem_filter.2 ⟨b,by rw[j];rfl⟩);exact absurd (bE.1 j) this
  ·rintro x q ⟨left,rfl⟩ k i;left;simp only at k i ⊢;have a:∀m,(U7 W8 left q.1).contains m=(left.contains m && !(m==q.1)):=fun m=>by rw[dS,bE,yy.oc,aI,bE,bM,<-cM,beq_iff_eq]
   have c:Ri V9 (Dj left p M):=l.sublist List.filter_sublist;have d:W0 W8 (Dj left p M) q.1=some ():=yy.get_mem c (v:=()) k;rw[show W0 (o5 (.pr .s .s)) (Dj left p M) q.1=some ()from d,p'];unfold zoN;cases f:q.1.1==p||q.1.2==p with
   |true=>
    refine⟨_,?_,⟨U7 W8 left q.1,rfl⟩,rfl⟩;have:(bif q.1.1==p then some (true,p)else some ((q.1.2==p),p))=some (true,p):=by
     cases n:q.1.1==p with
     |true=>rfl|false=>rw[n,dB]at f;rw[f];rfl
    rw[this,p'];simp only[zF];congr 3;refine Eq.trans (yy.Zd c q.1) ?_;unfold Dj;rw[List.filter_filter];refine iQ fun m b=>?_;have r:q.1=(q.1.1,q.1.2):=rfl;by_cases e:m.1=q.1
    ·rw[e,a,beq_self_eq_true,f,yy.e.2 rfl];simp
    ·rw[a,beq_false_of_ne e,yy.ne e];simp
   |false=>
    refine⟨_,?_,⟨U7 W8 left q.1,rfl⟩,rfl⟩;have g:=Ut f;rw[g.1,zH,p',g.2];simp only[zH];congr 3;unfold Dj;refine iQ fun m b=>?_;by_cases e:m.1=q.1
    ·rw[e,f];simp
    ·rw[a,beq_false_of_ne e];simp
  ·congr 1;unfold Dj;refine(List.filter_eq_self.2 fun m b=>?_).symm;rw[bE.2 (aY.2 ⟨m,b,rfl⟩)];rfl
 rw[e];rfl
theorem zS(a b:UInt8){n:L8}(h:n.length<=24):X0 ([a,b]:L8) n=some (a::b::n):=by rw[O7 (by simp;omega)];rfl
theorem Zy{B:Int}(hB:B<=1099511627776){s:PS}(h:M0 B s)(n:L8):MW X' n s.1 s.2.1 s.2.2.1 s.2.2.2.1 s.2.2.2.2=some (JH n s):=by
 unfold MW ygL JH;rw[Ig,p'];cases a:U6 n with
 |false=>rfl|true=>
  simp only[aK,zH];cases b:J' j' s.1 n with
  |false=>rfl|true=>unfold zmH;simp only[aK,zH];rw[ln hB h n (List.Sublist.refl _),p',zS _ _ (ph a),p',xcX h.mR,p',p',p']
theorem tF(n:L8)(s:PS):IN X' n s.1 s.2.1 s.2.2.1 s.2.2.2.1 s.2.2.2.2=some (KH n s):=by
 unfold IN KH;rw[Ig,p'];cases U6 n with
 |false=>rfl|true=>
  simp only[aK,zH];cases J' j' s.2.1 n with
  |true=>rfl|false=>
   rw[zH,zH];by_cases h:32<=s.2.1.length
   ·rw[X5 (show(s.2.1.length:Int)≥32 by omega),zA h];rfl
   ·rw[l6 (show ¬(s.2.1.length:Int)≥32 by omega),zB h];rfl
theorem az{B:Int}(hB:B<=1099511627776){s:PS}(h:M0 B s)(n:L8):OW X' n s.1 s.2.1 s.2.2.1 s.2.2.2.1 s.2.2.2.2=some (LH n s):=by
 unfold OW yeR LH;rw[Ig,p'];cases a:U6 n with
 |false=>rfl|true=>
  simp only[aK,zH];cases b:J' j' s.2.1 n with
  |false=>rfl|true=>unfold zlF;simp only[aK,zH];rw[qn hB h n (xy _ _),p',p',p']
theorem bz{B:Int}(hB:B<=1099511627776){s:PS}(h:M0 B s)(n:L8):UW X' n s.1 s.2.1 s.2.2.1 s.2.2.2.1 s.2.2.2.2=some (OH n s):=by
 unfold UW yeL OH;rw[Ig,p'];cases a:U6 n with
 |false=>rfl|true=>
  simp only[aK,zH];cases b:J' j' s.2.2.1 n with
  |false=>rfl|true=>unfold zmG;simp only[aK,zH];rw[sn hB h n (List.Sublist.refl _),p',p',p']
theorem cz{B:Int}{s:PS}(h:M0 B s)(n:L8):WW X' n s.1 s.2.1 s.2.2.1 s.2.2.2.1 s.2.2.2.2=some (QH n s):=by
 unfold WW yeT QH;rw[Ig,p'];cases a:U6 n with
 |false=>rfl|true=>
  simp only[aK,zH];cases b:J' j' s.2.2.2.1 n with
  |false=>rfl|true=>unfold zkK;simp only[aK,zH];rw[zS _ _ (ph a),p',xcX h.mR,p',p',p']
def Xu(k:Nat)(n x:L8)(s:PS):Gr×Int×PS:=bif !U6 n || !U6 x then(zG,120,s)else match W0 j' s.2.1 n with
 |none=>(zG,122,s)|some g=>bif !k9 k s x then(zG,122,s)else(g,0,s)
theorem Ej(n x:L8)(s:PS):vR X' n x s.1 s.2.1 s.2.2.1 s.2.2.2.1 s.2.2.2.2=some (Xu 0 n x s):=by
 unfold vR zzA Xu;rw[Ig,p'];cases U6 n with
 |false=>rfl|true=>
  rw[aK,zH,Ig,p'];cases U6 x with
  |false=>rfl|true=>
   simp only[aK,zH,p',eA];rw[kc,pb];cases W0 j' s.2.1 n with
   |none=>rfl|some g=>simp only[eG,aK,zH];unfold kW;rw[p'];simp only[k9];cases J' j' s.1 x<;>rfl
theorem dz{B:Int}(hB:B<=1099511627776){s:PS}(h:M0 B s)(n x:L8):lW X' n x s.1 s.2.1 s.2.2.1 s.2.2.2.1 s.2.2.2.2=some (Hq 0 n x s):=by
 unfold lW zyF sq;rw[p',Ej,p',p'];unfold Xu Hq;cases j:!U6 n || !U6 x with
 |true=>rfl|false=>
  simp only[zH];cases e:W0 j' s.2.1 n with
  |none=>rfl|some g=>
   have a:=kS.get_some e;have b:j8 g.1.1:=(h.gl n g a 0 (by decide)).1;have k:g.1.1.length<=64:=h.Z4 a (i:=0) (by decide);have l:=(h.gn n g a).2;simp only;cases m:k9 0 s x with
   |false=>rfl|true=>
    simp only[aK,zH];unfold zzB zyW;simp only[bne_self_eq_false,zH,Q3];rw[show Ed X' g.1.1 x=_ from lF x b (by omega),p',p'];simp only;cases c:g.1.1.contains x with
    |true=>rfl|false=>
     have d:x∉g.1.1:=fun d=>by rw[bE.2 d]at c;cases c
     simp only[zH];rw[zI fun f=>absurd f.1 (by decide),p'];simp only;unfold zyQ;rw[show AE X' g.1.1 x=_ from xdR x b (by omega),p',p'];simp only;rw[show P0 (g.2+1)=g.2+1 from oe (by omega) (by omega)];rfl
theorem eu{B:Int}(hB:B<=1099511627776){s:PS}(h:M0 B s)(n x:L8):PW X' n x s.1 s.2.1 s.2.2.1 s.2.2.2.1 s.2.2.2.2=some (Iq 0 n x s):=by
 unfold PW zyY sq;rw[p',Ej,p',p'];unfold Xu Iq;cases d:!U6 n || !U6 x with
 |true=>rfl|false=>
  simp only[zH];cases b:W0 j' s.2.1 n with
  |none=>rfl|some g=>
   have a:=kS.get_some b;have c:j8 g.1.1:=(h.gl n g a 0 (by decide)).1;have e:g.1.1.length<=64:=h.Z4 a (i:=0) (by decide);have f:=(h.gn n g a).2;simp only;cases j:k9 0 s x with
   |false=>rfl|true=>
    simp only[aK,zH];unfold zyU;simp only[bne_self_eq_false,zH,Q3];rw[show Ed X' g.1.1 x=_ from lF x c (by omega),p'];cases k:g.1.1.contains x with
    |false=>rfl|true=>simp only[aK,zH,p'];unfold zyI;rw[show Ik X' g.1.1 x=_ from mX _ x (by omega),p',p'];simp only;rw[show P0 (g.2+1)=g.2+1 from oe (by omega) (by omega)];rfl
theorem Fj(n x:L8)(s:PS):qR X' n x s.1 s.2.1 s.2.2.1 s.2.2.2.1 s.2.2.2.2=some (Xu 1 n x s):=by
 unfold qR yaX Xu;rw[Ig,p'];cases U6 n with
 |false=>rfl|true=>
  rw[aK,zH,Ig,p'];cases U6 x with
  |false=>rfl|true=>
   simp only[aK,zH,p',eA];rw[kc,pb];cases W0 j' s.2.1 n with
   |none=>rfl|some g=>simp only[eG,aK,zH];unfold QV;rw[p'];simp only[k9];cases J' j' s.2.1 x<;>rfl
theorem ez{B:Int}(hB:B<=1099511627776){s:PS}(h:M0 B s)(n x:L8):jW X' n x s.1 s.2.1 s.2.2.1 s.2.2.2.1 s.2.2.2.2=some (Hq 1 n x s):=by
 unfold jW yaP sq;rw[p',Fj,p',p'];unfold Xu Hq;cases l:!U6 n || !U6 x with
 |true=>rfl|false=>
  simp only[zH];cases f:W0 j' s.2.1 n with
  |none=>rfl|some g=>
   have b:=kS.get_some f;have c:j8 g.1.2.1:=(h.gl n g b 1 (by decide)).1;have m:g.1.2.1.length<=64:=h.Z4 b (i:=1) (by decide);have p:=(h.gn n g b).2;simp only;cases q:k9 1 s x with
   |false=>rfl|true=>
    simp only[aK,zH];unfold ybD yaD;simp only[bne_self_eq_false,zH,Q3];rw[show Ed X' g.1.2.1 x=_ from lF x c (by omega),p',p'];simp only;cases d:g.1.2.1.contains x with
    |true=>rfl|false=>
     have e:x∉g.1.2.1:=fun e=>by rw[bE.2 e]at d;cases d
     simp only[zH];obtain⟨r,j,a⟩:=cu h x n;rw[j,p'];cases r with
     |true=>rw[zJ ⟨rfl,a.1 rfl⟩];rfl|false=>rw[zI fun k=>by have:=a.2 k.2;cases this];simp only[zH,p'];unfold yaK;rw[show AE X' g.1.2.1 x=_ from xdR x c (by omega),p',p'];simp only;rw[show P0 (g.2+1)=g.2+1 from oe (by omega) (by omega)];rfl
theorem fu{B:Int}(hB:B<=1099511627776){s:PS}(h:M0 B s)(n x:L8):QW X' n x s.1 s.2.1 s.2.2.1 s.2.2.2.1 s.2.2.2.2=some (Iq 1 n x s):=by
 unfold QW zwD sq;rw[p',Fj,p',p'];unfold Xu Iq;cases d:!U6 n || !U6 x with
 |true=>rfl|false=>
  simp only[zH];cases b:W0 j' s.2.1 n with
  |none=>rfl|some g=>
   have a:=kS.get_some b;have c:j8 g.1.2.1:=(h.gl n g a 1 (by decide)).1;have e:g.1.2.1.length<=64:=h.Z4 a (i:=1) (by decide);have f:=(h.gn n g a).2;simp only;cases j:k9 1 s x with
   |false=>rfl|true=>
    simp only[aK,zH];unfold zwK;simp only[bne_self_eq_false,zH,Q3];rw[show Ed X' g.1.2.1 x=_ from lF x c (by omega),p'];cases k:g.1.2.1.contains x with
    |false=>rfl|true=>simp only[aK,zH,p'];unfold zwB;rw[show Ik X' g.1.2.1 x=_ from mX _ x (by omega),p',p'];simp only;rw[show P0 (g.2+1)=g.2+1 from oe (by omega) (by omega)];rfl
theorem Gj(n x:L8)(s:PS):AR X' n x s.1 s.2.1 s.2.2.1 s.2.2.2.1 s.2.2.2.2=some (Xu 2 n x s):=by
 unfold AR zyS Xu;rw[Ig,p'];cases U6 n with
 |false=>rfl|true=>
  rw[aK,zH,Ig,p'];cases U6 x with
  |false=>rfl|true=>
   simp only[aK,zH,p',eA];rw[kc,pb];cases W0 j' s.2.1 n with
   |none=>rfl|some g=>simp only[eG,aK,zH];unfold oW;rw[p'];simp only[k9];cases J' j' s.2.2.1 x<;>rfl
theorem iz{B:Int}(hB:B<=1099511627776){s:PS}(h:M0 B s)(n x:L8):pW X' n x s.1 s.2.1 s.2.2.1 s.2.2.2.1 s.2.2.2.2=some (Hq 2 n x s):=by
 unfold pW zyV sq;rw[p',Gj,p',p'];unfold Xu Hq;cases j:!U6 n || !U6 x with
 |true=>rfl|false=>
  simp only[zH];cases e:W0 j' s.2.1 n with
  |none=>rfl|some g=>
   have a:=kS.get_some e;have b:j8 g.1.2.2:=(h.gl n g a 2 (by decide)).1;have k:g.1.2.2.length<=64:=h.Z4 a (i:=2) (by decide);have l:=(h.gn n g a).2;simp only;cases m:k9 2 s x with
   |false=>rfl|true=>
    simp only[aK,zH];unfold zyG zyP;simp only[bne_self_eq_false,zH,Q3];rw[show Ed X' g.1.2.2 x=_ from lF x b (by omega),p',p'];simp only;cases c:g.1.2.2.contains x with
    |true=>rfl|false=>
     have d:x∉g.1.2.2:=fun d=>by rw[bE.2 d]at c;cases c
     simp only[zH];rw[zI fun f=>absurd f.1 (by decide),p'];simp only;unfold zzF;rw[show AE X' g.1.2.2 x=_ from xdR x b (by omega),p',p'];simp only;rw[show P0 (g.2+1)=g.2+1 from oe (by omega) (by omega)];rfl
theorem gu{B:Int}(hB:B<=1099511627776){s:PS}(h:M0 B s)(n x:L8):RW X' n x s.1 s.2.1 s.2.2.1 s.2.2.2.1 s.2.2.2.2=some (Iq 2 n x s):=by
 unfold RW zxN sq;rw[p',Gj,p',p'];unfold Xu Iq;cases d:!U6 n || !U6 x with
 |true=>rfl|false=>
  simp only[zH];cases b:W0 j' s.2.1 n with
  |none=>rfl|some g=>
   have a:=kS.get_some b;have c:j8 g.1.2.2:=(h.gl n g a 2 (by decide)).1;have e:g.1.2.2.length<=64:=h.Z4 a (i:=2) (by decide);have f:=(h.gn n g a).2;simp only;cases j:k9 2 s x with
   |false=>rfl|true=>
    simp only[aK,zH];unfold zxJ;simp only[bne_self_eq_false,zH,Q3];rw[show Ed X' g.1.2.2 x=_ from lF x c (by omega),p'];cases k:g.1.2.2.contains x with
    |false=>rfl|true=>simp only[aK,zH,p'];unfold zwH;rw[show Ik X' g.1.2.2 x=_ from mX _ x (by omega),p',p'];simp only;rw[show P0 (g.2+1)=g.2+1 from oe (by omega) (by omega)];rfl
theorem uF{r:Ro}(a:r.2.length<=1048576)(s:PS):yR X' r s.1 s.2.1 s.2.2.1 s.2.2.2.1 s.2.2.2.2=some (MH r s):=by
 unfold yR zvC MH;rw[mF a,p'];cases Gq r with
 |false=>rfl|true=>
  simp only[aK,zH];cases J' j' s.2.2.1 r.1 with
  |true=>simp only[aK,zH,p',gN];rw[nX a,p']|false=>
   simp only[cX,zF,cJ];by_cases h:32<=s.2.2.1.length
   ·rw[X5 (show(s.2.2.1.length:Int)≥32 by omega),zA h];rfl
   ·rw[l6 (show ¬(s.2.2.1.length:Int)≥32 by omega),zB h,p'];simp only[zH];rw[nX a,p']
theorem vF{c:Cl}(d:c.2.1.length<=1048576)(a:c.2.2.1.length<=1048576)(b:c.2.2.2.1.length<=1048576)(s:PS):VW X' c s.1 s.2.1 s.2.2.1 s.2.2.2.1 s.2.2.2.2=some (PH c s):=by
 unfold VW ztA PH;rw[ML d a b,p'];cases Ha c with
 |false=>rfl|true=>
  simp only[aK,zH];cases J' j' s.2.2.2.1 c.1 with
  |true=>simp only[aK,zH,p',gN];rw[oX a b,p']|false=>
   simp only[cX,zF,cJ];by_cases h:32<=s.2.2.2.1.length
   ·rw[X5 (show(s.2.2.2.1.length:Int)≥32 by omega),zA h];rfl
   ·rw[l6 (show ¬(s.2.2.2.1.length:Int)≥32 by omega),zB h,p'];simp only[zH];rw[oX a b,p']
theorem xaA{p:L8}(hp:ia p=true)(s:PS):uH X' p s.1 s.2.1 s.2.2.1 s.2.2.2.1 s.2.2.2.2=some (s9 s p,s):=by
 obtain⟨c,l,rfl,b,_⟩:=GH hp;unfold uH;rw[show idx (c::58::l) (0:Int)=some c from rfl,p'];have a:T4 (c::58::l) (2:Int)=some l:=by unfold T4;rw[zA (show(0:Int)<=2 by decide),zA (show(2:Int)<=((c::58::l).length:Int) by simp only[aQ];omega)];rfl
 rcases b with rfl|rfl
 ·rw[show(((117:UInt8).toNat:Int)==((99:UInt8).toNat:Int))=false from rfl,zH,a,p'];rfl
 ·rw[show(((99:UInt8).toNat:Int)==((99:UInt8).toNat:Int))=true from rfl,zF,a,p'];rfl
def nI(a b:L8)(s:PS):Int:=bif !ia a || !ia b then 120 else bif !s9 s a || !s9 s b then 122 else 0
theorem Nq(a b:L8)(s:PS):tS X' a b s.1 s.2.1 s.2.2.1 s.2.2.2.1 s.2.2.2.2=some (nI a b s,s):=by
 unfold tS yaZ nI;rw[pj,p'];cases c:ia a with
 |false=>rfl|true=>
  rw[aK,zH,pj,p'];cases d:ia b with
  |false=>rfl|true=>
   simp only[aK,zH,p',eA];rw[xaA c,p'];cases s9 s a with
   |false=>rfl|true=>simp only[aK,zH];rw[xaA d,p'];cases s9 s b<;>rfl
theorem jz(a b:L8)(s:PS):YW X' a b s.1 s.2.1 s.2.2.1 s.2.2.2.1 s.2.2.2.2=some (RH a b s):=by
 unfold YW RH;rw[Nq,p'];unfold nI;cases !ia a || !ia b with
 |true=>rfl|false=>
  cases !s9 s a || !s9 s b with
  |true=>rfl|false=>
   simp only[zH,bne_self_eq_false];unfold XE;simp only;rw[p'];simp only;cases h:J' W8 s.2.2.2.2 (a,b) with
   |true=>rw[show J' (o5 (.pr .s .s)) s.2.2.2.2 (a,b)=true from h];rfl|false=>
    rw[show J' (o5 (.pr .s .s)) s.2.2.2.2 (a,b)=false from h,zH,zH];by_cases h:64<=s.2.2.2.2.length
    ·rw[X5 (show(s.2.2.2.2.length:Int)≥64 by omega),zA h];rfl
    ·rw[l6 (show ¬(s.2.2.2.2.length:Int)≥64 by omega),zB h];rfl
theorem wF(a b:L8)(s:PS):ZW X' a b s.1 s.2.1 s.2.2.1 s.2.2.2.1 s.2.2.2.2=some (SH a b s):=by
 unfold ZW SH;rw[Nq,p'];unfold nI;cases !ia a || !ia b with
 |true=>rfl|false=>
  cases !s9 s a || !s9 s b with
  |true=>rfl|false=>
   simp only[zH,bne_self_eq_false];unfold XE;simp only;rw[p'];simp only;cases h:J' W8 s.2.2.2.2 (a,b) with
   |true=>rw[show J' (o5 (.pr .s .s)) s.2.2.2.2 (a,b)=true from h];rfl|false=>rw[show J' (o5 (.pr .s .s)) s.2.2.2.2 (a,b)=false from h];rfl
abbrev Yu:Type:=Int×Int×L8×L8×Bool×Ro×Cl
noncomputable def UA(o:Yu)(s:PS):Int×PS:=
 bif o.2.1==0 then HH o.2.2.1 o.2.2.2.1 s else bif o.2.1==1 then IH o.2.2.1 o.2.2.2.1 s else bif o.2.1==2 then QE o.2.2.1 o.2.2.2.2.1 s else bif o.2.1==3 then JH o.2.2.1 s else bif o.2.1==4 then KH o.2.2.1 s else bif o.2.1==5 then LH o.2.2.1 s else
 bif o.2.1==6 then Hq 0 o.2.2.1 o.2.2.2.1 s else bif o.2.1==7 then Iq 0 o.2.2.1 o.2.2.2.1 s else bif o.2.1==8 then Hq 1 o.2.2.1 o.2.2.2.1 s else bif o.2.1==9 then Iq 1 o.2.2.1 o.2.2.2.1 s else bif o.2.1==10 then Hq 2 o.2.2.1 o.2.2.2.1 s else bif o.2.1==11 then Iq 2 o.2.2.1 o.2.2.2.1 s else
 bif o.2.1==12 then MH o.2.2.2.2.2.1 s else bif o.2.1==13 then OH o.2.2.1 s else bif o.2.1==14 then PH o.2.2.2.2.2.2 s else bif o.2.1==15 then QH o.2.2.1 s else bif o.2.1==16 then RH o.2.2.1 o.2.2.2.1 s else bif o.2.1==17 then SH o.2.2.1 o.2.2.2.1 s else(0,s)
def kz(o:Yu):Prop:=o.2.2.2.2.2.1.2.length<=1048576/\o.2.2.2.2.2.2.2.1.length<=1048576/\o.2.2.2.2.2.2.2.2.1.length<=1048576/\o.2.2.2.2.2.2.2.2.2.1.length<=1048576
theorem qh{d:Type}{c:Bool}{a b:Option d}{x y:d}(h:a=some x)(k:b=some y):(bif c then a else b)=some (bif c then x else y):=by cases c<;>assumption
theorem xF{B:Int}(hB:B<=1099511627776){s:PS}(h:M0 B s){o:Yu}(a:kz o):jX X' o s.1 s.2.1 s.2.2.1 s.2.2.2.1 s.2.2.2.2=some (UA o s):=by obtain⟨b,c,d,e⟩:=a;unfold jX UA;refine qh (by rw[pF];rfl) (qh (by rw[qF hB h];rfl) (qh (by rw[rF hB h];rfl) (qh (by rw[Zy hB h];rfl) (qh (by rw[tF];rfl) (qh (by rw[az hB h];rfl) ?_)))));unfold mW zsL tR zqL qW ztN;refine qh (by rw[dz hB h];rfl) (qh (by rw[eu hB h];rfl) (qh (by rw[ez hB h];rfl) (qh (by rw[fu hB h];rfl) (qh (by rw[iz hB h];rfl) (qh (by rw[gu hB h];rfl) ?_)))));exact qh (by rw[uF b];rfl) (qh (by rw[bz hB h];rfl) (qh (by rw[vF c d e];rfl) (qh (by rw[cz h];rfl) (qh (by rw[jz];rfl) (qh (by rw[wF];rfl) rfl)))))
theorem rh{a:Type}{P:a->Prop}{c:Bool}{x y:a}(h:P x)(k:P y):P (bif c then x else y):=by cases c<;>assumption
theorem lz{B:Int}(hB:1<=B){s:PS}(h:M0 B s)(o:Yu):M0 (B+1) (UA o s).2:=by have m:∀{t:PS},M0 B t->M0 (B+1) t:=fun h=>h.mono (by omega);unfold UA;let P:Int×PS->Prop:=fun r=>M0 (B+1) r.2;refine rh (P:=P) (m (My h hB)) (rh (P:=P) (Ny h) (rh (P:=P) (Oy h) (rh (P:=P) (Wt h) (rh (P:=P) (Qy h hB) (rh (P:=P) (Xt h) ?_)))));refine rh (P:=P) (yxI (by decide) h hB) (rh (P:=P) (ytE (by decide) h hB) (rh (P:=P) (yxI (by decide) h hB) (rh (P:=P) (ytE (by decide) h hB) (rh (P:=P) (yxI (by decide) h hB) (rh (P:=P) (ytE (by decide) h hB) ?_)))));exact rh (P:=P) (m (Ry h)) (rh (P:=P) (Yt h) (rh (P:=P) (m (Sy h)) (rh (P:=P) (m (Zt h)) (rh (P:=P) (m (au h)) (rh (P:=P) (m (Uy h)) (m h))))))
end Go.Proofs.YtopanhneegpgcaaGreatDoor.Am
