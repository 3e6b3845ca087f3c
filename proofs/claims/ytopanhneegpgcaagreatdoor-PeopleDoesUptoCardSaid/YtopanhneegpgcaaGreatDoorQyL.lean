/- Parts of one proof. Conditions: as each theorem says. -/
import Derived.KernelRfl
import Derived.Test.YtopanhneegpgcaaGreatDoorQyK
open List renaming map->cU
open Go.Proofs.Tryz renaming prog->aA
open Go.Op renaming bytesLess->j9
open Go.Proofs.Tryz renaming func101->O0,func132->G4,func174->G9,func199->N9,func212->F8,func84->O1
open Go.Proofs.Tryz
namespace Go.Proofs.YtopanhneegpgcaaGreatDoor.Am
abbrev _root_.Go.Proofs.Ek{a b r:Type}(f:a->b->r)(x:a×b):r:=f x.1 x.2
abbrev _root_.Go.Proofs.JV{a b c r:Type}(f:a->b->c->r)(x:a×b×c):r:=f x.1 x.2.1 x.2.2
abbrev _root_.Go.Proofs.rq{a b c d e r:Type}(f:a->b->c->d->e->r)(x:a×b×c×d×e):r:=f x.1 x.2.1 x.2.2.1 x.2.2.2.1 x.2.2.2.2
abbrev _root_.Go.Proofs.Y9{a b c d e g r:Type}(f:a->b->c->d->e->g->r)(x:a×b×c×d×e×g):r:=f x.1 x.2.1 x.2.2.1 x.2.2.2.1 x.2.2.2.2.1 x.2.2.2.2.2
abbrev _root_.Go.Proofs.Aa{a b c d e g h r:Type}(f:a->b->c->d->e->g->h->r)(x:a×b×c×d×e×g×h):r:=f x.1 x.2.1 x.2.2.1 x.2.2.2.1 x.2.2.2.2.1 x.2.2.2.2.2.1 x.2.2.2.2.2.2
abbrev _root_.Go.Proofs.uN8{a b c d e g h i r:Type}(f:a->b->c->d->e->g->h->i->r)(x:a×b×c×d×e×g×h×i):r:=f x.1 x.2.1 x.2.2.1 x.2.2.2.1 x.2.2.2.2.1 x.2.2.2.2.2.1 x.2.2.2.2.2.2.1 x.2.2.2.2.2.2.2
abbrev _root_.Go.Proofs.uN10{a b c d e g h i j k r:Type}(f:a->b->c->d->e->g->h->i->j->k->r)(x:a×b×c×d×e×g×h×i×j×k):r:=f x.1 x.2.1 x.2.2.1 x.2.2.2.1 x.2.2.2.2.1 x.2.2.2.2.2.1 x.2.2.2.2.2.2.1 x.2.2.2.2.2.2.2.1 x.2.2.2.2.2.2.2.2.1 x.2.2.2.2.2.2.2.2.2
abbrev _root_.Go.Proofs.uN11{b c d e g h i j k l a r:Type}(f:b->c->d->e->g->h->i->j->k->l->a->r)(x:b×c×d×e×g×h×i×j×k×l×a):r:=f x.1 x.2.1 x.2.2.1 x.2.2.2.1 x.2.2.2.2.1 x.2.2.2.2.2.1 x.2.2.2.2.2.2.1 x.2.2.2.2.2.2.2.1 x.2.2.2.2.2.2.2.2.1 x.2.2.2.2.2.2.2.2.2.1 x.2.2.2.2.2.2.2.2.2.2
open Go Go.RowKit
def Yi:TE:=[(3,⟨.int .i64,1,[.v (.i .i64) (show Int from 0)],(.i .i64),8⟩),
 (4,⟨.b,1,[.v .b (show Bool from false)],.b,1⟩),
 (9,⟨.s,1,[.v .s (show Bs from [])],.s,16⟩),
 (22,⟨.sl 9,1,[.Y'],(.sl .s),24⟩),
 (25,⟨.fn,1,[.xb],.un,8⟩),
 (31,⟨.sl 33,1,[.Y'],(.sl (.pr .s .s)),24⟩),
 (33,⟨.st [(9,0),(9,1)],2,[.v .s (show Bs from []),.v .s (show Bs from [])],(.pr .s .s),32⟩),
 (34,⟨.pt 128,1,[.v7],.un,8⟩),
 (49,⟨.st [(9,0),(22,1)],2,[.v .s (show Bs from []),.Y'],(.pr .s (.sl .s)),40⟩),
 (51,⟨.st [(9,0),(9,1),(22,2),(22,3),(4,4),(4,5),(4,6),(4,7)],8,[.v .s (show Bs from []),.v .s (show Bs from []),.Y',.Y',.v .b (show Bool from false),.v .b (show Bool from false),.v .b (show Bool from false),.v .b (show Bool from false)],(.pr .s (.pr .s (.pr (.sl .s) (.pr (.sl .s) (.pr .b (.pr .b (.pr .b .b))))))),88⟩),
 (54,⟨.sl 57,1,[.Y'],(.sl (.pr .s (.pr (.sl .s) (.pr (.sl .s) (.pr (.sl .s) (.i .i64)))))),24⟩),
 (57,⟨.st [(9,0),(22,1),(22,2),(22,3),(3,4)],5,[.v .s (show Bs from []),.Y',.Y',.Y',.v (.i .i64) (show Int from 0)],(.pr .s (.pr (.sl .s) (.pr (.sl .s) (.pr (.sl .s) (.i .i64))))),96⟩),
 (64,⟨.sl 51,1,[.Y'],(.sl (.pr .s (.pr .s (.pr (.sl .s) (.pr (.sl .s) (.pr .b (.pr .b (.pr .b .b)))))))),24⟩),
 (67,⟨.sl 77,1,[.Y'],(.sl (.pr .s (.pr .s (.pr .b (.i .i64))))),24⟩),
 (69,⟨.sl 49,1,[.Y'],(.sl (.pr .s (.sl .s))),24⟩),
 (72,⟨.sl 75,1,[.Y'],(.sl (.pr .s .s)),24⟩),
 (75,⟨.st [(9,0),(9,1)],2,[.v .s (show Bs from []),.v .s (show Bs from [])],(.pr .s .s),32⟩),
 (77,⟨.st [(9,0),(9,1),(4,2),(3,3)],4,[.v .s (show Bs from []),.v .s (show Bs from []),.v .b (show Bool from false),.v (.i .i64) (show Int from 0)],(.pr .s (.pr .s (.pr .b (.i .i64)))),48⟩),
 (106,⟨.sJ,1,[.v .er (show Bool from false)],.er,16⟩),
 (122,⟨.map 9 77,1,[.z6],(.mp .s (.pr .s (.pr .s (.pr .b (.i .i64))))),8⟩),
 (123,⟨.map 9 133,1,[.z6],(.mp .s (.pr (.pr (.sl .s) (.pr (.sl .s) (.sl .s))) (.i .i64))),8⟩),
 (124,⟨.map 9 49,1,[.z6],(.mp .s (.pr .s (.sl .s))),8⟩),
 (125,⟨.map 9 51,1,[.z6],(.mp .s (.pr .s (.pr .s (.pr (.sl .s) (.pr (.sl .s) (.pr .b (.pr .b (.pr .b .b)))))))),8⟩),
 (126,⟨.map 75 157,1,[.z6],(.mp (.pr .s .s) .un),8⟩),
 (128,⟨.st [(122,0),(123,1),(124,2),(125,3),(126,4)],5,[.z6,.z6,.z6,.z6,.z6],(.pr (.mp .s (.pr .s (.pr .s (.pr .b (.i .i64))))) (.pr (.mp .s (.pr (.pr (.sl .s) (.pr (.sl .s) (.sl .s))) (.i .i64))) (.pr (.mp .s (.pr .s (.sl .s))) (.pr (.mp .s (.pr .s (.pr .s (.pr (.sl .s) (.pr (.sl .s) (.pr .b (.pr .b (.pr .b .b)))))))) (.mp (.pr .s .s) .un))))),40⟩),
 (131,⟨.ar 3 22,3,[.Y',.Y',.Y'],(.pr (.sl .s) (.pr (.sl .s) (.sl .s))),72⟩),
 (133,⟨.st [(131,0),(3,3)],4,[.Y',.Y',.Y',.v (.i .i64) (show Int from 0)],(.pr (.pr (.sl .s) (.pr (.sl .s) (.sl .s))) (.i .i64)),80⟩),
 (157,⟨.st [],0,[],.un,0⟩),
 (160,⟨.map 9 157,1,[.z6],(.mp .s .un),8⟩),
 (183,⟨.st [(22,0),(4,1)],2,[.Y',.v .b (show Bool from false)],(.pr (.sl .s) .b),32⟩),
 (187,⟨.st [(3,0),(25,1)],2,[.v (.i .i64) (show Int from 0),.xb],.un,16⟩),
 (188,⟨.ar 3 187,6,[.v (.i .i64) (show Int from 0),.xb,.v (.i .i64) (show Int from 0),.xb,.v (.i .i64) (show Int from 0),.xb],.un,48⟩),
 (197,⟨.sl 22,1,[.Y'],(.sl (.sl .s)),24⟩),
 (201,⟨.int .u64,1,[.v (.i .u64) (show UInt64 from 0)],(.i .u64),8⟩),
 (237,⟨.map 9 22,1,[.z6],(.mp .s (.sl .s)),8⟩)]
theorem V8:P3 aA Yi:=NG (by kernel_rfl) (by kernel_rfl)
theorem sH:Tryz.prog.follows .mixedOrders=true:=by kernel_rfl
theorem zcL {G : List (Nat × Obj)} {o : D'} [kb G] [Xa G o] {Γ : CT} {η : HT} {f : FuncId} {fn : Func} {c : SC} (a : ∀ B, GB G B -> X6 aA Γ B) (hf : Tryz.prog.funcs[f]? = some fn) (i : (fn.name == "runtime.NumGoroutine") = false := by kernel_rfl) (j : fn.body.isNone = false := by kernel_rfl) (l : Nat.ble c.I.sl.length fn.ntmps = true := by kernel_rfl) (r : Nat.beq fn.results.toList.length c.nr = true := by kernel_rfl) (e : Ms Yi Γ η fn c.I c.outs = c.p := by kernel_rfl) : P' aA G f c := jc (G := G) (o := o) <| af sH V8 a hf (Y5 hf i j) l r e
theorem Z7 {G : List (Nat × Obj)} (o : D') [kb G] [Xa G o] (η : HT) (A : List (Nat × PC)) (B : List (Nat × SC)) {f : FuncId} {fn : Func} {c : SC} (x : PL aA G A) (y : SL aA G B) (hf : Tryz.prog.funcs[f]? = some fn) (i : (fn.name == "runtime.NumGoroutine") = false := by kernel_rfl) (j : fn.body.isNone = false := by kernel_rfl) (l : Nat.ble c.I.sl.length fn.ntmps = true := by kernel_rfl) (r : Nat.beq fn.results.toList.length c.nr = true := by kernel_rfl) (e : Ms Yi ⟨A, B, false, []⟩ η fn c.I c.outs = c.p := by kernel_rfl) : P' aA G f c := zcL (o := o) (η := η) (Γ := ⟨A, B, false, []⟩) (X4 x y) hf i j l r e
theorem zqH {G : List (Nat × Obj)} {o : D'} [kb G] [Xa G o] {Γ : CT} {η : HT} {f : FuncId} {fn : Func} {c : PC} (a : ∀ B, GB G B -> X6 aA Γ B) (hf : Tryz.prog.funcs[f]? = some fn) (i : (fn.name == "runtime.NumGoroutine") = false := by kernel_rfl) (j : fn.body.isNone = false := by kernel_rfl) (l : Nat.ble c.ash.length fn.ntmps = true := by kernel_rfl) (r : c.cl = false := by kernel_rfl) (e : zw Yi Γ η fn c.ash c.rts = c.p := by kernel_rfl) : Z0 aA G f c := jc (G := G) (o := o) <| Ze sH V8 a hf (Y5 hf i j) l r e
theorem pd {G : List (Nat × Obj)} (o : D') [kb G] [Xa G o] (η : HT) (A : List (Nat × PC)) (B : List (Nat × SC)) {f : FuncId} {fn : Func} {c : PC} (x : PL aA G A) (y : SL aA G B) (hf : Tryz.prog.funcs[f]? = some fn) (i : (fn.name == "runtime.NumGoroutine") = false := by kernel_rfl) (j : fn.body.isNone = false := by kernel_rfl) (l : Nat.ble c.ash.length fn.ntmps = true := by kernel_rfl) (r : c.cl = false := by kernel_rfl) (e : zw Yi ⟨A, B, false, []⟩ η fn c.ash c.rts = c.p := by kernel_rfl) : Z0 aA G f c := zqH (o := o) (η := η) (Γ := ⟨A, B, false, []⟩) (X4 x y) hf i j l r e
abbrev Tu:Type:=(kE)×Bool
abbrev Fk:Type:=Bs×kE
abbrev Ta:Type:=List Fk
abbrev Lt:Ty:=.pr .s (.sl .s)
abbrev kh:Type:=Bs×Bs×Bool×Int
abbrev wE:Ty:=.pr .s (.pr .s (.pr .b (.i .i64)))
abbrev zaM:Type:=Bs×Fk
abbrev n2:Type:=List zaM
abbrev zaN:Type:=Bs×kh
abbrev P2:Type:=List zaN
abbrev Gk:Type:=(kE×kE×kE)×Int
abbrev ef:Ty:=.pr (.pr (.sl .s) (.pr (.sl .s) (.sl .s))) (.i .i64)
abbrev OA:Type:=Bs×kE×kE×kE×Int
abbrev ff:Ty:=.pr .s (.pr (.sl .s) (.pr (.sl .s) (.pr (.sl .s) (.i .i64))))
abbrev zaL:Type:=Bs×Gk
abbrev Q1:Type:=List zaL
abbrev jf:Type:=Bs×Bs×kE×kE×Bool×Bool×Bool×Bool
abbrev Mt:Ty:=.pr .s (.pr .s (.pr (.sl .s) (.pr (.sl .s) (.pr .b (.pr .b (.pr .b .b))))))
abbrev zaO:Type:=Bs×jf
abbrev Q2:Type:=List zaO
abbrev V7:Type:=(List (Bs×kh))×(List (Bs×Gk))×(List (Bs×Fk))×(List (Bs×jf))×kC
abbrev j4:X3:=.N' 128 [(.mpr 1),(.mpr 2),(.mpr 3),(.mpr 4),(.mpr 5)]
abbrev yb:X3:=.N' 128 [(.mpr 2),(.mpr 3),(.mpr 4),(.mpr 5),(.mpr 6)]
abbrev lh:X3:=.N' 133 [(.h (.sl .s)),(.h (.sl .s)),(.h (.sl .s)),hI]
abbrev kf:X3:=.N' 133 [.Y',.Y',.Y',hI]
abbrev Em:X3:=.N' 183 [(.h (.sl .s)),hB]
abbrev Zi:X3:=.N' 34 [(.ptr 0 0)]
abbrev Ee:X3:=.N' 34 [(.ptr 1 0)]
abbrev my:X3:=.N' 160 [(.mpr 1)]
abbrev xE:X3:=.N' 237 [(.mpr 1)]
abbrev ny:X3:=.N' 237 [(.mpr 7)]
abbrev Fm:X3:=.mp false .s wE
abbrev yE:X3:=.mp false .s ef
abbrev Gm:X3:=.mp false .s Lt
abbrev oy:X3:=.N' 31 [(.own 1)]
abbrev Hm:X3:=.N' 31 [(.own 2)]
abbrev Eg:X3:=.N' 31 [(.own 8)]
abbrev GN:X3:=.N' 31 [(.own 7)]
abbrev X2:X3:=.mp true .s wE
abbrev r3:X3:=.mp true .s ef
abbrev Y2:X3:=.mp true .s Lt
abbrev U2:X3:=.mp true .s Mt
abbrev Fg:X3:=.mp true .s .un
section
variable {tabs:List (Nat×Obj)}[kb tabs]{o:D'}[Xa tabs o]
def dL(_o:D'):Option (V7):=
 some (([]:P2),([]:Q1),([]:n2),([]:Q2),([]:kC))
def KV(o:D'):SC:=⟨⟨[],[]⟩,1,[(none,⟨[(0,(.ptr 0 0))],[j4,X2,r3,Y2,U2,Z']⟩)],fun _=>dL o⟩
theorem ygO:P' aA tabs 30 (KV o):=Z7 o [] [] [] ⟨⟩ ⟨⟩ func30
def kL(o:D')(a:Bs)(b:Int)(c:Bs):Option (Bool):=
 bif(a != ([]:Bs))then(bif decide ((a.length:Int)<=b)then((o.trim a c).bind fun d=>some (d==([]:Bs)))else(some false))else(some false)
def ykO(o:D'):PC:=⟨[hS,hI,hS],[.b],fun x=>kL o x.1 x.2.1 x.2.2,false⟩
theorem yqH:Z0 aA tabs 63 (ykO o):=pd o [] [(164,(IV o))] [] ⟨(Xa.trim (G:=tabs)),⟨⟩⟩ ⟨⟩ func63
def Ec(o:D')(a:Bs):Option (Bool):=
 (kL o a 24 ([97,98,99,100,101,102,103,104,105,106,107,108,109,110,111,112,113,114,115,116,117,118,119,120,121,122,48,49,50,51,52,53,54,55,56,57,46,95,45]:Bs)).bind fun b=>some b
def Hk(o:D'):PC:=⟨[hS],[.b],fun x=>Ec o x,false⟩
theorem Im:Z0 aA tabs 13 (Hk o):=pd o [] [(63,(ykO o))] [] ⟨yqH,⟨⟩⟩ ⟨⟩ func13
def nR(_o:D')(a:Int):Option (Bool):=
 bif decide (a<33)then(some true)else(some (decide (a>126)))
def yiH(o:D'):PC:=⟨[(.h (.i .i32))],[.b],fun x=>nR o x,false⟩
theorem yqZ:Z0 aA tabs 66 (yiH o):=pd o [] [] [] ⟨⟩ ⟨⟩ func66
def MV(o:D')(c:Bool)(a:Bs)(b:Int):Option ((Bs×Int)⊕(Int⊕Unit)):=
 bif decide (b.toNat<a.length)then((nR o (Lu a b.toNat)).bind fun d=>bif(d==c)then some (.inr (.inl (b.toNat:Int)))else some (.inl (a,(Vr a b.toNat:Int))))else some (.inr (.inr ()))
def NV(o:D')(a:Bs)(b:Bool):Option (Int):=
 (iter (fun x=>MV o b x.1 x.2) (a,0)).bind fun c=>match c with
 |.inl d=>some d|.inr _=>some (-1:Int)
def ycA(o:D'):SC:=⟨⟨[(0,hS),(1,(.fn 66 [] [])),(2,hB)],[]⟩,1,[(none,⟨[(0,hI)],[]⟩)],Ek (NV o)⟩
theorem ylX:P' aA tabs 240 (ycA o):=Z7 o [(200002,.loop [] ⟨[(1,(.fn 66 [] [])),(10,(.ptr 0 0))],[.is]⟩ [2] [(some 1000000,⟨[(6,hI)],[]⟩),(some 0,⟨[],[]⟩)])] [(66,(yiH o))] [] ⟨yqZ,⟨⟩⟩ ⟨⟩ func240
def OV(o:D')(a:Bs):Option (Int):=
 (NV o a true).bind fun b=>some b
def ybZ(o:D'):SC:=⟨⟨[(0,hS),(1,(.fn 66 [] []))],[]⟩,1,[(none,⟨[(0,hI)],[]⟩)],fun x=>OV o x⟩
theorem ylZ:P' aA tabs 166 (ybZ o):=Z7 o [] [] [(240,(ycA o))] ⟨⟩ ⟨ylX,⟨⟩⟩ func166
def oR(o:D')(a:Bs):Option (Bool):=
 (OV o a).bind fun b=>some (decide (b≥0))
def zwG(o:D'):SC:=⟨⟨[(0,hS),(1,(.fn 66 [] []))],[]⟩,1,[(none,⟨[(0,hB)],[]⟩)],fun x=>oR o x⟩
theorem yhN:P' aA tabs 65 (zwG o):=Z7 o [] [] [(166,(ybZ o))] ⟨⟩ ⟨ylZ,⟨⟩⟩ func65
def py(o:D')(a:Bs):Option (Bool):=
 bif(a != ([]:Bs))then(bif decide ((a.length:Int)<=128)then((oR o a).bind fun b=>some (!b))else(some false))else(some false)
def pR(o:D'):PC:=⟨[hS],[.b],fun x=>py o x,false⟩
theorem PV:Z0 aA tabs 15 (pR o):=pd o [] [] [(65,(zwG o))] ⟨⟩ ⟨yhN,⟨⟩⟩ func15
def zuN(o:D')(f:Bs)(g:Bs)(a:P2)(b:Q1)(c:n2)(d:Q2)(e:kC):Option ((Int×V7)⊕V7):=
 (Ec o f).bind fun h=>bif(!h)then some (.inl (120,a,b,c,d,e))else((py o g).bind fun i=>bif(!i)then some (.inl (120,a,b,c,d,e))else some (.inr (a,b,c,d,e)))
def HN(o:D')(b:Bs)(c:Bs)(d:P2)(e:Q1)(f:n2)(g:Q2)(h:kC):Option ((Int×V7)):=
 (zuN o b c d e f g h).bind fun i=>match i with
 |.inl j=>some j|.inr a=>(let _:kh:=r6 j' a.1 b (([]:Bs),([]:Bs),false,0)
 bif J' j' a.1 b then some (121,a)else(bif decide ((a.1.length:Int)≥64)then some (124,a)else(let k:P2:=Y0 j' O' a.1 b (b,c,true,1)
 some (0,k,a.2))))
def zoA(o:D'):SC:=⟨⟨[(0,(.ptr 0 0)),(1,hS),(2,hS)],[j4,X2,r3,Y2,U2,Z']⟩,1,[(none,⟨[(0,hI)],[j4,Fm,r3,Y2,U2,Z']⟩)],Aa (HN o)⟩
theorem zvM:P' aA tabs 71 (zoA o):=Z7 o [(2000003,.join [] [1,2] [(some 1000000,⟨[(6,hI)],[j4,X2,r3,Y2,U2,Z']⟩),(none,⟨[(0,(.ptr 0 0))],[j4,X2,r3,Y2,U2,Z']⟩)])] [(13,(Hk o)),(15,(pR o))] [] ⟨Im,⟨PV,⟨⟩⟩⟩ ⟨⟩ func71
def IN(o:D')(b:Bs)(c:P2)(a:Q1)(d:n2)(e:Q2)(f:kC):Option ((Int×V7)):=
 (Ec o b).bind fun g=>bif(!g)then some (120,c,a,d,e,f)else(let _:Gk:=r6 j' a b ((([]:kE),([]:kE),([]:kE)),0)
 bif J' j' a b then some (121,c,a,d,e,f)else(bif decide ((a.length:Int)≥32)then some (124,c,a,d,e,f)else(let h:Q1:=Y0 j' O' a b ((([]:kE),([]:kE),([]:kE)),1)
 some (0,c,h,d,e,f))))
def znG(o:D'):SC:=⟨⟨[(0,(.ptr 0 0)),(1,hS)],[j4,X2,r3,Y2,U2,Z']⟩,1,[(none,⟨[(0,hI)],[j4,X2,yE,Y2,U2,Z']⟩)],Y9 (IN o)⟩
theorem ztQ:P' aA tabs 72 (znG o):=Z7 o [] [(13,(Hk o))] [] ⟨Im,⟨⟩⟩ ⟨⟩ func72
def sq(_o:D')(a:P2)(b:Q1)(c:n2)(d:Q2)(e:kC):Option (V7):=
 some (a,b,c,d,e)
def tH(o:D'):SC:=⟨⟨[(0,(.ptr 0 0))],[j4,X2,r3,Y2,U2,Z']⟩,1,[(none,⟨[(0,(.ag [(.kn .i64 0),(.fn 244 [] [(.ptr 6 0)]),(.kn .i64 1),(.fn 245 [] [(.ptr 6 0)]),(.kn .i64 2),(.fn 246 [] [(.ptr 6 0)])]))],[j4,X2,r3,Y2,U2,Z',Zi]⟩)],rq (sq o)⟩
theorem nL:P' aA tabs 173 (tH o):=Z7 o [] [] [] ⟨⟩ ⟨⟩ func173
def QV(_o:D')(b:Bs)(c:P2)(a:Q1)(d:n2)(e:Q2)(f:kC):Option ((Bool×V7)):=
 let _:Gk:=r6 j' a b ((([]:kE),([]:kE),([]:kE)),0)
 some (J' j' a b,c,a,d,e,f)
def zoJ(o:D'):SC:=⟨⟨[(0,hS),(1,(.ptr 0 0))],[Ee,yb,X2,r3,Y2,U2,Z']⟩,1,[(none,⟨[(0,hB)],[Ee,yb,X2,r3,Y2,U2,Z']⟩)],Y9 (QV o)⟩
theorem zuU:P' aA tabs 245 (zoJ o):=Z7 o [] [] [] ⟨⟩ ⟨⟩ func245
def yaX(o:D')(f:Bs)(g:Bs)(a:P2)(b:Q1)(c:n2)(d:Q2)(e:kC):Option ((Int×P2×Q1×n2×Q2×kC×Int)⊕(P2×Q1×n2×Q2×kC×Int)):=
 (Ec o f).bind fun h=>bif(!h)then some (.inl (120,a,b,c,d,e,0))else((Ec o g).bind fun i=>bif(!i)then some (.inl (120,a,b,c,d,e,0))else some (.inr (a,b,c,d,e,0)))
def qR(o:D')(c:Bs)(e:Bs)(f:P2)(g:Q1)(h:n2)(i:Q2)(j:kC):Option ((Gk×Int×V7)):=
 (yaX o c e f g h i j).bind fun k=>match k with
 |.inl b=>some (((([]:kE),([]:kE),([]:kE)),b.2.2.2.2.2.2),b.1,b.2.1,b.2.2.1,b.2.2.2.1,b.2.2.2.2.1,b.2.2.2.2.2.1)|.inr a=>(let l:Gk:=r6 j' a.2.1 c ((([]:kE),([]:kE),([]:kE)),0)
 bif(!(J' j' a.2.1 c))then some (((([]:kE),([]:kE),([]:kE)),0),122,a.1,a.2.1,a.2.2.1,a.2.2.2.1,a.2.2.2.2.1)else((QV o e a.1 a.2.1 a.2.2.1 a.2.2.2.1 a.2.2.2.2.1).bind fun d=>bif(!d.1)then some (((([]:kE),([]:kE),([]:kE)),0),122,d.2)else some (l,0,d.2)))
def zsK(o:D'):SC:=⟨⟨[(0,(.ptr 0 0)),(1,hS),(2,(.ag [(.kn .i64 1),(.fn 245 [] [(.ptr 1 0)])])),(3,hS)],[yb,Zi,X2,r3,Y2,U2,Z']⟩,2,[(none,⟨[(0,(.h ef)),(1,hI)],[yb,Zi,X2,r3,Y2,U2,Z']⟩)],Aa (qR o)⟩
theorem yaJ:P' aA tabs 199 (zsK o):=Z7 o [(2000003,.join [] [1,3] [(some 1000000,⟨[(8,(.ptr 7 0)),(9,hI)],[yb,Zi,X2,r3,Y2,U2,Z',kf]⟩),(none,⟨[(0,(.ptr 0 0)),(6,(.ptr 7 0)),(8,(.ptr 8 0))],[yb,Zi,X2,r3,Y2,U2,Z',.N' 187 [(.kn .i64 1),(.fn 245 [] [(.ptr 1 0)])],kf]⟩)])] [(13,(Hk o))] [(245,(zoJ o))] ⟨Im,⟨⟩⟩ ⟨zuU,⟨⟩⟩ N9
def RV(_o:D')(a:Bs):Option (Bool):=
 some (a != a)
def yqF(o:D'):PC:=⟨[hS],[.b],fun x=>RV o x,false⟩
theorem xbF:Z0 aA tabs 307 (yqF o):=pd o [] [] [] ⟨⟩ ⟨⟩ func307
def TV(o:D')(a:Bs)(b:Bs):Option (Bool):=
 (RV o a).bind fun c=>bif c then((RV o b).bind fun d=>bif(!d)then(some true)else(some (j9 a b)))else(some (j9 a b))
def ysR(o:D'):PC:=⟨[hS,hS],[.b],fun x=>TV o x.1 x.2,false⟩
theorem xeM:Z0 aA tabs 268 (ysR o):=pd o [] [(307,(yqF o))] [] ⟨xbF,⟨⟩⟩ ⟨⟩ func268
def VV(_o:D')(a:Bs):Option (Bool):=
 some (a != a)
def ykX(o:D'):PC:=⟨[hS],[.b],fun x=>VV o x,false⟩
theorem ytR:Z0 aA tabs 278 (ykX o):=pd o [] [] [] ⟨⟩ ⟨⟩ func278
def WV(o:D')(d:kE)(e:Bs)(a:Int)(b:Int):Option ((Int×Int)⊕Int):=
 bif decide (a<b)then((o6 (decide (0<=((1:UInt64).toNat:Int)))).bind fun _=>let c:UInt64:=i64 (xc .u64 ((i64 (P0 (a+b))).toNat:Int) ((1:UInt64).toNat:Int))
 (idx d (P0 (c.toNat:Int))).bind fun f=>(TV o f e).bind fun g=>bif g then some (.inl (P0 ((P0 (c.toNat:Int))+1),b))else some (.inl (a,P0 (c.toNat:Int))))else some (.inr a)
def sR(o:D')(b:kE)(c:Bs):Option (Int×Bool):=
 (iter (fun x=>WV o b c x.1 x.2) (0,(b.length:Int))).bind fun a=>bif decide (a<(b.length:Int))then((idx b a).bind fun d=>bif(d==c)then(some (a,true))else((idx b a).bind fun e=>(VV o e).bind fun f=>bif f then((VV o c).bind fun g=>some (a,g))else(some (a,false))))else(some (a,false))
def zqU(o:D'):PC:=⟨[(.h (.sl .s)),hS],[(.i .i64),.b],fun x=>sR o x.1 x.2,false⟩
theorem zyH:Z0 aA tabs 213 (zqU o):=pd o [(200003,.loop [] ⟨[(7,hI),(8,hI)],[]⟩ [0,1,4,5,6] [(some 0,⟨[(7,hI)],[]⟩)])] [(268,(ysR o)),(278,(ykX o))] [] ⟨xeM,⟨ytR,⟨⟩⟩⟩ ⟨⟩ func213
def Ed(o:D')(a:kE)(b:Bs):Option (Bool):=
 (sR o a b).bind fun c=>some c.2
def qy(o:D'):PC:=⟨[(.h (.sl .s)),hS],[.b],fun x=>Ed o x.1 x.2,false⟩
theorem PA:Z0 aA tabs 131 (qy o):=pd o [] [(213,(zqU o))] [] ⟨zyH,⟨⟩⟩ ⟨⟩ func131
def XV(_o:D')(j:Gk)(b:Int)(d:P2)(e:Q1)(f:n2)(g:Q2)(h:kC)(a:List (Bs×Unit))(i:kE):Option ((Int×P2×Q1×n2×Q2×kC×(List (Bs×Unit))×kE)⊕((P2×Q1×n2×Q2×kC×(List (Bs×Unit))×kE))):=
 bif decide (b<(j.1.2.1.length:Int))then((idx j.1.2.1 b).bind fun c=>let _:Unit:=r6 j' a c ()
 bif(!(J' j' a c))then(let k:List (Bs×Unit):=Y0 j' O' a c ()
 (X0 i ([c]:kE)).bind fun l=>some (.inl (P0 (b+1),d,e,f,g,h,k,l)))else some (.inl (P0 (b+1),d,e,f,g,h,a,i)))else some (.inr (d,e,f,g,h,a,i))
def YV(o:D')(h:Bs)(d:P2)(c:Q1)(e:n2)(f:Q2)(g:kC)(i:List (Bs×Unit))(b:kE):Option ((P2×Q1×n2×Q2×kC×(List (Bs×Unit))×kE)⊕((Bool×V7)⊕V7)):=
 bif decide ((b.length:Int)>0)then((o6 (decide ((0:Int)<=0)&&decide (0<(b.length:Int)))).bind fun _=>(idx b 0).bind fun j=>bif(j==h)then some (.inr (.inl (true,d,c,e,f,g)))else((o6 (decide ((0:Int)<=0)&&decide (0<(b.length:Int)))).bind fun _=>(idx b 0).bind fun k=>let l:Gk:=r6 j' c k ((([]:kE),([]:kE),([]:kE)),0)
 (iter (fun x=>XV o l x.1 x.2.1 x.2.2.1 x.2.2.2.1 x.2.2.2.2.1 x.2.2.2.2.2.1 x.2.2.2.2.2.2.1 x.2.2.2.2.2.2.2) (0,d,c,e,f,g,i,b)).bind fun a=>(T4 a.2.2.2.2.2.2 1).bind fun m=>some (.inl (a.1,a.2.1,a.2.2.1,a.2.2.2.1,a.2.2.2.2.1,a.2.2.2.2.2.1,m))))else some (.inr (.inr (d,c,e,f,g)))
def ZV(o:D')(a:Bs)(b:Bs)(c:P2)(d:Q1)(e:n2)(f:Q2)(g:kC):Option ((Bool×V7)):=
 let h:List (Bs×Unit):=Y0 j' O' ([]:List (Bs×Unit)) a ()
 (iter (fun x=>YV o b x.1 x.2.1 x.2.2.1 x.2.2.2.1 x.2.2.2.2.1 x.2.2.2.2.2.1 x.2.2.2.2.2.2) (c,d,e,f,g,h,([a]:kE))).bind fun i=>match i with
 |.inl j=>some j|.inr k=>some (false,k)
def zwL(o:D'):SC:=⟨⟨[(0,(.ptr 0 0)),(1,hS),(2,hS)],[j4,X2,r3,Y2,U2,Z']⟩,1,[(none,⟨[(0,hB)],[j4,X2,r3,Y2,U2,Z']⟩)],Aa (ZV o)⟩
theorem yhW:P' aA tabs 200 (zwL o):=Z7 o [(200008,.loop [] ⟨[(0,(.ptr 0 0)),(7,(.mpr 6)),(8,(.own 7)),(40,hI)],[j4,X2,r3,Y2,U2,Z',Fg,.qu .s 9]⟩ [2,38,39] [(some 2,⟨[(0,(.ptr 0 0)),(7,(.mpr 6)),(8,(.own 7))],[j4,X2,r3,Y2,U2,Z',Fg,.qu .s 9]⟩)]),
 (200003,.loop [.qu 8] ⟨[(0,(.ptr 0 0)),(7,(.mpr 6)),(8,(.own 7))],[j4,X2,r3,Y2,U2,Z',Fg,.qu .s 9]⟩ [2] [(some 1000000,⟨[(6,hB)],[j4,X2,r3,Y2,U2,Z']⟩),(some 0,⟨[],[j4,X2,r3,Y2,U2,Z']⟩)]),
 (4000007,.x7 (j7 0 12))] [] [] ⟨⟩ ⟨⟩ func200
def oL:SC:=⟨⟨[(0,(.h (.sl .s)))],[]⟩,1,[(none,⟨[(0,(.own 0))],[.H' .s 9]⟩)],fun a=>X0 [] a⟩
theorem JN:P' aA tabs 198 oL:=Ce (G:=tabs)<|Px sH V8 func198 (Y5 func198) rfl (by kernel_rfl) (by kernel_rfl) (by kernel_rfl) (fun _=>by kernel_rfl)
def xbP:SC:=⟨⟨[(0,(.own 0)),(1,hI),(2,(.own 1))],[.H' .s 9,.H' .s 9]⟩,1,[(none,⟨[(0,(.own 2))],[.dead,.dead,.H' .s 9]⟩)],kq⟩
theorem Nt:P' aA tabs 261 xbP:=Ce (G:=tabs)<|insK
def AE(o:D')(a:kE)(b:Bs):Option kE:=
 (sR o a b).bind fun c=>(X0 ([]:kE) a).bind fun d=>((fun i f g=>kq (i,f,g)) c.1 d ([b]:kE)).bind fun e=>some e
def hW(o:D'):PC:=⟨[(.h (.sl .s)),hS],[(.sl .s)],fun x=>AE o x.1 x.2,false⟩
theorem yeZ:Z0 aA tabs 201 (hW o):=pd o [] [(213,(zqU o))] [(198,oL),(261,xbP)] ⟨zyH,⟨⟩⟩ ⟨JN,⟨Nt,⟨⟩⟩⟩ func201
def yaP(o:D')(c:Bs)(d:Bs)(e:P2)(f:Q1)(g:n2)(h:Q2)(i:kC):Option ((Int×P2×Q1×n2×Q2×kC×kE×kE×kE×Int)):=
 (sq o e f g h i).bind fun b=>(qR o c d b.1 b.2.1 b.2.2.1 b.2.2.2.1 b.2.2.2.2).bind fun a=>some (a.2.1,a.2.2.1,a.2.2.2.1,a.2.2.2.2.1,a.2.2.2.2.2.1,a.2.2.2.2.2.2,a.1.1.1,a.1.1.2.1,a.1.1.2.2,a.1.2)
def yaD(o:D')(b:Bs)(a:Int×P2×Q1×n2×Q2×kC×kE×kE×kE×Int):Option ((Bool×P2×Q1×n2×Q2×kC×kE×kE×kE×Int)):=
 (Ed o a.2.2.2.2.2.2.2.1 b).bind fun c=>some (c,a.2)
def ybD(o:D')(e:Bs)(d:Bs)(b:Int×P2×Q1×n2×Q2×kC×kE×kE×kE×Int):Option ((Int×V7)⊕(P2×Q1×n2×Q2×kC×kE×kE×kE×Int)):=
 bif(b.1 != 0)then some (.inl (b.1,b.2.1,b.2.2.1,b.2.2.2.1,b.2.2.2.2.1,b.2.2.2.2.2.1))else((yaD o d b).bind fun a=>bif a.1 then some (.inl (121,a.2.1,a.2.2.1,a.2.2.2.1,a.2.2.2.2.1,a.2.2.2.2.2.1))else((ZV o d e a.2.1 a.2.2.1 a.2.2.2.1 a.2.2.2.2.1 a.2.2.2.2.2.1).bind fun c=>bif c.1 then some (.inl (123,c.2))else some (.inr (c.2.1,c.2.2.1,c.2.2.2.1,c.2.2.2.2.1,c.2.2.2.2.2,a.2.2.2.2.2.2))))
def yaK(o:D')(b:Bs)(a:P2×Q1×n2×Q2×kC×kE×kE×kE×Int):Option ((P2×Q1×n2×Q2×kC×kE×kE×kE×Int)):=
 (AE o a.2.2.2.2.2.2.1 b).bind fun c=>some (a.1,a.2.1,a.2.2.1,a.2.2.2.1,a.2.2.2.2.1,a.2.2.2.2.2.1,c,a.2.2.2.2.2.2.2)
def jW(o:D')(b:Bs)(c:Bs)(d:P2)(e:Q1)(f:n2)(g:Q2)(h:kC):Option ((Int×V7)):=
 (yaP o b c d e f g h).bind fun i=>(ybD o b c i).bind fun j=>match j with
 |.inl k=>some k|.inr l=>((yaK o c l).bind fun a=>let m:Q1:=Y0 j' O' a.2.1 b ((a.2.2.2.2.2.1,a.2.2.2.2.2.2.1,a.2.2.2.2.2.2.2.1),P0 (a.2.2.2.2.2.2.2.2+1))
 some (0,a.1,m,a.2.2.1,a.2.2.2.1,a.2.2.2.2.1))
def yaY(o:D'):SC:=⟨⟨[(0,(.ptr 0 0)),(1,hS),(2,(.kn .i64 1)),(3,hS)],[j4,X2,r3,Y2,U2,Z']⟩,1,[(none,⟨[(0,hI)],[j4,X2,yE,Y2,U2,Z']⟩)],Aa (jW o)⟩
theorem yjY:P' aA tabs 101 (yaY o):=Z7 o [(2100000,.join [] [1,2,3] [(none,⟨[(0,(.ptr 0 0)),(9,(.ptr 6 0)),(10,hI)],[j4,X2,r3,Y2,U2,Z',lh]⟩)]),
 (2300005,.join [] [1,2,3] [(none,⟨[(0,(.ptr 0 0)),(9,(.ptr 6 0)),(26,hB)],[j4,X2,r3,Y2,U2,Z',lh]⟩)]),
 (2000008,.join [] [1,2,3] [(some 1000000,⟨[(8,hI)],[j4,X2,r3,Y2,U2,Z']⟩),(none,⟨[(0,(.ptr 0 0)),(9,(.ptr 6 0))],[j4,X2,r3,Y2,U2,Z',lh]⟩)]),
 (2000009,.join [] [1] [(none,⟨[(0,(.ptr 0 0)),(9,(.ptr 6 0))],[j4,X2,r3,Y2,U2,Z',lh]⟩)]),
 (4000010,.x7 (j7 0 6++[(.mn,6,[0,1,2,3,4,5,6])]))] [(131,(qy o)),(201,(hW o))] [(173,(tH o)),(199,(zsK o)),(200,(zwL o))] ⟨PA,⟨yeZ,⟨⟩⟩⟩ ⟨nL,⟨yaJ,⟨yhW,⟨⟩⟩⟩⟩ O0
def tR(o:D')(a:Bs)(b:Bs)(c:P2)(d:Q1)(e:n2)(f:Q2)(g:kC):Option ((Int×V7)):=
 (jW o a b c d e f g).bind fun h=>some h
def zsB(o:D'):SC:=⟨⟨[(0,(.ptr 0 0)),(1,hS),(2,hS)],[j4,X2,r3,Y2,U2,Z']⟩,1,[(none,⟨[(0,hI)],[j4,X2,yE,Y2,U2,Z']⟩)],Aa (tR o)⟩
theorem yaA:P' aA tabs 33 (zsB o):=Z7 o [] [] [(101,(yaY o))] ⟨⟩ ⟨yjY,⟨⟩⟩ func33
def kW(_o:D')(b:Bs)(a:P2)(c:Q1)(d:n2)(e:Q2)(f:kC):Option ((Bool×V7)):=
 let _:kh:=r6 j' a b (([]:Bs),([]:Bs),false,0)
 some (J' j' a b,a,c,d,e,f)
def zoK(o:D'):SC:=⟨⟨[(0,hS),(1,(.ptr 0 0))],[Ee,yb,X2,r3,Y2,U2,Z']⟩,1,[(none,⟨[(0,hB)],[Ee,yb,X2,r3,Y2,U2,Z']⟩)],Y9 (kW o)⟩
theorem zuY:P' aA tabs 244 (zoK o):=Z7 o [] [] [] ⟨⟩ ⟨⟩ func244
def zzA(o:D')(f:Bs)(g:Bs)(a:P2)(b:Q1)(c:n2)(d:Q2)(e:kC):Option ((Int×P2×Q1×n2×Q2×kC×Int)⊕(P2×Q1×n2×Q2×kC×Int)):=
 (Ec o f).bind fun h=>bif(!h)then some (.inl (120,a,b,c,d,e,0))else((Ec o g).bind fun i=>bif(!i)then some (.inl (120,a,b,c,d,e,0))else some (.inr (a,b,c,d,e,0)))
def vR(o:D')(c:Bs)(e:Bs)(f:P2)(g:Q1)(h:n2)(i:Q2)(j:kC):Option ((Gk×Int×V7)):=
 (zzA o c e f g h i j).bind fun k=>match k with
 |.inl b=>some (((([]:kE),([]:kE),([]:kE)),b.2.2.2.2.2.2),b.1,b.2.1,b.2.2.1,b.2.2.2.1,b.2.2.2.2.1,b.2.2.2.2.2.1)|.inr a=>(let l:Gk:=r6 j' a.2.1 c ((([]:kE),([]:kE),([]:kE)),0)
 bif(!(J' j' a.2.1 c))then some (((([]:kE),([]:kE),([]:kE)),0),122,a.1,a.2.1,a.2.2.1,a.2.2.2.1,a.2.2.2.2.1)else((kW o e a.1 a.2.1 a.2.2.1 a.2.2.2.1 a.2.2.2.2.1).bind fun d=>bif(!d.1)then some (((([]:kE),([]:kE),([]:kE)),0),122,d.2)else some (l,0,d.2)))
def zrE(o:D'):SC:=⟨⟨[(0,(.ptr 0 0)),(1,hS),(2,(.ag [(.kn .i64 0),(.fn 244 [] [(.ptr 1 0)])])),(3,hS)],[yb,Zi,X2,r3,Y2,U2,Z']⟩,2,[(none,⟨[(0,(.h ef)),(1,hI)],[yb,Zi,X2,r3,Y2,U2,Z']⟩)],Aa (vR o)⟩
theorem zxZ:P' aA tabs 199 (zrE o):=Z7 o [(2000003,.join [] [1,3] [(some 1000000,⟨[(8,(.ptr 7 0)),(9,hI)],[yb,Zi,X2,r3,Y2,U2,Z',kf]⟩),(none,⟨[(0,(.ptr 0 0)),(6,(.ptr 7 0)),(8,(.ptr 8 0))],[yb,Zi,X2,r3,Y2,U2,Z',.N' 187 [(.kn .i64 0),(.fn 244 [] [(.ptr 1 0)])],kf]⟩)])] [(13,(Hk o))] [(244,(zoK o))] ⟨Im,⟨⟩⟩ ⟨zuY,⟨⟩⟩ N9
def zyF(o:D')(c:Bs)(d:Bs)(e:P2)(f:Q1)(g:n2)(h:Q2)(i:kC):Option ((Int×P2×Q1×n2×Q2×kC×kE×kE×kE×Int)):=
 (sq o e f g h i).bind fun b=>(vR o c d b.1 b.2.1 b.2.2.1 b.2.2.2.1 b.2.2.2.2).bind fun a=>some (a.2.1,a.2.2.1,a.2.2.2.1,a.2.2.2.2.1,a.2.2.2.2.2.1,a.2.2.2.2.2.2,a.1.1.1,a.1.1.2.1,a.1.1.2.2,a.1.2)
def zyW(o:D')(b:Bs)(a:Int×P2×Q1×n2×Q2×kC×kE×kE×kE×Int):Option ((Bool×P2×Q1×n2×Q2×kC×kE×kE×kE×Int)):=
 (Ed o a.2.2.2.2.2.2.1 b).bind fun c=>some (c,a.2)
def zzB(o:D')(c:Bs)(a:Int×P2×Q1×n2×Q2×kC×kE×kE×kE×Int):Option ((Int×V7)⊕(P2×Q1×n2×Q2×kC×kE×kE×kE×Int)):=
 bif(a.1 != 0)then some (.inl (a.1,a.2.1,a.2.2.1,a.2.2.2.1,a.2.2.2.2.1,a.2.2.2.2.2.1))else((zyW o c a).bind fun b=>bif b.1 then some (.inl (121,b.2.1,b.2.2.1,b.2.2.2.1,b.2.2.2.2.1,b.2.2.2.2.2.1))else some (.inr b.2))
def zyQ(o:D')(b:Bs)(a:P2×Q1×n2×Q2×kC×kE×kE×kE×Int):Option ((P2×Q1×n2×Q2×kC×kE×kE×kE×Int)):=
 (AE o a.2.2.2.2.2.1 b).bind fun c=>some (a.1,a.2.1,a.2.2.1,a.2.2.2.1,a.2.2.2.2.1,c,a.2.2.2.2.2.2)
def lW(o:D')(c:Bs)(b:Bs)(d:P2)(e:Q1)(f:n2)(g:Q2)(h:kC):Option ((Int×V7)):=
 (zyF o c b d e f g h).bind fun i=>(zzB o b i).bind fun j=>match j with
 |.inl k=>some k|.inr l=>((zyQ o b l).bind fun a=>let m:Q1:=Y0 j' O' a.2.1 c ((a.2.2.2.2.2.1,a.2.2.2.2.2.2.1,a.2.2.2.2.2.2.2.1),P0 (a.2.2.2.2.2.2.2.2+1))
 some (0,a.1,m,a.2.2.1,a.2.2.2.1,a.2.2.2.2.1))
def zyK(o:D'):SC:=⟨⟨[(0,(.ptr 0 0)),(1,hS),(2,(.kn .i64 0)),(3,hS)],[j4,X2,r3,Y2,U2,Z']⟩,1,[(none,⟨[(0,hI)],[j4,X2,yE,Y2,U2,Z']⟩)],Aa (lW o)⟩
theorem yiV:P' aA tabs 101 (zyK o):=Z7 o [(2100000,.join [] [1,2,3] [(none,⟨[(0,(.ptr 0 0)),(9,(.ptr 6 0)),(10,hI)],[j4,X2,r3,Y2,U2,Z',lh]⟩)]),
 (2300005,.join [] [1,2,3] [(none,⟨[(0,(.ptr 0 0)),(9,(.ptr 6 0)),(26,hB)],[j4,X2,r3,Y2,U2,Z',lh]⟩)]),
 (2000008,.join [] [1,2,3] [(some 1000000,⟨[(8,hI)],[j4,X2,r3,Y2,U2,Z']⟩),(none,⟨[(0,(.ptr 0 0)),(9,(.ptr 6 0))],[j4,X2,r3,Y2,U2,Z',lh]⟩)]),
 (2000009,.join [] [1] [(none,⟨[(0,(.ptr 0 0)),(9,(.ptr 6 0))],[j4,X2,r3,Y2,U2,Z',lh]⟩)]),
 (4000010,.x7 (j7 0 6++[(.mn,6,[0,1,2,3,4,5,6])]))] [(131,(qy o)),(201,(hW o))] [(173,(tH o)),(199,(zrE o))] ⟨PA,⟨yeZ,⟨⟩⟩⟩ ⟨nL,⟨zxZ,⟨⟩⟩⟩ O0
def mW(o:D')(a:Bs)(b:Bs)(c:P2)(d:Q1)(e:n2)(f:Q2)(g:kC):Option ((Int×V7)):=
 (lW o a b c d e f g).bind fun h=>some h
def zsI(o:D'):SC:=⟨⟨[(0,(.ptr 0 0)),(1,hS),(2,hS)],[j4,X2,r3,Y2,U2,Z']⟩,1,[(none,⟨[(0,hI)],[j4,X2,yE,Y2,U2,Z']⟩)],Aa (mW o)⟩
theorem ybF:P' aA tabs 73 (zsI o):=Z7 o [] [] [(101,(zyK o))] ⟨⟩ ⟨yiV,⟨⟩⟩ func73
def pL(o:D')(a:Bs):Option (Bool):=
 (kL o a 32 ([97,98,99,100,101,102,103,104,105,106,107,108,109,110,111,112,113,114,115,116,117,118,119,120,121,122,48,49,50,51,52,53,54,55,56,57,46,95,45,58]:Bs)).bind fun b=>some b
def yjP(o:D'):PC:=⟨[hS],[.b],fun x=>pL o x,false⟩
theorem yuT:Z0 aA tabs 17 (yjP o):=pd o [] [(63,(ykO o))] [] ⟨yqH,⟨⟩⟩ ⟨⟩ func17
def ydE(o:D')(b:kE)(a:Int):Option (Int⊕(Bool⊕Unit)):=
 bif decide (a<(b.length:Int))then((idx b a).bind fun c=>(pL o c).bind fun e=>bif(!e)then some (.inr (.inl false))else(bif decide (a>0)then((idx b (P0 (a-1))).bind fun d=>bif(j9 c d||c==d)then some (.inr (.inl false))else some (.inl (P0 (a+1))))else some (.inl (P0 (a+1)))))else some (.inr (.inr ()))
def wR(o:D')(a:kE)(b:Int):Option (Bool):=
 (iter (ydE o a) 0).bind fun c=>match c with
 |.inl d=>some d|.inr _=>some (decide ((a.length:Int)<=b))
def ydP(o:D'):SC:=⟨⟨[(0,(.h (.sl .s))),(1,hI),(2,(.fn 17 [] []))],[]⟩,1,[(none,⟨[(0,hB)],[]⟩)],Ek (wR o)⟩
theorem ylJ:P' aA tabs 174 (ydP o):=Z7 o [(200002,.loop [] ⟨[(2,(.fn 17 [] [])),(11,hI)],[]⟩ [0,1,9,10] [(some 1000000,⟨[(6,hB)],[]⟩),(some 0,⟨[],[]⟩)])] [(17,(yjP o))] [] ⟨yuT,⟨⟩⟩ ⟨⟩ G9
def xR(o:D')(a:Fk):Option (Bool):=
 (Ec o a.1).bind fun b=>bif b then((wR o a.2 16).bind fun c=>some c)else(some false)
def yfB(o:D'):PC:=⟨[(.h Lt)],[.b],fun x=>xR o x,false⟩
theorem ymG:Z0 aA tabs 104 (yfB o):=pd o [] [(13,(Hk o))] [(174,(ydP o))] ⟨Im,⟨⟩⟩ ⟨ylJ,⟨⟩⟩ func104
def qL:PC:=⟨[.h (.sl .s)],[(.sl .s)],fun a=>some a,true⟩
theorem KN:Z0 aA tabs 61 qL:=Ce (G:=tabs)<|xfP sH V8 func61 (Y5 func61) rfl (by kernel_rfl) (fun _=>by kernel_rfl)
def LN(_o:D')(a:Fk):Option Fk:=
 (X0 ([]:kE) a.2).bind fun b=>some (a.1,b)
def nW(o:D'):PC:=⟨[(.h Lt)],[Lt],fun x=>LN o x,false⟩
theorem ztK:Z0 aA tabs 105 (nW o):=pd o [] [(61,qL)] [(198,oL)] ⟨KN,⟨⟩⟩ ⟨JN,⟨⟩⟩ func105
def zvC(_o:D')(b:Fk)(c:P2)(d:Q1)(a:n2)(e:Q2)(f:kC):Option ((Int×V7)⊕(P2×Q1×n2×Q2×kC×Fk)):=
 let _:Fk:=r6 j' a b.1 (([]:Bs),([]:kE))
 bif(!(J' j' a b.1))then(bif decide ((a.length:Int)≥32)then some (.inl (124,c,d,a,e,f))else some (.inr (c,d,a,e,f,b)))else some (.inr (c,d,a,e,f,b))
def yR(o:D')(b:Fk)(c:P2)(d:Q1)(e:n2)(f:Q2)(g:kC):Option ((Int×V7)):=
 (xR o b).bind fun h=>bif(!h)then some (120,c,d,e,f,g)else((zvC o b c d e f g).bind fun i=>match i with
 |.inl j=>some j|.inr a=>((LN o a.2.2.2.2.2).bind fun k=>let l:n2:=Y0 j' O' a.2.2.1 a.2.2.2.2.2.1 k
 some (0,a.1,a.2.1,l,a.2.2.2.1,a.2.2.2.2.1)))
def zoF(o:D'):SC:=⟨⟨[(0,(.ptr 0 0)),(1,(.h Lt))],[j4,X2,r3,Y2,U2,Z']⟩,1,[(none,⟨[(0,hI)],[j4,X2,r3,Gm,U2,Z']⟩)],Y9 (yR o)⟩
theorem zuW:P' aA tabs 36 (zoF o):=Z7 o [(2000006,.join [] [] [(some 1000000,⟨[(4,hI)],[j4,X2,r3,Y2,U2,Z']⟩),(none,⟨[(0,(.ptr 0 0)),(3,(.ptr 6 0))],[j4,X2,r3,Y2,U2,Z',.N' 49 [hS,(.h (.sl .s))]]⟩)]),
 (4000003,.x7 (j7 0 9++[(.pu,9,[7]),(.mn,10,[]),(.mn,11,[7]),(.pu,12,[])])),
 (4000006,.x7 (j7 0 7++[(.mn,7,[]),(.mn,8,[0,1,2,3,4,5,6])]))] [(104,(yfB o)),(105,(nW o))] [] ⟨ymG,⟨ztK,⟨⟩⟩⟩ ⟨⟩ func36
def oW(_o:D')(b:Bs)(c:P2)(d:Q1)(a:n2)(e:Q2)(f:kC):Option ((Bool×V7)):=
 let _:Fk:=r6 j' a b (([]:Bs),([]:kE))
 some (J' j' a b,c,d,a,e,f)
def zoO(o:D'):SC:=⟨⟨[(0,hS),(1,(.ptr 0 0))],[Ee,yb,X2,r3,Y2,U2,Z']⟩,1,[(none,⟨[(0,hB)],[Ee,yb,X2,r3,Y2,U2,Z']⟩)],Y9 (oW o)⟩
theorem zvD:P' aA tabs 246 (zoO o):=Z7 o [] [] [] ⟨⟩ ⟨⟩ func246
def zyS(o:D')(f:Bs)(g:Bs)(a:P2)(b:Q1)(c:n2)(d:Q2)(e:kC):Option ((Int×P2×Q1×n2×Q2×kC×Int)⊕(P2×Q1×n2×Q2×kC×Int)):=
 (Ec o f).bind fun h=>bif(!h)then some (.inl (120,a,b,c,d,e,0))else((Ec o g).bind fun i=>bif(!i)then some (.inl (120,a,b,c,d,e,0))else some (.inr (a,b,c,d,e,0)))
def AR(o:D')(c:Bs)(e:Bs)(f:P2)(g:Q1)(h:n2)(i:Q2)(j:kC):Option ((Gk×Int×V7)):=
 (zyS o c e f g h i j).bind fun k=>match k with
 |.inl b=>some (((([]:kE),([]:kE),([]:kE)),b.2.2.2.2.2.2),b.1,b.2.1,b.2.2.1,b.2.2.2.1,b.2.2.2.2.1,b.2.2.2.2.2.1)|.inr a=>(let l:Gk:=r6 j' a.2.1 c ((([]:kE),([]:kE),([]:kE)),0)
 bif(!(J' j' a.2.1 c))then some (((([]:kE),([]:kE),([]:kE)),0),122,a.1,a.2.1,a.2.2.1,a.2.2.2.1,a.2.2.2.2.1)else((oW o e a.1 a.2.1 a.2.2.1 a.2.2.2.1 a.2.2.2.2.1).bind fun d=>bif(!d.1)then some (((([]:kE),([]:kE),([]:kE)),0),122,d.2)else some (l,0,d.2)))
def zqZ(o:D'):SC:=⟨⟨[(0,(.ptr 0 0)),(1,hS),(2,(.ag [(.kn .i64 2),(.fn 246 [] [(.ptr 1 0)])])),(3,hS)],[yb,Zi,X2,r3,Y2,U2,Z']⟩,2,[(none,⟨[(0,(.h ef)),(1,hI)],[yb,Zi,X2,r3,Y2,U2,Z']⟩)],Aa (AR o)⟩
theorem zyA:P' aA tabs 199 (zqZ o):=Z7 o [(2000003,.join [] [1,3] [(some 1000000,⟨[(8,(.ptr 7 0)),(9,hI)],[yb,Zi,X2,r3,Y2,U2,Z',kf]⟩),(none,⟨[(0,(.ptr 0 0)),(6,(.ptr 7 0)),(8,(.ptr 8 0))],[yb,Zi,X2,r3,Y2,U2,Z',.N' 187 [(.kn .i64 2),(.fn 246 [] [(.ptr 1 0)])],kf]⟩)])] [(13,(Hk o))] [(246,(zoO o))] ⟨Im,⟨⟩⟩ ⟨zvD,⟨⟩⟩ N9
def zyV(o:D')(c:Bs)(d:Bs)(e:P2)(f:Q1)(g:n2)(h:Q2)(i:kC):Option ((Int×P2×Q1×n2×Q2×kC×kE×kE×kE×Int)):=
 (sq o e f g h i).bind fun b=>(AR o c d b.1 b.2.1 b.2.2.1 b.2.2.2.1 b.2.2.2.2).bind fun a=>some (a.2.1,a.2.2.1,a.2.2.2.1,a.2.2.2.2.1,a.2.2.2.2.2.1,a.2.2.2.2.2.2,a.1.1.1,a.1.1.2.1,a.1.1.2.2,a.1.2)
def zyP(o:D')(b:Bs)(a:Int×P2×Q1×n2×Q2×kC×kE×kE×kE×Int):Option ((Bool×P2×Q1×n2×Q2×kC×kE×kE×kE×Int)):=
 (Ed o a.2.2.2.2.2.2.2.2.1 b).bind fun c=>some (c,a.2)
def zyG(o:D')(c:Bs)(a:Int×P2×Q1×n2×Q2×kC×kE×kE×kE×Int):Option ((Int×V7)⊕(P2×Q1×n2×Q2×kC×kE×kE×kE×Int)):=
 bif(a.1 != 0)then some (.inl (a.1,a.2.1,a.2.2.1,a.2.2.2.1,a.2.2.2.2.1,a.2.2.2.2.2.1))else((zyP o c a).bind fun b=>bif b.1 then some (.inl (121,b.2.1,b.2.2.1,b.2.2.2.1,b.2.2.2.2.1,b.2.2.2.2.2.1))else some (.inr b.2))
def zzF(o:D')(b:Bs)(a:P2×Q1×n2×Q2×kC×kE×kE×kE×Int):Option ((P2×Q1×n2×Q2×kC×kE×kE×kE×Int)):=
 (AE o a.2.2.2.2.2.2.2.1 b).bind fun c=>some (a.1,a.2.1,a.2.2.1,a.2.2.2.1,a.2.2.2.2.1,a.2.2.2.2.2.1,a.2.2.2.2.2.2.1,c,a.2.2.2.2.2.2.2.2)
def pW(o:D')(c:Bs)(b:Bs)(d:P2)(e:Q1)(f:n2)(g:Q2)(h:kC):Option ((Int×V7)):=
 (zyV o c b d e f g h).bind fun i=>(zyG o b i).bind fun j=>match j with
 |.inl k=>some k|.inr l=>((zzF o b l).bind fun a=>let m:Q1:=Y0 j' O' a.2.1 c ((a.2.2.2.2.2.1,a.2.2.2.2.2.2.1,a.2.2.2.2.2.2.2.1),P0 (a.2.2.2.2.2.2.2.2+1))
 some (0,a.1,m,a.2.2.1,a.2.2.2.1,a.2.2.2.2.1))
def zyN(o:D'):SC:=⟨⟨[(0,(.ptr 0 0)),(1,hS),(2,(.kn .i64 2)),(3,hS)],[j4,X2,r3,Y2,U2,Z']⟩,1,[(none,⟨[(0,hI)],[j4,X2,yE,Y2,U2,Z']⟩)],Aa (pW o)⟩
theorem yjH:P' aA tabs 101 (zyN o):=Z7 o [(2100000,.join [] [1,2,3] [(none,⟨[(0,(.ptr 0 0)),(9,(.ptr 6 0)),(10,hI)],[j4,X2,r3,Y2,U2,Z',lh]⟩)]),
 (2300005,.join [] [1,2,3] [(none,⟨[(0,(.ptr 0 0)),(9,(.ptr 6 0)),(26,hB)],[j4,X2,r3,Y2,U2,Z',lh]⟩)]),
 (2000008,.join [] [1,2,3] [(some 1000000,⟨[(8,hI)],[j4,X2,r3,Y2,U2,Z']⟩),(none,⟨[(0,(.ptr 0 0)),(9,(.ptr 6 0))],[j4,X2,r3,Y2,U2,Z',lh]⟩)]),
 (2000009,.join [] [1] [(none,⟨[(0,(.ptr 0 0)),(9,(.ptr 6 0))],[j4,X2,r3,Y2,U2,Z',lh]⟩)]),
 (4000010,.x7 (j7 0 6++[(.mn,6,[0,1,2,3,4,5,6])]))] [(131,(qy o)),(201,(hW o))] [(173,(tH o)),(199,(zqZ o))] ⟨PA,⟨yeZ,⟨⟩⟩⟩ ⟨nL,⟨zyA,⟨⟩⟩⟩ O0
def qW(o:D')(a:Bs)(b:Bs)(c:P2)(d:Q1)(e:n2)(f:Q2)(g:kC):Option ((Int×V7)):=
 (pW o a b c d e f g).bind fun h=>some h
def zsM(o:D'):SC:=⟨⟨[(0,(.ptr 0 0)),(1,hS),(2,hS)],[j4,X2,r3,Y2,U2,Z']⟩,1,[(none,⟨[(0,hI)],[j4,X2,yE,Y2,U2,Z']⟩)],Aa (qW o)⟩
theorem yaC:P' aA tabs 74 (zsM o):=Z7 o [] [] [(101,(zyN o))] ⟨⟩ ⟨yjH,⟨⟩⟩ func74
def Uu(o:D')(a:Bs):Option (Bool):=
 bif decide ((a.length:Int)>2)then((Z6 a 2).bind fun b=>bif(b==([117,58]:Bs))then((T4 a 2).bind fun c=>(Ec o c).bind fun d=>some d)else((Z6 a 2).bind fun e=>bif(e==([99,58]:Bs))then((T4 a 2).bind fun f=>(Ec o f).bind fun g=>some g)else(some false)))else(some false)
def rW(o:D'):PC:=⟨[hS],[.b],fun x=>Uu o x,false⟩
theorem zuJ:Z0 aA tabs 19 (rW o):=pd o [] [(13,(Hk o))] [] ⟨Im,⟨⟩⟩ ⟨⟩ func19
def uH(_o:D')(c:Bs)(a:P2)(d:Q1)(e:n2)(b:Q2)(f:kC):Option ((Bool×V7)):=
 (idx c 0).bind fun i=>bif((i.toNat:Int)==((99:UInt8).toNat:Int))then((T4 c 2).bind fun g=>let _:jf:=r6 j' b g (([]:Bs),([]:Bs),([]:kE),([]:kE),false,false,false,false)
 some (J' j' b g,a,d,e,b,f))else((T4 c 2).bind fun h=>let _:kh:=r6 j' a h (([]:Bs),([]:Bs),false,0)
 some (J' j' a h,a,d,e,b,f))
def sW(o:D'):SC:=⟨⟨[(0,(.ptr 0 0)),(1,hS)],[j4,X2,r3,Y2,U2,Z']⟩,1,[(none,⟨[(0,hB)],[j4,X2,r3,Y2,U2,Z']⟩)],Y9 (uH o)⟩
theorem zqS:P' aA tabs 128 (sW o):=Z7 o [(4000002,.x7 (j7 0 9++[(.pu,9,[6]),(.mn,10,[]),(.mn,11,[6]),(.pu,12,[])])),
 (4000004,.x7 (j7 0 9++[(.pu,9,[6]),(.mn,10,[]),(.mn,11,[6]),(.pu,12,[])]))] [] [] ⟨⟩ ⟨⟩ func128
def sL(o:D')(a:Bs)(b:P2)(c:Q1)(d:n2)(e:Q2)(f:kC):Option ((Bool×V7)):=
 (Uu o a).bind fun g=>bif(!g)then some (false,b,c,d,e,f)else((idx a 0).bind fun h=>bif((h.toNat:Int)==((99:UInt8).toNat:Int))then((uH o a b c d e f).bind fun i=>some i)else((T4 a 2).bind fun j=>let k:kh:=r6 j' b j (([]:Bs),([]:Bs),false,0)
 some (k.2.2.1,b,c,d,e,f)))
def zpS(o:D'):SC:=⟨⟨[(0,(.ptr 0 0)),(1,hS)],[j4,X2,r3,Y2,U2,Z']⟩,1,[(none,⟨[(0,hB)],[j4,X2,r3,Y2,U2,Z']⟩)],Y9 (sL o)⟩
theorem zwN:P' aA tabs 49 (zpS o):=Z7 o [(4000005,.x7 (j7 0 9))] [(19,(rW o))] [(128,(sW o))] ⟨zuJ,⟨⟩⟩ ⟨zqS,⟨⟩⟩ func49
def ztI(_o:D')(b:Bs)(a:List (Bs×Unit)):Option ((Bool×List (Bs×Unit))):=
 let _:Unit:=r6 j' a b ()
 some (J' j' a b,a)
def ybC(o:D'):SC:=⟨⟨[(0,hS),(1,(.ptr 0 0))],[my,Fg]⟩,1,[(none,⟨[(0,hB)],[my,Fg]⟩)],Ek (ztI o)⟩
theorem ykM:P' aA tabs 130 (ybC o):=Z7 o [] [] [] ⟨⟩ ⟨⟩ func130
def MN(o:D')(c:kE)(a:Int)(d:List (Bs×Unit)):Option ((Int×List (Bs×Unit))⊕((Int×List (Bs×Unit))⊕(List (Bs×Unit)))):=
 bif decide (a<(c.length:Int))then((idx c a).bind fun e=>(ztI o e d).bind fun b=>bif b.1 then some (.inr (.inl (a,b.2)))else some (.inl (P0 (a+1),b.2)))else some (.inr (.inr d))
def zxR(o:D')(a:kE)(b:List (Bs×Unit)):Option ((Int×List (Bs×Unit))):=
 (iter (fun x=>MN o a x.1 x.2) (0,b)).bind fun c=>match c with
 |.inl d=>some d|.inr e=>some ((-1:Int),e)
def ycZ(o:D'):SC:=⟨⟨[(0,(.h (.sl .s))),(1,(.fn 130 [] [(.ptr 0 0)]))],[my,Fg]⟩,1,[(none,⟨[(0,hI)],[my,Fg]⟩)],Ek (zxR o)⟩
theorem ymY:P' aA tabs 212 (ycZ o):=Z7 o [(200002,.loop [] ⟨[(1,(.fn 130 [] [(.ptr 0 0)])),(8,hI)],[my,Fg]⟩ [0,7] [(some 1000000,⟨[(4,hI)],[my,Fg]⟩),(some 0,⟨[],[my,Fg]⟩)])] [] [(130,(ybC o))] ⟨⟩ ⟨ykM,⟨⟩⟩ F8
def BR(o:D')(b:kE)(c:List (Bs×Unit)):Option ((Bool×List (Bs×Unit))):=
 (zxR o b c).bind fun a=>some (decide (a.1≥0),a.2)
def zyX(o:D'):SC:=⟨⟨[(0,(.h (.sl .s))),(1,(.fn 130 [] [(.ptr 0 0)]))],[my,Fg]⟩,1,[(none,⟨[(0,hB)],[my,Fg]⟩)],Ek (BR o)⟩
theorem yjF:P' aA tabs 129 (zyX o):=Z7 o [] [] [(212,(ycZ o))] ⟨⟩ ⟨ymY,⟨⟩⟩ func129
def ymR(_o:D')(a:List (Bs×Unit)):Option ((List (Bs×Unit))):=
 some a
def yqL(o:D'):SC:=⟨⟨[(0,(.mpr 0))],[Fg]⟩,1,[(none,⟨[(0,(.fn 215 [] [(.ptr 1 0)]))],[Fg,.N' 160 [(.mpr 0)]]⟩)],fun x=>ymR o x⟩
theorem xcG:P' aA tabs 133 (yqL o):=Z7 o [] [] [] ⟨⟩ ⟨⟩ func133
def xaO:SC:=⟨⟨[(0,(.fn 215 [] [(.ptr 0 0)]))],[my,Fg]⟩,1,[(none,⟨[(0,(.h (.sl .s)))],[my,Fg]⟩)],fun a=>yt a⟩
theorem Ot:P' aA tabs 132 xaO:=Ce (G:=tabs)<|TQ (kT:=9) (Y5 G4) (by kernel_rfl) YtopanhneegpgcaaGreatDoor.lm
noncomputable def zuF(_o:D')(g:Bool)(b:P2)(a:Q1)(c:n2)(d:Q2)(e:kC)(f:List (Bs×Unit)):Option (((Bool×P2×Q1×n2×Q2×kC×List (Bs×Unit))⊕(Bool×P2×Q1×n2×Q2×kC×kE×List (Bs×Unit)))⊕((P2×Q1×n2×Q2×kC×List (Bs×Unit)))):=
 bif g then some (.inl (.inr (false,b,a,c,d,e,cU Prod.fst a,f)))else some (.inr (b,a,c,d,e,f))
noncomputable def zuI(o:D')(l:Bs)(j:Bool)(c:P2)(b:Q1)(d:n2)(e:Q2)(f:kC)(g:kE)(h:List (Bs×Unit)):List (Option (((Bool×P2×Q1×n2×Q2×kC×List (Bs×Unit))⊕(Bool×P2×Q1×n2×Q2×kC×kE×List (Bs×Unit)))⊕((P2×Q1×n2×Q2×kC×List (Bs×Unit))))):=
 cb (Ra j' b g) (some (.inl (.inl (j,c,b,d,e,f,h)))) fun a=>(W0 j' b a.1).bind fun k=>let _:Unit:=r6 j' h a.1 ()
 bif J' j' h a.1 then some (.inl (.inr (j,c,b,d,e,f,U7 j' g a.1,h)))else((BR o k.1.2.1 h).bind fun i=>bif i.1 then(let m:List (Bs×Unit):=Y0 j' O' i.2 a.1 ()
 some (.inl (.inr (true,c,b,d,e,f,U7 j' g a.1,m))))else((Ed o k.1.1 l).bind fun n=>bif n then(let p:List (Bs×Unit):=Y0 j' O' i.2 a.1 ()
 some (.inl (.inr (true,c,b,d,e,f,U7 j' g a.1,p))))else some (.inl (.inr (j,c,b,d,e,f,U7 j' g a.1,i.2)))))
noncomputable def ydL(o:D')(a:Bs):(Bool×P2×Q1×n2×Q2×kC×List (Bs×Unit))⊕(Bool×P2×Q1×n2×Q2×kC×kE×List (Bs×Unit))->List (Option (((Bool×P2×Q1×n2×Q2×kC×List (Bs×Unit))⊕(Bool×P2×Q1×n2×Q2×kC×kE×List (Bs×Unit)))⊕((P2×Q1×n2×Q2×kC×List (Bs×Unit)))))
 |.inl x=>[zuF o x.1 x.2.1 x.2.2.1 x.2.2.2.1 x.2.2.2.2.1 x.2.2.2.2.2.1 x.2.2.2.2.2.2]|.inr x=>zuI o a x.1 x.2.1 x.2.2.1 x.2.2.2.1 x.2.2.2.2.1 x.2.2.2.2.2.1 x.2.2.2.2.2.2.1 x.2.2.2.2.2.2.2
noncomputable def QA(o:D')(b:Bs)(c:P2)(d:Q1)(e:n2)(f:Q2)(g:kC):Option ((kE×V7)):=
 (U8 (ydL o b) (Sum.inl (true,c,d,e,f,g,([]:List (Bs×Unit))))).bind fun a=>(ymR o a.2.2.2.2.2).bind fun h=>(yt h).bind fun i=>some (i.1,a.1,a.2.1,a.2.2.1,a.2.2.2.1,a.2.2.2.2.1)
noncomputable def CR(o:D'):SC:=⟨⟨[(0,(.ptr 0 0)),(1,hS)],[j4,X2,r3,Y2,U2,Z']⟩,1,[(none,⟨[(0,(.hc .s))],[j4,X2,r3,Y2,U2,Z']⟩)],Y9 (QA o)⟩
theorem tW:P' aA tabs 50 (CR o):=jc (G:=tabs) (o:=o)<|oH (H:=⟨[false,false,true,false],[],⟨[(0,(.ptr 0 0)),(5,(.ptr 6 0)),(6,hB)],[j4,X2,r3,Y2,U2,Z',.N' 160 [(.mpr 7)],Fg]⟩,[1,4],[(some 0,⟨[(5,(.ptr 6 0))],[j4,X2,r3,Y2,U2,Z',.N' 160 [(.mpr 7)],Fg]⟩)],[false,false,false],⟨[(0,(.ptr 0 0)),(5,(.ptr 6 0)),(6,hB),(18,(.ptr 7 0))],[j4,X2,r3,Y2,U2,Z',.N' 160 [(.mpr 8)],.it 2 true .s,Fg]⟩,[1,4]⟩) (η:=[]) (Γ:=⟨[(131,(qy o)),(61,qL)],[(129,(zyX o)),(133,(yqL o)),(132,xaO)],false,[]⟩) sH V8 (X4 ⟨PA,⟨KN,trivial⟩⟩ ⟨yjF,⟨xcG,⟨Ot,trivial⟩⟩⟩) func50 (Y5 func50) (by kernel_rfl) (by kernel_rfl) (by kernel_rfl)
def tq:SC:=⟨⟨[(0,(.own 0))],[.H' .s 9]⟩,0,[(none,⟨[],[.H' .s 9]⟩)],VQ⟩
theorem BE:P' aA tabs 102 tq:=Ce (G:=tabs)<|XQ
def ywN:SC:=⟨⟨[(0,(.own 0))],[.H' .s 9]⟩,1,[(none,⟨[(0,(.h (.sl .s)))],[.dead]⟩)],WQ⟩
theorem Jm:P' aA tabs 103 ywN:=Ce (G:=tabs)<|Ux
noncomputable def uW(_o:D')(c:Gk)(a:Int)(d:P2)(e:Q1)(b:n2)(f:Q2)(g:kC)(h:kE):Option ((Int×P2×Q1×n2×Q2×kC×kE)⊕((P2×Q1×n2×Q2×kC×kE))):=
 bif decide (a<(c.1.2.2.length:Int))then((idx c.1.2.2 a).bind fun i=>let j:Fk:=r6 j' b i (([]:Bs),([]:kE))
 (X0 h j.2).bind fun k=>some (.inl (P0 (a+1),d,e,b,f,g,k)))else some (.inr (d,e,b,f,g,h))
noncomputable def vW(o:D')(c:(kE×V7))(a:Int)(d:P2)(b:Q1)(e:n2)(f:Q2)(g:kC)(h:kE):Option ((Int×P2×Q1×n2×Q2×kC×kE)⊕((P2×Q1×n2×Q2×kC×kE))):=
 bif decide (a<(c.1.length:Int))then((idx c.1 a).bind fun i=>let j:Gk:=r6 j' b i ((([]:kE),([]:kE),([]:kE)),0)
 (iter (fun x=>uW o j x.1 x.2.1 x.2.2.1 x.2.2.2.1 x.2.2.2.2.1 x.2.2.2.2.2.1 x.2.2.2.2.2.2) (0,d,b,e,f,g,h)).bind fun k=>some (.inl (P0 (a+1),k)))else some (.inr (d,b,e,f,g,h))
noncomputable def vH(o:D')(c:Bs)(d:P2)(e:Q1)(f:n2)(g:Q2)(h:kC):Option ((kE×V7)):=
 (QA o c d e f g h).bind fun a=>(iter (fun x=>vW o a x.1 x.2.1 x.2.2.1 x.2.2.2.1 x.2.2.2.2.1 x.2.2.2.2.2.1 x.2.2.2.2.2.2) (0,a.2.1,a.2.2.1,a.2.2.2.1,a.2.2.2.2.1,a.2.2.2.2.2,([]:kE))).bind fun b=>(VQ b.2.2.2.2.2).bind fun i=>(WQ i).bind fun j=>some (j,b.1,b.2.1,b.2.2.1,b.2.2.2.1,b.2.2.2.2.1)
noncomputable def zqQ(o:D'):SC:=⟨⟨[(0,(.ptr 0 0)),(1,hS)],[j4,X2,r3,Y2,U2,Z']⟩,1,[(none,⟨[(0,(.hc .s))],[j4,X2,r3,Y2,U2,Z']⟩)],Y9 (vH o)⟩
theorem zyC:P' aA tabs 34 (zqQ o):=Z7 o [(200006,.loop [] ⟨[(0,(.ptr 0 0)),(5,(.own 6)),(27,hI)],[j4,X2,r3,Y2,U2,Z',.H' .s 9]⟩ [4,12,13,14,25,26] [(some 2,⟨[(0,(.ptr 0 0)),(5,(.own 6))],[j4,X2,r3,Y2,U2,Z',.H' .s 9]⟩)]),
 (200003,.loop [.sl 5 .s 9] ⟨[(0,(.ptr 0 0)),(5,(.own 6)),(14,hI)],[j4,X2,r3,Y2,U2,Z',.H' .s 9]⟩ [4,12,13] [(some 0,⟨[(5,(.own 6))],[j4,X2,r3,Y2,U2,Z',.H' .s 9]⟩)])] [(61,qL)] [(50,(CR o)),(102,tq),(103,ywN)] ⟨KN,⟨⟩⟩ ⟨tW,⟨BE,⟨Jm,⟨⟩⟩⟩⟩ func34
def yjZ(_o:D')(a:Q2):Option (Q2):=
 some a
def ynX(o:D'):SC:=⟨⟨[(0,(.mpr 0))],[U2]⟩,1,[(none,⟨[(0,(.fn 271 [] [(.ptr 1 0)]))],[U2,.N' 125 [(.mpr 0)]]⟩)],fun x=>yjZ o x⟩
theorem yxP:P' aA tabs 203 (ynX o):=Z7 o [] [] [] ⟨⟩ ⟨⟩ func203
def yvS:SC:=⟨⟨[(0,(.fn 271 [] [(.ptr 0 0)]))],[.N' 125 [(.mpr 1)],U2]⟩,1,[(none,⟨[(0,(.h (.sl .s)))],[.N' 125 [(.mpr 1)],U2]⟩)],fun a=>yt a⟩
theorem Km:P' aA tabs 132 yvS:=Ce (G:=tabs)<|TQ (kT:=9) (Y5 G4) (by kernel_rfl) YtopanhneegpgcaaGreatDoor.om
def NN(_o:D')(a:jf):Option jf:=
 (X0 ([]:kE) a.2.2.1).bind fun b=>(X0 ([]:kE) a.2.2.2.1).bind fun c=>some (a.1,a.2.1,b,c,a.2.2.2.2)
def wW(o:D'):PC:=⟨[(.h Mt)],[Mt],fun x=>NN o x,false⟩
theorem ybX:Z0 aA tabs 107 (wW o):=pd o [(4000001,.x7 [(.pu,0,[]),(.pu,1,[]),(.pu,4,[3]),(.pu,5,[3]),(.mn,2,[]),(.mn,3,[3]),(.pu,8,[5]),(.mn,6,[]),(.mn,7,[5]),(.mn,9,[0]),(.pu,10,[]),(.mn,11,[0])])] [(61,qL)] [(198,oL)] ⟨KN,⟨⟩⟩ ⟨JN,⟨⟩⟩ func107
def znF(o:D')(_:Bs)(a:jf):Option jf:=
 (NN o a).bind fun b=>some b
def ztH(o:D'):PC:=⟨[hS,(.h Mt)],[Mt],fun x=>znF o x.1 x.2,false⟩
theorem ydV:Z0 aA tabs 109 (ztH o):=pd o [] [(107,(wW o))] [] ⟨ybX,⟨⟩⟩ ⟨⟩ func109
def ybH(o:D')(c:(kE×Q2))(a:Int)(b:Q2)(d:List jf):Option ((Int×Q2×List jf)⊕((Q2×List jf))):=
 bif decide (a<(c.1.length:Int))then((idx c.1 a).bind fun e=>let f:jf:=r6 j' b e (([]:Bs),([]:Bs),([]:kE),([]:kE),false,false,false,false)
 (znF o e f).bind fun g=>(X0 d ([g]:List jf)).bind fun h=>some (.inl (P0 (a+1),b,h)))else some (.inr (b,d))
def ydO(o:D')(a:Q2):Option ((Q2×List jf)):=
 (o6 (decide (0<=(a.length:Int))&&decide ((a.length:Int)<=(Sk:Int)))).bind fun _=>(ZB 0 (([]:Bs),([]:Bs),([]:kE),([]:kE),false,false,false,false)).bind fun c=>(yjZ o a).bind fun d=>(yt d).bind fun b=>(iter (fun x=>ybH o b x.1 x.2.1 x.2.2) (0,b.2,c)).bind fun e=>some e
def yiK(o:D'):SC:=⟨⟨[(0,(.mpr 0)),(1,(.fn 109 [] []))],[U2]⟩,1,[(none,⟨[(0,(.own 1))],[U2,.H' Mt 51]⟩)],fun x=>ydO o x⟩
theorem yrJ:P' aA tabs 108 (yiK o):=Z7 o [(200003,.loop [] ⟨[(0,(.mpr 0)),(1,(.fn 109 [] [])),(5,(.own 1)),(15,hI)],[U2,.H' Mt 51]⟩ [4,13,14] [(some 0,⟨[(5,(.own 1))],[U2,.H' Mt 51]⟩)])] [(109,(ztH o))] [(203,(ynX o)),(132,yvS)] ⟨ydV,⟨⟩⟩ ⟨yxP,⟨Km,⟨⟩⟩⟩ func108
def DR(o:D')(b:P2)(c:Q1)(d:n2)(e:Q2)(f:kC):Option ((P2×Q1×n2×Q2×kC×List jf)):=
 (ydO o e).bind fun a=>some (b,c,d,a.1,f,a.2)
def znZ(o:D'):SC:=⟨⟨[(0,(.ptr 0 0))],[j4,X2,r3,Y2,U2,Z']⟩,1,[(none,⟨[(0,(.own 6))],[j4,X2,r3,Y2,U2,Z',.H' Mt 51]⟩)],rq (DR o)⟩
theorem zuZ:P' aA tabs 38 (znZ o):=Z7 o [] [] [(108,(yiK o))] ⟨⟩ ⟨yrJ,⟨⟩⟩ func38
def tL(_o:D')(a:Bool):Option Bs:=
 bif a then(some ([49]:Bs))else(some ([48]:Bs))
def yjO(o:D'):PC:=⟨[hB],[.s],fun x=>tL o x,false⟩
theorem ysQ:Z0 aA tabs 86 (yjO o):=pd o [] [] [] ⟨⟩ ⟨⟩ func86
def CE(o:D')(a:kE):Option kE:=
 (o.itoa (a.length:Int)).bind fun b=>(X0 ([b]:kE) a).bind fun c=>some c
def yiI(o:D'):PC:=⟨[(.h (.sl .s))],[(.sl .s)],fun x=>CE o x,false⟩
theorem yqY:Z0 aA tabs 87 (yiI o):=pd o [] [(68,(xfQ o))] [] ⟨(Xa.itoa (G:=tabs)),⟨⟩⟩ ⟨⟩ func87
def uq:SC:=⟨⟨[(0,.Y'),(1,hI)],[]⟩,1,[(none,⟨[(0,(.own 0))],[.H' .s 9]⟩)],fun n=>WK .s n⟩
theorem DE:P' aA tabs 187 uq:=Ce (G:=tabs)<|Zx (Y5 func187) YQ
def ER(_o:D')(c:List kE)(a:Int)(b:Int):Option ((Int×Int)⊕Int):=
 bif decide (b<(c.length:Int))then((idx c b).bind fun d=>bif decide ((P0 (a+(d.length:Int)))<0)then none else some (.inl (P0 (a+(d.length:Int)),P0 (b+1))))else some (.inr a)
def FR(_o:D')(b:List kE)(a:Int)(c:kE):Option ((Int×kE)⊕kE):=
 bif decide (a<(b.length:Int))then((idx b a).bind fun d=>(X0 c d).bind fun e=>some (.inl (P0 (a+1),e)))else some (.inr c)
def GR(o:D')(a:List kE):Option kE:=
 (iter (fun x=>ER o a x.1 x.2) (0,0)).bind fun b=>(WK .s b).bind fun c=>(iter (fun x=>FR o a x.1 x.2) (0,c)).bind fun d=>some d
def yiJ(o:D'):PC:=⟨[(.h (.sl (.sl .s)))],[(.sl .s)],fun x=>GR o x,false⟩
theorem yqP:Z0 aA tabs 85 (yiJ o):=pd o [(200003,.loop [] ⟨[(3,hI),(11,hI)],[]⟩ [0,2,9,10] [(some 0,⟨[(3,hI)],[]⟩)]),
 (200011,.loop [] ⟨[(6,(.own 0)),(27,hI)],[.H' .s 9]⟩ [2,25,26] [(some 2,⟨[(6,(.own 0))],[.H' .s 9]⟩)])] [] [(187,uq)] ⟨⟩ ⟨DE,⟨⟩⟩ func85
def ON(o:D')(a:Bs)(b:kE)(c:kD):Option (kD):=
 (o.form b).bind fun d=>(X0 c ([(a,d)]:kD)).bind fun e=>some e
def zvJ(o:D'):SC:=⟨⟨[(0,hS),(1,(.h (.sl .s))),(2,(.ptr 0 0))],[oy,.H' (.pr .s .s) 33]⟩,0,[(none,⟨[],[Hm,.dead,.H' (.pr .s .s) 33]⟩)],JV (ON o)⟩
theorem yfS:P' aA tabs 84 (zvJ o):=Z7 o [(4000000,.x7 (j7 0 3++[(.mn,3,[]),(.pu,4,[]),(.mn,5,[]),(.mn,6,[1]),(.mn,7,[0])]))] [(22,(lR o))] [] ⟨(Xa.form (G:=tabs)),⟨⟩⟩ ⟨⟩ O1
def ylG(_o:D')(a:Q1):Option (Q1):=
 some a
def yoL(o:D'):SC:=⟨⟨[(0,(.mpr 0))],[r3]⟩,1,[(none,⟨[(0,(.fn 260 [] [(.ptr 1 0)]))],[r3,.N' 123 [(.mpr 0)]]⟩)],fun x=>ylG o x⟩
theorem yxF:P' aA tabs 196 (yoL o):=Z7 o [] [] [] ⟨⟩ ⟨⟩ func196
def ywV:SC:=⟨⟨[(0,(.fn 260 [] [(.ptr 0 0)]))],[.N' 123 [(.mpr 1)],r3]⟩,1,[(none,⟨[(0,(.h (.sl .s)))],[.N' 123 [(.mpr 1)],r3]⟩)],fun a=>yt a⟩
theorem Lm:P' aA tabs 132 ywV:=Ce (G:=tabs)<|TQ (kT:=9) (Y5 G4) (by kernel_rfl) YtopanhneegpgcaaGreatDoor.nm
def wH(_o:D')(a:kE):Option kE:=
 (X0 ([]:kE) a).bind fun b=>some b
def yiN(o:D'):SC:=⟨⟨[(0,(.h (.sl .s)))],[]⟩,1,[(none,⟨[(0,(.hc .s))],[]⟩)],fun x=>wH o x⟩
theorem yqR:P' aA tabs 197 (yiN o):=Z7 o [] [(61,qL)] [(198,oL)] ⟨KN,⟨⟩⟩ ⟨JN,⟨⟩⟩ func197
def HR(o:D')(b:Bs)(a:Gk):Option OA:=
 (wH o a.1.1).bind fun c=>(wH o a.1.2.1).bind fun d=>(wH o a.1.2.2).bind fun e=>some (b,c,d,e,a.2)
def yeO(o:D'):PC:=⟨[hS,(.h ef)],[ff],fun x=>HR o x.1 x.2,false⟩
theorem ymF:Z0 aA tabs 100 (yeO o):=pd o [(4000002,.x7 (j7 0 5++j7 6 4++j7 11 4++[(.pu,16,[]),(.pu,17,[]),(.mn,5,[]),(.mn,10,[]),(.mn,15,[]),(.pu,18,[]),(.mn,19,[1])]))] [] [(197,(yiN o))] ⟨⟩ ⟨yqR,⟨⟩⟩ func100
def zzK(o:D')(c:(kE×Q1))(a:Int)(b:Q1)(d:List OA):Option ((Int×Q1×List OA)⊕((Q1×List OA))):=
 bif decide (a<(c.1.length:Int))then((idx c.1 a).bind fun e=>let f:Gk:=r6 j' b e ((([]:kE),([]:kE),([]:kE)),0)
 (HR o e f).bind fun g=>(X0 d ([g]:List OA)).bind fun h=>some (.inl (P0 (a+1),b,h)))else some (.inr (b,d))
def ybV(o:D')(a:Q1):Option ((Q1×List OA)):=
 (o6 (decide (0<=(a.length:Int))&&decide ((a.length:Int)<=(Sk:Int)))).bind fun _=>(ZB 0 (([]:Bs),([]:kE),([]:kE),([]:kE),0)).bind fun c=>(ylG o a).bind fun d=>(yt d).bind fun b=>(iter (fun x=>zzK o b x.1 x.2.1 x.2.2) (0,b.2,c)).bind fun e=>some e
def ygD(o:D'):SC:=⟨⟨[(0,(.mpr 0)),(1,(.fn 100 [] []))],[r3]⟩,1,[(none,⟨[(0,(.own 1))],[r3,.H' ff 57]⟩)],fun x=>ybV o x⟩
theorem ypK:P' aA tabs 99 (ygD o):=Z7 o [(200003,.loop [] ⟨[(0,(.mpr 0)),(1,(.fn 100 [] [])),(5,(.own 1)),(15,hI)],[r3,.H' ff 57]⟩ [4,13,14] [(some 0,⟨[(5,(.own 1))],[r3,.H' ff 57]⟩)])] [(100,(yeO o))] [(196,(yoL o)),(132,ywV)] ⟨ymF,⟨⟩⟩ ⟨yxF,⟨Lm,⟨⟩⟩⟩ func99
def IR(o:D')(b:P2)(c:Q1)(d:n2)(e:Q2)(f:kC):Option ((P2×Q1×n2×Q2×kC×List OA)):=
 (ybV o c).bind fun a=>some (b,a.1,d,e,f,a.2)
def zpD(o:D'):SC:=⟨⟨[(0,(.ptr 0 0))],[j4,X2,r3,Y2,U2,Z']⟩,1,[(none,⟨[(0,(.own 6))],[j4,X2,r3,Y2,U2,Z',.H' ff 57]⟩)],rq (IR o)⟩
theorem zxG:P' aA tabs 32 (zpD o):=Z7 o [] [] [(99,(ygD o))] ⟨⟩ ⟨ypK,⟨⟩⟩ func32
def ylC(_o:D')(a:kC):Option (kC):=
 some a
def ynK(o:D'):SC:=⟨⟨[(0,(.mpr 0))],[Z']⟩,1,[(none,⟨[(0,(.fn 211 [] [(.ptr 1 0)]))],[Z',.N' 126 [(.mpr 0)]]⟩)],fun x=>ylC o x⟩
theorem xaC:P' aA tabs 125 (ynK o):=Z7 o [] [] [] ⟨⟩ ⟨⟩ func125
def yvT:SC:=⟨⟨[(0,(.fn 211 [] [(.ptr 0 0)])),(1,(.fn 126 [] []))],[.N' 126 [(.mpr 1)],Z']⟩,1,[(none,⟨[(0,(.h (.sl (.pr .s .s))))],[.N' 126 [(.mpr 1)],Z']⟩)],fun(a:kC)=>dR a⟩
theorem Mm:P' aA tabs 124 yvT:=Ce (G:=tabs)<|xeS
def aj:PC:=⟨[.h (.sl (.pr .s .s))],[(.sl (.pr .s .s))],fun a=>some a,true⟩
theorem ry:Z0 aA tabs 127 aj:=Ce (G:=tabs)<|xfP sH V8 func127 (Y5 func127) rfl (by kernel_rfl) (fun _=>by kernel_rfl)
def JR(o:D')(b:P2)(c:Q1)(d:n2)(e:Q2)(f:kC):Option ((kD×V7)):=
 (ylC o f).bind fun g=>(dR g).bind fun a=>some (a.1,b,c,d,e,a.2)
def zsG(o:D'):SC:=⟨⟨[(0,(.ptr 0 0))],[j4,X2,r3,Y2,U2,Z']⟩,1,[(none,⟨[(0,(.hc (.pr .s .s)))],[j4,X2,r3,Y2,U2,Z']⟩)],rq (JR o)⟩
theorem yaF:P' aA tabs 45 (zsG o):=Z7 o [] [(127,aj)] [(125,(ynK o)),(124,yvT)] ⟨ry,⟨⟩⟩ ⟨xaC,⟨Mm,⟨⟩⟩⟩ func45
def zpP(o:D')(a:Bs)(b:kD):Option (kD):=
 (o.form ([]:kE)).bind fun c=>(X0 b ([(a,c)]:kD)).bind fun d=>some d
def zuO(o:D'):SC:=⟨⟨[(0,hS),(1,.Y'),(2,(.ptr 0 0))],[oy,.H' (.pr .s .s) 33]⟩,0,[(none,⟨[],[Hm,.dead,.H' (.pr .s .s) 33]⟩)],Ek (zpP o)⟩
theorem ygJ:P' aA tabs 84 (zuO o):=Z7 o [(4000000,.x7 (j7 0 3++[(.mn,3,[]),(.pu,4,[]),(.mn,5,[]),(.mn,6,[1]),(.mn,7,[0])]))] [(22,(lR o))] [] ⟨(Xa.form (G:=tabs)),⟨⟩⟩ ⟨⟩ O1
def yjN(_o:D')(a:n2):Option (n2):=
 some a
def yoD(o:D'):SC:=⟨⟨[(0,(.mpr 0))],[Y2]⟩,1,[(none,⟨[(0,(.fn 273 [] [(.ptr 1 0)]))],[Y2,.N' 124 [(.mpr 0)]]⟩)],fun x=>yjN o x⟩
theorem yzT:P' aA tabs 205 (yoD o):=Z7 o [] [] [] ⟨⟩ ⟨⟩ func205
def ywO:SC:=⟨⟨[(0,(.fn 273 [] [(.ptr 0 0)]))],[.N' 124 [(.mpr 1)],Y2]⟩,1,[(none,⟨[(0,(.h (.sl .s)))],[.N' 124 [(.mpr 1)],Y2]⟩)],fun a=>yt a⟩
theorem Om:P' aA tabs 132 ywO:=Ce (G:=tabs)<|TQ (kT:=9) (Y5 G4) (by kernel_rfl) YtopanhneegpgcaaGreatDoor.tm
def zpG(o:D')(_:Bs)(a:Fk):Option Fk:=
 (LN o a).bind fun b=>some b
def zvH(o:D'):PC:=⟨[hS,(.h Lt)],[Lt],fun x=>zpG o x.1 x.2,false⟩
theorem ygB:Z0 aA tabs 113 (zvH o):=pd o [] [(105,(nW o))] [] ⟨ztK,⟨⟩⟩ ⟨⟩ func113
def zzT(o:D')(c:(kE×n2))(a:Int)(b:n2)(d:Ta):Option ((Int×n2×Ta)⊕((n2×Ta))):=
 bif decide (a<(c.1.length:Int))then((idx c.1 a).bind fun e=>let f:Fk:=r6 j' b e (([]:Bs),([]:kE))
 (zpG o e f).bind fun g=>(X0 d ([g]:Ta)).bind fun h=>some (.inl (P0 (a+1),b,h)))else some (.inr (b,d))
def ybN(o:D')(a:n2):Option ((n2×Ta)):=
 (o6 (decide (0<=(a.length:Int))&&decide ((a.length:Int)<=(Sk:Int)))).bind fun _=>(ZB 0 (([]:Bs),([]:kE))).bind fun c=>(yjN o a).bind fun d=>(yt d).bind fun b=>(iter (fun x=>zzT o b x.1 x.2.1 x.2.2) (0,b.2,c)).bind fun e=>some e
def yfP(o:D'):SC:=⟨⟨[(0,(.mpr 0)),(1,(.fn 113 [] []))],[Y2]⟩,1,[(none,⟨[(0,(.own 1))],[Y2,.H' Lt 49]⟩)],fun x=>ybN o x⟩
theorem ypI:P' aA tabs 112 (yfP o):=Z7 o [(200003,.loop [] ⟨[(0,(.mpr 0)),(1,(.fn 113 [] [])),(5,(.own 1)),(15,hI)],[Y2,.H' Lt 49]⟩ [4,13,14] [(some 0,⟨[(5,(.own 1))],[Y2,.H' Lt 49]⟩)])] [(113,(zvH o))] [(205,(yoD o)),(132,ywO)] ⟨ygB,⟨⟩⟩ ⟨yzT,⟨Om,⟨⟩⟩⟩ func112
def KR(o:D')(b:P2)(c:Q1)(d:n2)(e:Q2)(f:kC):Option ((P2×Q1×n2×Q2×kC×Ta)):=
 (ybN o d).bind fun a=>some (b,c,a.1,e,f,a.2)
def zqV(o:D'):SC:=⟨⟨[(0,(.ptr 0 0))],[j4,X2,r3,Y2,U2,Z']⟩,1,[(none,⟨[(0,(.own 6))],[j4,X2,r3,Y2,U2,Z',.H' Lt 49]⟩)],rq (KR o)⟩
theorem zyL:P' aA tabs 40 (zqV o):=Z7 o [] [] [(112,(yfP o))] ⟨⟩ ⟨ypI,⟨⟩⟩ func40
def ykL(_o:D')(a:P2):Option (P2):=
 some a
def ynL(o:D'):SC:=⟨⟨[(0,(.mpr 0))],[X2]⟩,1,[(none,⟨[(0,(.fn 272 [] [(.ptr 1 0)]))],[X2,.N' 122 [(.mpr 0)]]⟩)],fun x=>ykL o x⟩
theorem yyO:P' aA tabs 204 (ynL o):=Z7 o [] [] [] ⟨⟩ ⟨⟩ func204
def ywW:SC:=⟨⟨[(0,(.fn 272 [] [(.ptr 0 0)]))],[.N' 122 [(.mpr 1)],X2]⟩,1,[(none,⟨[(0,(.h (.sl .s)))],[.N' 122 [(.mpr 1)],X2]⟩)],fun a=>yt a⟩
theorem Pm:P' aA tabs 132 ywW:=Ce (G:=tabs)<|TQ (kT:=9) (Y5 G4) (by kernel_rfl) YtopanhneegpgcaaGreatDoor.qm
def zpM(_o:D')(_:Bs)(a:kh):Option kh:=
 some a
def zvK(o:D'):PC:=⟨[hS,(.h wE)],[wE],fun x=>zpM o x.1 x.2,false⟩
theorem ygH:Z0 aA tabs 111 (zvK o):=pd o [] [] [] ⟨⟩ ⟨⟩ func111
def zzQ(o:D')(c:(kE×P2))(a:Int)(b:P2)(d:List kh):Option ((Int×P2×List kh)⊕((P2×List kh))):=
 bif decide (a<(c.1.length:Int))then((idx c.1 a).bind fun e=>let f:kh:=r6 j' b e (([]:Bs),([]:Bs),false,0)
 (zpM o e f).bind fun g=>(X0 d ([g]:List kh)).bind fun h=>some (.inl (P0 (a+1),b,h)))else some (.inr (b,d))
def ybQ(o:D')(a:P2):Option ((P2×List kh)):=
 (o6 (decide (0<=(a.length:Int))&&decide ((a.length:Int)<=(Sk:Int)))).bind fun _=>(ZB 0 (([]:Bs),([]:Bs),false,0)).bind fun c=>(ykL o a).bind fun d=>(yt d).bind fun b=>(iter (fun x=>zzQ o b x.1 x.2.1 x.2.2) (0,b.2,c)).bind fun e=>some e
def ygG(o:D'):SC:=⟨⟨[(0,(.mpr 0)),(1,(.fn 111 [] []))],[X2]⟩,1,[(none,⟨[(0,(.own 1))],[X2,.H' wE 77]⟩)],fun x=>ybQ o x⟩
theorem yoZ:P' aA tabs 110 (ygG o):=Z7 o [(200003,.loop [] ⟨[(0,(.mpr 0)),(1,(.fn 111 [] [])),(5,(.own 1)),(15,hI)],[X2,.H' wE 77]⟩ [4,13,14] [(some 0,⟨[(5,(.own 1))],[X2,.H' wE 77]⟩)])] [(111,(zvK o))] [(204,(ynL o)),(132,ywW)] ⟨ygH,⟨⟩⟩ ⟨yyO,⟨Pm,⟨⟩⟩⟩ func110
def LR(o:D')(b:P2)(c:Q1)(d:n2)(e:Q2)(f:kC):Option ((P2×Q1×n2×Q2×kC×List kh)):=
 (ybQ o b).bind fun a=>some (a.1,c,d,e,f,a.2)
def zqP(o:D'):SC:=⟨⟨[(0,(.ptr 0 0))],[j4,X2,r3,Y2,U2,Z']⟩,1,[(none,⟨[(0,(.own 6))],[j4,X2,r3,Y2,U2,Z',.H' wE 77]⟩)],rq (LR o)⟩
theorem zyD:P' aA tabs 39 (zqP o):=Z7 o [] [] [(110,(ygG o))] ⟨⟩ ⟨yoZ,⟨⟩⟩ func39
def zoY(o:D')(b:Bs)(a:kE)(c:kD):Option ((kE×kD)):=
 (o.form a).bind fun d=>(X0 c ([(b,d)]:kD)).bind fun e=>some (a,e)
def zvN(o:D'):SC:=⟨⟨[(0,hS),(1,(.own 0)),(2,(.ptr 1 0))],[.H' .s 9,Hm,.H' (.pr .s .s) 33]⟩,0,[(none,⟨[],[.H' .s 9,.N' 31 [(.own 3)],.dead,.H' (.pr .s .s) 33]⟩)],JV (zoY o)⟩
theorem ygI:P' aA tabs 84 (zvN o):=Z7 o [(4000000,.x7 (j7 0 3++[(.mn,3,[]),(.pu,4,[]),(.mn,5,[]),(.mn,6,[2]),(.mn,7,[1])]))] [(22,(lR o))] [] ⟨(Xa.form (G:=tabs)),⟨⟩⟩ ⟨⟩ O1
def bj:SC:=⟨⟨[(0,(.own 0)),(1,(.fn 89 [] []))],[.H' (.pr .s .s) 33]⟩,0,[(none,⟨[],[.H' (.pr .s .s) 33]⟩)],fun(a:kD)=>ZG a⟩
theorem uy:P' aA tabs 88 bj:=Ce (G:=tabs)<|Yx
def cj:PC:=⟨[.h (.sl (.pr .s .s))],[(.sl (.pr .s .s))],fun a=>some a,true⟩
theorem vy:Z0 aA tabs 91 cj:=Ce (G:=tabs)<|xfP sH V8 func91 (Y5 func91) rfl (by kernel_rfl) (fun _=>by kernel_rfl)
def zrY(o:D')(j:(P2×Q1×n2×Q2×kC×List jf))(b:Int)(d:P2)(e:Q1)(f:n2)(g:Q2)(h:kC)(c:List jf)(i:kD):Option ((Int×P2×Q1×n2×Q2×kC×(List jf)×kD)⊕((P2×Q1×n2×Q2×kC×kD))):=
 bif decide (b<(j.2.2.2.2.2.length:Int))then((o6 (decide (0<=b)&&decide (b<(c.length:Int)))).bind fun _=>(idx c b).bind fun a=>(X0 ([99,108,105,101,110,116,47]:Bs) a.1).bind fun k=>(tL o a.2.2.2.2.1).bind fun l=>(tL o a.2.2.2.2.2.1).bind fun m=>(X0 l m).bind fun n=>(tL o a.2.2.2.2.2.2.1).bind fun p=>(X0 n p).bind fun q=>(tL o a.2.2.2.2.2.2.2).bind fun r=>(X0 q r).bind fun s=>(CE o a.2.2.1).bind fun t=>(CE o a.2.2.2.1).bind fun u=>(GR o ([([a.2.1,s]:kE),t,u]:List kE)).bind fun v=>(ON o k v i).bind fun w=>some (.inl (P0 (b+1),d,e,f,g,h,c,w)))else some (.inr (d,e,f,g,h,i))
def zrQ(o:D')(j:(P2×Q1×n2×Q2×kC×List OA))(a:Int)(d:P2)(e:Q1)(f:n2)(g:Q2)(h:kC)(c:List OA)(i:kD):Option ((Int×P2×Q1×n2×Q2×kC×(List OA)×kD)⊕((P2×Q1×n2×Q2×kC×kD))):=
 bif decide (a<(j.2.2.2.2.2.length:Int))then((o6 (decide (0<=a)&&decide (a<(c.length:Int)))).bind fun _=>(idx c a).bind fun b=>(X0 ([103,114,111,117,112,47]:Bs) b.1).bind fun k=>(o.itoa b.2.2.2.2).bind fun l=>(CE o b.2.1).bind fun m=>(CE o b.2.2.1).bind fun n=>(CE o b.2.2.2.1).bind fun p=>(GR o ([([l]:kE),m,n,p]:List kE)).bind fun q=>(ON o k q i).bind fun r=>some (.inl (P0 (a+1),d,e,f,g,h,c,r)))else some (.inr (d,e,f,g,h,i))
def xW(o:D')(b:(kD×V7))(a:Int)(c:P2)(d:Q1)(e:n2)(f:Q2)(g:kC)(h:kD):Option ((Int×P2×Q1×n2×Q2×kC×kD)⊕((P2×Q1×n2×Q2×kC×kD))):=
 bif decide (a<(b.1.length:Int))then((idx b.1 a).bind fun i=>(X0 ([109,97,121,47]:Bs) i.1).bind fun j=>(X0 j ([124]:Bs)).bind fun k=>(X0 k i.2).bind fun l=>(zpP o l h).bind fun m=>some (.inl (P0 (a+1),c,d,e,f,g,m)))else some (.inr (c,d,e,f,g,h))
def zrV(o:D')(j:(P2×Q1×n2×Q2×kC×Ta))(a:Int)(c:P2)(d:Q1)(e:n2)(f:Q2)(g:kC)(b:Ta)(h:kD):Option ((Int×P2×Q1×n2×Q2×kC×Ta×kD)⊕((P2×Q1×n2×Q2×kC×kD))):=
 bif decide (a<(j.2.2.2.2.2.length:Int))then((o6 (decide (0<=a)&&decide (a<(b.length:Int)))).bind fun _=>(idx b a).bind fun i=>(X0 ([114,111,108,101,47]:Bs) i.1).bind fun k=>(CE o i.2).bind fun l=>(ON o k l h).bind fun m=>some (.inl (P0 (a+1),c,d,e,f,g,b,m)))else some (.inr (c,d,e,f,g,h))
def zrX(o:D')(j:(P2×Q1×n2×Q2×kC×List kh))(a:Int)(d:P2)(e:Q1)(f:n2)(g:Q2)(h:kC)(c:List kh)(i:kD):Option ((Int×P2×Q1×n2×Q2×kC×(List kh)×kD)⊕((P2×Q1×n2×Q2×kC×kD))):=
 bif decide (a<(j.2.2.2.2.2.length:Int))then((o6 (decide (0<=a)&&decide (a<(c.length:Int)))).bind fun _=>(idx c a).bind fun b=>(X0 ([117,115,101,114,47]:Bs) b.1).bind fun k=>(tL o b.2.2.1).bind fun l=>(o.itoa b.2.2.2).bind fun m=>(zoY o k ([b.2.1,l,m]:kE) i).bind fun n=>some (.inl (P0 (a+1),d,e,f,g,h,c,n.2)))else some (.inr (d,e,f,g,h,i))
def vL(o:D')(k:P2)(l:Q1)(m:n2)(n:Q2)(p:kC):Option ((kD×V7)):=
 (DR o k l m n p).bind fun a=>(iter (fun x=>zrY o a x.1 x.2.1 x.2.2.1 x.2.2.2.1 x.2.2.2.2.1 x.2.2.2.2.2.1 x.2.2.2.2.2.2.1 x.2.2.2.2.2.2.2) (0,a.1,a.2.1,a.2.2.1,a.2.2.2.1,a.2.2.2.2.1,a.2.2.2.2.2,([]:kD))).bind fun e=>(IR o e.1 e.2.1 e.2.2.1 e.2.2.2.1 e.2.2.2.2.1).bind fun b=>(iter (fun x=>zrQ o b x.1 x.2.1 x.2.2.1 x.2.2.2.1 x.2.2.2.2.1 x.2.2.2.2.2.1 x.2.2.2.2.2.2.1 x.2.2.2.2.2.2.2) (0,b.1,b.2.1,b.2.2.1,b.2.2.2.1,b.2.2.2.2.1,b.2.2.2.2.2,e.2.2.2.2.2)).bind fun f=>(JR o f.1 f.2.1 f.2.2.1 f.2.2.2.1 f.2.2.2.2.1).bind fun g=>(iter (fun x=>xW o g x.1 x.2.1 x.2.2.1 x.2.2.2.1 x.2.2.2.2.1 x.2.2.2.2.2.1 x.2.2.2.2.2.2) (0,g.2.1,g.2.2.1,g.2.2.2.1,g.2.2.2.2.1,g.2.2.2.2.2,f.2.2.2.2.2)).bind fun h=>(KR o h.1 h.2.1 h.2.2.1 h.2.2.2.1 h.2.2.2.2.1).bind fun c=>(iter (fun x=>zrV o c x.1 x.2.1 x.2.2.1 x.2.2.2.1 x.2.2.2.2.1 x.2.2.2.2.2.1 x.2.2.2.2.2.2.1 x.2.2.2.2.2.2.2) (0,c.1,c.2.1,c.2.2.1,c.2.2.2.1,c.2.2.2.2.1,c.2.2.2.2.2,h.2.2.2.2.2)).bind fun i=>(LR o i.1 i.2.1 i.2.2.1 i.2.2.2.1 i.2.2.2.2.1).bind fun d=>(iter (fun x=>zrX o d x.1 x.2.1 x.2.2.1 x.2.2.2.1 x.2.2.2.2.1 x.2.2.2.2.2.1 x.2.2.2.2.2.2.1 x.2.2.2.2.2.2.2) (0,d.1,d.2.1,d.2.2.1,d.2.2.2.1,d.2.2.2.2.1,d.2.2.2.2.2,i.2.2.2.2.2)).bind fun j=>(ZG j.2.2.2.2.2).bind fun q=>some (q,j.1,j.2.1,j.2.2.1,j.2.2.2.1,j.2.2.2.2.1)
def zsH(o:D'):SC:=⟨⟨[(0,(.ptr 0 0))],[j4,X2,r3,Y2,U2,Z']⟩,1,[(none,⟨[(0,(.hc (.pr .s .s)))],[j4,X2,r3,Y2,U2,Z']⟩)],rq (vL o)⟩
theorem yaH:P' aA tabs 29 (zsH o):=Z7 o [(200004,.loop [.cell 3 0 (.pr .s .s) 33] ⟨[(0,(.ptr 0 0)),(3,(.ptr 6 0)),(4,(.fn 84 [] [(.ptr 6 0)])),(17,(.own 7)),(19,hI)],[j4,X2,r3,Y2,U2,Z',Eg,.H' Mt 51,.H' (.pr .s .s) 33]⟩ [2,18] [(some 0,⟨[(0,(.ptr 0 0)),(3,(.ptr 6 0)),(4,(.fn 84 [] [(.ptr 6 0)]))],[j4,X2,r3,Y2,U2,Z',GN,.H' (.pr .s .s) 33]⟩)]),
 (200009,.loop [] ⟨[(0,(.ptr 0 0)),(3,(.ptr 6 0)),(4,(.fn 84 [] [(.ptr 6 0)])),(56,(.own 7)),(58,hI)],[j4,X2,r3,Y2,U2,Z',Eg,.H' ff 57,.H' (.pr .s .s) 33]⟩ [2,57] [(some 2,⟨[(0,(.ptr 0 0)),(3,(.ptr 6 0)),(4,(.fn 84 [] [(.ptr 6 0)]))],[j4,X2,r3,Y2,U2,Z',GN,.H' (.pr .s .s) 33]⟩)]),
 (200014,.loop [] ⟨[(0,(.ptr 0 0)),(3,(.ptr 6 0)),(4,(.fn 84 [] [(.ptr 6 0)])),(86,hI)],[j4,X2,r3,Y2,U2,Z',GN,.H' (.pr .s .s) 33]⟩ [2,84,85] [(some 4,⟨[(0,(.ptr 0 0)),(3,(.ptr 6 0)),(4,(.fn 84 [] [(.ptr 6 0)]))],[j4,X2,r3,Y2,U2,Z',GN,.H' (.pr .s .s) 33]⟩)]),
 (200019,.loop [] ⟨[(0,(.ptr 0 0)),(3,(.ptr 6 0)),(4,(.fn 84 [] [(.ptr 6 0)])),(101,(.own 7)),(103,hI)],[j4,X2,r3,Y2,U2,Z',Eg,.H' Lt 49,.H' (.pr .s .s) 33]⟩ [2,102] [(some 6,⟨[(0,(.ptr 0 0)),(3,(.ptr 6 0)),(4,(.fn 84 [] [(.ptr 6 0)]))],[j4,X2,r3,Y2,U2,Z',GN,.H' (.pr .s .s) 33]⟩)]),
 (200024,.loop [] ⟨[(3,(.ptr 6 0)),(4,(.fn 84 [] [(.ptr 6 0)])),(117,(.own 7)),(119,hI)],[j4,X2,r3,Y2,U2,Z',Eg,.H' wE 77,.H' (.pr .s .s) 33]⟩ [2,118] [(some 8,⟨[(3,(.ptr 6 0))],[j4,X2,r3,Y2,U2,Z',GN,.H' (.pr .s .s) 33]⟩)]),
 (4000006,.x7 ([(.pu,0,[10,11]),(.pu,1,[10,11]),(.pu,2,[10,11]),(.pu,3,[10,11])]++j7 4 4++[(.pu,9,[]),(.pu,10,[]),(.pu,13,[]),(.pu,14,[]),(.pu,17,[]),(.pu,18,[]),(.pu,22,[]),(.pu,23,[]),(.pu,25,[]),(.pu,26,[]),(.mn,8,[]),(.mn,11,[]),(.pu,12,[]),(.mn,15,[]),(.pu,16,[]),(.mn,19,[]),(.pu,20,[]),(.la,21,[]),(.mn,24,[]),(.mn,27,[]),(.rv,21,[]),(.mn,28,[10]),(.mn,29,[11]),(.mn,30,[6,8])])),
 (4000011,.x7 [(.pu,0,[10,11]),(.pu,1,[10,11]),(.pu,2,[10,11]),(.pu,3,[10,11]),(.pu,4,[]),(.pu,5,[]),(.pu,8,[]),(.pu,9,[]),(.pu,11,[]),(.pu,12,[]),(.pu,14,[]),(.pu,15,[]),(.mn,6,[]),(.la,7,[]),(.mn,10,[]),(.mn,13,[]),(.mn,16,[]),(.rv,7,[]),(.mn,17,[10]),(.mn,18,[11]),(.mn,19,[6,8])]),
 (4000021,.x7 (j7 0 6++[(.mn,6,[]),(.mn,7,[6,8])])),
 (4000026,.x7 (j7 0 8++[(.pu,9,[]),(.pu,10,[]),(.mn,8,[]),(.mn,11,[]),(.mn,12,[]),(.mn,13,[6,8,10])]))] [(86,(yjO o)),(87,(yiI o)),(85,(yiJ o)),(68,(xfQ o)),(91,cj)] [(84,(zuO o)),(38,(znZ o)),(84,(zvJ o)),(32,(zpD o)),(45,(zsG o)),(40,(zqV o)),(39,(zqP o)),(84,(zvN o)),(88,bj)] ⟨ysQ,⟨yqY,⟨yqP,⟨(Xa.itoa (G:=tabs)),⟨vy,⟨⟩⟩⟩⟩⟩⟩ ⟨ygJ,⟨zuZ,⟨yfS,⟨zxG,⟨yaF,⟨zyL,⟨zyD,⟨ygI,⟨uy,⟨⟩⟩⟩⟩⟩⟩⟩⟩⟩⟩ func29
def yqX(o:D')(a:Bs):Option ((Int×Bool)⊕Unit):=
 bif(a==([]:Bs))then some (.inl (0,false))else(bif decide ((a.length:Int)>15)then some (.inl (0,false))else((idx a 0).bind fun b=>bif((b.toNat:Int)==((48:UInt8).toNat:Int))then(bif(a != ([48]:Bs))then some (.inl (0,false))else((o.trim a ([48,49,50,51,52,53,54,55,56,57]:Bs)).bind fun c=>bif(c != ([]:Bs))then some (.inl (0,false))else some (.inr ())))else((o.trim a ([48,49,50,51,52,53,54,55,56,57]:Bs)).bind fun d=>bif(d != ([]:Bs))then some (.inl (0,false))else some (.inr ()))))
def ydC(o:D')(a:Bs):Option (Int×Bool):=
 (yqX o a).bind fun c=>match c with
 |.inl d=>(some d)|.inr _=>((o.atoi a).bind fun b=>some (b.1,(!b.2)))
def ybR(o:D'):PC:=⟨[hS],[(.i .i64),.b],fun x=>ydC o x,false⟩
theorem yiG:Z0 aA tabs 60 (ybR o):=pd o [(2000003,.join [] [0] [(some 1000000,⟨[(2,hI),(3,hB)],[]⟩),(none,⟨[],[]⟩)]),
 (4000004,.x7 (j7 0 5))] [(164,(IV o)),(165,(pq o))] [] ⟨(Xa.trim (G:=tabs)),⟨(Xa.atoi (G:=tabs)),⟨⟩⟩⟩ ⟨⟩ func60
def yqT(_o:D')(c:kE)(a:Bs×Bs×Bool)(b:Int×Bool):Option (Bool⊕kE):=
 bif(!a.2.2)then some (.inl false)else(bif(!b.2)then some (.inl false)else(bif decide (b.1>(a.2.1.length:Int))then some (.inl false)else some (.inr c)))
def yrH(o:D')(c:Bs)(d:kE):Option (Fk⊕(Bool⊕kE)):=
 bif(c != ([]:Bs))then((o.cut c ([58]:Bs)).bind fun a=>(ydC o a.1).bind fun b=>(yqT o d a b).bind fun e=>match e with
 |.inl f=>some (.inr (.inl f))|.inr g=>((Z6 a.2.1 b.1).bind fun h=>(X0 g ([h]:kE)).bind fun i=>(T4 a.2.1 b.1).bind fun j=>some (.inl (j,i))))else some (.inr (.inr d))
def ymK(o:D')(a:Bs):Option (Tu):=
 (iter (fun x=>yrH o x.1 x.2) (a,([]:kE))).bind fun b=>match b with
 |.inl c=>some (([]:kE),c)|.inr d=>some (d,true)
def ykP(o:D'):SC:=⟨⟨[(0,hS)],[]⟩,2,[(none,⟨[(0,(.h (.sl .s))),(1,hB)],[]⟩)],fun x=>ymK o x⟩
theorem ytU:P' aA tabs 11 (ykP o):=Z7 o [(2000007,.join [] [6,8] [(some 1000000,⟨[(2,.Y'),(3,hB)],[]⟩),(none,⟨[(4,(.own 0))],[.H' .s 9]⟩)]),
 (200002,.loop [.sl 4 .s 9] ⟨[(0,hS),(4,(.own 0))],[.H' .s 9]⟩ [] [(some 1000000,⟨[(2,.Y'),(3,hB)],[]⟩),(some 0,⟨[(4,(.own 0))],[.H' .s 9]⟩)])] [(59,(Cm o)),(60,(ybR o)),(61,qL)] [] ⟨(Xa.cut (G:=tabs)),⟨yiG,⟨KN,⟨⟩⟩⟩⟩ ⟨⟩ func11
def PN(_o:D')(a:kE)(b:Bool):Option ((Bs×Tu)):=
 bif((a.length:Int)==0)then some (([]:Bs),a,true)else((idx a 0).bind fun c=>(T4 a 1).bind fun d=>some (c,d,b))
def zrZ(o:D'):SC:=⟨⟨[(0,(.ptr 0 0))],[Em]⟩,1,[(none,⟨[(0,hS)],[Em]⟩)],Ek (PN o)⟩
theorem yaS:P' aA tabs 169 (zrZ o):=Z7 o [] [] [] ⟨⟩ ⟨⟩ func169
def QN(_o:D')(a:Bs)(b:kE)(c:Bool):Option ((Bool×Tu)):=
 bif c then some ((a==([49]:Bs)),b,true)else(bif(a != ([48]:Bs))then some ((a==([49]:Bs)),b,(a != ([49]:Bs)))else some ((a==([49]:Bs)),b,false))
def yaN(o:D'):SC:=⟨⟨[(0,(.ptr 0 0)),(1,hS)],[Em]⟩,1,[(none,⟨[(0,hB)],[Em]⟩)],JV (QN o)⟩
theorem ykY:P' aA tabs 170 (yaN o):=Z7 o [] [] [] ⟨⟩ ⟨⟩ func170
def zrB(o:D')(c:kE)(d:Bool):Option ((Int×Tu)):=
 (PN o c d).bind fun a=>(ydC o a.1).bind fun b=>bif a.2.2 then some (b.1,a.2.1,true)else some (b.1,a.2.1,(!b.2))
def zpB(o:D'):SC:=⟨⟨[(0,(.ptr 0 0))],[Em]⟩,1,[(none,⟨[(0,hI)],[Em]⟩)],Ek (zrB o)⟩
theorem zwZ:P' aA tabs 243 (zpB o):=Z7 o [] [(60,(ybR o))] [(169,(zrZ o))] ⟨yiG,⟨⟩⟩ ⟨yaS,⟨⟩⟩ func243
def yjU(_o:D')(a:(Int×Tu)):Option (Tu⊕Tu):=
 bif a.2.2 then some (.inl (a.2.1,true))else(bif decide (a.1>(a.2.1.length:Int))then some (.inl (a.2.1,true))else some (.inr a.2))
def NR(o:D')(c:kE)(d:Bool):Option ((kE×Tu)):=
 (zrB o c d).bind fun a=>(yjU o a).bind fun e=>match e with
 |.inl f=>some (([]:kE),f)|.inr b=>((Z6 b.1 a.1).bind fun g=>(X0 ([]:kE) g).bind fun h=>(T4 b.1 a.1).bind fun i=>some (h,i,b.2))
def yaL(o:D'):SC:=⟨⟨[(0,(.ptr 0 0))],[Em]⟩,1,[(none,⟨[(0,(.h (.sl .s)))],[Em]⟩)],Ek (NR o)⟩
theorem ylA:P' aA tabs 171 (yaL o):=Z7 o [(2000005,.join [] [3] [(some 1000000,⟨[(2,.Y')],[Em]⟩),(none,⟨[(0,(.ptr 0 0))],[Em]⟩)])] [] [(243,(zpB o)),(198,oL)] ⟨⟩ ⟨zwZ,⟨JN,⟨⟩⟩⟩ func171
def ybU(o:D')(b:kE)(a:Int):Option (Int⊕(Bool⊕Unit)):=
 bif decide (a<(b.length:Int))then((idx b a).bind fun c=>(py o c).bind fun e=>bif(!e)then some (.inr (.inl false))else(bif decide (a>0)then((idx b (P0 (a-1))).bind fun d=>bif(j9 c d||c==d)then some (.inr (.inl false))else some (.inl (P0 (a+1))))else some (.inl (P0 (a+1)))))else some (.inr (.inr ()))
def yW(o:D')(a:kE)(b:Int):Option (Bool):=
 (iter (ybU o a) 0).bind fun c=>match c with
 |.inl d=>some d|.inr _=>some (decide ((a.length:Int)<=b))
def yiM(o:D'):SC:=⟨⟨[(0,(.h (.sl .s))),(1,hI),(2,(.fn 15 [] []))],[]⟩,1,[(none,⟨[(0,hB)],[]⟩)],Ek (yW o)⟩
theorem yrC:P' aA tabs 174 (yiM o):=Z7 o [(200002,.loop [] ⟨[(2,(.fn 15 [] [])),(11,hI)],[]⟩ [0,1,9,10] [(some 1000000,⟨[(6,hB)],[]⟩),(some 0,⟨[],[]⟩)])] [(15,(pR o))] [] ⟨PV,⟨⟩⟩ ⟨⟩ G9
def ybW(o:D')(a:jf):Option ((Bool×jf)):=
 bif(a.2.1==([]:Bs))then some (true,a)else(bif((a.2.1.length:Int)==64)then((o.trim a.2.1 ([48,49,50,51,52,53,54,55,56,57,97,98,99,100,101,102]:Bs)).bind fun b=>some ((b==([]:Bs)),a))else some (false,a))
def PR(o:D')(b:jf):Option (Bool):=
 (ybW o b).bind fun a=>(Ec o a.2.1).bind fun c=>bif c then(bif a.1 then((yW o a.2.2.2.1 16).bind fun d=>bif d then((wR o a.2.2.2.2.1 16).bind fun e=>some e)else(some false))else(some false))else(some false)
def ybI(o:D'):PC:=⟨[(.h Mt)],[.b],fun x=>PR o x,false⟩
theorem yiL:Z0 aA tabs 106 (ybI o):=pd o [(2000002,.join [] [] [(none,⟨[(1,(.ptr 0 0)),(3,hB)],[.N' 51 [hS,hS,(.h (.sl .s)),(.h (.sl .s)),hB,hB,hB,hB]]⟩)])] [(164,(IV o)),(13,(Hk o))] [(174,(yiM o)),(174,(ydP o))] ⟨(Xa.trim (G:=tabs)),⟨Im,⟨⟩⟩⟩ ⟨yrC,⟨ylJ,⟨⟩⟩⟩ func106
def zpF(o:D')(b:kE)(c:Bool):Option ((Int×Tu)):=
 (zrB o b c).bind fun a=>bif a.2.2 then some (a.1,a.2.1,true)else(bif decide (a.1<1)then some (a.1,a.2.1,true)else some (a.1,a.2.1,decide (a.1>1099511627776)))
def zuP(o:D'):SC:=⟨⟨[(0,(.ptr 0 0))],[Em]⟩,1,[(none,⟨[(0,hI)],[Em]⟩)],Ek (zpF o)⟩
theorem yfK:P' aA tabs 172 (zuP o):=Z7 o [] [] [(243,(zpB o))] ⟨⟩ ⟨zwZ,⟨⟩⟩ func172
def yfF(_o:D')(a:P2)(b:Q1)(c:n2)(d:Q2)(e:kC)(f:Tu)(g:Bs×Bs×Bool):Option ((Bool×V7)⊕V7):=
 bif(!f.2)then some (.inl (false,a,b,c,d,e))else(bif(!g.2.2)then some (.inl (false,a,b,c,d,e))else some (.inr (a,b,c,d,e)))
def yeX(o:D')(b:Int)(c:P2)(d:Q1)(e:n2)(f:Q2)(g:kC)(l:kE)(m:Bool)(i:kE)(j:kE)(k:kE)(h:Int):Option ((Int×P2×Q1×n2×Q2×kC×kE×Bool×kE×kE×kE×Int)⊕((P2×Q1×n2×Q2×kC×kE×Bool×kE×kE×kE×Int))):=
 bif decide (b<3)then((NR o l m).bind fun a=>bif decide (b=0)then some (.inl (P0 (b+1),c,d,e,f,g,a.2.1,a.2.2,a.1,j,k,h))else(bif decide (b=1)then some (.inl (P0 (b+1),c,d,e,f,g,a.2.1,a.2.2,i,a.1,k,h))else(bif decide (b=2)then some (.inl (P0 (b+1),c,d,e,f,g,a.2.1,a.2.2,i,j,a.1,h))else none)))else some (.inr (c,d,e,f,g,l,m,i,j,k,h))
def yeN(o:D')(d:Tu)(b:Bs×Bs×Bool)(a:V7):Option ((Bool×V7)⊕(Bool×P2×Q1×n2×Q2×kC×Tu)):=
 bif(b.1==([99,108,105,101,110,116]:Bs))then((PN o d.1 false).bind fun g=>(PN o g.2.1 g.2.2).bind fun e=>bif((e.1.length:Int) != 4)then some (.inl (false,a))else((Z6 e.1 1).bind fun y=>(Qr e.1 1 2).bind fun z=>(Qr e.1 2 3).bind fun A=>(T4 e.1 3).bind fun B=>(QN o y e.2.1 e.2.2).bind fun h=>(QN o z h.2.1 h.2.2).bind fun i=>(QN o A i.2.1 i.2.2).bind fun j=>(QN o B j.2.1 j.2.2).bind fun k=>(NR o k.2.1 k.2.2).bind fun l=>(NR o l.2.1 l.2.2).bind fun n=>let C:Q2:=Y0 j' O' a.2.2.2.1 b.2.1 (b.2.1,g.1,l.1,n.1,h.1,i.1,j.1,k.1)
 (PR o (b.2.1,g.1,l.1,n.1,h.1,i.1,j.1,k.1)).bind fun D=>some (.inr (D,a.1,a.2.1,a.2.2.1,C,a.2.2.2.2,n.2))))else(bif(b.1==([103,114,111,117,112]:Bs))then((zpF o d.1 false).bind fun p=>(iter (fun x=>yeX o x.1 x.2.1 x.2.2.1 x.2.2.2.1 x.2.2.2.2.1 x.2.2.2.2.2.1 x.2.2.2.2.2.2.1 x.2.2.2.2.2.2.2.1 x.2.2.2.2.2.2.2.2.1 x.2.2.2.2.2.2.2.2.2.1 x.2.2.2.2.2.2.2.2.2.2.1 x.2.2.2.2.2.2.2.2.2.2.2) (0,a.1,a.2.1,a.2.2.1,a.2.2.2.1,a.2.2.2.2,p.2.1,p.2.2,([]:kE),([]:kE),([]:kE),p.1)).bind fun c=>let E:Q1:=Y0 j' O' c.2.1 b.2.1 ((c.2.2.2.2.2.2.2.1,c.2.2.2.2.2.2.2.2.1,c.2.2.2.2.2.2.2.2.2.1),c.2.2.2.2.2.2.2.2.2.2)
 (Ec o b.2.1).bind fun F=>some (.inr (F,c.1,E,c.2.2.1,c.2.2.2.1,c.2.2.2.2.1,c.2.2.2.2.2.1,c.2.2.2.2.2.2.1)))else(bif(b.1==([109,97,121]:Bs))then((o.cut b.2.1 ([124]:Bs)).bind fun f=>let q:kC:=Y0 (o5 (.pr .s .s)) (Ho (.pr .s .s)) a.2.2.2.2 (f.1,f.2.1) ()
 bif f.2.2 then((Uu o f.1).bind fun G=>bif G then((Uu o f.2.1).bind fun H=>some (.inr (H,a.1,a.2.1,a.2.2.1,a.2.2.2.1,q,d.1,false)))else some (.inr (false,a.1,a.2.1,a.2.2.1,a.2.2.2.1,q,d.1,false)))else some (.inr (false,a.1,a.2.1,a.2.2.1,a.2.2.2.1,q,d.1,false)))else(bif(b.1==([114,111,108,101]:Bs))then((NR o d.1 false).bind fun r=>let I:n2:=Y0 j' O' a.2.2.1 b.2.1 (b.2.1,r.1)
 (xR o (b.2.1,r.1)).bind fun J=>some (.inr (J,a.1,a.2.1,I,a.2.2.2.1,a.2.2.2.2,r.2)))else(bif(b.1==([117,115,101,114]:Bs))then((PN o d.1 false).bind fun m=>(PN o m.2.1 m.2.2).bind fun t=>(QN o t.1 t.2.1 t.2.2).bind fun u=>(zpF o u.2.1 u.2.2).bind fun v=>let w:P2:=Y0 j' O' a.1 b.2.1 (b.2.1,m.1,u.1,v.1)
 (Ec o b.2.1).bind fun K=>bif K then((py o m.1).bind fun L=>some (.inr (L,w,a.2.1,a.2.2.1,a.2.2.2.1,a.2.2.2.2,v.2)))else some (.inr (false,w,a.2.1,a.2.2.1,a.2.2.2.1,a.2.2.2.2,v.2)))else some (.inr (false,a.1,a.2.1,a.2.2.1,a.2.2.2.1,a.2.2.2.2,d.1,false))))))
def zoP(o:D')(b:Bs×Bs)(e:P2)(f:Q1)(g:n2)(h:Q2)(i:kC):Option ((Bool×V7)):=
 (ymK o b.2).bind fun c=>(o.cut b.1 ([47]:Bs)).bind fun d=>(yfF o e f g h i c d).bind fun j=>match j with
 |.inl k=>some k|.inr l=>((yeN o c d l).bind fun m=>match m with
 |.inl n=>some n|.inr a=>(bif a.1 then(bif(!a.2.2.2.2.2.2.2)then some (((a.2.2.2.2.2.2.1.length:Int)==0),a.2.1,a.2.2.1,a.2.2.2.1,a.2.2.2.2.1,a.2.2.2.2.2.1)else some (false,a.2.1,a.2.2.1,a.2.2.2.1,a.2.2.2.2.1,a.2.2.2.2.2.1))else some (false,a.2.1,a.2.2.1,a.2.2.2.1,a.2.2.2.2.1,a.2.2.2.2.2.1)))
def ztP(o:D'):SC:=⟨⟨[(0,(.ptr 0 0)),(1,(.h (.pr .s .s)))],[j4,X2,r3,Y2,U2,Z']⟩,1,[(none,⟨[(0,hB)],[j4,Fm,yE,Gm,.mp false .s Mt,.mp false (.pr .s .s) .un]⟩)],Y9 (zoP o)⟩
theorem yeS:P' aA tabs 75 (ztP o):=Z7 o [(2000005,.join [] [5,7,8] [(some 1000000,⟨[(4,hB)],[j4,X2,r3,Y2,U2,Z']⟩),(none,⟨[(0,(.ptr 0 0))],[j4,X2,r3,Y2,U2,Z']⟩)]),
 (200020,.loop [] ⟨[(0,(.ptr 0 0)),(10,(.ptr 6 0)),(13,(.ptr 7 0)),(93,hI)],[j4,X2,r3,Y2,U2,Z',Em,lh]⟩ [8] [(some 1,⟨[(0,(.ptr 0 0)),(10,(.ptr 6 0)),(13,(.ptr 7 0))],[j4,X2,r3,Y2,U2,Z',Em,lh]⟩)]),
 (2000038,.join [] [] [(some 1000000,⟨[(4,hB)],[j4,X2,r3,Y2,U2,Z']⟩),(none,⟨[(6,hB),(10,(.ptr 6 0))],[j4,Fm,yE,Gm,.mp false .s Mt,.mp false (.pr .s .s) .un,Em]⟩)]),
 (4000013,.x7 (j7 0 3++[(.pu,4,[6]),(.pu,5,[6]),(.pu,6,[6]),(.pu,8,[6]),(.pu,9,[6]),(.pu,10,[6]),(.pu,12,[6]),(.pu,13,[6]),(.pu,14,[6]),(.mn,3,[6]),(.pu,16,[6]),(.mn,7,[6]),(.mn,11,[6]),(.mn,15,[6]),(.mn,17,[8]),(.pu,18,[]),(.mn,19,[8]),(.pu,20,[]),(.mn,21,[8]),(.pu,22,[]),(.mn,23,[8])])),
 (4000015,.x7 (j7 0 6++[(.mn,6,[0,1,2,3,4,5,6,7,8,9,10,11,12,13,14,15])])),
 (4000024,.x7 (j7 0 6++[(.mn,6,[0,1,2,3,4,5,6,7])])),
 (4000032,.x7 (j7 0 6++[(.mn,6,[0,1,2,3,4,5,6,7,8])])),
 (4000036,.x7 (j7 0 6++[(.mn,6,[0,1,2,3,4,5,6,7,8,9,10,11])]))] [(59,(Cm o)),(106,(ybI o)),(13,(Hk o)),(19,(rW o)),(104,(yfB o)),(15,(pR o))] [(11,(ykP o)),(169,(zrZ o)),(170,(yaN o)),(171,(yaL o)),(172,(zuP o))] ⟨(Xa.cut (G:=tabs)),⟨yiL,⟨Im,⟨zuJ,⟨ymG,⟨PV,⟨⟩⟩⟩⟩⟩⟩⟩ ⟨ytU,⟨yaS,⟨ykY,⟨ylA,⟨yfK,⟨⟩⟩⟩⟩⟩⟩ func75
def yrG(o:D')(c:kE)(a:Int)(e:P2)(f:Q1)(g:n2)(h:Q2)(i:kC):Option ((Int×V7)⊕((Bool×V7)⊕V7)):=
 bif decide (a<(c.length:Int))then((idx c a).bind fun d=>(kW o d e f g h i).bind fun b=>bif(!b.1)then some (.inr (.inl (false,b.2)))else(bif decide (a>0)then((idx c (P0 (a-1))).bind fun j=>bif(j9 d j||d==j)then some (.inr (.inl (false,b.2)))else some (.inl (P0 (a+1),b.2)))else some (.inl (P0 (a+1),b.2))))else some (.inr (.inr (e,f,g,h,i)))
def ylD(o:D')(a:kE)(b:Int)(c:P2)(d:Q1)(e:n2)(f:Q2)(g:kC):Option ((Bool×V7)):=
 (iter (fun x=>yrG o a x.1 x.2.1 x.2.2.1 x.2.2.2.1 x.2.2.2.2.1 x.2.2.2.2.2) (0,c,d,e,f,g)).bind fun h=>match h with
 |.inl i=>some i|.inr j=>some (decide ((a.length:Int)<=b),j)
def yiF(o:D'):SC:=⟨⟨[(0,(.h (.sl .s))),(1,hI),(2,(.fn 244 [] [(.ptr 0 0)]))],[Ee,yb,X2,r3,Y2,U2,Z']⟩,1,[(none,⟨[(0,hB)],[Ee,yb,X2,r3,Y2,U2,Z']⟩)],Aa (ylD o)⟩
theorem yrB:P' aA tabs 174 (yiF o):=Z7 o [(200002,.loop [] ⟨[(2,(.fn 244 [] [(.ptr 0 0)])),(11,hI)],[Ee,yb,X2,r3,Y2,U2,Z']⟩ [0,1,9,10] [(some 1000000,⟨[(6,hB)],[Ee,yb,X2,r3,Y2,U2,Z']⟩),(some 0,⟨[],[Ee,yb,X2,r3,Y2,U2,Z']⟩)])] [] [(244,(zoK o))] ⟨⟩ ⟨zuY,⟨⟩⟩ G9
def yqW(o:D')(c:kE)(a:Int)(e:P2)(f:Q1)(g:n2)(h:Q2)(i:kC):Option ((Int×V7)⊕((Bool×V7)⊕V7)):=
 bif decide (a<(c.length:Int))then((idx c a).bind fun d=>(QV o d e f g h i).bind fun b=>bif(!b.1)then some (.inr (.inl (false,b.2)))else(bif decide (a>0)then((idx c (P0 (a-1))).bind fun j=>bif(j9 d j||d==j)then some (.inr (.inl (false,b.2)))else some (.inl (P0 (a+1),b.2)))else some (.inl (P0 (a+1),b.2))))else some (.inr (.inr (e,f,g,h,i)))
def ykC(o:D')(a:kE)(b:Int)(c:P2)(d:Q1)(e:n2)(f:Q2)(g:kC):Option ((Bool×V7)):=
 (iter (fun x=>yqW o a x.1 x.2.1 x.2.2.1 x.2.2.2.1 x.2.2.2.2.1 x.2.2.2.2.2) (0,c,d,e,f,g)).bind fun h=>match h with
 |.inl i=>some i|.inr j=>some (decide ((a.length:Int)<=b),j)
def yiE(o:D'):SC:=⟨⟨[(0,(.h (.sl .s))),(1,hI),(2,(.fn 245 [] [(.ptr 0 0)]))],[Ee,yb,X2,r3,Y2,U2,Z']⟩,1,[(none,⟨[(0,hB)],[Ee,yb,X2,r3,Y2,U2,Z']⟩)],Aa (ykC o)⟩
theorem yqQ:P' aA tabs 174 (yiE o):=Z7 o [(200002,.loop [] ⟨[(2,(.fn 245 [] [(.ptr 0 0)])),(11,hI)],[Ee,yb,X2,r3,Y2,U2,Z']⟩ [0,1,9,10] [(some 1000000,⟨[(6,hB)],[Ee,yb,X2,r3,Y2,U2,Z']⟩),(some 0,⟨[],[Ee,yb,X2,r3,Y2,U2,Z']⟩)])] [] [(245,(zoJ o))] ⟨⟩ ⟨zuU,⟨⟩⟩ G9
def yrK(o:D')(c:kE)(a:Int)(e:P2)(f:Q1)(g:n2)(h:Q2)(i:kC):Option ((Int×V7)⊕((Bool×V7)⊕V7)):=
 bif decide (a<(c.length:Int))then((idx c a).bind fun d=>(oW o d e f g h i).bind fun b=>bif(!b.1)then some (.inr (.inl (false,b.2)))else(bif decide (a>0)then((idx c (P0 (a-1))).bind fun j=>bif(j9 d j||d==j)then some (.inr (.inl (false,b.2)))else some (.inl (P0 (a+1),b.2)))else some (.inl (P0 (a+1),b.2))))else some (.inr (.inr (e,f,g,h,i)))
def ykK(o:D')(a:kE)(b:Int)(c:P2)(d:Q1)(e:n2)(f:Q2)(g:kC):Option ((Bool×V7)):=
 (iter (fun x=>yrK o a x.1 x.2.1 x.2.2.1 x.2.2.2.1 x.2.2.2.2.1 x.2.2.2.2.2) (0,c,d,e,f,g)).bind fun h=>match h with
 |.inl i=>some i|.inr j=>some (decide ((a.length:Int)<=b),j)
def yiB(o:D'):SC:=⟨⟨[(0,(.h (.sl .s))),(1,hI),(2,(.fn 246 [] [(.ptr 0 0)]))],[Ee,yb,X2,r3,Y2,U2,Z']⟩,1,[(none,⟨[(0,hB)],[Ee,yb,X2,r3,Y2,U2,Z']⟩)],Aa (ykK o)⟩
theorem yrE:P' aA tabs 174 (yiB o):=Z7 o [(200002,.loop [] ⟨[(2,(.fn 246 [] [(.ptr 0 0)])),(11,hI)],[Ee,yb,X2,r3,Y2,U2,Z']⟩ [0,1,9,10] [(some 1000000,⟨[(6,hB)],[Ee,yb,X2,r3,Y2,U2,Z']⟩),(some 0,⟨[],[Ee,yb,X2,r3,Y2,U2,Z']⟩)])] [] [(246,(zoO o))] ⟨⟩ ⟨zvD,⟨⟩⟩ G9
def zvI(_o:D')(b:Bs)(a:Ta):Option ((Bool×Ta)):=
 let _:kE:=r6 j' a b ([]:kE)
 some (J' j' a b,a)
abbrev vq:X3:=.mp true .s (.sl .s)
def ztT(o:D'):SC:=⟨⟨[(0,hS),(1,(.ptr 0 0))],[xE,vq]⟩,1,[(none,⟨[(0,hB)],[xE,vq]⟩)],Ek (zvI o)⟩
theorem yfE:P' aA tabs 247 (ztT o):=Z7 o [] [] [] ⟨⟩ ⟨⟩ func247
def ylY(o:D')(c:kE)(a:Int)(d:Ta):Option ((Int×Ta)⊕((Int×Ta)⊕Ta)):=
 bif decide (a<(c.length:Int))then((idx c a).bind fun e=>(zvI o e d).bind fun b=>bif b.1 then some (.inr (.inl (a,b.2)))else some (.inl (P0 (a+1),b.2)))else some (.inr (.inr d))
def ydB(o:D')(a:kE)(b:Ta):Option ((Int×Ta)):=
 (iter (fun x=>ylY o a x.1 x.2) (0,b)).bind fun c=>match c with
 |.inl d=>some d|.inr e=>some ((-1:Int),e)
def ycB(o:D'):SC:=⟨⟨[(0,(.h (.sl .s))),(1,(.fn 247 [] [(.ptr 0 0)]))],[xE,vq]⟩,1,[(none,⟨[(0,hI)],[xE,vq]⟩)],Ek (ydB o)⟩
theorem ymA:P' aA tabs 212 (ycB o):=Z7 o [(200002,.loop [] ⟨[(1,(.fn 247 [] [(.ptr 0 0)])),(8,hI)],[xE,vq]⟩ [0,7] [(some 1000000,⟨[(4,hI)],[xE,vq]⟩),(some 0,⟨[],[xE,vq]⟩)])] [] [(247,(ztT o))] ⟨⟩ ⟨yfE,⟨⟩⟩ F8
def zyM(o:D')(b:kE)(c:Ta):Option ((Bool×Ta)):=
 (ydB o b c).bind fun a=>some (decide (a.1≥0),a.2)
def zwU(o:D'):SC:=⟨⟨[(0,(.h (.sl .s))),(1,(.fn 247 [] [(.ptr 0 0)]))],[xE,vq]⟩,1,[(none,⟨[(0,hB)],[xE,vq]⟩)],Ek (zyM o)⟩
theorem ygK:P' aA tabs 129 (zwU o):=Z7 o [] [] [(212,(ycB o))] ⟨⟩ ⟨ymA,⟨⟩⟩ func129
noncomputable def ygP(_o:D')(c:P2)(a:Q1)(d:n2)(e:Q2)(f:kC)(g:kE)(h:Ta):List (Option ((P2×Q1×n2×Q2×kC×kE×Ta)⊕((P2×Q1×n2×Q2×kC×Ta)))):=
 cb (Ra j' a g) (some (.inr (c,a,d,e,f,h))) fun b=>(W0 j' a b.1).bind fun i=>let j:Ta:=Y0 j' O' h b.1 i.1.2.1
 some (.inl (c,a,d,e,f,U7 j' g b.1,j))
noncomputable def yhG(_o:D')(g:Bool)(b:P2)(c:Q1)(d:n2)(e:Q2)(f:kC)(a:Ta):Option (((Bool×P2×Q1×n2×Q2×kC×Ta)⊕(Bool×P2×Q1×n2×Q2×kC×kE×Ta))⊕((P2×Q1×n2×Q2×kC×Ta))):=
 bif g then some (.inl (.inr (false,b,c,d,e,f,cU Prod.fst a,a)))else some (.inr (b,c,d,e,f,a))
noncomputable def yhJ(o:D')(j:Bool)(c:P2)(d:Q1)(e:n2)(f:Q2)(g:kC)(h:kE)(a:Ta):List (Option (((Bool×P2×Q1×n2×Q2×kC×Ta)⊕(Bool×P2×Q1×n2×Q2×kC×kE×Ta))⊕((P2×Q1×n2×Q2×kC×Ta)))):=
 cb (Ra j' a h) (some (.inl (.inl (j,c,d,e,f,g,a)))) fun b=>(W0 j' a b.1).bind fun k=>(zyM o k a).bind fun i=>bif(!i.1)then some (.inl (.inr (true,c,d,e,f,g,U7 j' h b.1,l5 j' i.2 b.1)))else some (.inl (.inr (j,c,d,e,f,g,U7 j' h b.1,i.2)))
noncomputable def ygZ(o:D'):(Bool×P2×Q1×n2×Q2×kC×Ta)⊕(Bool×P2×Q1×n2×Q2×kC×kE×Ta)->List (Option (((Bool×P2×Q1×n2×Q2×kC×Ta)⊕(Bool×P2×Q1×n2×Q2×kC×kE×Ta))⊕((P2×Q1×n2×Q2×kC×Ta))))
 |.inl x=>[yhG o x.1 x.2.1 x.2.2.1 x.2.2.2.1 x.2.2.2.2.1 x.2.2.2.2.2.1 x.2.2.2.2.2.2]|.inr x=>yhJ o x.1 x.2.1 x.2.2.1 x.2.2.2.1 x.2.2.2.2.1 x.2.2.2.2.2.1 x.2.2.2.2.2.2.1 x.2.2.2.2.2.2.2
noncomputable def QR(o:D')(c:P2)(b:Q1)(d:n2)(e:Q2)(f:kC):Option ((Bool×V7)):=
 (U8 (fun x=>ygP o x.1 x.2.1 x.2.2.1 x.2.2.2.1 x.2.2.2.2.1 x.2.2.2.2.2.1 x.2.2.2.2.2.2) (c,b,d,e,f,cU Prod.fst b,([]:Ta))).bind fun g=>(U8 (ygZ o) (Sum.inl (true,g))).bind fun a=>some (((a.2.2.2.2.2.length:Int)==0),a.1,a.2.1,a.2.2.1,a.2.2.2.1,a.2.2.2.2.1)
noncomputable def zvX(o:D'):SC:=⟨⟨[(0,(.ptr 0 0))],[j4,X2,r3,Y2,U2,Z']⟩,1,[(none,⟨[(0,hB)],[j4,X2,r3,Y2,U2,Z']⟩)],rq (QR o)⟩
theorem yhO:P' aA tabs 175 (zvX o):=jc (G:=tabs) (o:=o)<|oH (H:=⟨[false,false,false,true,false],[],⟨[(3,(.ptr 6 0)),(6,hB)],[j4,X2,r3,Y2,U2,Z',ny,vq]⟩,[2],[(some 2,⟨[(3,(.ptr 6 0))],[j4,X2,r3,Y2,U2,Z',ny,vq]⟩)],[false,false,false],⟨[(3,(.ptr 6 0)),(6,hB),(27,(.ptr 7 0))],[j4,X2,r3,Y2,U2,Z',.N' 237 [(.mpr 8)],.it 8 true .s,vq]⟩,[2]⟩) (η:=[(200003,.HG [] ⟨[(3,(.ptr 6 0)),(14,(.ptr 7 0))],[j4,X2,r3,Y2,U2,Z',.N' 237 [(.mpr 8)],.it 2 true .s,vq]⟩ [2] [(some 0,⟨[(3,(.ptr 6 0))],[j4,X2,r3,Y2,U2,Z',ny,vq]⟩)])]) (Γ:=⟨[],[(129,(zwU o))],false,[]⟩) sH V8 (X4 trivial ⟨ygK,trivial⟩) func175 (Y5 func175) (by kernel_rfl) (by kernel_rfl) (by kernel_rfl)
noncomputable def zyR(_o:D')(a:P2)(b:Q1)(c:n2)(d:Q2)(e:kC):Option ((Bool×V7)⊕V7):=
 bif decide ((a.length:Int)>64)then some (.inl (false,a,b,c,d,e))else(bif decide ((b.length:Int)>32)then some (.inl (false,a,b,c,d,e))else(bif decide ((c.length:Int)>32)then some (.inl (false,a,b,c,d,e))else(bif decide ((d.length:Int)>32)then some (.inl (false,a,b,c,d,e))else(bif decide ((e.length:Int)>64)then some (.inl (false,a,b,c,d,e))else some (.inr (a,b,c,d,e))))))
noncomputable def yjG(_o:D')(a:Int)(b:P2)(c:Q1)(d:n2)(e:Q2)(f:kC)(g:kE)(h:kE)(i:kE)(j:Int)(k:kE):Option ((P2×Q1×n2×Q2×kC×kE×kE×kE×Int×kE)⊕(P2×Q1×n2×Q2×kC×kE×kE×kE×Int×kE)⊕(P2×Q1×n2×Q2×kC×kE×kE×kE×Int×kE)):=
 bif decide (a=0)then some (.inl (b,c,d,e,f,g,h,i,j,k))else(bif decide (a=1)then some (.inr (.inl (b,c,d,e,f,g,h,i,j,k)))else(bif decide (a=2)then some (.inr (.inr (b,c,d,e,f,g,h,i,j,k)))else none))
noncomputable def yiO(o:D')(g:Int)(h:P2)(i:Q1)(j:n2)(k:Q2)(l:kC)(n:kE)(p:kE)(q:kE)(r:Int)(m:kE):Option ((Int×P2×Q1×n2×Q2×kC×kE×kE×kE×Int×kE)⊕((Bool×V7)⊕(P2×Q1×n2×Q2×kC×kE))):=
 bif decide (g<3)then((yjG o g h i j k l n p q r m).bind fun s=>match s with
 |.inl a=>((ylD o a.2.2.2.2.2.1 (a.2.2.2.2.2.1.length:Int) a.1 a.2.1 a.2.2.1 a.2.2.2.1 a.2.2.2.2.1).bind fun d=>bif(!d.1)then some (.inr (.inl (false,d.2)))else some (.inl (P0 (g+1),d.2.1,d.2.2.1,d.2.2.2.1,d.2.2.2.2.1,d.2.2.2.2.2,a.2.2.2.2.2)))|.inr t=>(match t with
 |.inl b=>((ykC o b.2.2.2.2.2.2.1 (b.2.2.2.2.2.2.1.length:Int) b.1 b.2.1 b.2.2.1 b.2.2.2.1 b.2.2.2.2.1).bind fun e=>bif(!e.1)then some (.inr (.inl (false,e.2)))else some (.inl (P0 (g+1),e.2.1,e.2.2.1,e.2.2.2.1,e.2.2.2.2.1,e.2.2.2.2.2,b.2.2.2.2.2)))|.inr c=>((ykK o c.2.2.2.2.2.2.2.1 (c.2.2.2.2.2.2.2.1.length:Int) c.1 c.2.1 c.2.2.1 c.2.2.2.1 c.2.2.2.2.1).bind fun f=>bif(!f.1)then some (.inr (.inl (false,f.2)))else some (.inl (P0 (g+1),f.2.1,f.2.2.1,f.2.2.2.1,f.2.2.2.2.1,f.2.2.2.2.2,c.2.2.2.2.2)))))else some (.inr (.inr (h,i,j,k,l,m)))
noncomputable def yiT(o:D')(d:P2)(b:Q1)(e:n2)(f:Q2)(g:kC)(h:kE):List (Option ((P2×Q1×n2×Q2×kC×kE)⊕(V7⊕(Bool×V7)))):=
 cb (Ra j' b h) (some (.inr (.inl (d,b,e,f,g)))) fun i=>(W0 j' b i.1).bind fun c=>(sq o d b e f g).bind fun a=>(iter (fun x=>yiO o x.1 x.2.1 x.2.2.1 x.2.2.2.1 x.2.2.2.2.1 x.2.2.2.2.2.1 x.2.2.2.2.2.2.1 x.2.2.2.2.2.2.2.1 x.2.2.2.2.2.2.2.2.1 x.2.2.2.2.2.2.2.2.2.1 x.2.2.2.2.2.2.2.2.2.2) (0,a.1,a.2.1,a.2.2.1,a.2.2.2.1,a.2.2.2.2,c.1.1,c.1.2.1,c.1.2.2,c.2,U7 j' h i.1)).bind fun j=>match j with
 |.inl k=>some (.inr (.inr k))|.inr l=>some (.inl l)
noncomputable def yiZ(o:D')(e:P2)(f:Q1)(g:n2)(h:Q2)(c:kC)(i:kD):List (Option ((P2×Q1×n2×Q2×kC×kD)⊕(V7⊕(Bool×V7)))):=
 cb (Ra (o5 (.pr .s .s)) c i) (some (.inr (.inl (e,f,g,h,c)))) fun d=>(W0 (o5 (.pr .s .s)) c d.1).bind fun _=>(uH o d.1.1 e f g h c).bind fun a=>bif(!a.1)then some (.inr (.inr (false,a.2)))else((uH o d.1.2 a.2.1 a.2.2.1 a.2.2.2.1 a.2.2.2.2.1 a.2.2.2.2.2).bind fun b=>bif(!b.1)then some (.inr (.inr (false,b.2)))else some (.inl (b.2.1,b.2.2.1,b.2.2.2.1,b.2.2.2.2.1,b.2.2.2.2.2,U7 (o5 (.pr .s .s)) i d.1)))
noncomputable def RR(o:D')(d:P2)(e:Q1)(f:n2)(g:Q2)(h:kC):Option ((Bool×V7)):=
 (zyR o d e f g h).bind fun i=>match i with
 |.inl j=>some j|.inr a=>((U8 (fun x=>yiT o x.1 x.2.1 x.2.2.1 x.2.2.2.1 x.2.2.2.2.1 x.2.2.2.2.2) (a.1,a.2.1,a.2.2.1,a.2.2.2.1,a.2.2.2.2,cU Prod.fst a.2.1)).bind fun k=>match k with
 |.inl b=>((U8 (fun x=>yiZ o x.1 x.2.1 x.2.2.1 x.2.2.2.1 x.2.2.2.2.1 x.2.2.2.2.2) (b.1,b.2.1,b.2.2.1,b.2.2.2.1,b.2.2.2.2,cU Prod.fst b.2.2.2.2)).bind fun l=>match l with
 |.inl c=>((QR o c.1 c.2.1 c.2.2.1 c.2.2.2.1 c.2.2.2.2).bind fun m=>some m)|.inr n=>some n)
 |.inr p=>some p)
noncomputable def zyE(o:D'):SC:=⟨⟨[(0,(.ptr 0 0))],[j4,X2,r3,Y2,U2,Z']⟩,1,[(none,⟨[(0,hB)],[j4,X2,r3,Y2,U2,Z']⟩)],rq (RR o)⟩
theorem yjA:P' aA tabs 76 (zyE o):=Z7 o [(2000003,.join [] [] [(some 1000000,⟨[(2,hB)],[j4,X2,r3,Y2,U2,Z']⟩),(none,⟨[(0,(.ptr 0 0))],[j4,X2,r3,Y2,U2,Z']⟩)]),
 (2000009,.join [] [57] [(none,⟨[(0,(.ptr 0 0)),(4,(.ptr 6 0)),(6,(.ptr 7 0)),(50,(.ptr 8 0)),(56,(.ag [(.kn .i64 0),(.fn 244 [] [(.ptr 9 0)]),(.kn .i64 1),(.fn 245 [] [(.ptr 9 0)]),(.kn .i64 2),(.fn 246 [] [(.ptr 9 0)])]))],[j4,X2,r3,Y2,U2,Z',lh,.N' 187 [(.kn .i64 0),(.fn 244 [] [(.ptr 9 0)])],.it 2 true .s,Zi]⟩),(none,⟨[(0,(.ptr 0 0)),(4,(.ptr 6 0)),(6,(.ptr 7 0)),(50,(.ptr 8 0)),(56,(.ag [(.kn .i64 0),(.fn 244 [] [(.ptr 9 0)]),(.kn .i64 1),(.fn 245 [] [(.ptr 9 0)]),(.kn .i64 2),(.fn 246 [] [(.ptr 9 0)])]))],[j4,X2,r3,Y2,U2,Z',lh,.N' 187 [(.kn .i64 1),(.fn 245 [] [(.ptr 9 0)])],.it 2 true .s,Zi]⟩),(none,⟨[(0,(.ptr 0 0)),(4,(.ptr 6 0)),(6,(.ptr 7 0)),(50,(.ptr 8 0)),(56,(.ag [(.kn .i64 0),(.fn 244 [] [(.ptr 9 0)]),(.kn .i64 1),(.fn 245 [] [(.ptr 9 0)]),(.kn .i64 2),(.fn 246 [] [(.ptr 9 0)])]))],[j4,X2,r3,Y2,U2,Z',lh,.N' 187 [(.kn .i64 2),(.fn 246 [] [(.ptr 9 0)])],.it 2 true .s,Zi]⟩)]),
 (200007,.loop [] ⟨[(0,(.ptr 0 0)),(4,(.ptr 6 0)),(50,(.ptr 7 0)),(56,(.ag [(.kn .i64 0),(.fn 244 [] [(.ptr 8 0)]),(.kn .i64 1),(.fn 245 [] [(.ptr 8 0)]),(.kn .i64 2),(.fn 246 [] [(.ptr 8 0)])])),(57,hI)],[j4,X2,r3,Y2,U2,Z',lh,.it 2 true .s,Zi]⟩ [] [(some 1000000,⟨[(2,hB)],[j4,X2,r3,Y2,U2,Z']⟩),(some 2,⟨[(0,(.ptr 0 0)),(50,(.ptr 6 0))],[j4,X2,r3,Y2,U2,Z',.it 2 true .s]⟩)]),
 (200004,.HG [] ⟨[(0,(.ptr 0 0)),(50,(.ptr 6 0))],[j4,X2,r3,Y2,U2,Z',.it 2 true .s]⟩ [] [(some 0,⟨[(0,(.ptr 0 0))],[j4,X2,r3,Y2,U2,Z']⟩),(some 1000000,⟨[(2,hB)],[j4,X2,r3,Y2,U2,Z']⟩)]),
 (200013,.HG [] ⟨[(0,(.ptr 0 0)),(80,(.ptr 6 0))],[j4,X2,r3,Y2,U2,Z',.it 5 true (.pr .s .s)]⟩ [] [(some 4,⟨[(0,(.ptr 0 0))],[j4,X2,r3,Y2,U2,Z']⟩),(some 1000000,⟨[(2,hB)],[j4,X2,r3,Y2,U2,Z']⟩)]),
 (4000009,.x7 (j7 0 13++[(.mn,13,[0,1,2,3,4,5,9]),(.pu,14,[])]))] [] [(173,(tH o)),(174,(yiF o)),(174,(yiE o)),(174,(yiB o)),(128,(sW o)),(175,(zvX o))] ⟨⟩ ⟨nL,⟨yrB,⟨yqQ,⟨yrE,⟨zqS,⟨yhO,⟨⟩⟩⟩⟩⟩⟩⟩ func76
noncomputable def ymI(o:D')(c:kD)(a:Int)(d:P2)(e:Q1)(f:n2)(g:Q2)(h:kC):Option ((Int×V7)⊕(Int⊕V7)):=
 bif decide (a<(c.length:Int))then((idx c a).bind fun b=>bif decide (a>0)then((idx c (P0 (a-1))).bind fun i=>bif(j9 b.1 i.1||b.1==i.1)then some (.inr (.inl 125))else((zoP o b d e f g h).bind fun j=>bif(!j.1)then some (.inr (.inl 125))else some (.inl (P0 (a+1),j.2))))else((zoP o b d e f g h).bind fun k=>bif(!k.1)then some (.inr (.inl 125))else some (.inl (P0 (a+1),k.2))))else some (.inr (.inr (d,e,f,g,h)))
noncomputable def SR(o:D')(c:kD):Option (Int⊕(Int×V7)):=
 (dL o).bind fun d=>(iter (fun x=>ymI o c x.1 x.2.1 x.2.2.1 x.2.2.2.1 x.2.2.2.2.1 x.2.2.2.2.2) (0,d)).bind fun e=>match e with
 |.inl f=>some (.inl f)|.inr a=>((RR o a.1 a.2.1 a.2.2.1 a.2.2.2.1 a.2.2.2.2).bind fun b=>bif(!b.1)then some (.inl 125)else some (.inr (0,b.2)))
noncomputable def ymJ(o:D'):SC:=⟨⟨[(0,(.h (.sl (.pr .s .s))))],[]⟩,2,[(none,⟨[(0,.v7),(1,hI)],[]⟩),(none,⟨[(0,(.ptr 0 0)),(1,hI)],[j4,X2,r3,Y2,U2,Z']⟩)],fun x=>SR o x⟩
theorem yvG:P' aA tabs 25 (ymJ o):=Z7 o [(200003,.loop [] ⟨[(4,(.ptr 0 0)),(10,hI)],[j4,X2,r3,Y2,U2,Z']⟩ [0,8,9] [(some 1000000,⟨[(2,.v7),(3,hI)],[]⟩),(some 0,⟨[(4,(.ptr 0 0))],[j4,X2,r3,Y2,U2,Z']⟩)]),
 (4000005,.x7 (j7 0 16++[(.mn,16,[0,1,2,3,4,5]),(.pu,17,[]),(.pu,18,[])]))] [] [(30,(KV o)),(75,(ztP o)),(76,(zyE o))] ⟨⟩ ⟨ygO,⟨yeS,⟨yjA,⟨⟩⟩⟩⟩ func25
noncomputable def zwE(o:D')(g:V7):Option (Bool⊕V7):=
 (HN o ([97,110,110]:Bs) ([97,64,120]:Bs) g.1 g.2.1 g.2.2.1 g.2.2.2.1 g.2.2.2.2).bind fun a=>bif(a.1 != 0)then some (.inl false)else((HN o ([97,110,110]:Bs) ([97,64,120]:Bs) a.2.1 a.2.2.1 a.2.2.2.1 a.2.2.2.2.1 a.2.2.2.2.2).bind fun b=>bif(b.1 != 121)then some (.inl false)else((IN o ([103]:Bs) b.2.1 b.2.2.1 b.2.2.2.1 b.2.2.2.2.1 b.2.2.2.2.2).bind fun c=>bif(c.1 != 0)then some (.inl false)else((IN o ([104]:Bs) c.2.1 c.2.2.1 c.2.2.2.1 c.2.2.2.2.1 c.2.2.2.2.2).bind fun d=>bif(d.1 != 0)then some (.inl false)else((tR o ([103]:Bs) ([104]:Bs) d.2.1 d.2.2.1 d.2.2.2.1 d.2.2.2.2.1 d.2.2.2.2.2).bind fun e=>bif(e.1 != 0)then some (.inl false)else((tR o ([104]:Bs) ([103]:Bs) e.2.1 e.2.2.1 e.2.2.2.1 e.2.2.2.2.1 e.2.2.2.2.2).bind fun f=>bif(f.1 != 123)then some (.inl false)else((mW o ([104]:Bs) ([97,110,110]:Bs) f.2.1 f.2.2.1 f.2.2.2.1 f.2.2.2.2.1 f.2.2.2.2.2).bind fun h=>bif(h.1 != 0)then some (.inl false)else some (.inr h.2)))))))
noncomputable def zpA(o:D')(c:V7):Option (Bool⊕V7):=
 (yR o (([114]:Bs),([([114,101,97,100]:Bs)]:kE)) c.1 c.2.1 c.2.2.1 c.2.2.2.1 c.2.2.2.2).bind fun a=>bif(a.1 != 0)then some (.inl false)else((qW o ([103]:Bs) ([114]:Bs) a.2.1 a.2.2.1 a.2.2.2.1 a.2.2.2.2.1 a.2.2.2.2.2).bind fun b=>bif(b.1 != 0)then some (.inl false)else((sL o ([117,58,97,110,110]:Bs) b.2.1 b.2.2.1 b.2.2.2.1 b.2.2.2.2.1 b.2.2.2.2.2).bind fun d=>bif(!d.1)then some (.inl false)else some (.inr d.2)))
noncomputable def zqO(o:D'):Option (Bool):=
 (dL o).bind fun g=>(zwE o g).bind fun h=>match h with
 |.inl i=>(some i)|.inr j=>((zpA o j).bind fun k=>match k with
 |.inl l=>(some l)|.inr c=>((QA o ([97,110,110]:Bs) c.1 c.2.1 c.2.2.1 c.2.2.2.1 c.2.2.2.2).bind fun a=>(vH o ([97,110,110]:Bs) a.2.1 a.2.2.1 a.2.2.2.1 a.2.2.2.2.1 a.2.2.2.2.2).bind fun b=>(vL o b.2.1 b.2.2.1 b.2.2.2.1 b.2.2.2.2.1 b.2.2.2.2.2).bind fun d=>(SR o d.1).bind fun m=>match m with
 |.inl _=>(bif((a.1.length:Int)==2)then((idx a.1 0).bind fun n=>bif(n==([103]:Bs))then(bif((b.1.length:Int)==1)then((idx b.1 0).bind fun p=>bif(p==([114,101,97,100]:Bs))then(bif((d.1.length:Int)==4)then((idx d.1 1).bind fun e=>let q:Bool:=((e.1==([103,114,111,117,112,47,104]:Bs))&&(e.2==([49,58,50,49,58,49,51,58,97,110,110,49,58,48,49,58,48]:Bs)))
 bif q then(some false)else(some false))else(some false))else(some false))else(some false))else(some false))else(some false))
 |.inr r=>(bif((a.1.length:Int)==2)then((idx a.1 0).bind fun s=>bif(s==([103]:Bs))then(bif((b.1.length:Int)==1)then((idx b.1 0).bind fun t=>bif(t==([114,101,97,100]:Bs))then(bif((d.1.length:Int)==4)then((idx d.1 1).bind fun f=>let u:Bool:=((f.1==([103,114,111,117,112,47,104]:Bs))&&(f.2==([49,58,50,49,58,49,51,58,97,110,110,49,58,48,49,58,48]:Bs)))
 bif u then(bif(r.1==0)then((o.form ([([97,98]:Bs),([]:Bs)]:kE)).bind fun v=>some (v==([50,58,97,98,48,58]:Bs)))else(some false))else(some false))else(some false))else(some false))else(some false))else(some false))else(some false))))
noncomputable def zxP(o:D'):PC:=⟨[],[.b],fun _=>zqO o,false⟩
theorem yhH:Z0 aA tabs 24 (zxP o):=pd o [(2000004,.join [] [] [(some 1000000,⟨[(0,hB)],[]⟩),(none,⟨[(1,(.ptr 0 0))],[j4,X2,r3,Y2,U2,Z']⟩)]),
 (2000006,.join [] [] [(some 1000000,⟨[(0,hB)],[]⟩),(none,⟨[(1,(.ptr 0 0))],[j4,X2,r3,Y2,U2,Z']⟩)])] [(22,(lR o))] [(30,(KV o)),(71,(zoA o)),(72,(znG o)),(33,(zsB o)),(73,(zsI o)),(36,(zoF o)),(74,(zsM o)),(49,(zpS o)),(50,(CR o)),(34,(zqQ o)),(29,(zsH o)),(25,(ymJ o))] ⟨(Xa.form (G:=tabs)),⟨⟩⟩ ⟨ygO,⟨zvM,⟨ztQ,⟨yaA,⟨ybF,⟨zuW,⟨yaC,⟨zwN,⟨tW,⟨zyC,⟨yaH,⟨yvG,⟨⟩⟩⟩⟩⟩⟩⟩⟩⟩⟩⟩⟩⟩ func24
end
end Go.Proofs.YtopanhneegpgcaaGreatDoor.Am
