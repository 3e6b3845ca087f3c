/- DERIVED: THE SHELF's CONTRACTS AT THIS DUMP, IN PLAIN WORDS (tools/lay-plain.mjs out of 'TryzSrtl.lean', which tools/lay-shelf.mjs wrote): THE SAME DECLARATIONS UNDER THE SAME NAMES: 'import', 'namespace', 'open', 'def', 'theorem' AND NOTHING ELSE: no command of the shelf's: FOR A HAND-IN. Each laying: the table of numbers ('.._ren') and one theorem, a field a fact of the dump's own or the kernel's comparison; each contract: ONE APPLICATION. slices.Sorted of maps.Keys at this program: the kit's contracts laid. What some functions compute, over plain values, and that they do. The calls of logins whose answers the document fixes: what they come to, by reckoning. Conditions: as each theorem says. -/
import Derived.Shelf.SlIter.Nil
import Derived.Shelf.SortM.Plain
import Derived.Shelf.SortM.SortNone
import Derived.Ground.GgzProg
import Derived.Ground.SlgmProg
import Derived.Test.YtmkomlbiaebddaaGreatDoorProg
import Derived.KernelRfl
import Derived.Test.YtmkomlbiaebddaaGreatDoorQdK
namespace Go.Proofs
open Go.Shelf
def Tryz.keysA_ren:Go.Shelf.Ren:=⟨fun|7=>37|10=>87|n=>n,fun|23=>77|26=>9|3=>74|28=>83|0=>0|27=>82|33=>89|4=>4|n=>n,fun|n=>n⟩
theorem Tryz.keysA:Go.Proofs.SlLaysZ.n7 Tryz.prog Tryz.keysA_ren:={
  mixed:=by kernel_rfl
  f7:=⟨Tryz.f37.name,by decide,Tryz.func37.trans (congrArg some (by kernel_rfl))⟩
  f10:=⟨Tryz.f87.name,by decide,Tryz.func87.trans (congrArg some (by kernel_rfl))⟩
  t0:=Tryz.underlying0
  a0:=Tryz.isAgg0
  z0:=Tryz.sizeOf0
  v0:=Tryz.zeroValue0
  t4:=Tryz.underlying4
  a4:=Tryz.isAgg4
  z4:=Tryz.sizeOf4
  v4:=Tryz.zeroValue4
  t23:=Tryz.underlying77
  a23:=Tryz.isAgg77
  z23:=Tryz.sizeOf77
  v23:=Tryz.zeroValue77
  t26:=Tryz.underlying9
  a26:=Tryz.isAgg9
  z26:=Tryz.sizeOf9
  v26:=Tryz.zeroValue9
  t27:=Tryz.underlying82
  a27:=Tryz.isAgg82
  z27:=Tryz.sizeOf82
  v27:=Tryz.zeroValue82
  t28:=Tryz.underlying83
  a28:=Tryz.isAgg83
  z28:=Tryz.sizeOf83
  v28:=Tryz.zeroValue83
  t33:=Tryz.underlying89
  a33:=Tryz.isAgg89
  z33:=Tryz.sizeOf89
  v33:=Tryz.zeroValue89 }
def Tryz.sortedA_ren:Go.Shelf.Ren:=⟨fun|6=>36|8=>85|9=>86|11=>113|13=>115|12=>114|23=>149|24=>150|14=>140|15=>141|16=>142|17=>143|18=>144|19=>145|20=>146|21=>147|22=>148|25=>175|26=>176|27=>177|28=>178|29=>179|30=>180|31=>195|n=>n,fun|26=>9|28=>83|24=>41|0=>0|3=>3|37=>139|48=>133|50=>102|4=>4|40=>176|39=>175|45=>98|5=>5|9=>9|51=>206|55=>210|57=>223|58=>224|33=>89|n=>n,fun|n=>n⟩
theorem Tryz.sortedA:Go.Proofs.SlLaysZ.n6 Tryz.prog Tryz.sortedA_ren:={
  mixed:=by kernel_rfl
  f6:=⟨Tryz.f36.name,by decide,Tryz.func36.trans (congrArg some (by kernel_rfl))⟩
  f8:=⟨Tryz.f85.name,by decide,Tryz.func85.trans (congrArg some (by kernel_rfl))⟩
  f11:=⟨Tryz.f113.name,by decide,Tryz.func113.trans (congrArg some (by kernel_rfl))⟩
  t0:=Tryz.underlying0
  a0:=Tryz.isAgg0
  z0:=Tryz.sizeOf0
  v0:=Tryz.zeroValue0
  t24:=Tryz.underlying41
  a24:=Tryz.isAgg41
  z24:=Tryz.sizeOf41
  v24:=Tryz.zeroValue41
  t26:=Tryz.underlying9
  a26:=Tryz.isAgg9
  z26:=Tryz.sizeOf9
  v26:=Tryz.zeroValue9
  t28:=Tryz.underlying83
  a28:=Tryz.isAgg83
  z28:=Tryz.sizeOf83
  v28:=Tryz.zeroValue83
  i26:=by kernel_rfl }
def Tryz.sortA_ren:Go.Shelf.Ren:=⟨fun|6=>86|8=>115|9=>114|19=>149|20=>150|21=>140|22=>141|23=>142|24=>143|25=>144|26=>145|27=>146|28=>147|29=>148|36=>175|31=>176|32=>177|37=>178|38=>179|39=>180|41=>195|n=>n,fun|27=>41|29=>9|3=>3|32=>139|26=>41|0=>0|44=>133|46=>102|4=>4|36=>176|35=>175|41=>98|5=>5|9=>9|53=>206|57=>210|63=>223|64=>224|n=>n,fun|n=>n⟩
theorem Tryz.sortA:Go.Proofs.SlLaysM.n6 Tryz.prog Tryz.sortA_ren:={
  mixed:=by kernel_rfl
  f6:=⟨Tryz.f86.name,by decide,Tryz.func86.trans (congrArg some (by kernel_rfl))⟩
  f8:=Tryz.func115.trans (congrArg some (by kernel_rfl))
  f9:=⟨Tryz.f114.name,by decide,Tryz.func114.trans (congrArg some (by kernel_rfl))⟩
  f19:=Tryz.func149.trans (congrArg some (by kernel_rfl))
  f20:=Tryz.func150.trans (congrArg some (by kernel_rfl))
  f21:=⟨Tryz.f140.name,by decide,Tryz.func140.trans (congrArg some (by kernel_rfl))⟩
  f22:=⟨Tryz.f141.name,by decide,Tryz.func141.trans (congrArg some (by kernel_rfl))⟩
  f23:=⟨Tryz.f142.name,by decide,Tryz.func142.trans (congrArg some (by kernel_rfl))⟩
  f24:=⟨Tryz.f143.name,by decide,Tryz.func143.trans (congrArg some (by kernel_rfl))⟩
  f25:=⟨Tryz.f144.name,by decide,Tryz.func144.trans (congrArg some (by kernel_rfl))⟩
  f26:=⟨Tryz.f145.name,by decide,Tryz.func145.trans (congrArg some (by kernel_rfl))⟩
  f27:=⟨Tryz.f146.name,by decide,Tryz.func146.trans (congrArg some (by kernel_rfl))⟩
  f28:=⟨Tryz.f147.name,by decide,Tryz.func147.trans (congrArg some (by kernel_rfl))⟩
  f29:=⟨Tryz.f148.name,by decide,Tryz.func148.trans (congrArg some (by kernel_rfl))⟩
  f31:=Tryz.func176.trans (congrArg some (by kernel_rfl))
  f32:=Tryz.func177.trans (congrArg some (by kernel_rfl))
  f36:=⟨Tryz.f175.name,by decide,Tryz.func175.trans (congrArg some (by kernel_rfl))⟩
  f37:=⟨Tryz.f178.name,by decide,Tryz.func178.trans (congrArg some (by kernel_rfl))⟩
  f38:=⟨Tryz.f179.name,by decide,Tryz.func179.trans (congrArg some (by kernel_rfl))⟩
  f39:=⟨Tryz.f180.name,by decide,Tryz.func180.trans (congrArg some (by kernel_rfl))⟩
  f41:=⟨Tryz.f195.name,by decide,Tryz.func195.trans (congrArg some (by kernel_rfl))⟩
  t0:=Tryz.underlying0
  a0:=Tryz.isAgg0
  z0:=Tryz.sizeOf0
  v0:=Tryz.zeroValue0
  t3:=Tryz.underlying3
  a3:=Tryz.isAgg3
  z3:=Tryz.sizeOf3
  v3:=Tryz.zeroValue3
  t4:=Tryz.underlying4
  a4:=Tryz.isAgg4
  z4:=Tryz.sizeOf4
  v4:=Tryz.zeroValue4
  t5:=Tryz.underlying5
  a5:=Tryz.isAgg5
  z5:=Tryz.sizeOf5
  v5:=Tryz.zeroValue5
  t9:=Tryz.underlying9
  a9:=Tryz.isAgg9
  z9:=Tryz.sizeOf9
  v9:=Tryz.zeroValue9
  t26:=Tryz.underlying41
  a26:=Tryz.isAgg41
  z26:=Tryz.sizeOf41
  v26:=Tryz.zeroValue41
  t27:=Tryz.underlying41
  a27:=Tryz.isAgg41
  z27:=Tryz.sizeOf41
  v27:=Tryz.zeroValue41
  t29:=Tryz.underlying9
  a29:=Tryz.isAgg9
  z29:=Tryz.sizeOf9
  v29:=Tryz.zeroValue9
  t32:=Tryz.underlying139
  a32:=Tryz.isAgg139
  z32:=Tryz.sizeOf139
  v32:=Tryz.zeroValue139
  t35:=Tryz.underlying175
  a35:=Tryz.isAgg175
  z35:=Tryz.sizeOf175
  v35:=Tryz.zeroValue175
  t36:=Tryz.underlying176
  a36:=Tryz.isAgg176
  z36:=Tryz.sizeOf176
  v36:=Tryz.zeroValue176
  t41:=Tryz.underlying98
  a41:=Tryz.isAgg98
  z41:=Tryz.sizeOf98
  v41:=Tryz.zeroValue98
  t44:=Tryz.underlying133
  a44:=Tryz.isAgg133
  z44:=Tryz.sizeOf133
  v44:=Tryz.zeroValue133
  t46:=Tryz.underlying102
  a46:=Tryz.isAgg102
  z46:=Tryz.sizeOf102
  v46:=Tryz.zeroValue102
  t53:=Tryz.underlying206
  a53:=Tryz.isAgg206
  z53:=Tryz.sizeOf206
  v53:=Tryz.zeroValue206
  t57:=Tryz.underlying210
  a57:=Tryz.isAgg210
  z57:=Tryz.sizeOf210
  v57:=Tryz.zeroValue210
  t63:=Tryz.underlying223
  a63:=Tryz.isAgg223
  z63:=Tryz.sizeOf223
  v63:=Tryz.zeroValue223
  t64:=Tryz.underlying224
  a64:=Tryz.isAgg224
  z64:=Tryz.sizeOf224
  v64:=Tryz.zeroValue224 }
end Go.Proofs
namespace Go.Proofs
open Go.RowKit Go.Maps Go.Sort Go.Shelf
theorem YtmkomlbiaebddaaGreatDoor.sortsA(m:Nat):AnyZ.SortsIn Tryz.prog Tryz.sortedA_ren Fence.wide m:=
 ⟨fun blk off cap ss W hH hblk hsz=>callsIn_wide.2 (AnyM.slices_Sort_string Tryz.sortA blk off cap ss W hH hblk hsz),
  fun p cap W=>callsIn_wide.2 (AnyM.slices_Sort_string_none Tryz.sortA p cap W)⟩
theorem YtmkomlbiaebddaaGreatDoor.sortedK(Bm b nn:Nat)(D0:DataW Unit)(w:World)(hB:Bm<w.heap.size)(hc:w.cell? ⟨Bm,0,none⟩=some (.map (some b)))(ho:w.ownsMap Tryz.prog 9 YtmkomlbiaebddaaGreatDoor.Am.anyV b nn D0)(hmax:Maps.size D0≤maxLen)(hb:Maps.size D0*16≤140737488355328):
  Calls Tryz.prog 36 #[.func (.func 87) #[] #[.pointer (some ⟨Bm,0,none⟩)]] w fun e w'=>∃(v:Value) (ss:List (List UInt8)),e = .returned v∧ss.Perm (strKeys D0)∧w'.ownsRow w.heap.size 9 1 v ss.length ((ss.mergeSort (fun x y=>decide (x≤y))).map encStr)∧(v = .slice none 0 0↔ss=[])∧Below w.heap.size w w':=by
 have hseq:SeqGives Fence.wide 2 Tryz.prog 87 #[.pointer (some ⟨Bm,0,none⟩)] encStr (fun ss=>ss.Perm (strKeys D0)) (Maps.size D0) w:=
  AnyZ.keys_gives (ρ:=Tryz.keysA_ren) { Tryz.keysA with } Fence.wide _ trivial rfl (by omega) Bm b nn D0 _ hB hc ho
 have cS:=AnyZ.sorted_in Tryz.sortedA Fence.wide 5 trivial trivial trivial trivial rfl (by omega) (YtmkomlbiaebddaaGreatDoor.sortsA _) (enters_of Tryz.func86 (by kernel_rfl) rfl) 87 #[.pointer (some ⟨Bm,0,none⟩)] trivial (enters_of Tryz.func87 (by kernel_rfl) rfl) _ _ hmax hb _ hseq
 exact(callsIn_wide (n:=5)).1 cS
end Go.Proofs
namespace Go.Proofs.YtmkomlbiaebddaaGreatDoor.Am
open Go Go.RowKit
def τWkF:TE:=[(3,⟨.int .i64,1,[.v (.i .i64) (show Int from 0)],(.i .i64),8⟩),
 (9,⟨.s,1,[.v .s (show Bs from [])],.s,16⟩),
 (22,⟨.sl 24,1,[.nils],(.sl (.pr .s .s)),24⟩),
 (24,⟨.st [(9,0),(9,1)],2,[.v .s (show Bs from []),.v .s (show Bs from [])],(.pr .s .s),32⟩),
 (25,⟨.pt 79,1,[.nilp],.un,8⟩),
 (35,⟨.sl 53,1,[.nils],(.sl (.pr .s (.pr .s (.pr .s (.pr .s (.pr (.i .i64) (.pr (.i .i64) (.pr (.i .i64) (.sl (.pr .s (.pr .s (.pr .s (.i .i64))))))))))))),24⟩),
 (41,⟨.sl 9,1,[.nils],(.sl .s),24⟩),
 (51,⟨.sl 58,1,[.nils],(.sl (.pr .s (.pr .s (.pr .s (.i .i64))))),24⟩),
 (53,⟨.st [(9,0),(9,1),(9,2),(9,3),(3,4),(3,5),(3,6),(51,7)],8,[.v .s (show Bs from []),.v .s (show Bs from []),.v .s (show Bs from []),.v .s (show Bs from []),.v (.i .i64) (show Int from 0),.v (.i .i64) (show Int from 0),.v (.i .i64) (show Int from 0),.nils],(.pr .s (.pr .s (.pr .s (.pr .s (.pr (.i .i64) (.pr (.i .i64) (.pr (.i .i64) (.sl (.pr .s (.pr .s (.pr .s (.i .i64)))))))))))),112⟩),
 (58,⟨.st [(9,0),(9,1),(9,2),(3,3)],4,[.v .s (show Bs from []),.v .s (show Bs from []),.v .s (show Bs from []),.v (.i .i64) (show Int from 0)],(.pr .s (.pr .s (.pr .s (.i .i64)))),56⟩),
 (74,⟨.st [(53,0)],8,[.v .s (show Bs from []),.v .s (show Bs from []),.v .s (show Bs from []),.v .s (show Bs from []),.v (.i .i64) (show Int from 0),.v (.i .i64) (show Int from 0),.v (.i .i64) (show Int from 0),.nils],(.pr .s (.pr .s (.pr .s (.pr .s (.pr (.i .i64) (.pr (.i .i64) (.pr (.i .i64) (.sl (.pr .s (.pr .s (.pr .s (.i .i64)))))))))))),112⟩),
 (77,⟨.map 9 74,1,[.nilm],(.mp .s (.pr .s (.pr .s (.pr .s (.pr .s (.pr (.i .i64) (.pr (.i .i64) (.pr (.i .i64) (.sl (.pr .s (.pr .s (.pr .s (.i .i64))))))))))))),8⟩),
 (79,⟨.st [(77,0)],1,[.nilm],(.pr (.mp .s (.pr .s (.pr .s (.pr .s (.pr .s (.pr (.i .i64) (.pr (.i .i64) (.pr (.i .i64) (.sl (.pr .s (.pr .s (.pr .s (.i .i64))))))))))))) .un),8⟩),
 (125,⟨.ifc,1,[.v .er (show Bool from false)],.er,16⟩)]
theorem τ_okWkF:TEok Tryz.prog τWkF:=ymL (by kernel_rfl) (by kernel_rfl)
theorem yeM:Tryz.prog.follows .mixedOrders=true:=by kernel_rfl
theorem zhM {G : List (Nat × Obj)} {o : Ops} [zlD G] [zkN G o] {Γ : CT} {η : HT} {f : FuncId} {fn : Func} {c : SC} (hΓ : ∀ B, GB G B → CTok Tryz.prog Γ B) (hf : Tryz.prog.funcs[f]? = some fn) (i : (fn.name == "runtime.NumGoroutine") = false := by kernel_rfl) (j : fn.body.isNone = false := by kernel_rfl) (l : Nat.ble c.I.sl.length fn.ntmps = true := by kernel_rfl) (r : Nat.beq fn.results.toList.length c.nr = true := by kernel_rfl) (e : fnS τWkF Γ η fn c.I c.outs = c.p := by kernel_rfl) : SCok Tryz.prog G f c := witO (G := G) (o := o) <| yrC yeM τ_okWkF hΓ hf (isFn hf i j) l r e
theorem zoS {G : List (Nat × Obj)} {o : Ops} [zlD G] [zkN G o] {Γ : CT} {η : HT} {f : FuncId} {fn : Func} {c : PC} (hΓ : ∀ B, GB G B → CTok Tryz.prog Γ B) (hf : Tryz.prog.funcs[f]? = some fn) (i : (fn.name == "runtime.NumGoroutine") = false := by kernel_rfl) (j : fn.body.isNone = false := by kernel_rfl) (l : Nat.ble c.ash.length fn.ntmps = true := by kernel_rfl) (r : c.cl = false := by kernel_rfl) (e : fnP τWkF Γ η fn c.ash c.rts = c.p := by kernel_rfl) : PCok Tryz.prog G f c := witO (G := G) (o := o) <| ygS yeM τ_okWkF hΓ hf (isFn hf i j) l r e
abbrev zcQ:Type:=Bs×Bs×Bs×Int
abbrev ztP:Ty:=.pr .s (.pr .s (.pr .s (.i .i64)))
abbrev zlR:Type:=Bs×Bs×Bs×Bs×Int×Int×Int×List zcQ
abbrev ybI:Ty:=.pr .s (.pr .s (.pr .s (.pr .s (.pr (.i .i64) (.pr (.i .i64) (.pr (.i .i64) (.sl ztP)))))))
abbrev zbW:Type:=Bs×Bs×Bs×Bs×Bs×Int×Int×Int×List zcQ
abbrev zpT:OSh:=.blk 74 [hS,hS,hS,hS,hI,hI,hI,(.h (.sl ztP))]
abbrev yfT:OSh:=.blk 74 [hS,hS,hS,hS,hI,hI,hI,.nils]
abbrev ynG:OSh:=.blk 58 [hS,hS,hS,hI]
abbrev ziI:OSh:=.blk 79 [(.mpr 1)]
abbrev ybR:OSh:=.mp false .s ybI
abbrev yrB:OSh:=.blk 79 [(.mpr 3)]
abbrev ytV:OSh:=.blk 79 [(.mpr 2)]
abbrev zgJ:OSh:=.mp true .s ybI
section
variable {tabs:List (Nat×Obj)}[zlD tabs]{o:Ops}[zkN tabs o]
def znS(_o:Ops):Option ((List zbW)):=
 some ([]:List zbW)
def zpD(o:Ops):SC:=⟨⟨[],[]⟩,1,[(none,⟨[(0,(.ptr 0 0))],[ziI,zgJ]⟩)],fun _=>znS o⟩
theorem ztO:SCok Tryz.prog tabs 16 (zpD o):=zhM (o:=o) (η:=[]) (Γ:=⟨[],[],false,[]⟩) (ctok trivial trivial) Tryz.func16
def zlM(o:Ops)(v0:Bs)(v1:Int)(v2:Bs):Option (Bool):=
 bif(v0 != ([]:Bs))then(bif decide ((v0.length:Int)≤v1)then((o.trim v0 v2).bind fun v3=>some (v3==([]:Bs)))else(some false))else(some false)
def zyJ(o:Ops):PC:=⟨[hS,hI,hS],[.b],fun x=>zlM o x.1 x.2.1 x.2.2,false⟩
theorem yhY:PCok Tryz.prog tabs 91 (zyJ o):=zoS (o:=o) (η:=[]) (Γ:=⟨[(109,(yhK o))],[],false,[]⟩) (ctok ⟨(zkN.trim (G:=tabs)),trivial⟩ trivial) Tryz.func91
def zdB(o:Ops)(v0:Bs):Option (Bool):=
 (zlM o v0 (24:Int) ([97,98,99,100,101,102,103,104,105,106,107,108,109,110,111,112,113,114,115,116,117,118,119,120,121,122,48,49,50,51,52,53,54,55,56,57,46,95,45]:Bs)).bind fun v1=>some v1
def zqD(o:Ops):PC:=⟨[hS],[.b],fun x=>zdB o x,false⟩
theorem zuT:PCok Tryz.prog tabs 42 (zqD o):=zoS (o:=o) (η:=[]) (Γ:=⟨[(91,(zyJ o))],[],false,[]⟩) (ctok ⟨yhY,trivial⟩ trivial) Tryz.func42
def zgM(_o:Ops)(v0:Int)(v1:Int)(v2:Int):Option (Bool):=
 bif decide (v0≥v1)then(some (decide (v0≤v2)))else(some false)
def zjG(o:Ops):PC:=⟨[hI,hI,hI],[.b],fun x=>zgM o x.1 x.2.1 x.2.2,false⟩
theorem zlJ:PCok Tryz.prog tabs 43 (zjG o):=zoS (o:=o) (η:=[]) (Γ:=⟨[],[],false,[]⟩) (ctok trivial trivial) Tryz.func43
def zdW(o:Ops)(v0:Bs)(v1:Bs):Option Bs:=
 (o.stretch v0 v1 (4:Int) (32:Int)).bind fun v2=>some v2.1
def zjZ(o:Ops):PC:=⟨[hS,hS],[.s],fun x=>zdW o x.1 x.2,false⟩
theorem zpF:PCok Tryz.prog tabs 44 (zjZ o):=zoS (o:=o) (η:=[]) (Γ:=⟨[(92,(yeL o))],[],false,[]⟩) (ctok ⟨(zkN.stretch (G:=tabs)),trivial⟩ trivial) Tryz.func44
def zpJ(o:Ops)(v0:Bs)(v1:Bs)(v2:Bs)(v3:List zbW):Option ((Int×List zbW)⊕(List zbW)):=
 (zdB o v0).bind fun v4=>bif(!v4)then some (.inl ((155:Int),v3))else(bif((v1.length:Int) != 16)then some (.inl ((155:Int),v3))else((zgM o (v2.length:Int) (1:Int) (64:Int)).bind fun v5=>bif(!v5)then some (.inl ((155:Int),v3))else some (.inr v3)))
def zoU(_o:Ops)(v0:Bs)(v8:List zbW)(v9:zlR):Option ((Int×List zbW)⊕((List zbW)×zlR)):=
 bif(!(mhas keqS v8 v0))then(bif decide ((v8.length:Int)≥64)then some (.inl ((156:Int),v8))else some (.inr (v8,v9)))else some (.inr (v8,v9))
def zfL(o:Ops)(v0:Bs)(v1:Bs)(v2:Bs)(v3:List zbW):Option ((Int×List zbW)):=
 (zpJ o v0 v1 v2 v3).bind fun v6=>match v6 with
 |.inl v7=>some v7
 |.inr v8=>(let v9:zlR:=zeU keqS v8 v0 (([]:Bs),([]:Bs),([]:Bs),([]:Bs),(0:Int),(0:Int),(0:Int),([]:List zcQ))
 (zoU o v0 v8 v9).bind fun v10=>match v10 with
 |.inl v11=>some v11
 |.inr v12=>((zdW o v2 v1).bind fun v13=>let v14:List zbW:=mset keqS kltS v12.1 v0 (v0,v1,v13,v12.2.2.2.2.1,v12.2.2.2.2.2.1,(0:Int),(0:Int),v12.2.2.2.2.2.2.2.2)
 some ((0:Int),v14)))
def zkE(o:Ops):SC:=⟨⟨[(0,(.ptr 0 0)),(1,hS),(2,hS),(3,hS)],[ziI,zgJ]⟩,1,[(none,⟨[(0,hI)],[ziI,ybR]⟩)],fun x=>zfL o x.1 x.2.1 x.2.2.1 x.2.2.2⟩
theorem zpP:SCok Tryz.prog tabs 17 (zkE o):=zhM (o:=o) (η:=[(2000003,.join [] [1,2,3] [(some 1000000,⟨[(8,hI)],[ziI,zgJ]⟩),(none,⟨[(0,(.ptr 0 0))],[ziI,zgJ]⟩)]),
 (2000006,.join [] [1,2,3] [(some 1000000,⟨[(8,hI)],[ziI,zgJ]⟩),(none,⟨[(0,(.ptr 0 0)),(9,(.ptr 2 0))],[ziI,zgJ,zpT]⟩)]),
 (4000007,.sch [(.pu,0,[]),(.pu,1,[]),(.pu,2,[]),(.pu,3,[]),(.pu,4,[]),(.pu,5,[]),(.mn,6,[0,1,2])])]) (Γ:=⟨[(42,(zqD o)),(43,(zjG o)),(44,(zjZ o))],[],false,[]⟩) (ctok ⟨zuT,⟨zlJ,⟨zpF,trivial⟩⟩⟩ trivial) Tryz.func17
def zmG(o:Ops)(v0:Int):Option (Bool):=
 (zgM o v0 (0:Int) (1099511627776:Int)).bind fun v1=>some v1
def zrX(o:Ops):PC:=⟨[hI],[.b],fun x=>zmG o x,false⟩
theorem zwR:PCok Tryz.prog tabs 46 (zrX o):=zoS (o:=o) (η:=[]) (Γ:=⟨[(43,(zjG o))],[],false,[]⟩) (ctok ⟨zlJ,trivial⟩ trivial) Tryz.func46
def zgV(o:Ops)(v0:Bs)(v1:Bs)(v2:Bs)(v3:Bs)(v4:Int)(v5:Int)(v6:Int)(v7:List zcQ)(v8:Int)(v9:Bs):Option ((Bool×Bs×Bs×Bs×Bs×Int×Int×Int×(List zcQ)×Int×Bs)):=
 (zgM o (v9.length:Int) (1:Int) (64:Int)).bind fun v10=>bif v10 then((zdW o v9 v1).bind fun v11=>(o.same v11 v2).bind fun v12=>some (v12,v0,v1,v2,v3,v4,v5,v6,v7,v8,v9))else some (false,v0,v1,v2,v3,v4,v5,v6,v7,v8,v9)
def zkU(o:Ops)(v0:Bs)(v1:Bs)(v2:Bs)(v3:Bs)(v4:Int)(v5:Int)(v6:Int)(v7:List zcQ)(v8:Int)(v9:Bs):Option ((Int×Bs×Bs×Bs×Bs×Int×Int×Int×(List zcQ)×Int×Bs)⊕(Bs×Bs×Bs×Bs×Int×Int×Int×(List zcQ)×Int×Bs)):=
 (zgV o v0 v1 v2 v3 v4 v5 v6 v7 v8 v9).bind fun v13=>bif v13.1 then some (.inl ((0:Int),v13.2.1,v13.2.2.1,v13.2.2.2.1,v13.2.2.2.2.1,v13.2.2.2.2.2.1,(0:Int),(0:Int),v13.2.2.2.2.2.2.2.2))else some (.inr v13.2)
def zhO(o:Ops)(v0:Bs)(v1:Bs)(v2:Bs)(v3:Bs)(v4:Int)(v5:Int)(v6:Int)(v7:List zcQ)(v8:Int)(v9:Bs):Option ((Int×Bs×Bs×Bs×Bs×Int×Int×Int×(List zcQ)×Int×Bs)):=
 bif decide (v8<v6)then some ((152:Int),v0,v1,v2,v3,v4,v5,v6,v7,v8,v9)else((zkU o v0 v1 v2 v3 v4 v5 v6 v7 v8 v9).bind fun v14=>match v14 with
 |.inl v15=>some v15
 |.inr v16=>(bif((w64 (v16.2.2.2.2.2.1+1))==5)then some ((151:Int),v16.1,v16.2.1,v16.2.2.1,v16.2.2.2.1,v16.2.2.2.2.1,(0:Int),w64 (v16.2.2.2.2.2.2.2.2.1+300),v16.2.2.2.2.2.2.2)else some ((151:Int),v16.1,v16.2.1,v16.2.2.1,v16.2.2.2.1,v16.2.2.2.2.1,w64 (v16.2.2.2.2.2.1+1),v16.2.2.2.2.2.2)))
def zkT(o:Ops):SC:=⟨⟨[(0,(.ptr 0 0)),(1,(.ptr 1 0)),(2,(.ptr 2 0))],[zpT,.blk 3 [hI],.blk 9 [hS]]⟩,1,[(none,⟨[(0,hI)],[zpT,.blk 3 [hI],.blk 9 [hS]]⟩)],fun x=>zhO o x.1 x.2.1 x.2.2.1 x.2.2.2.1 x.2.2.2.2.1 x.2.2.2.2.2.1 x.2.2.2.2.2.2.1 x.2.2.2.2.2.2.2.1 x.2.2.2.2.2.2.2.2.1 x.2.2.2.2.2.2.2.2.2⟩
theorem zsL:SCok Tryz.prog tabs 48 (zkT o):=zhM (o:=o) (η:=[(2300004,.join [] [] [(none,⟨[(0,(.ptr 0 0)),(1,(.ptr 1 0)),(29,hB)],[zpT,.blk 3 [hI],.blk 9 [hS]]⟩)]),
 (2000006,.join [] [] [(some 1000000,⟨[(4,hI)],[zpT,.blk 3 [hI],.blk 9 [hS]]⟩),(none,⟨[(0,(.ptr 0 0)),(1,(.ptr 1 0))],[zpT,.blk 3 [hI],.blk 9 [hS]]⟩)]),
 (4000001,.sch [(.pu,0,[]),(.pu,1,[]),(.pu,2,[]),(.pu,3,[]),(.pu,4,[]),(.pu,5,[]),(.pu,6,[])]),
 (4000003,.sch [(.pu,0,[]),(.pu,1,[]),(.mn,2,[]),(.pu,3,[]),(.pu,4,[]),(.pu,5,[]),(.pu,6,[]),(.pu,7,[]),(.pu,8,[]),(.pu,9,[]),(.pu,11,[]),(.pu,12,[]),(.pu,13,[]),(.pu,14,[]),(.pu,15,[]),(.mn,10,[]),(.mn,16,[]),(.pu,17,[])]),
 (4000008,.sch [(.pu,0,[]),(.pu,1,[0]),(.pu,2,[0]),(.pu,3,[0]),(.pu,4,[]),(.pu,5,[]),(.pu,6,[]),(.mn,7,[0]),(.pu,8,[]),(.pu,9,[]),(.pu,10,[]),(.mn,11,[0])])]) (Γ:=⟨[(43,(zjG o)),(44,(zjZ o)),(49,(yxK o))],[],false,[]⟩) (ctok ⟨zlJ,⟨zpF,⟨(zkN.same (G:=tabs)),trivial⟩⟩⟩ trivial) Tryz.func48
def zkL(o:Ops)(v0:Bs)(v1:Int)(v2:Bs)(v3:List zbW):Option ((Int×Int×Bs×List zbW)):=
 let v4:zlR:=zeU keqS v3 v0 (([]:Bs),([]:Bs),([]:Bs),([]:Bs),(0:Int),(0:Int),(0:Int),([]:List zcQ))
 bif(!(mhas keqS v3 v0))then some ((150:Int),v1,v2,v3)else((zhO o v4.1 v4.2.1 v4.2.2.1 v4.2.2.2.1 v4.2.2.2.2.1 v4.2.2.2.2.2.1 v4.2.2.2.2.2.2.1 v4.2.2.2.2.2.2.2 v1 v2).bind fun v5=>let v6:List zbW:=mset keqS kltS v3 v0 (v5.2.1,v5.2.2.1,v5.2.2.2.1,v5.2.2.2.2.1,v5.2.2.2.2.2.1,v5.2.2.2.2.2.2.1,v5.2.2.2.2.2.2.2.1,v5.2.2.2.2.2.2.2.2.1)
 some (v5.1,v5.2.2.2.2.2.2.2.2.2.1,v5.2.2.2.2.2.2.2.2.2.2,v6))
def znW(o:Ops):SC:=⟨⟨[(0,(.ptr 0 0)),(1,hS),(2,(.fn 48 [] [(.ptr 1 0),(.ptr 2 0)]))],[yrB,.blk 3 [hI],.blk 9 [hS],zgJ]⟩,1,[(none,⟨[(0,hI)],[yrB,.blk 3 [hI],.blk 9 [hS],ybR]⟩)],fun x=>zkL o x.1 x.2.1 x.2.2.1 x.2.2.2⟩
theorem zuZ:SCok Tryz.prog tabs 47 (znW o):=zhM (o:=o) (η:=[(4000005,.sch [(.pu,0,[]),(.pu,1,[]),(.pu,2,[]),(.pu,3,[]),(.pu,4,[]),(.pu,5,[]),(.mn,6,[0,1,2,3,4,5])])]) (Γ:=⟨[],[(48,(zkT o))],false,[]⟩) (ctok trivial ⟨zsL,trivial⟩) Tryz.func47
def zbD(o:Ops)(v0:Bs)(v1:Bs)(v2:Int)(v3:List zbW):Option ((Int×List zbW)):=
 (zmG o v2).bind fun v4=>bif(!v4)then some ((1:Int),v3)else((zkL o v0 v2 v1 v3).bind fun v5=>some (v5.1,v5.2.2.2))
def ziR(o:Ops):SC:=⟨⟨[(0,(.ptr 0 0)),(1,hS),(2,hS),(3,hI)],[ziI,zgJ]⟩,1,[(none,⟨[(0,hI)],[ziI,ybR]⟩)],fun x=>zbD o x.1 x.2.1 x.2.2.1 x.2.2.2⟩
theorem zmX:SCok Tryz.prog tabs 19 (ziR o):=zhM (o:=o) (η:=[]) (Γ:=⟨[(46,(zrX o))],[(47,(znW o))],false,[]⟩) (ctok ⟨zwR,trivial⟩ ⟨zuZ,trivial⟩) Tryz.func19
def zmE(_o:Ops)(v0:Bs)(v1:Bs)(v2:Bs)(v3:Bs)(v4:Int)(v5:Int)(v6:Int)(v7:List zcQ)(v8:Bs)(v9:Int)(v10:Int×Bool):Option ((Int×Bs×Bs×Bs×Bs×Int×Int×Int×(List zcQ)×Bs×Int)⊕(Bs×Bs×Bs×Bs×Int×Int×Int×(List zcQ)×Bs×Int)):=
 bif(!v10.2)then some (.inl ((153:Int),v0,v1,v2,v3,v4,v5,v6,v7,v8,v9))else(bif decide (v10.1<v4)then some (.inl ((153:Int),v0,v1,v2,v3,v4,v5,v6,v7,v8,v9))else some (.inr (v0,v1,v2,v3,v4,v5,v6,v7,v8,v9)))
def ziN(o:Ops)(v0:Bs)(v1:Bs)(v2:Bs)(v3:Bs)(v4:Int)(v5:Int)(v6:Int)(v7:List zcQ)(v8:Bs)(v9:Int):Option ((Int×Bs×Bs×Bs×Bs×Int×Int×Int×(List zcQ)×Bs×Int)):=
 bif(v3==([]:Bs))then some ((154:Int),v0,v1,v2,v3,v4,v5,v6,v7,v8,v9)else((chk (((30:Int) != 0))).bind fun _=>(o.find v3 v8 (w64 (Int.tdiv v9 (30:Int))) (1:Int)).bind fun v10=>(zmE o v0 v1 v2 v3 v4 v5 v6 v7 v8 v9 v10).bind fun v11=>match v11 with
 |.inl v12=>some v12
 |.inr v13=>some ((0:Int),v13.1,v13.2.1,v13.2.2.1,v13.2.2.2.1,w64 (v10.1+1),v13.2.2.2.2.2))
def zlX(o:Ops):SC:=⟨⟨[(0,(.ptr 0 0)),(1,(.ptr 1 0)),(2,(.ptr 2 0))],[zpT,.blk 9 [hS],.blk 3 [hI]]⟩,1,[(none,⟨[(0,hI)],[zpT,.blk 9 [hS],.blk 3 [hI]]⟩)],fun x=>ziN o x.1 x.2.1 x.2.2.1 x.2.2.2.1 x.2.2.2.2.1 x.2.2.2.2.2.1 x.2.2.2.2.2.2.1 x.2.2.2.2.2.2.2.1 x.2.2.2.2.2.2.2.2.1 x.2.2.2.2.2.2.2.2.2⟩
theorem zsY:SCok Tryz.prog tabs 51 (zlX o):=zhM (o:=o) (η:=[(2000006,.join [] [5] [(some 1000000,⟨[(4,hI)],[zpT,.blk 9 [hS],.blk 3 [hI]]⟩),(none,⟨[(0,(.ptr 0 0))],[zpT,.blk 9 [hS],.blk 3 [hI]]⟩)]),
 (4000003,.sch [(.pu,0,[]),(.pu,1,[]),(.pu,2,[]),(.pu,3,[]),(.pu,4,[]),(.pu,5,[]),(.pu,6,[]),(.pu,7,[]),(.mn,8,[]),(.pu,9,[]),(.pu,10,[]),(.pu,11,[]),(.pu,12,[]),(.pu,13,[])])]) (Γ:=⟨[(52,(ywZ o))],[],false,[]⟩) (ctok ⟨(zkN.find (G:=tabs)),trivial⟩ trivial) Tryz.func51
def zjF(o:Ops)(v0:Bs)(v1:Bs)(v2:Int)(v3:List zbW):Option ((Int×Bs×Int×List zbW)):=
 let v4:zlR:=zeU keqS v3 v0 (([]:Bs),([]:Bs),([]:Bs),([]:Bs),(0:Int),(0:Int),(0:Int),([]:List zcQ))
 bif(!(mhas keqS v3 v0))then some ((150:Int),v1,v2,v3)else((ziN o v4.1 v4.2.1 v4.2.2.1 v4.2.2.2.1 v4.2.2.2.2.1 v4.2.2.2.2.2.1 v4.2.2.2.2.2.2.1 v4.2.2.2.2.2.2.2 v1 v2).bind fun v5=>let v6:List zbW:=mset keqS kltS v3 v0 (v5.2.1,v5.2.2.1,v5.2.2.2.1,v5.2.2.2.2.1,v5.2.2.2.2.2.1,v5.2.2.2.2.2.2.1,v5.2.2.2.2.2.2.2.1,v5.2.2.2.2.2.2.2.2.1)
 some (v5.1,v5.2.2.2.2.2.2.2.2.2.1,v5.2.2.2.2.2.2.2.2.2.2,v6))
def zmU(o:Ops):SC:=⟨⟨[(0,(.ptr 0 0)),(1,hS),(2,(.fn 51 [] [(.ptr 1 0),(.ptr 2 0)]))],[yrB,.blk 9 [hS],.blk 3 [hI],zgJ]⟩,1,[(none,⟨[(0,hI)],[yrB,.blk 9 [hS],.blk 3 [hI],ybR]⟩)],fun x=>zjF o x.1 x.2.1 x.2.2.1 x.2.2.2⟩
theorem zuP:SCok Tryz.prog tabs 47 (zmU o):=zhM (o:=o) (η:=[(4000005,.sch [(.pu,0,[]),(.pu,1,[]),(.pu,2,[]),(.pu,3,[]),(.pu,4,[]),(.pu,5,[]),(.mn,6,[0,1,2,3,4,5])])]) (Γ:=⟨[],[(51,(zlX o))],false,[]⟩) (ctok trivial ⟨zsY,trivial⟩) Tryz.func47
def zcR(o:Ops)(v0:Bs)(v1:Bs)(v2:Int)(v3:List zbW):Option ((Int×List zbW)):=
 (zmG o v2).bind fun v4=>bif(!v4)then some ((1:Int),v3)else((zjF o v0 v1 v2 v3).bind fun v5=>some (v5.1,v5.2.2.2))
def zjI(o:Ops):SC:=⟨⟨[(0,(.ptr 0 0)),(1,hS),(2,hS),(3,hI)],[ziI,zgJ]⟩,1,[(none,⟨[(0,hI)],[ziI,ybR]⟩)],fun x=>zcR o x.1 x.2.1 x.2.2.1 x.2.2.2⟩
theorem zoD:SCok Tryz.prog tabs 22 (zjI o):=zhM (o:=o) (η:=[]) (Γ:=⟨[(46,(zrX o))],[(47,(zmU o))],false,[]⟩) (ctok ⟨zwR,trivial⟩ ⟨zuP,trivial⟩) Tryz.func22
def zhS(o:Ops)(v0:Bs)(v1:Bs)(v2:Bs)(v3:Bs)(v4:Int)(v5:Int)(v6:Int)(v7:List zcQ)(v8:Bs):Option ((Int×Bs×Bs×Bs×Bs×Int×Int×Int×(List zcQ)×Bs)):=
 (zgM o (v8.length:Int) (16:Int) (64:Int)).bind fun v9=>bif(!v9)then some ((155:Int),v0,v1,v2,v3,v4,v5,v6,v7,v8)else some ((0:Int),v0,v1,v2,v8,(0:Int),v5,v6,v7,v8)
def zkV(o:Ops):SC:=⟨⟨[(0,(.ptr 0 0)),(1,(.ptr 1 0))],[zpT,.blk 9 [hS]]⟩,1,[(none,⟨[(0,hI)],[zpT,.blk 9 [hS]]⟩)],fun x=>zhS o x.1 x.2.1 x.2.2.1 x.2.2.2.1 x.2.2.2.2.1 x.2.2.2.2.2.1 x.2.2.2.2.2.2.1 x.2.2.2.2.2.2.2.1 x.2.2.2.2.2.2.2.2⟩
theorem zsN:SCok Tryz.prog tabs 50 (zkV o):=zhM (o:=o) (η:=[]) (Γ:=⟨[(43,(zjG o))],[],false,[]⟩) (ctok ⟨zlJ,trivial⟩ trivial) Tryz.func50
def zjL(o:Ops)(v0:Bs)(v1:Bs)(v2:List zbW):Option ((Int×Bs×List zbW)):=
 let v3:zlR:=zeU keqS v2 v0 (([]:Bs),([]:Bs),([]:Bs),([]:Bs),(0:Int),(0:Int),(0:Int),([]:List zcQ))
 bif(!(mhas keqS v2 v0))then some ((150:Int),v1,v2)else((zhS o v3.1 v3.2.1 v3.2.2.1 v3.2.2.2.1 v3.2.2.2.2.1 v3.2.2.2.2.2.1 v3.2.2.2.2.2.2.1 v3.2.2.2.2.2.2.2 v1).bind fun v4=>let v5:List zbW:=mset keqS kltS v2 v0 (v4.2.1,v4.2.2.1,v4.2.2.2.1,v4.2.2.2.2.1,v4.2.2.2.2.2.1,v4.2.2.2.2.2.2.1,v4.2.2.2.2.2.2.2.1,v4.2.2.2.2.2.2.2.2.1)
 some (v4.1,v4.2.2.2.2.2.2.2.2.2,v5))
def znC(o:Ops):SC:=⟨⟨[(0,(.ptr 0 0)),(1,hS),(2,(.fn 50 [] [(.ptr 1 0)]))],[ytV,.blk 9 [hS],zgJ]⟩,1,[(none,⟨[(0,hI)],[ytV,.blk 9 [hS],ybR]⟩)],fun x=>zjL o x.1 x.2.1 x.2.2⟩
theorem zuN:SCok Tryz.prog tabs 47 (znC o):=zhM (o:=o) (η:=[(4000005,.sch [(.pu,0,[]),(.pu,1,[]),(.pu,2,[]),(.pu,3,[]),(.pu,4,[]),(.pu,5,[]),(.mn,6,[0,1,2,3,4])])]) (Γ:=⟨[],[(50,(zkV o))],false,[]⟩) (ctok trivial ⟨zsN,trivial⟩) Tryz.func47
def zdY(o:Ops)(v0:Bs)(v1:Bs)(v2:List zbW):Option ((Int×List zbW)):=
 (zjL o v0 v1 v2).bind fun v3=>some (v3.1,v3.2.2)
def ziS(o:Ops):SC:=⟨⟨[(0,(.ptr 0 0)),(1,hS),(2,hS)],[ziI,zgJ]⟩,1,[(none,⟨[(0,hI)],[ziI,ybR]⟩)],fun x=>zdY o x.1 x.2.1 x.2.2⟩
theorem zmV:SCok Tryz.prog tabs 20 (ziS o):=zhM (o:=o) (η:=[]) (Γ:=⟨[],[(47,(znC o))],false,[]⟩) (ctok trivial ⟨zuN,trivial⟩) Tryz.func20
def zvE(_o:Ops)(v0:List zbW):Option ((List zbW)):=
 some v0
def zyU(o:Ops):SC:=⟨⟨[(0,(.mpr 0))],[zgJ]⟩,1,[(none,⟨[(0,(.fn 87 [] [(.ptr 1 0)]))],[zgJ,.blk 77 [(.mpr 0)]]⟩)],fun x=>zvE o x⟩
theorem yiM:SCok Tryz.prog tabs 37 (zyU o):=zhM (o:=o) (η:=[]) (Γ:=⟨[],[],false,[]⟩) (ctok trivial trivial) Tryz.func37
def yjG:SC:=⟨⟨[(0,(.fn 87 [] [(.ptr 0 0)]))],[.blk 77 [(.mpr 1)],zgJ]⟩,1,[(none,⟨[(0,(.h (.sl .s)))],[.blk 77 [(.mpr 1)],zgJ]⟩)],fun es=>yaD es⟩
theorem yxI:SCok Tryz.prog tabs 36 yjG:=wit (G:=tabs)<|ywI (kT:=9) (isFn Tryz.func36) (by kernel_rfl) YtmkomlbiaebddaaGreatDoor.sortedK
def zzW:SC:=⟨⟨[(0,(.h (.sl ztP)))],[]⟩,1,[(none,⟨[(0,(.own 0))],[.osl ztP 58]⟩)],fun xs=>app [] xs⟩
theorem ygQ:SCok Tryz.prog tabs 61 zzW:=wit (G:=tabs)<|xbU yeM τ_okWkF Tryz.func61 (isFn Tryz.func61) rfl (by kernel_rfl) (by kernel_rfl) (by kernel_rfl) (fun _=>by kernel_rfl)
def ylD:PC:=⟨[.h (.sl ztP)],[(.sl ztP)],fun xs=>some xs,true⟩
theorem yvB:PCok Tryz.prog tabs 59 ylD:=wit (G:=tabs)<|ylS yeM τ_okWkF Tryz.func59 (isFn Tryz.func59) rfl (by kernel_rfl) (fun _=>by kernel_rfl)
def zlK(_o:Ops)(v0:zlR):Option zlR:=
 (app ([]:List zcQ) v0.2.2.2.2.2.2.2).bind fun v1=>some (v0.1,v0.2.1,v0.2.2.1,v0.2.2.2.1,v0.2.2.2.2.1,v0.2.2.2.2.2.1,v0.2.2.2.2.2.2.1,v1)
def zpK(o:Ops):PC:=⟨[(.h ybI)],[ybI],fun x=>zlK o x,false⟩
theorem zvQ:PCok Tryz.prog tabs 38 (zpK o):=zoS (o:=o) (η:=[]) (Γ:=⟨[(59,ylD)],[(61,zzW)],false,[]⟩) (ctok ⟨yvB,trivial⟩ ⟨ygQ,trivial⟩) Tryz.func38
def zeZ(o:Ops)(v3:((List Bs)×List zbW))(v4:Int)(v5:List zbW)(v6:List zlR):Option ((Int×(List zbW)×List zlR)⊕(((List zbW)×List zlR))):=
 bif decide (v4<(v3.1.length:Int))then((idx v3.1 v4).bind fun v7=>let v8:zlR:=zeU keqS v5 v7 (([]:Bs),([]:Bs),([]:Bs),([]:Bs),(0:Int),(0:Int),(0:Int),([]:List zcQ))
 (zlK o v8).bind fun v9=>(app v6 ([v9]:List zlR)).bind fun v10=>some (.inl (w64 (v4+1),v5,v10)))else some (.inr (v5,v6))
def zdV(o:Ops)(v0:List zbW):Option (((List zbW)×List zlR)):=
 (chk (decide ((0:Int)≤(v0.length:Int))&&decide ((v0.length:Int)≤(LIM:Int)))).bind fun _=>(mkL (0:Int) (([]:Bs),([]:Bs),([]:Bs),([]:Bs),(0:Int),(0:Int),(0:Int),([]:List zcQ))).bind fun v1=>(zvE o v0).bind fun v2=>(yaD v2).bind fun v3=>(iter (fun x=>zeZ o v3 x.1 x.2.1 x.2.2) ((0:Int),v3.2,v1)).bind fun v11=>some v11
def zgY(o:Ops):SC:=⟨⟨[(0,(.ptr 0 0))],[ziI,zgJ]⟩,1,[(none,⟨[(0,(.own 2))],[ziI,zgJ,.osl ybI 53]⟩)],fun x=>zdV o x⟩
theorem zkB:SCok Tryz.prog tabs 14 (zgY o):=zhM (o:=o) (η:=[(200003,.loop [] ⟨[(0,(.ptr 0 0)),(3,(.own 2)),(19,hI)],[ziI,zgJ,.osl ybI 53]⟩ [2,17,18] [(some 0,⟨[(3,(.own 2))],[ziI,zgJ,.osl ybI 53]⟩)])]) (Γ:=⟨[(38,(zpK o))],[(37,(zyU o)),(36,yjG)],false,[]⟩) (ctok ⟨zvQ,trivial⟩ ⟨yiM,⟨yxI,trivial⟩⟩) Tryz.func14
def ypG:PC:=⟨[.h (.sl (.pr .s .s))],[(.sl (.pr .s .s))],fun xs=>some xs,true⟩
theorem xaV:PCok Tryz.prog tabs 41 ypG:=wit (G:=tabs)<|ylS yeM τ_okWkF Tryz.func41 (isFn Tryz.func41) rfl (by kernel_rfl) (fun _=>by kernel_rfl)
def zdL(o:Ops)(v6:zlR)(v11:Int)(v12:List zbW)(v13:List (Bs×Bs))(v14:Bs)(v15:Bs)(v16:Bs)(v17:Bs)(v18:Int)(v19:Int)(v20:Int)(v21:List zcQ)(v22:List Bs)(v23:List zlR):Option ((Int×(List zbW)×(List (Bs×Bs))×Bs×Bs×Bs×Bs×Int×Int×Int×(List zcQ)×(List Bs)×List zlR)⊕(((List zbW)×(List (Bs×Bs))×Bs×Bs×Bs×Bs×Int×Int×Int×(List zcQ)×(List Bs)×List zlR))):=
 bif decide (v11<(v6.2.2.2.2.2.2.2.length:Int))then((idx v6.2.2.2.2.2.2.2 v11).bind fun v24=>(o.itoa v24.2.2.2).bind fun v25=>(app v22 ([v24.1,v24.2.1,v24.2.2.1,v25]:List Bs)).bind fun v26=>some (.inl (w64 (v11+1),v12,v13,v14,v15,v16,v17,v18,v19,v20,v21,v26,v23)))else some (.inr (v12,v13,v14,v15,v16,v17,v18,v19,v20,v21,v22,v23))
def zeD(o:Ops)(v1:((List zbW)×List zlR))(v2:Int)(v3:List zbW)(v4:List (Bs×Bs))(v5:List zlR):Option ((Int×(List zbW)×(List (Bs×Bs))×List zlR)⊕(((List zbW)×List (Bs×Bs)))):=
 bif decide (v2<(v1.2.length:Int))then((chk (decide ((0:Int)≤v2)&&decide (v2<(v5.length:Int)))).bind fun _=>(idx v5 v2).bind fun v6=>(o.itoa v6.2.2.2.2.1).bind fun v7=>(o.itoa v6.2.2.2.2.2.1).bind fun v8=>(o.itoa v6.2.2.2.2.2.2.1).bind fun v9=>(o.itoa (v6.2.2.2.2.2.2.2.length:Int)).bind fun v10=>(iter (fun x=>zdL o v6 x.1 x.2.1 x.2.2.1 x.2.2.2.1 x.2.2.2.2.1 x.2.2.2.2.2.1 x.2.2.2.2.2.2.1 x.2.2.2.2.2.2.2.1 x.2.2.2.2.2.2.2.2.1 x.2.2.2.2.2.2.2.2.2.1 x.2.2.2.2.2.2.2.2.2.2.1 x.2.2.2.2.2.2.2.2.2.2.2.1 x.2.2.2.2.2.2.2.2.2.2.2.2) ((0:Int),v3,v4,v6.1,v6.2.1,v6.2.2.1,v6.2.2.2.1,v6.2.2.2.2.1,v6.2.2.2.2.2.1,v6.2.2.2.2.2.2.1,v6.2.2.2.2.2.2.2,([v6.2.1,v6.2.2.1,v6.2.2.2.1,v7,v8,v9,v10]:List Bs),v5)).bind fun v27=>(app ([108,111,103,105,110,47]:Bs) v27.2.2.1).bind fun v28=>(o.form v27.2.2.2.2.2.2.2.2.2.2.1).bind fun v29=>(app v27.2.1 ([(v28,v29)]:List (Bs×Bs))).bind fun v30=>some (.inl (w64 (v2+1),v27.1,v30,v27.2.2.2.2.2.2.2.2.2.2.2)))else some (.inr (v3,v4))
def zeQ(o:Ops)(v0:List zbW):Option (((List (Bs×Bs))×List zbW)):=
 (zdV o v0).bind fun v1=>(iter (fun x=>zeD o v1 x.1 x.2.1 x.2.2.1 x.2.2.2) ((0:Int),v1.1,([]:List (Bs×Bs)),v1.2)).bind fun v31=>some (v31.2,v31.1)
def zjH(o:Ops):SC:=⟨⟨[(0,(.ptr 0 0))],[ziI,zgJ]⟩,1,[(none,⟨[(0,(.hc (.pr .s .s)))],[ziI,zgJ]⟩)],fun x=>zeQ o x⟩
theorem znY:SCok Tryz.prog tabs 15 (zjH o):=zhM (o:=o) (η:=[(200007,.loop [] ⟨[(3,(.own 2)),(5,(.ptr 3 0)),(6,(.own 4)),(10,(.own 5)),(39,hI)],[ziI,zgJ,.osl (.pr .s .s) 24,.blk 53 [hS,hS,hS,hS,hI,hI,hI,(.h (.sl ztP))],.osl .s 9,.osl ybI 53]⟩ [2,11,12,37,38] [(some 2,⟨[(3,(.own 2)),(5,(.ptr 3 0)),(6,(.own 4)),(10,(.own 5))],[ziI,zgJ,.osl (.pr .s .s) 24,.blk 53 [hS,hS,hS,hS,hI,hI,hI,(.h (.sl ztP))],.osl .s 9,.osl ybI 53]⟩)]),
 (200003,.loop [.sl 3 (.pr .s .s) 24] ⟨[(3,(.own 2)),(10,(.own 3)),(12,hI)],[ziI,zgJ,.osl (.pr .s .s) 24,.osl ybI 53]⟩ [2,11] [(some 0,⟨[(3,(.own 2))],[ziI,zgJ,.osl (.pr .s .s) 24]⟩)]),
 (4000005,.sch [(.pu,0,[]),(.pu,1,[]),(.pu,2,[]),(.pu,3,[]),(.pu,4,[]),(.pu,5,[]),(.pu,6,[]),(.pu,7,[]),(.pu,9,[]),(.pu,10,[]),(.pu,12,[]),(.pu,13,[]),(.pu,15,[]),(.pu,16,[]),(.pu,17,[]),(.mn,8,[]),(.mn,11,[]),(.mn,14,[]),(.mn,18,[]),(.mn,19,[]),(.pu,20,[])]),
 (4000009,.sch [(.pu,0,[]),(.pu,1,[]),(.pu,2,[]),(.pu,3,[]),(.pu,4,[]),(.pu,5,[]),(.pu,6,[]),(.pu,7,[]),(.pu,8,[]),(.mn,9,[]),(.mn,10,[]),(.mn,11,[3,4]),(.mn,12,[])]),
 (4000011,.sch [(.pu,0,[]),(.pu,1,[]),(.pu,2,[]),(.pu,3,[]),(.pu,4,[]),(.mn,5,[]),(.pu,6,[]),(.mn,7,[]),(.mn,8,[2]),(.mn,9,[])])]) (Γ:=⟨[(39,(ysO o)),(40,(ysP o)),(41,ypG)],[(14,(zgY o))],false,[]⟩) (ctok ⟨(zkN.itoa (G:=tabs)),⟨(zkN.form (G:=tabs)),⟨xaV,trivial⟩⟩⟩ ⟨zkB,trivial⟩) Tryz.func15
def zfH(_o:Ops)(v0:Bs)(v1:Bs):Option (Bool):=
 bif decide ((v0.length:Int)≥(v1.length:Int))then((subH v0 (v1.length:Int)).bind fun v2=>some (v2==v1))else(some false)
def zfA(o:Ops):PC:=⟨[hS,hS],[.b],fun x=>zfH o x.1 x.2,false⟩
theorem zkG:PCok Tryz.prog tabs 129 (zfA o):=zoS (o:=o) (η:=[]) (Γ:=⟨[],[],false,[]⟩) (ctok trivial trivial) Tryz.func129
def zfI(o:Ops)(v0:Bs)(v1:Bs):Option (Bs×Bool):=
 (zfH o v0 v1).bind fun v2=>bif(!v2)then(some (v0,false))else((subL v0 (v1.length:Int)).bind fun v3=>some (v3,true))
def zeS(o:Ops):PC:=⟨[hS,hS],[.s,.b],fun x=>zfI o x.1 x.2,false⟩
theorem zkD:PCok Tryz.prog tabs 105 (zeS o):=zoS (o:=o) (η:=[]) (Γ:=⟨[(129,(zfA o))],[],false,[]⟩) (ctok ⟨zkG,trivial⟩ trivial) Tryz.func105
def zoE(o:Ops)(v0:Bs)(v1:Bs):Option (Bs×Bool):=
 (zfI o v0 v1).bind fun v2=>some v2
def zmZ(o:Ops):PC:=⟨[hS,hS],[.s,.b],fun x=>zoE o x.1 x.2,false⟩
theorem zuO:PCok Tryz.prog tabs 76 (zmZ o):=zoS (o:=o) (η:=[]) (Γ:=⟨[(105,(zeS o))],[],false,[]⟩) (ctok ⟨zkD,trivial⟩ trivial) Tryz.func76
def zzH(o:Ops)(v0:Bs):Option ((Int×Bool)⊕Unit):=
 bif(v0==([]:Bs))then some (.inl ((0:Int),false))else(bif decide ((v0.length:Int)>15)then some (.inl ((0:Int),false))else((idx v0 (0:Int)).bind fun v1=>bif((v1.toNat:Int)==((48:UInt8).toNat:Int))then(bif(v0 != ([48]:Bs))then some (.inl ((0:Int),false))else((o.trim v0 ([48,49,50,51,52,53,54,55,56,57]:Bs)).bind fun v2=>bif(v2 != ([]:Bs))then some (.inl ((0:Int),false))else some (.inr ())))else((o.trim v0 ([48,49,50,51,52,53,54,55,56,57]:Bs)).bind fun v3=>bif(v3 != ([]:Bs))then some (.inl ((0:Int),false))else some (.inr ()))))
def zsZ(o:Ops)(v0:Bs):Option (Int×Bool):=
 (zzH o v0).bind fun v4=>match v4 with
 |.inl v5=>(some v5)
 |.inr _v6=>((o.atoi v0).bind fun v7=>some (v7.1,(!v7.2)))
def zsF(o:Ops):PC:=⟨[hS],[(.i .i64),.b],fun x=>zsZ o x,false⟩
theorem zzB:PCok Tryz.prog tabs 107 (zsF o):=zoS (o:=o) (η:=[(2000003,.join [] [0] [(some 1000000,⟨[(2,hI),(3,hB)],[]⟩),(none,⟨[],[]⟩)]),
 (4000004,.sch [(.pu,0,[]),(.pu,1,[]),(.pu,2,[]),(.pu,3,[]),(.pu,4,[])])]) (Γ:=⟨[(109,(yhK o)),(110,(ynA o))],[],false,[]⟩) (ctok ⟨(zkN.trim (G:=tabs)),⟨(zkN.atoi (G:=tabs)),trivial⟩⟩ trivial) Tryz.func107
def ynX:PC:=⟨[.h (.sl .s)],[(.sl .s)],fun xs=>some xs,true⟩
theorem xaT:PCok Tryz.prog tabs 108 ynX:=wit (G:=tabs)<|ylS yeM τ_okWkF Tryz.func108 (isFn Tryz.func108) rfl (by kernel_rfl) (fun _=>by kernel_rfl)
def zzI(_o:Ops)(v2:List Bs)(v3:Bs×Bs×Bool)(v4:Int×Bool):Option (Bool⊕List Bs):=
 bif(!v3.2.2)then some (.inl false)else(bif(!v4.2)then some (.inl false)else(bif decide (v4.1>(v3.2.1.length:Int))then some (.inl false)else some (.inr v2)))
def zzF(o:Ops)(v1:Bs)(v2:List Bs):Option ((Bs×List Bs)⊕(Bool⊕List Bs)):=
 bif(v1 != ([]:Bs))then((o.cut v1 ([58]:Bs)).bind fun v3=>(zsZ o v3.1).bind fun v4=>(zzI o v2 v3 v4).bind fun v5=>match v5 with
 |.inl v6=>some (.inr (.inl v6))
 |.inr v7=>((subH v3.2.1 v4.1).bind fun v8=>(app v7 ([v8]:List Bs)).bind fun v9=>(subL v3.2.1 v4.1).bind fun v10=>some (.inl (v10,v9))))else some (.inr (.inr v2))
def zuW(o:Ops)(v0:Bs):Option (((List Bs)×Bool)):=
 (iter (fun x=>zzF o x.1 x.2) (v0,([]:List Bs))).bind fun v11=>match v11 with
 |.inl v12=>some (([]:List Bs),v12)
 |.inr v13=>some (v13,true)
def ztG(o:Ops):SC:=⟨⟨[(0,hS)],[]⟩,2,[(none,⟨[(0,(.h (.sl .s))),(1,hB)],[]⟩)],fun x=>zuW o x⟩
theorem yaK:SCok Tryz.prog tabs 77 (ztG o):=zhM (o:=o) (η:=[(2000007,.join [] [6,8] [(some 1000000,⟨[(2,.nils),(3,hB)],[]⟩),(none,⟨[(4,(.own 0))],[.osl .s 9]⟩)]),
 (200002,.loop [.sl 4 .s 9] ⟨[(0,hS),(4,(.own 0))],[.osl .s 9]⟩ [] [(some 1000000,⟨[(2,.nils),(3,hB)],[]⟩),(some 0,⟨[(4,(.own 0))],[.osl .s 9]⟩)])]) (Γ:=⟨[(106,(xdR o)),(107,(zsF o)),(108,ynX)],[],false,[]⟩) (ctok ⟨(zkN.cut (G:=tabs)),⟨zzB,⟨xaT,trivial⟩⟩⟩ trivial) Tryz.func77
def ybS(o:Ops)(v0:Bs):Option (Int⊕Unit):=
 bif(v0==([]:Bs))then some (.inl (-1:Int))else(bif decide ((v0.length:Int)>15)then some (.inl (-1:Int))else((idx v0 (0:Int)).bind fun v2=>bif((v2.toNat:Int)==((48:UInt8).toNat:Int))then(bif(v0 != ([48]:Bs))then some (.inl (-1:Int))else((o.trim v0 ([48,49,50,51,52,53,54,55,56,57]:Bs)).bind fun v3=>bif(v3 != ([]:Bs))then some (.inl (-1:Int))else some (.inr ())))else((o.trim v0 ([48,49,50,51,52,53,54,55,56,57]:Bs)).bind fun v4=>bif(v4 != ([]:Bs))then some (.inl (-1:Int))else some (.inr ()))))
def zgL(o:Ops)(v0:Bs)(v1:Int):Option (Int):=
 (ybS o v0).bind fun v5=>match v5 with
 |.inl v6=>(some v6)
 |.inr _v7=>((o.atoi v0).bind fun v8=>bif decide (v8.1>v1)then(some (-1:Int))else(some v8.1))
def ztB(o:Ops):PC:=⟨[hS,hI],[(.i .i64)],fun x=>zgL o x.1 x.2,false⟩
theorem ycA:PCok Tryz.prog tabs 78 (ztB o):=zoS (o:=o) (η:=[(2000003,.join [] [0,1] [(some 1000000,⟨[(4,hI)],[]⟩),(none,⟨[],[]⟩)])]) (Γ:=⟨[(109,(yhK o)),(110,(ynA o))],[],false,[]⟩) (ctok ⟨(zkN.trim (G:=tabs)),⟨(zkN.atoi (G:=tabs)),trivial⟩⟩ trivial) Tryz.func78
def zlS(o:Ops)(v0:zcQ):Option (Bool):=
 (zgM o (v0.1.length:Int) (1:Int) (86:Int)).bind fun v1=>bif v1 then(bif((v0.2.1.length:Int)==32)then(bif((v0.2.2.1.length:Int)==32)then((zgM o v0.2.2.2 (0:Int) (4294967295:Int)).bind fun v2=>some v2)else(some false))else(some false))else(some false)
def ztI(o:Ops):PC:=⟨[(.h ztP)],[.b],fun x=>zlS o x,false⟩
theorem zyX:PCok Tryz.prog tabs 57 (ztI o):=zoS (o:=o) (η:=[]) (Γ:=⟨[(43,(zjG o))],[],false,[]⟩) (ctok ⟨zlJ,trivial⟩ trivial) Tryz.func57
def zmF(_o:Ops)(v0:zcQ)(v1:Bs):Option ((Bool×Bs)):=
 some ((v0.1==v1),v1)
def zvR(o:Ops):SC:=⟨⟨[(0,(.h ztP)),(1,(.ptr 0 0))],[.blk 9 [hS]]⟩,1,[(none,⟨[(0,hB)],[.blk 9 [hS]]⟩)],fun x=>zmF o x.1 x.2⟩
theorem yfV:SCok Tryz.prog tabs 100 (zvR o):=zhM (o:=o) (η:=[]) (Γ:=⟨[],[],false,[]⟩) (ctok trivial trivial) Tryz.func100
def zbL(o:Ops)(v0:List zcQ)(v2:Int)(v3:Bs):Option ((Int×Bs)⊕((Int×Bs)⊕Bs)):=
 bif decide (v2<(v0.length:Int))then((idx v0 v2).bind fun v4=>(zmF o v4 v3).bind fun v5=>bif v5.1 then some (.inr (.inl (v2,v5.2)))else some (.inl (w64 (v2+1),v5.2)))else some (.inr (.inr v3))
def zhF(o:Ops)(v0:List zcQ)(v1:Bs):Option ((Int×Bs)):=
 (iter (fun x=>zbL o v0 x.1 x.2) ((0:Int),v1)).bind fun v6=>match v6 with
 |.inl v7=>some v7
 |.inr v8=>some ((-1:Int),v8)
def znU(o:Ops):SC:=⟨⟨[(0,(.h (.sl ztP))),(1,(.fn 100 [] [(.ptr 0 0)]))],[.blk 9 [hS]]⟩,1,[(none,⟨[(0,hI)],[.blk 9 [hS]]⟩)],fun x=>zhF o x.1 x.2⟩
theorem zvB:SCok Tryz.prog tabs 99 (znU o):=zhM (o:=o) (η:=[(200002,.loop [] ⟨[(1,(.fn 100 [] [(.ptr 0 0)])),(8,hI)],[.blk 9 [hS]]⟩ [0,7] [(some 1000000,⟨[(4,hI)],[.blk 9 [hS]]⟩),(some 0,⟨[],[.blk 9 [hS]]⟩)])]) (Γ:=⟨[],[(100,(zvR o))],false,[]⟩) (ctok trivial ⟨yfV,trivial⟩) Tryz.func99
def zdU(o:Ops)(v0:List zcQ)(v1:Bs):Option (Int):=
 (zhF o v0 v1).bind fun v2=>some v2.1
def zoB(o:Ops):PC:=⟨[(.h (.sl ztP)),hS],[(.i .i64)],fun x=>zdU o x.1 x.2,false⟩
theorem zrJ:PCok Tryz.prog tabs 58 (zoB o):=zoS (o:=o) (η:=[]) (Γ:=⟨[],[(99,(znU o))],false,[]⟩) (ctok trivial ⟨zvB,trivial⟩) Tryz.func58
def ygL(o:Ops)(v1:Bs×Bool)(v2:((List Bs)×Bool)):Option ((Bool×Bs×Bs×Bs×Bs×Int×Int×Int)⊕(Bs×Bs×Bs×Bs×Int×Int×Int)):=
 bif(!v1.2)then some (.inl (false,([]:Bs),([]:Bs),([]:Bs),([]:Bs),(0:Int),(0:Int),(0:Int)))else(bif(!v2.2)then some (.inl (false,([]:Bs),([]:Bs),([]:Bs),([]:Bs),(0:Int),(0:Int),(0:Int)))else(bif decide ((v2.1.length:Int)<7)then some (.inl (false,([]:Bs),([]:Bs),([]:Bs),([]:Bs),(0:Int),(0:Int),(0:Int)))else((zdB o v1.1).bind fun v3=>bif(!v3)then some (.inl (false,([]:Bs),([]:Bs),([]:Bs),([]:Bs),(0:Int),(0:Int),(0:Int)))else some (.inr (([]:Bs),([]:Bs),([]:Bs),([]:Bs),(0:Int),(0:Int),(0:Int))))))
def yhC(_o:Ops)(v1:Bs×Bool)(v6:Bs×Bs×Bs×Bs×Int×Int×Int)(v7:Bs)(v8:Bs)(v9:Bs)(v13:Int)(v14:Int)(v15:Int)(v17:Int)(v18:List Bs):Option ((Bool×Bs×Bs×Bs×Bs×Int×Int×Int)⊕(Bs×Bs×Bs×Bs×Int×Int×Int×Bs×Bs×Bs×Bs×Int×Int×Int)):=
 bif decide (v13<0)then some (.inl (false,([]:Bs),([]:Bs),([]:Bs),([]:Bs),(0:Int),(0:Int),(0:Int)))else(bif decide (v14<0)then some (.inl (false,([]:Bs),([]:Bs),([]:Bs),([]:Bs),(0:Int),(0:Int),(0:Int)))else(bif decide (v15<0)then some (.inl (false,([]:Bs),([]:Bs),([]:Bs),([]:Bs),(0:Int),(0:Int),(0:Int)))else(bif decide (v17<0)then some (.inl (false,([]:Bs),([]:Bs),([]:Bs),([]:Bs),(0:Int),(0:Int),(0:Int)))else(bif((v18.length:Int) != (w64 ((4:Int)*v17)))then some (.inl (false,([]:Bs),([]:Bs),([]:Bs),([]:Bs),(0:Int),(0:Int),(0:Int)))else(bif((v7.length:Int) != 16)then some (.inl (false,([]:Bs),([]:Bs),([]:Bs),([]:Bs),(0:Int),(0:Int),(0:Int)))else(bif((v8.length:Int) != 32)then some (.inl (false,([]:Bs),([]:Bs),([]:Bs),([]:Bs),(0:Int),(0:Int),(0:Int)))else some (.inr (v6.1,v6.2.1,v6.2.2.1,v6.2.2.2.1,v6.2.2.2.2.1,v6.2.2.2.2.2.1,v6.2.2.2.2.2.2,v1.1,v7,v8,v9,v13,v14,v15))))))))
def ydD(o:Ops)(v23:Bs)(v24:Bs)(v25:Bs)(v26:Bs)(v27:Int)(v28:Int)(v29:Int)(v30:Bs)(v31:Bs)(v32:Bs)(v33:Bs)(v34:Int)(v35:Int)(v36:Int)(v37:List zcQ)(v38:Bs)(v39:Bs)(v40:Bs)(v42:Int):Option ((Bool×Bs×Bs×Bs×Bs×Int×Int×Int)⊕(Bs×Bs×Bs×Bs×Int×Int×Int×Bs×Bs×Bs×Bs×Int×Int×Int×Bs×Bs×Bs×Int×List zcQ)):=
 (zlS o (v38,v39,v40,v42)).bind fun v43=>bif(!v43)then some (.inl (false,([]:Bs),([]:Bs),([]:Bs),([]:Bs),(0:Int),(0:Int),(0:Int)))else((zdU o v37 v38).bind fun v44=>bif decide (v44≥0)then some (.inl (false,([]:Bs),([]:Bs),([]:Bs),([]:Bs),(0:Int),(0:Int),(0:Int)))else some (.inr (v23,v24,v25,v26,v27,v28,v29,v30,v31,v32,v33,v34,v35,v36,v38,v39,v40,v42,v37)))
def ygE(o:Ops)(v22:List Bs)(v23:Bs)(v24:Bs)(v25:Bs)(v26:Bs)(v27:Int)(v28:Int)(v29:Int)(v30:Bs)(v31:Bs)(v32:Bs)(v33:Bs)(v34:Int)(v35:Int)(v36:Int)(v37:List zcQ):Option (((List Bs)×Bs×Bs×Bs×Bs×Int×Int×Int×zlR)⊕((Bool×Bs×Bs×Bs×Bs×Int×Int×Int)⊕(Bs×Bs×Bs×Bs×Int×Int×Int×zlR))):=
 bif decide ((v22.length:Int)>0)then((idx v22 (0:Int)).bind fun v38=>(idx v22 (1:Int)).bind fun v39=>(idx v22 (2:Int)).bind fun v40=>(idx v22 (3:Int)).bind fun v41=>(zgL o v41 (4294967295:Int)).bind fun v42=>(ydD o v23 v24 v25 v26 v27 v28 v29 v30 v31 v32 v33 v34 v35 v36 v37 v38 v39 v40 v42).bind fun v45=>match v45 with
 |.inl v46=>some (.inr (.inl v46))
 |.inr v47=>((app v47.2.2.2.2.2.2.2.2.2.2.2.2.2.2.2.2.2.2 ([(v47.2.2.2.2.2.2.2.2.2.2.2.2.2.2.1,v47.2.2.2.2.2.2.2.2.2.2.2.2.2.2.2.1,v47.2.2.2.2.2.2.2.2.2.2.2.2.2.2.2.2.1,v47.2.2.2.2.2.2.2.2.2.2.2.2.2.2.2.2.2.1)]:List zcQ)).bind fun v48=>(subL v22 (4:Int)).bind fun v49=>some (.inl (v49,v47.1,v47.2.1,v47.2.2.1,v47.2.2.2.1,v47.2.2.2.2.1,v47.2.2.2.2.2.1,v47.2.2.2.2.2.2.1,v47.2.2.2.2.2.2.2.1,v47.2.2.2.2.2.2.2.2.1,v47.2.2.2.2.2.2.2.2.2.1,v47.2.2.2.2.2.2.2.2.2.2.1,v47.2.2.2.2.2.2.2.2.2.2.2.1,v47.2.2.2.2.2.2.2.2.2.2.2.2.1,v47.2.2.2.2.2.2.2.2.2.2.2.2.2.1,v48))))else some (.inr (.inr (v23,v24,v25,v26,v27,v28,v29,v30,v31,v32,v33,v34,v35,v36,v37)))
def zyZ(o:Ops)(v0:Bs×Bs):Option (zlR×Bool):=
 (zoE o v0.1 ([108,111,103,105,110,47]:Bs)).bind fun v1=>(zuW o v0.2).bind fun v2=>(ygL o v1 v2).bind fun v4=>match v4 with
 |.inl v5=>(some ((v5.2.1,v5.2.2.1,v5.2.2.2.1,v5.2.2.2.2.1,v5.2.2.2.2.2.1,v5.2.2.2.2.2.2.1,v5.2.2.2.2.2.2.2,([]:List zcQ)),v5.1))
 |.inr v6=>((idx v2.1 (0:Int)).bind fun v7=>(idx v2.1 (1:Int)).bind fun v8=>(idx v2.1 (2:Int)).bind fun v9=>(idx v2.1 (3:Int)).bind fun v10=>(idx v2.1 (4:Int)).bind fun v11=>(idx v2.1 (5:Int)).bind fun v12=>(zgL o v10 (2199023255552:Int)).bind fun v13=>(zgL o v11 (4:Int)).bind fun v14=>(zgL o v12 (2199023255552:Int)).bind fun v15=>(idx v2.1 (6:Int)).bind fun v16=>(zgL o v16 (4:Int)).bind fun v17=>(subL v2.1 (7:Int)).bind fun v18=>(yhC o v1 v6 v7 v8 v9 v13 v14 v15 v17 v18).bind fun v19=>match v19 with
 |.inl v20=>(some ((v20.2.1,v20.2.2.1,v20.2.2.2.1,v20.2.2.2.2.1,v20.2.2.2.2.2.1,v20.2.2.2.2.2.2.1,v20.2.2.2.2.2.2.2,([]:List zcQ)),v20.1))
 |.inr v21=>((iter (fun x=>ygE o x.1 x.2.1 x.2.2.1 x.2.2.2.1 x.2.2.2.2.1 x.2.2.2.2.2.1 x.2.2.2.2.2.2.1 x.2.2.2.2.2.2.2.1 x.2.2.2.2.2.2.2.2.1 x.2.2.2.2.2.2.2.2.2.1 x.2.2.2.2.2.2.2.2.2.2.1 x.2.2.2.2.2.2.2.2.2.2.2.1 x.2.2.2.2.2.2.2.2.2.2.2.2.1 x.2.2.2.2.2.2.2.2.2.2.2.2.2.1 x.2.2.2.2.2.2.2.2.2.2.2.2.2.2.1 x.2.2.2.2.2.2.2.2.2.2.2.2.2.2.2) (v18,v21.1,v21.2.1,v21.2.2.1,v21.2.2.2.1,v21.2.2.2.2.1,v21.2.2.2.2.2.1,v21.2.2.2.2.2.2.1,v21.2.2.2.2.2.2.2.1,v21.2.2.2.2.2.2.2.2.1,v21.2.2.2.2.2.2.2.2.2.1,v21.2.2.2.2.2.2.2.2.2.2.1,v21.2.2.2.2.2.2.2.2.2.2.2.1,v21.2.2.2.2.2.2.2.2.2.2.2.2.1,v21.2.2.2.2.2.2.2.2.2.2.2.2.2,([]:List zcQ))).bind fun v50=>match v50 with
 |.inl v51=>(some ((v51.2.1,v51.2.2.1,v51.2.2.2.1,v51.2.2.2.2.1,v51.2.2.2.2.2.1,v51.2.2.2.2.2.2.1,v51.2.2.2.2.2.2.2,([]:List zcQ)),v51.1))
 |.inr v52=>(bif(v52.2.2.2.2.2.2.2.2.2.2.1==([]:Bs))then(some (v52.2.2.2.2.2.2.2,true))else((zgM o (v52.2.2.2.2.2.2.2.2.2.2.1.length:Int) (16:Int) (64:Int)).bind fun v53=>some (v52.2.2.2.2.2.2.2,v53)))))
def zvO(o:Ops):PC:=⟨[(.h (.pr .s .s))],[ybI,.b],fun x=>zyZ o x,false⟩
theorem yfE:PCok Tryz.prog tabs 34 (zvO o):=zoS (o:=o) (η:=[(2000005,.join [] [4,6] [(some 1000000,⟨[(2,(.ptr 0 0)),(3,hB)],[yfT]⟩),(none,⟨[(2,(.ptr 0 0))],[yfT]⟩)]),
 (2100000,.join [] [6] [(some 1000000,⟨[(2,(.ptr 0 0)),(3,hB)],[yfT]⟩),(none,⟨[(2,(.ptr 0 0)),(8,(.ptr 1 0))],[yfT,.blk 53 [hS,hS,hS,hS,hI,hI,hI,.nils]]⟩)]),
 (2000015,.join [] [6] [(some 1000000,⟨[(2,(.ptr 0 0)),(3,hB)],[yfT]⟩),(none,⟨[(2,(.ptr 0 0)),(8,(.ptr 1 0)),(10,(.ptr 2 0))],[yfT,.blk 53 [hS,hS,hS,hS,hI,hI,hI,(.own 3)],ynG,.osl ztP 58]⟩)]),
 (200010,.loop [.cell 8 7 ztP 58] ⟨[(2,(.ptr 0 0)),(6,(.h (.sl .s))),(8,(.ptr 1 0))],[yfT,.blk 53 [hS,hS,hS,hS,hI,hI,hI,(.own 2)],.osl ztP 58]⟩ [] [(some 1000000,⟨[(2,(.ptr 0 0)),(3,hB)],[yfT]⟩),(some 0,⟨[(2,(.ptr 0 0)),(8,(.ptr 1 0))],[yfT,.blk 53 [hS,hS,hS,hS,hI,hI,hI,(.own 2)],.osl ztP 58]⟩)]),
 (4000005,.sch [(.pu,0,[]),(.pu,1,[]),(.pu,2,[]),(.pu,3,[]),(.pu,4,[]),(.pu,5,[]),(.pu,6,[]),(.pu,7,[]),(.pu,8,[]),(.pu,9,[]),(.pu,10,[]),(.pu,11,[]),(.pu,12,[]),(.pu,14,[]),(.pu,15,[]),(.pu,16,[]),(.pu,18,[]),(.pu,19,[]),(.pu,20,[]),(.la,23,[]),(.mn,13,[]),(.mn,17,[]),(.mn,21,[]),(.pu,22,[]),(.rv,23,[]),(.mn,24,[1])]),
 (4000012,.sch [(.pu,0,[]),(.pu,1,[]),(.pu,2,[]),(.pu,3,[]),(.pu,4,[]),(.pu,5,[]),(.pu,6,[]),(.pu,7,[]),(.pu,8,[]),(.pu,9,[]),(.pu,10,[]),(.pu,11,[]),(.la,14,[]),(.mn,12,[]),(.pu,13,[]),(.rv,14,[]),(.mn,15,[2,3])]),
 (4000016,.sch [(.pu,0,[]),(.pu,1,[]),(.pu,2,[]),(.pu,3,[]),(.pu,4,[]),(.pu,5,[]),(.pu,6,[]),(.pu,7,[]),(.pu,8,[]),(.mn,9,[]),(.pu,10,[0]),(.mn,11,[0]),(.pu,12,[])])]) (Γ:=⟨[(76,(zmZ o)),(42,(zqD o)),(78,(ztB o)),(57,(ztI o)),(58,(zoB o)),(43,(zjG o))],[(77,(ztG o))],false,[]⟩) (ctok ⟨zuO,⟨zuT,⟨ycA,⟨zyX,⟨zrJ,⟨zlJ,trivial⟩⟩⟩⟩⟩⟩ ⟨yaK,trivial⟩) Tryz.func34
def ygY(_o:Ops)(v0:List (Bs×Bs))(v2:Int)(v3:List zbW)(v4:Bs×Bs)(v5:zlR×Bool):Option (Int⊕(Bs×Bs×Bs×Bs×Int×Int×Int×(List zcQ)×List zbW)):=
 bif(!v5.2)then some (.inl (155:Int))else(bif decide (v2>0)then((idx v0 (w64 (v2-1))).bind fun v6=>bif(Op.bytesLess v4.1 v6.1||v4.1==v6.1)then some (.inl (155:Int))else some (.inr (v5.1.1,v5.1.2.1,v5.1.2.2.1,v5.1.2.2.2.1,v5.1.2.2.2.2.1,v5.1.2.2.2.2.2.1,v5.1.2.2.2.2.2.2.1,v5.1.2.2.2.2.2.2.2,v3)))else some (.inr (v5.1.1,v5.1.2.1,v5.1.2.2.1,v5.1.2.2.2.1,v5.1.2.2.2.2.1,v5.1.2.2.2.2.2.1,v5.1.2.2.2.2.2.2.1,v5.1.2.2.2.2.2.2.2,v3)))
def yfC(o:Ops)(v0:List (Bs×Bs))(v2:Int)(v3:List zbW):Option ((Int×List zbW)⊕(Int⊕(List zbW))):=
 bif decide (v2<(v0.length:Int))then((idx v0 v2).bind fun v4=>(zyZ o v4).bind fun v5=>(ygY o v0 v2 v3 v4 v5).bind fun v7=>match v7 with
 |.inl v8=>some (.inr (.inl v8))
 |.inr v9=>(let v10:List zbW:=mset keqS kltS v9.2.2.2.2.2.2.2.2 v9.1 (v9.1,v9.2.1,v9.2.2.1,v9.2.2.2.1,v9.2.2.2.2.1,v9.2.2.2.2.2.1,v9.2.2.2.2.2.2.1,v9.2.2.2.2.2.2.2.1)
 some (.inl (w64 (v2+1),v10))))else some (.inr (.inr v3))
def zyK(o:Ops)(v0:List (Bs×Bs)):Option (Int⊕(Int×List zbW)):=
 (znS o).bind fun v1=>(iter (fun x=>yfC o v0 x.1 x.2) ((0:Int),v1)).bind fun v11=>match v11 with
 |.inl v12=>some (.inl v12)
 |.inr v13=>(bif decide ((v0.length:Int)>64)then some (.inl (155:Int))else some (.inr ((0:Int),v13)))
def zvS(o:Ops):SC:=⟨⟨[(0,(.h (.sl (.pr .s .s))))],[]⟩,2,[(none,⟨[(0,.nilp),(1,hI)],[]⟩),(none,⟨[(0,(.ptr 0 0)),(1,hI)],[ziI,zgJ]⟩)],fun x=>zyK o x⟩
theorem ygM:SCok Tryz.prog tabs 9 (zvS o):=zhM (o:=o) (η:=[(2000008,.join [] [0,10,11,12] [(some 1000000,⟨[(2,.nilp),(3,hI)],[]⟩),(none,⟨[(4,(.ptr 0 0)),(7,(.ptr 1 0))],[ytV,zpT,zgJ]⟩)]),
 (200003,.loop [] ⟨[(4,(.ptr 0 0)),(12,hI)],[ziI,zgJ]⟩ [0,10,11] [(some 1000000,⟨[(2,.nilp),(3,hI)],[]⟩),(some 0,⟨[(4,(.ptr 0 0))],[ziI,zgJ]⟩)]),
 (4000006,.sch [(.pu,0,[]),(.pu,1,[]),(.pu,2,[]),(.pu,3,[]),(.pu,4,[]),(.pu,5,[]),(.pu,6,[]),(.pu,7,[]),(.pu,8,[]),(.pu,9,[]),(.pu,10,[]),(.pu,11,[]),(.pu,12,[]),(.pu,13,[]),(.pu,14,[]),(.pu,15,[]),(.pu,16,[])]),
 (4000008,.sch [(.pu,0,[]),(.pu,1,[]),(.pu,2,[]),(.pu,3,[]),(.pu,4,[]),(.pu,5,[]),(.pu,6,[]),(.pu,7,[]),(.mn,8,[0,1,2])])]) (Γ:=⟨[(34,(zvO o))],[(16,(zpD o))],false,[]⟩) (ctok ⟨yfE,trivial⟩ ⟨ztO,trivial⟩) Tryz.func9
def zkJ(o:Ops)(v0:Bs)(v1:Bs)(v2:Bs)(v3:Bs)(v4:Int)(v5:Int)(v6:Int)(v7:List zcQ)(v8:Bs)(v9:Bs)(v10:Bs)(v11:Int):Option ((Int×Bs×Bs×Bs×Bs×Int×Int×Int×(List zcQ)×zcQ)⊕(Bs×Bs×Bs×Bs×Int×Int×Int×(List zcQ)×zcQ)):=
 (zlS o (v8,v9,v10,v11)).bind fun v12=>bif(!v12)then some (.inl ((155:Int),v0,v1,v2,v3,v4,v5,v6,v7,v8,v9,v10,v11))else((zdU o v7 v8).bind fun v13=>bif decide (v13≥0)then some (.inl ((155:Int),v0,v1,v2,v3,v4,v5,v6,v7,v8,v9,v10,v11))else some (.inr (v0,v1,v2,v3,v4,v5,v6,v7,v8,v9,v10,v11)))
def zgS(o:Ops)(v0:Bs)(v1:Bs)(v2:Bs)(v3:Bs)(v4:Int)(v5:Int)(v6:Int)(v7:List zcQ)(v8:Bs)(v9:Bs)(v10:Bs)(v11:Int):Option ((Int×Bs×Bs×Bs×Bs×Int×Int×Int×(List zcQ)×zcQ)):=
 (zkJ o v0 v1 v2 v3 v4 v5 v6 v7 v8 v9 v10 v11).bind fun v14=>match v14 with
 |.inl v15=>some v15
 |.inr v16=>(bif decide ((v16.2.2.2.2.2.2.2.1.length:Int)≥4)then some ((156:Int),v16)else((app v16.2.2.2.2.2.2.2.1 ([v16.2.2.2.2.2.2.2.2]:List zcQ)).bind fun v17=>some ((0:Int),v16.1,v16.2.1,v16.2.2.1,v16.2.2.2.1,v16.2.2.2.2.1,v16.2.2.2.2.2.1,v16.2.2.2.2.2.2.1,v17,v16.2.2.2.2.2.2.2.2)))
def zkF(o:Ops):SC:=⟨⟨[(0,(.ptr 0 0)),(1,(.ptr 1 0))],[zpT,ynG]⟩,1,[(none,⟨[(0,hI)],[zpT,ynG]⟩)],fun x=>zgS o x.1 x.2.1 x.2.2.1 x.2.2.2.1 x.2.2.2.2.1 x.2.2.2.2.2.1 x.2.2.2.2.2.2.1 x.2.2.2.2.2.2.2.1 x.2.2.2.2.2.2.2.2.1 x.2.2.2.2.2.2.2.2.2.1 x.2.2.2.2.2.2.2.2.2.2.1 x.2.2.2.2.2.2.2.2.2.2.2⟩
theorem zrQ:SCok Tryz.prog tabs 56 (zkF o):=zhM (o:=o) (η:=[(2000003,.join [] [] [(some 1000000,⟨[(3,hI)],[zpT,ynG]⟩),(none,⟨[(0,(.ptr 0 0)),(1,(.ptr 1 0))],[zpT,ynG]⟩)]),
 (4000001,.sch [(.pu,0,[]),(.mn,1,[]),(.pu,2,[]),(.pu,3,[]),(.pu,4,[]),(.pu,5,[]),(.pu,6,[]),(.pu,7,[]),(.pu,8,[]),(.pu,9,[]),(.pu,10,[]),(.mn,11,[]),(.pu,12,[]),(.pu,13,[])]),
 (4000005,.sch [(.pu,0,[]),(.pu,1,[]),(.pu,2,[]),(.pu,3,[]),(.pu,4,[]),(.pu,5,[]),(.pu,7,[]),(.la,8,[]),(.mn,6,[]),(.rv,8,[]),(.mn,9,[]),(.pu,10,[]),(.pu,11,[]),(.pu,12,[]),(.mn,13,[0])])]) (Γ:=⟨[(57,(ztI o)),(58,(zoB o)),(59,ylD)],[],false,[]⟩) (ctok ⟨zyX,⟨zrJ,⟨yvB,trivial⟩⟩⟩ trivial) Tryz.func56
def zjD(o:Ops)(v0:Bs)(v1:Bs)(v2:Bs)(v3:Bs)(v4:Int)(v5:List zbW):Option ((Int×Bs×Bs×Bs×Int×List zbW)):=
 let v6:zlR:=zeU keqS v5 v0 (([]:Bs),([]:Bs),([]:Bs),([]:Bs),(0:Int),(0:Int),(0:Int),([]:List zcQ))
 bif(!(mhas keqS v5 v0))then some ((150:Int),v1,v2,v3,v4,v5)else((zgS o v6.1 v6.2.1 v6.2.2.1 v6.2.2.2.1 v6.2.2.2.2.1 v6.2.2.2.2.2.1 v6.2.2.2.2.2.2.1 v6.2.2.2.2.2.2.2 v1 v2 v3 v4).bind fun v7=>let v8:List zbW:=mset keqS kltS v5 v0 (v7.2.1,v7.2.2.1,v7.2.2.2.1,v7.2.2.2.2.1,v7.2.2.2.2.2.1,v7.2.2.2.2.2.2.1,v7.2.2.2.2.2.2.2.1,v7.2.2.2.2.2.2.2.2.1)
 some (v7.1,v7.2.2.2.2.2.2.2.2.2.1,v7.2.2.2.2.2.2.2.2.2.2.1,v7.2.2.2.2.2.2.2.2.2.2.2.1,v7.2.2.2.2.2.2.2.2.2.2.2.2,v8))
def zmY(o:Ops):SC:=⟨⟨[(0,(.ptr 0 0)),(1,hS),(2,(.fn 56 [] [(.ptr 1 0)]))],[ytV,ynG,zgJ]⟩,1,[(none,⟨[(0,hI)],[ytV,ynG,ybR]⟩)],fun x=>zjD o x.1 x.2.1 x.2.2.1 x.2.2.2.1 x.2.2.2.2.1 x.2.2.2.2.2⟩
theorem zuQ:SCok Tryz.prog tabs 47 (zmY o):=zhM (o:=o) (η:=[(4000005,.sch [(.pu,0,[]),(.pu,1,[]),(.pu,2,[]),(.pu,3,[]),(.pu,4,[]),(.pu,5,[]),(.mn,6,[0,1,2,3,4])])]) (Γ:=⟨[],[(56,(zkF o))],false,[]⟩) (ctok trivial ⟨zrQ,trivial⟩) Tryz.func47
def zcU(o:Ops)(v0:Bs)(v1:zcQ)(v2:List zbW):Option ((Int×List zbW)):=
 (zjD o v0 v1.1 v1.2.1 v1.2.2.1 v1.2.2.2 v2).bind fun v3=>some (v3.1,v3.2.2.2.2.2)
def zhW(o:Ops):SC:=⟨⟨[(0,(.ptr 0 0)),(1,hS),(2,(.h ztP))],[ziI,zgJ]⟩,1,[(none,⟨[(0,hI)],[ziI,ybR]⟩)],fun x=>zcU o x.1 x.2.1 x.2.2⟩
theorem zmB:SCok Tryz.prog tabs 25 (zhW o):=zhM (o:=o) (η:=[]) (Γ:=⟨[],[(47,(zmY o))],false,[]⟩) (ctok trivial ⟨zuQ,trivial⟩) Tryz.func25
def zeG(_o:Ops)(v0:Bs)(v1:Bs)(v2:Bs)(v3:Bs)(v4:Int)(v5:Int)(v6:Int)(v7:List zcQ)(v8:Bs)(v9:Int)(v11:zcQ):Option ((Int×Bs×Bs×Bs×Bs×Int×Int×Int×(List zcQ)×Bs×Int)⊕(Bs×Bs×Bs×Bs×Int×Int×Int×(List zcQ)×Bs×Int)):=
 bif decide (v9>4294967295)then some (.inl ((153:Int),v0,v1,v2,v3,v4,v5,v6,v7,v8,v9))else(bif decide (v9≤v11.2.2.2)then(bif(v9 != 0)then some (.inl ((153:Int),v0,v1,v2,v3,v4,v5,v6,v7,v8,v9))else(bif(v11.2.2.2 != 0)then some (.inl ((153:Int),v0,v1,v2,v3,v4,v5,v6,v7,v8,v9))else some (.inr (v0,v1,v2,v3,v4,v5,v6,v7,v8,v9))))else some (.inr (v0,v1,v2,v3,v4,v5,v6,v7,v8,v9)))
def zhN(o:Ops)(v0:Bs)(v1:Bs)(v2:Bs)(v3:Bs)(v4:Int)(v5:Int)(v6:Int)(v7:List zcQ)(v8:Bs)(v9:Int):Option ((Int×Bs×Bs×Bs×Bs×Int×Int×Int×(List zcQ)×Bs×Int)):=
 (zdU o v7 v8).bind fun v10=>bif decide (v10<0)then some ((154:Int),v0,v1,v2,v3,v4,v5,v6,v7,v8,v9)else((idx v7 v10).bind fun v11=>(zeG o v0 v1 v2 v3 v4 v5 v6 v7 v8 v9 v11).bind fun v12=>match v12 with
 |.inl v13=>some v13
 |.inr v14=>((app ([]:List zcQ) v14.2.2.2.2.2.2.2.1).bind fun v15=>(chk (decide ((0:Int)≤v10)&&decide (v10<(v15.length:Int)))).bind fun _=>(idx v15 v10).bind fun v16=>(setL v15 v10 (v16.1,v16.2.1,v16.2.2.1,v14.2.2.2.2.2.2.2.2.2)).bind fun v17=>some ((0:Int),v14.1,v14.2.1,v14.2.2.1,v14.2.2.2.1,v14.2.2.2.2.1,v14.2.2.2.2.2.1,v14.2.2.2.2.2.2.1,v17,v14.2.2.2.2.2.2.2.2)))
def zlA(o:Ops):SC:=⟨⟨[(0,(.ptr 0 0)),(1,(.ptr 1 0)),(2,(.ptr 2 0))],[zpT,.blk 9 [hS],.blk 3 [hI]]⟩,1,[(none,⟨[(0,hI)],[zpT,.blk 9 [hS],.blk 3 [hI]]⟩)],fun x=>zhN o x.1 x.2.1 x.2.2.1 x.2.2.2.1 x.2.2.2.2.1 x.2.2.2.2.2.1 x.2.2.2.2.2.2.1 x.2.2.2.2.2.2.2.1 x.2.2.2.2.2.2.2.2.1 x.2.2.2.2.2.2.2.2.2⟩
theorem zsO:SCok Tryz.prog tabs 60 (zlA o):=zhM (o:=o) (η:=[(2000007,.join [] [5] [(some 1000000,⟨[(4,hI)],[zpT,.blk 9 [hS],.blk 3 [hI]]⟩),(none,⟨[(0,(.ptr 0 0)),(2,(.ptr 2 0))],[zpT,.blk 9 [hS],.blk 3 [hI]]⟩)]),
 (4000001,.sch [(.pu,0,[]),(.pu,1,[]),(.pu,2,[]),(.pu,3,[]),(.pu,4,[]),(.pu,5,[]),(.mn,6,[]),(.pu,7,[])]),
 (4000008,.sch [(.pu,0,[]),(.pu,1,[]),(.pu,2,[]),(.pu,3,[]),(.pu,4,[]),(.pu,5,[]),(.pu,6,[]),(.pu,7,[]),(.pu,8,[]),(.mn,9,[0,1,2,3,4])])]) (Γ:=⟨[(58,(zoB o))],[(61,zzW)],false,[]⟩) (ctok ⟨zrJ,trivial⟩ ⟨ygQ,trivial⟩) Tryz.func60
def zjP(o:Ops)(v0:Bs)(v1:Bs)(v2:Int)(v3:List zbW):Option ((Int×Bs×Int×List zbW)):=
 let v4:zlR:=zeU keqS v3 v0 (([]:Bs),([]:Bs),([]:Bs),([]:Bs),(0:Int),(0:Int),(0:Int),([]:List zcQ))
 bif(!(mhas keqS v3 v0))then some ((150:Int),v1,v2,v3)else((zhN o v4.1 v4.2.1 v4.2.2.1 v4.2.2.2.1 v4.2.2.2.2.1 v4.2.2.2.2.2.1 v4.2.2.2.2.2.2.1 v4.2.2.2.2.2.2.2 v1 v2).bind fun v5=>let v6:List zbW:=mset keqS kltS v3 v0 (v5.2.1,v5.2.2.1,v5.2.2.2.1,v5.2.2.2.2.1,v5.2.2.2.2.2.1,v5.2.2.2.2.2.2.1,v5.2.2.2.2.2.2.2.1,v5.2.2.2.2.2.2.2.2.1)
 some (v5.1,v5.2.2.2.2.2.2.2.2.2.1,v5.2.2.2.2.2.2.2.2.2.2,v6))
def znA(o:Ops):SC:=⟨⟨[(0,(.ptr 0 0)),(1,hS),(2,(.fn 60 [] [(.ptr 1 0),(.ptr 2 0)]))],[yrB,.blk 9 [hS],.blk 3 [hI],zgJ]⟩,1,[(none,⟨[(0,hI)],[yrB,.blk 9 [hS],.blk 3 [hI],ybR]⟩)],fun x=>zjP o x.1 x.2.1 x.2.2.1 x.2.2.2⟩
theorem zuK:SCok Tryz.prog tabs 47 (znA o):=zhM (o:=o) (η:=[(4000005,.sch [(.pu,0,[]),(.pu,1,[]),(.pu,2,[]),(.pu,3,[]),(.pu,4,[]),(.pu,5,[]),(.mn,6,[0,1,2,3,4,5])])]) (Γ:=⟨[],[(60,(zlA o))],false,[]⟩) (ctok trivial ⟨zsO,trivial⟩) Tryz.func47
def zbS(o:Ops)(v0:Bs)(v1:Bs)(v2:Int)(v3:List zbW):Option ((Int×List zbW)):=
 (zjP o v0 v1 v2 v3).bind fun v4=>some (v4.1,v4.2.2.2)
def ziM(o:Ops):SC:=⟨⟨[(0,(.ptr 0 0)),(1,hS),(2,hS),(3,hI)],[ziI,zgJ]⟩,1,[(none,⟨[(0,hI)],[ziI,ybR]⟩)],fun x=>zbS o x.1 x.2.1 x.2.2.1 x.2.2.2⟩
theorem znB:SCok Tryz.prog tabs 27 (ziM o):=zhM (o:=o) (η:=[]) (Γ:=⟨[],[(47,(znA o))],false,[]⟩) (ctok trivial ⟨zuK,trivial⟩) Tryz.func27
def zrH(o:Ops)(v0:(List zbW)):Option (Bool⊕(List zbW)):=
 (zfL o ([97,110,110]:Bs) ([48,49,50,51,52,53,54,55,56,57,97,98,99,100,101,102]:Bs) ([112,119]:Bs) v0).bind fun v1=>bif(v1.1 != 0)then some (.inl false)else((zbD o ([97,110,110]:Bs) ([112,119]:Bs) (0:Int) v1.2).bind fun v2=>bif(v2.1 != 0)then some (.inl false)else((zbD o ([97,110,110]:Bs) ([110,111]:Bs) (0:Int) v2.2).bind fun v3=>bif(v3.1 != 151)then some (.inl false)else((zbD o ([98,111,98]:Bs) ([112,119]:Bs) (0:Int) v3.2).bind fun v4=>bif(v4.1 != 150)then some (.inl false)else((zcR o ([97,110,110]:Bs) ([48,48,48,48,48,48]:Bs) (0:Int) v4.2).bind fun v5=>bif(v5.1 != 154)then some (.inl false)else some (.inr v5.2)))))
def zrT(o:Ops)(v9:Int)(v10:List zbW):Option ((Int×List zbW)⊕((List zbW))):=
 bif decide (v9<4)then((zbD o ([97,110,110]:Bs) ([110,111]:Bs) (7:Int) v10).bind fun v11=>some (.inl (w64 (v9+1),v11.2)))else some (.inr v10)
def zrF(o:Ops)(v12:List zbW)(v13:Bs):Option (Bool⊕(List zbW)):=
 (zbD o ([97,110,110]:Bs) ([112,119]:Bs) (306:Int) v12).bind fun v14=>bif(v14.1 != 152)then some (.inl false)else((zbD o ([97,110,110]:Bs) ([112,119]:Bs) (307:Int) v14.2).bind fun v15=>bif(v15.1 != 0)then some (.inl false)else((zdY o ([97,110,110]:Bs) ([48,49,50,51,52,53,54,55,56,57,97,98,99,100,101,102]:Bs) v15.2).bind fun v16=>bif(v16.1 != 0)then some (.inl false)else((zcR o ([97,110,110]:Bs) v13 (60:Int) v16.2).bind fun v17=>bif(v17.1 != 0)then some (.inl false)else((zcR o ([97,110,110]:Bs) v13 (60:Int) v17.2).bind fun v18=>bif(v18.1 != 153)then some (.inl false)else some (.inr v18.2)))))
def zkR(o:Ops):Option (Bool):=
 (znS o).bind fun v0=>(zrH o v0).bind fun v6=>match v6 with
 |.inl v7=>(some v7)
 |.inr v8=>((iter (fun x=>zrT o x.1 x.2) ((0:Int),v8)).bind fun v12=>(o.code ([48,49,50,51,52,53,54,55,56,57,97,98,99,100,101,102]:Bs) (2:Int)).bind fun v13=>(zrF o v12 v13).bind fun v19=>match v19 with
 |.inl v20=>(some v20)
 |.inr v21=>((zeQ o v21).bind fun v22=>(zyK o v22.1).bind fun v23=>match v23 with
 |.inl _v24=>((zcU o ([97,110,110]:Bs) (([107]:Bs),([48,49,50,51,52,53,54,55,56,57,97,98,99,100,101,102,48,49,50,51,52,53,54,55,56,57,97,98,99,100,101,102]:Bs),([48,49,50,51,52,53,54,55,56,57,97,98,99,100,101,102,48,49,50,51,52,53,54,55,56,57,97,98,99,100,101,102]:Bs),(0:Int)) v22.2).bind fun v26=>bif(v26.1==0)then((zbS o ([97,110,110]:Bs) ([107]:Bs) (3:Int) v26.2).bind fun v27=>bif(v27.1==0)then((zbS o ([97,110,110]:Bs) ([107]:Bs) (3:Int) v27.2).bind fun v28=>bif(v28.1==153)then(some false)else(some false))else(some false))else(some false))
 |.inr v25=>((zcU o ([97,110,110]:Bs) (([107]:Bs),([48,49,50,51,52,53,54,55,56,57,97,98,99,100,101,102,48,49,50,51,52,53,54,55,56,57,97,98,99,100,101,102]:Bs),([48,49,50,51,52,53,54,55,56,57,97,98,99,100,101,102,48,49,50,51,52,53,54,55,56,57,97,98,99,100,101,102]:Bs),(0:Int)) v22.2).bind fun v29=>bif(v29.1==0)then((zbS o ([97,110,110]:Bs) ([107]:Bs) (3:Int) v29.2).bind fun v30=>bif(v30.1==0)then((zbS o ([97,110,110]:Bs) ([107]:Bs) (3:Int) v30.2).bind fun v31=>bif(v31.1==153)then(bif(v25.1==0)then((zdV o v25.2).bind fun v32=>some ((v32.2.length:Int)==1))else(some false))else(some false))else(some false))else(some false))))
def zrK(o:Ops):PC:=⟨[],[.b],fun _=>zkR o,false⟩
theorem zrM:PCok Tryz.prog tabs 12 (zrK o):=zoS (o:=o) (η:=[(2000004,.join [] [] [(some 1000000,⟨[(0,hB)],[]⟩),(none,⟨[(1,(.ptr 0 0))],[ziI,zgJ]⟩)]),
 (200005,.loop [] ⟨[(1,(.ptr 0 0)),(2,hI)],[ziI,zgJ]⟩ [] [(some 0,⟨[(1,(.ptr 0 0))],[ziI,zgJ]⟩)]),
 (2000011,.join [] [] [(some 1000000,⟨[(0,hB)],[]⟩),(none,⟨[(1,(.ptr 0 0))],[ziI,zgJ]⟩)])]) (Γ:=⟨[(23,(ylI o))],[(16,(zpD o)),(17,(zkE o)),(19,(ziR o)),(22,(zjI o)),(20,(ziS o)),(15,(zjH o)),(9,(zvS o)),(25,(zhW o)),(27,(ziM o)),(14,(zgY o))],false,[]⟩) (ctok ⟨(zkN.code (G:=tabs)),trivial⟩ ⟨ztO,⟨zpP,⟨zmX,⟨zoD,⟨zmV,⟨znY,⟨ygM,⟨zmB,⟨znB,⟨zkB,trivial⟩⟩⟩⟩⟩⟩⟩⟩⟩⟩) Tryz.func12
end
theorem PCok.le{P:Program}{G:List (Nat×Obj)}{f:FuncId}{ss:List Sh}{rts:List Ty}{p q:zcZ (ss.flatMap Sh.tys)→Option (zcZ rts)}{cl:Bool}(h:PCok P G f ⟨ss,rts,p,cl⟩)(hq:∀x y,q x=some y→p x=some y):PCok P G f ⟨ss,rts,q,cl⟩:=
 ⟨h.fn,fun S w us a y hG hS hA hy=>h.ok S w us a y hG hS hA (hq _ _ hy)⟩
def ylC:Bs:=[48,49,50,51,52,53,54,55,56,57,97,98,99,100,101,102]
def h1L:Bs:=[203,145,18,174,100,177,43,92,37,138,87,148,67,127,45,80,80,106,194,30,232,60,205,156,95,106,145,13,111,64,155,109]
def h2L:Bs:=[204,254,54,6,152,86,196,46,19,80,206,200,100,190,97,140,65,216,130,209,20,113,137,185,50,162,35,218,137,137,142,120]
def c2L:Bs:=[49,49,55,53,55,56]
theorem st_pw:zfD [112,119] ylC 4 32=some (h1L,0):=of_decide_eq_true (by kernel_rfl)
theorem st_no:zfD [110,111] ylC 4 32=some (h2L,0):=of_decide_eq_true (by kernel_rfl)
theorem cd_2:ziF ylC 2=some c2L:=of_decide_eq_true (by kernel_rfl)
theorem fd_2:yjU ylC c2L 2 1=some (2,true):=of_decide_eq_true (by kernel_rfl)
def zxW(p s:Bs)(r n:Int):Option (Bs×Int):=bif(s==ylC)&&(decide (r=4)&&decide (n=32))then(bif p==[112,119]then some (h1L,0)else(bif p==[110,111]then some (h2L,0)else none))else none
def ymO(s:Bs)(n:Int):Option Bs:=bif(s==ylC)&&decide (n=2)then some c2L else none
def ylV(s c:Bs)(n w:Int):Option (Int×Bool):=bif((s==ylC)&&(c==c2L))&&(decide (n=2)&&decide (w=1))then some (2,true)else none
def yuU:Ops:={ zaD with stretch:=zxW,code:=ymO,find:=ylV }
theorem yfO{p s:Bs}{r n:Int}{y:Bs×Int}(h:zxW p s r n=some y):zfD p s r n=some y:=by
 unfold zxW at h
 obtain⟨hb,g⟩:=zaF h
 clear h
 simp only[Bool.and_eq_true,decide_eq_true_eq,beq_iff_eq]at hb
 obtain⟨rfl,rfl,rfl⟩:=hb
 cases h1:p==[112,119] with
 |true=>
  rw[h1]at g
  cases eq_of_beq h1
  exact st_pw.trans g
 |false=>
  rw[h1]at g
  obtain⟨hn,k⟩:=zaF (show(bif p==[110,111]then some (h2L,(0:Int))else none)=some y from g)
  cases eq_of_beq hn
  exact st_no.trans k
theorem yrD{s:Bs}{n:Int}{y:Bs}(h:ymO s n=some y):ziF s n=some y:=by
 unfold ymO at h
 obtain⟨hb,h⟩:=zaF h
 simp only[Bool.and_eq_true,decide_eq_true_eq,beq_iff_eq]at hb
 obtain⟨rfl,rfl⟩:=hb
 exact cd_2.trans h
theorem yqR{s c:Bs}{n w:Int}{y:Int×Bool}(h:ylV s c n w=some y):yjU s c n w=some y:=by
 unfold ylV at h
 obtain⟨hb,h⟩:=zaF h
 simp only[Bool.and_eq_true,decide_eq_true_eq,beq_iff_eq]at hb
 obtain⟨⟨rfl,rfl⟩,rfl,rfl⟩:=hb
 exact fd_2.trans h
instance tabOk {G:List (Nat×Obj)} [zlD G]:zkN G yuU:=
 { (yqA (G:=G)) with
   stretch:=PCok.le (yqA (G:=G)).stretch fun _ _ h=>yfO h
   code:=PCok.le (yqA (G:=G)).code fun _ _ h=>yrD h
   find:=PCok.le (yqA (G:=G)).find fun _ _ h=>yqR h }
theorem yzT:zkR yuU=some true:=of_decide_eq_true (by kernel_rfl)
def ynW:PC:=⟨[],[.b],fun _=>some true,false⟩
theorem yzL{G:List (Nat×Obj)}[zlD G]:PCok Tryz.prog G 12 ynW:=
 PCok.le (zrM (tabs:=G) (o:=yuU)) fun _ _ h=>yzT.trans h
end Go.Proofs.YtmkomlbiaebddaaGreatDoor.Am
