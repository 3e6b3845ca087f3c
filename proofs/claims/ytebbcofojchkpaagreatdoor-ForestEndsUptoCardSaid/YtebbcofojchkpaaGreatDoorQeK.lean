/- What some functions compute, over plain values, and that they do. Forests: what is planted by a script: plain laws. Forests: what is told, spent, lifted, noted: plain laws. Forests: all of a principal's nodes killed: plain laws. The document's forest answers: what may be, where a number stands, paths: plain laws. The document's forest answers, whatever is called: plain laws. Conditions: as each theorem says. -/
import Derived.KernelRfl
import Derived.Test.YtebbcofojchkpaaGreatDoorQeJ
namespace Go.Proofs.YtebbcofojchkpaaGreatDoor.Am
open Go Go.RowKit
def τWkM : TE := [(3, ⟨.int .i64, 1, [.v (.i .i64) (show Int from 0)], (.i .i64), 8⟩),
 (4, ⟨.b, 1, [.v .b (show Bool from false)], .b, 1⟩),
 (9, ⟨.s, 1, [.v .s (show Bs from [])], .s, 16⟩),
 (25, ⟨.pt 75, 1, [.nilp], .un, 8⟩),
 (35, ⟨.sl 47, 1, [.nils], (.sl (.pr (.i .i64) (.pr (.i .i64) (.pr (.i .i64) (.pr .s (.pr .s (.pr .s (.pr (.sl .s) (.pr (.i .i64) (.pr (.i .i64) (.pr .b (.pr .b (.pr (.sl .s) (.pr (.i .i64) (.pr .s .s))))))))))))))), 24⟩),
 (38, ⟨.st [(35, 0), (3, 1)], 2, [.nils, .v (.i .i64) (show Int from 0)], (.pr (.sl (.pr (.i .i64) (.pr (.i .i64) (.pr (.i .i64) (.pr .s (.pr .s (.pr .s (.pr (.sl .s) (.pr (.i .i64) (.pr (.i .i64) (.pr .b (.pr .b (.pr (.sl .s) (.pr (.i .i64) (.pr .s .s))))))))))))))) (.i .i64)), 32⟩),
 (41, ⟨.sl 50, 1, [.nils], (.sl (.pr (.i .i64) (.pr (.i .i64) (.pr (.i .i64) (.pr (.i .i64) (.pr .s (.pr (.i .i64) (.pr (.i .i64) (.pr (.i .i64) (.pr .s (.pr .s (.pr .s (.pr (.sl .s) (.pr (.i .i64) (.pr (.i .i64) (.pr .b (.pr .b (.pr (.sl .s) (.pr (.i .i64) (.pr .s .s)))))))))))))))))))), 24⟩),
 (44, ⟨.sl 3, 1, [.nils], (.sl (.i .i64)), 24⟩),
 (45, ⟨.sl 9, 1, [.nils], (.sl .s), 24⟩),
 (47, ⟨.st [(3, 0), (3, 1), (3, 2), (9, 3), (9, 4), (9, 5), (45, 6), (3, 7), (3, 8), (4, 9), (4, 10), (45, 11), (3, 12), (9, 13), (9, 14)], 15, [.v (.i .i64) (show Int from 0), .v (.i .i64) (show Int from 0), .v (.i .i64) (show Int from 0), .v .s (show Bs from []), .v .s (show Bs from []), .v .s (show Bs from []), .nils, .v (.i .i64) (show Int from 0), .v (.i .i64) (show Int from 0), .v .b (show Bool from false), .v .b (show Bool from false), .nils, .v (.i .i64) (show Int from 0), .v .s (show Bs from []), .v .s (show Bs from [])], (.pr (.i .i64) (.pr (.i .i64) (.pr (.i .i64) (.pr .s (.pr .s (.pr .s (.pr (.sl .s) (.pr (.i .i64) (.pr (.i .i64) (.pr .b (.pr .b (.pr (.sl .s) (.pr (.i .i64) (.pr .s .s)))))))))))))), 184⟩),
 (50, ⟨.st [(3, 0), (3, 1), (3, 2), (3, 3), (9, 4), (47, 5)], 20, [.v (.i .i64) (show Int from 0), .v (.i .i64) (show Int from 0), .v (.i .i64) (show Int from 0), .v (.i .i64) (show Int from 0), .v .s (show Bs from []), .v (.i .i64) (show Int from 0), .v (.i .i64) (show Int from 0), .v (.i .i64) (show Int from 0), .v .s (show Bs from []), .v .s (show Bs from []), .v .s (show Bs from []), .nils, .v (.i .i64) (show Int from 0), .v (.i .i64) (show Int from 0), .v .b (show Bool from false), .v .b (show Bool from false), .nils, .v (.i .i64) (show Int from 0), .v .s (show Bs from []), .v .s (show Bs from [])], (.pr (.i .i64) (.pr (.i .i64) (.pr (.i .i64) (.pr (.i .i64) (.pr .s (.pr (.i .i64) (.pr (.i .i64) (.pr (.i .i64) (.pr .s (.pr .s (.pr .s (.pr (.sl .s) (.pr (.i .i64) (.pr (.i .i64) (.pr .b (.pr .b (.pr (.sl .s) (.pr (.i .i64) (.pr .s .s))))))))))))))))))), 232⟩),
 (57, ⟨.sl 4, 1, [.nils], (.sl .b), 24⟩),
 (73, ⟨.map 3 81, 1, [.nilm], (.mp (.i .i64) (.pr (.i .i64) (.pr (.i .i64) (.pr (.i .i64) (.pr .s (.pr .s (.pr .s (.pr (.sl .s) (.pr (.i .i64) (.pr (.i .i64) (.pr .b (.pr .b (.pr (.sl .s) (.pr (.i .i64) (.pr .s .s))))))))))))))), 8⟩),
 (75, ⟨.st [(73, 0), (3, 1)], 2, [.nilm, .v (.i .i64) (show Int from 0)], (.pr (.mp (.i .i64) (.pr (.i .i64) (.pr (.i .i64) (.pr (.i .i64) (.pr .s (.pr .s (.pr .s (.pr (.sl .s) (.pr (.i .i64) (.pr (.i .i64) (.pr .b (.pr .b (.pr (.sl .s) (.pr (.i .i64) (.pr .s .s))))))))))))))) (.i .i64)), 16⟩),
 (81, ⟨.st [(47, 0)], 15, [.v (.i .i64) (show Int from 0), .v (.i .i64) (show Int from 0), .v (.i .i64) (show Int from 0), .v .s (show Bs from []), .v .s (show Bs from []), .v .s (show Bs from []), .nils, .v (.i .i64) (show Int from 0), .v (.i .i64) (show Int from 0), .v .b (show Bool from false), .v .b (show Bool from false), .nils, .v (.i .i64) (show Int from 0), .v .s (show Bs from []), .v .s (show Bs from [])], (.pr (.i .i64) (.pr (.i .i64) (.pr (.i .i64) (.pr .s (.pr .s (.pr .s (.pr (.sl .s) (.pr (.i .i64) (.pr (.i .i64) (.pr .b (.pr .b (.pr (.sl .s) (.pr (.i .i64) (.pr .s .s)))))))))))))), 184⟩)]
theorem τ_okWkM : TEok Tryz.prog τWkM := ykW (by kernel_rfl) (by kernel_rfl)
theorem ylD : Tryz.prog.follows .mixedOrders = true := by kernel_rfl
theorem zdZ {G : List (Nat × Obj)} {o : Ops} [zoW G] [znX G o] {Γ : CT} {η : HT} {f : FuncId} {fn : Func} {c : SC} (hΓ : ∀ B, GB G B → CTok Tryz.prog Γ B) (hf : Tryz.prog.funcs[f]? = some fn) (i : (fn.name == "runtime.NumGoroutine") = false := by kernel_rfl) (j : fn.body.isNone = false := by kernel_rfl) (l : Nat.ble c.I.sl.length fn.ntmps = true := by kernel_rfl) (r : Nat.beq fn.results.toList.length c.nr = true := by kernel_rfl) (e : fnS τWkM Γ η fn c.I c.outs = c.p := by kernel_rfl) : SCok Tryz.prog G f c := witO (G := G) (o := o) <| ytD ylD τ_okWkM hΓ hf (isFn hf i j) l r e
theorem ztD {G : List (Nat × Obj)} {o : Ops} [zoW G] [znX G o] {Γ : CT} {η : HT} {f : FuncId} {fn : Func} {c : PC} (hΓ : ∀ B, GB G B → CTok Tryz.prog Γ B) (hf : Tryz.prog.funcs[f]? = some fn) (i : (fn.name == "runtime.NumGoroutine") = false := by kernel_rfl) (j : fn.body.isNone = false := by kernel_rfl) (l : Nat.ble c.ash.length fn.ntmps = true := by kernel_rfl) (r : c.cl = false := by kernel_rfl) (e : fnP τWkM Γ η fn c.ash c.rts = c.p := by kernel_rfl) : PCok Tryz.prog G f c := witO (G := G) (o := o) <| yvZ ylD τ_okWkM hΓ hf (isFn hf i j) l r e
abbrev zaH : Type := Int × Int × Int × Bs × Bs × Bs × (List Bs) × Int × Int × Bool × Bool × (List Bs) × Int × Bs × Bs
abbrev zmE : Ty := .pr (.i .i64) (.pr (.i .i64) (.pr (.i .i64) (.pr .s (.pr .s (.pr .s (.pr (.sl .s) (.pr (.i .i64) (.pr (.i .i64) (.pr .b (.pr .b (.pr (.sl .s) (.pr (.i .i64) (.pr .s .s)))))))))))))
abbrev zcT : Type := Int × zaH
abbrev zlL : Type := (List zaH) × Int
abbrev yqH : Type := Int × Int × Int × Int × Bs × zaH
abbrev zzN : Ty := .pr (.i .i64) (.pr (.i .i64) (.pr (.i .i64) (.pr (.i .i64) (.pr .s zmE))))
abbrev zuR : OSh := .blk 47 [hI, hI, hI, hS, hS, hS, (.h (.sl .s)), hI, hI, hB, hB, (.h (.sl .s)), hI, hS, hS]
abbrev yiX : OSh := .blk 81 [hI, hI, hI, hS, hS, hS, (.h (.sl .s)), hI, hI, hB, hB, (.h (.sl .s)), hI, hS, hS]
abbrev yvK : OSh := .blk 47 [hI, hI, hI, hS, hS, hS, (.own 4), hI, hI, hB, hB, (.own 5), hI, hS, hS]
abbrev xaC : OSh := .blk 47 [hI, hI, hI, hS, hS, hS, .nils, hI, hI, hB, hB, .nils, hI, hS, hS]
abbrev zbQ : OSh := .blk 38 [(.h (.sl zmE)), hI]
abbrev yjB : OSh := .mp false (.i .i64) zmE
abbrev zkN : OSh := .mp true (.i .i64) zmE
abbrev yjF : OSh := .blk 75 [(.mpr 3), hI]
abbrev ywV : OSh := .blk 38 [(.own 1), hI]
abbrev yzF : OSh := .blk 38 [(.own 2), hI]
abbrev zmG : OSh := .blk 75 [(.mpr 1), hI]
abbrev zrU : OSh := .blk 75 [(.mpr 2), hI]
abbrev yyC : OSh := .blk 38 [.nils, hI]
section
variable {tabs : List (Nat × Obj)} [zoW tabs] {o : Ops} [znX tabs o]
def ziM (o : Ops) : Option (Int) :=
 some (1 : Int)
def zlZ (o : Ops) : SC := ⟨⟨[], []⟩, 1, [(none, ⟨[(0, (.ptr 0 0))], [yyC]⟩)], fun _ => ziM o⟩
theorem zsL : SCok Tryz.prog tabs 18 (zlZ o) := zdZ (o := o) (η := []) (Γ := ⟨[], [], false⟩) (ctok trivial trivial) Tryz.func18
def ydW : SC := ⟨⟨[(0, (.own 0))], [.osl .s 9]⟩, 1, [(none, ⟨[(0, (.own 1))], [.osl .s 9, .osl .s 9]⟩)], fun (xs : List Bs) => (app [] xs).bind fun r => some (xs, r)⟩
theorem yoB : SCok Tryz.prog tabs 98 ydW := wit (G := tabs) <| ynJ rfl yiB
def ygW : PC := ⟨[.h (.sl .s)], [(.sl .s)], fun xs => some xs, true⟩
theorem ypD : PCok Tryz.prog tabs 81 ygW := wit (G := tabs) <| ybO ylD τ_okWkM Tryz.func81 (isFn Tryz.func81) rfl (by kernel_rfl) (fun _ => by kernel_rfl)
def zrH (o : Ops) (v0 : Int) (v1 : Int) (v2 : Int) (v3 : Bs) (v4 : Bs) (v5 : Bs) (v6 : Int) (v7 : Int) (v8 : Bool) (v9 : Bool) (v10 : Int) (v11 : Bs) (v12 : Bs) (v13 : List Bs) (v14 : List Bs) : Option ((Int × Int × Int × Bs × Bs × Bs × (List Bs) × Int × Int × Bool × Bool × (List Bs) × Int × Bs × Bs × (List Bs) × List Bs)) :=
 ((fun (xs : List Bs) => (app ([] : List Bs) xs).bind fun r => some (xs, r)) v13).bind fun v15 => ((fun (xs : List Bs) => (app ([] : List Bs) xs).bind fun r => some (xs, r)) v14).bind fun v16 => some (v0, v1, v2, v3, v4, v5, v15.2, v6, v7, v8, v9, v16.2, v10, v11, v12, v15.1, v16.1)
def zuS (o : Ops) : SC := ⟨⟨[(0, (.ag [hI, hI, hI, hS, hS, hS, (.own 0), hI, hI, hB, hB, (.own 1), hI, hS, hS]))], [.osl .s 9, .osl .s 9]⟩, 1, [(none, ⟨[(0, (.ag [hI, hI, hI, hS, hS, hS, (.hc .s), hI, hI, hB, hB, (.hc .s), hI, hS, hS]))], [.osl .s 9, .osl .s 9]⟩)], fun x => zrH o x.1 x.2.1 x.2.2.1 x.2.2.2.1 x.2.2.2.2.1 x.2.2.2.2.2.1 x.2.2.2.2.2.2.1 x.2.2.2.2.2.2.2.1 x.2.2.2.2.2.2.2.2.1 x.2.2.2.2.2.2.2.2.2.1 x.2.2.2.2.2.2.2.2.2.2.1 x.2.2.2.2.2.2.2.2.2.2.2.1 x.2.2.2.2.2.2.2.2.2.2.2.2.1 x.2.2.2.2.2.2.2.2.2.2.2.2.2.1 x.2.2.2.2.2.2.2.2.2.2.2.2.2.2⟩
theorem ybV : SCok Tryz.prog tabs 44 (zuS o) := zdZ (o := o) (η := [(4000001, .sch [(.pu, 0, []), (.pu, 1, []), (.pu, 4, [0, 5]), (.pu, 5, [0, 5]), (.mn, 2, [0]), (.mn, 3, [5]), (.pu, 8, [1, 7]), (.mn, 6, [1]), (.mn, 7, [7]), (.mn, 9, [2]), (.pu, 10, []), (.mn, 11, [2])])]) (Γ := ⟨[(81, ygW)], [(98, ydW)], false⟩) (ctok ⟨ypD, trivial⟩ ⟨yoB, trivial⟩) Tryz.func44
noncomputable def zdS (o : Ops) (v0 : Int) (v1 : Int) (v2 : Int) (v3 : Bs) (v4 : Bs) (v5 : Bs) (v6 : Int) (v7 : Int) (v8 : Bool) (v9 : Bool) (v10 : Int) (v11 : Bs) (v12 : Bs) (v15 : List Bs) (v16 : List Bs) (v19 : (zaH × Bool × Int × List zcT)) : Option ((Int × Int × Int × (List Bs) × (List Bs) × List zcT) ⊕ (Int × (List Bs) × (List Bs) × (List zcT) × Int × Int × Int × Bs × Bs × Bs × Int × Int × Bool × Bool × Int × Bs × Bs)) :=
 let v20 : zaH := zhO keqI v19.2.2.2 v2 ((0 : Int), (0 : Int), (0 : Int), ([] : Bs), ([] : Bs), ([] : Bs), ([] : List Bs), (0 : Int), (0 : Int), false, false, ([] : List Bs), (0 : Int), ([] : Bs), ([] : Bs))
 bif decide (v2 > 0) then (bif (!(mhas keqI v19.2.2.2 v2)) then some (.inl ((0 : Int), (133 : Int), v19.2.2.1, v15, v16, v19.2.2.2)) else ((zcO o v2 v19.2.2.1 v19.2.2.2).bind fun v21 => bif v21.1 then some (.inl ((0 : Int), (133 : Int), v21.2.1, v15, v16, v21.2.2)) else some (.inr (v21.2.1, v15, v16, v21.2.2, v0, v1, v2, v3, v4, v5, v6, v7, v8, v9, v10, v11, v12)))) else some (.inr (v19.2.2.1, v15, v16, v19.2.2.2, v0, v1, v2, v3, v4, v5, v6, v7, v8, v9, v10, v11, v12))
noncomputable def zjI (o : Ops) (v24 : Int × (List Bs) × (List Bs) × (List zcT) × Int × Int × Int × Bs × Bs × Bs × Int × Int × Bool × Bool × Int × Bs × Bs) (v25 : (Int × Int × List zcT)) : Option ((Int × Int × Int × (List Bs) × (List Bs) × List zcT) ⊕ (Int × (List Bs) × (List Bs) × (List zcT) × Int × Int × Int × Bs × Bs × Bs × Int × Int × Bool × Bool × Int × Bs × Bs)) :=
 bif decide ((v25.2.2.length : Int) ≥ 256) then some (.inl ((0 : Int), (130 : Int), v25.2.1, v24.2.1, v24.2.2.1, v25.2.2)) else (bif decide (v25.2.1 ≥ 99999999) then some (.inl ((0 : Int), (130 : Int), v25.2.1, v24.2.1, v24.2.2.1, v25.2.2)) else some (.inr (v25.2.1, v24.2.1, v24.2.2.1, v25.2.2, v24.2.2.2.2)))
noncomputable def zcU (o : Ops) (v0 : Int) (v1 : Int) (v2 : Int) (v3 : Bs) (v4 : Bs) (v5 : Bs) (v6 : Int) (v7 : Int) (v8 : Bool) (v9 : Bool) (v10 : Int) (v11 : Bs) (v12 : Bs) (v13 : Int) (v14 : Int) (v15 : List Bs) (v16 : List Bs) (v17 : List zcT) : Option ((Int × Int × Int × (List Bs) × (List Bs) × List zcT)) :=
 (zfY o (v0, v1, v2, v3, v4, v5, v15, v6, v7, v8, v9, v16, v10, v11, v12)).bind fun v18 => bif (!v18) then some ((0 : Int), (131 : Int), v14, v15, v16, v17) else ((zbJ o v11 v14 v17).bind fun v19 => bif v19.2.1 then some ((0 : Int), (132 : Int), v19.2.2.1, v15, v16, v19.2.2.2) else ((zdS o v0 v1 v2 v3 v4 v5 v6 v7 v8 v9 v10 v11 v12 v15 v16 v19).bind fun v22 => match v22 with
 | .inl v23 => some v23
 | .inr v24 => ((zbG o v13 v24.1 v24.2.2.2.1).bind fun v25 => (zjI o v24 v25).bind fun v26 => match v26 with
 | .inl v27 => some v27
 | .inr v28 => ((zrH o v28.2.2.2.2.1 v28.2.2.2.2.2.1 v28.2.2.2.2.2.2.1 v28.2.2.2.2.2.2.2.1 v28.2.2.2.2.2.2.2.2.1 v28.2.2.2.2.2.2.2.2.2.1 v28.2.2.2.2.2.2.2.2.2.2.1 v28.2.2.2.2.2.2.2.2.2.2.2.1 v28.2.2.2.2.2.2.2.2.2.2.2.2.1 v28.2.2.2.2.2.2.2.2.2.2.2.2.2.1 v28.2.2.2.2.2.2.2.2.2.2.2.2.2.2.1 v28.2.2.2.2.2.2.2.2.2.2.2.2.2.2.2.1 v28.2.2.2.2.2.2.2.2.2.2.2.2.2.2.2.2 v28.2.1 v28.2.2.1).bind fun v29 => let v30 : List zcT := mset keqI kltI v28.2.2.2.1 v28.1 (v28.1, v29.2.1, v29.2.2.1, v29.2.2.2.1, v29.2.2.2.2.1, v29.2.2.2.2.2.1, v29.2.2.2.2.2.2.1, v29.2.2.2.2.2.2.2.1, v29.2.2.2.2.2.2.2.2.1, false, false, v29.2.2.2.2.2.2.2.2.2.2.2.1, v29.2.2.2.2.2.2.2.2.2.2.2.2.1, v29.2.2.2.2.2.2.2.2.2.2.2.2.2.1, v29.2.2.2.2.2.2.2.2.2.2.2.2.2.2.1)
 some (v28.1, (0 : Int), w64 (v28.1 + 1), v29.2.2.2.2.2.2.2.2.2.2.2.2.2.2.2.1, v29.2.2.2.2.2.2.2.2.2.2.2.2.2.2.2.2, v30)))))
noncomputable def zjL (o : Ops) : SC := ⟨⟨[(0, (.ptr 0 0)), (1, (.ag [hI, hI, hI, hS, hS, hS, (.own 1), hI, hI, hB, hB, (.own 2), hI, hS, hS])), (2, hI)], [yjF, .osl .s 9, .osl .s 9, zkN]⟩, 2, [(none, ⟨[(0, hI), (1, hI)], [yjF, .osl .s 9, .osl .s 9, yjB]⟩)], fun x => zcU o x.1 x.2.1 x.2.2.1 x.2.2.2.1 x.2.2.2.2.1 x.2.2.2.2.2.1 x.2.2.2.2.2.2.1 x.2.2.2.2.2.2.2.1 x.2.2.2.2.2.2.2.2.1 x.2.2.2.2.2.2.2.2.2.1 x.2.2.2.2.2.2.2.2.2.2.1 x.2.2.2.2.2.2.2.2.2.2.2.1 x.2.2.2.2.2.2.2.2.2.2.2.2.1 x.2.2.2.2.2.2.2.2.2.2.2.2.2.1 x.2.2.2.2.2.2.2.2.2.2.2.2.2.2.1 x.2.2.2.2.2.2.2.2.2.2.2.2.2.2.2.1 x.2.2.2.2.2.2.2.2.2.2.2.2.2.2.2.2.1 x.2.2.2.2.2.2.2.2.2.2.2.2.2.2.2.2.2⟩
theorem zpQ : SCok Tryz.prog tabs 20 (zjL o) := zdZ (o := o) (η := [(2000009, .join [] [2] [(some 1000000, ⟨[(6, hI), (7, hI)], [yjF, .osl .s 9, .osl .s 9, zkN]⟩), (none, ⟨[(0, (.ptr 0 0)), (4, (.ptr 4 0))], [yjF, .osl .s 9, .osl .s 9, zkN, .blk 47 [hI, hI, hI, hS, hS, hS, (.own 1), hI, hI, hB, hB, (.own 2), hI, hS, hS]]⟩)]),
 (2000012, .join [] [] [(some 1000000, ⟨[(6, hI), (7, hI)], [yjF, .osl .s 9, .osl .s 9, zkN]⟩), (none, ⟨[(0, (.ptr 0 0)), (4, (.ptr 4 0))], [yjF, .osl .s 9, .osl .s 9, zkN, .blk 47 [hI, hI, hI, hS, hS, hS, (.own 1), hI, hI, hB, hB, (.own 2), hI, hS, hS]]⟩)]),
 (4000006, .sch [(.pu, 0, []), (.pu, 1, []), (.pu, 2, []), (.pu, 3, []), (.pu, 4, []), (.pu, 5, []), (.pu, 6, []), (.pu, 7, []), (.pu, 8, []), (.pu, 9, [7]), (.mn, 10, []), (.mn, 11, [7]), (.pu, 12, [])]),
 (4000014, .sch [(.pu, 0, []), (.pu, 1, []), (.pu, 2, []), (.pu, 3, []), (.pu, 4, []), (.pu, 5, []), (.pu, 6, []), (.pu, 7, []), (.mn, 8, [0, 1, 2, 3, 4, 5, 6])])]) (Γ := ⟨[(53, (znD o))], [(36, (zdF o)), (54, (zeU o)), (31, (zcW o)), (44, (zuS o))], false⟩) (ctok ⟨zpX, trivial⟩ ⟨zeM, ⟨zhR, ⟨zeG, ⟨ybV, trivial⟩⟩⟩⟩) Tryz.func20
def zcM (o : Ops) (v0 : UInt8) : Option (Bool) :=
 bif decide ((v0.toNat : Int) ≥ ((97 : UInt8).toNat : Int)) then (bif decide ((v0.toNat : Int) ≤ ((122 : UInt8).toNat : Int)) then (some true) else (bif decide ((v0.toNat : Int) ≥ ((48 : UInt8).toNat : Int)) then (bif decide ((v0.toNat : Int) ≤ ((57 : UInt8).toNat : Int)) then (some true) else (bif ((v0.toNat : Int) == ((46 : UInt8).toNat : Int)) then (some true) else (bif ((v0.toNat : Int) == ((95 : UInt8).toNat : Int)) then (some true) else (some ((v0.toNat : Int) == ((45 : UInt8).toNat : Int)))))) else (bif ((v0.toNat : Int) == ((46 : UInt8).toNat : Int)) then (some true) else (bif ((v0.toNat : Int) == ((95 : UInt8).toNat : Int)) then (some true) else (some ((v0.toNat : Int) == ((45 : UInt8).toNat : Int))))))) else (bif decide ((v0.toNat : Int) ≥ ((48 : UInt8).toNat : Int)) then (bif decide ((v0.toNat : Int) ≤ ((57 : UInt8).toNat : Int)) then (some true) else (bif ((v0.toNat : Int) == ((46 : UInt8).toNat : Int)) then (some true) else (bif ((v0.toNat : Int) == ((95 : UInt8).toNat : Int)) then (some true) else (some ((v0.toNat : Int) == ((45 : UInt8).toNat : Int)))))) else (bif ((v0.toNat : Int) == ((46 : UInt8).toNat : Int)) then (some true) else (bif ((v0.toNat : Int) == ((95 : UInt8).toNat : Int)) then (some true) else (some ((v0.toNat : Int) == ((45 : UInt8).toNat : Int))))))
def zfH (o : Ops) : PC := ⟨[(.h (.i .u8))], [.b], fun x => zcM o x, false⟩
theorem zjC : PCok Tryz.prog tabs 167 (zfH o) := ztD (o := o) (η := []) (Γ := ⟨[], [], false⟩) (ctok trivial trivial) Tryz.func167
def zkQ (o : Ops) (v0 : Bs) (v1 : Int) : Option (Int ⊕ (Bool ⊕ Unit)) :=
 bif decide (v1 < (v0.length : Int)) then ((idx v0 v1).bind fun v2 => (zcM o v2).bind fun v3 => bif (!v3) then some (.inr (.inl false)) else some (.inl (w64 (v1 + 1)))) else some (.inr (.inr ()))
def zcD (o : Ops) (v0 : Bs) : Option (Bool) :=
 (iter (zkQ o v0) (0 : Int)).bind fun v4 => match v4 with
 | .inl v5 => (some v5)
 | .inr v6 => (bif decide ((v0.length : Int) ≥ 1) then (some (decide ((v0.length : Int) ≤ 24))) else (some false))
def zhB (o : Ops) : PC := ⟨[hS], [.b], fun x => zcD o x, false⟩
theorem zkX : PCok Tryz.prog tabs 140 (zhB o) := ztD (o := o) (η := [(200002, .loop [] ⟨[(3, hI)], []⟩ [0] [(some 1000000, ⟨[(2, hB)], []⟩), (some 0, ⟨[], []⟩)])]) (Γ := ⟨[(167, (zfH o))], [], false⟩) (ctok ⟨zjC, trivial⟩ trivial) Tryz.func140
def zbI (o : Ops) (v0 : Bs) : Option (Bool) :=
 bif decide ((v0.length : Int) > 2) then ((subH v0 (2 : Int)).bind fun v1 => bif (v1 == ([117, 58] : Bs)) then ((subL v0 (2 : Int)).bind fun v2 => (zcD o v2).bind fun v3 => some v3) else ((subH v0 (2 : Int)).bind fun v4 => bif (v4 == ([99, 58] : Bs)) then ((subL v0 (2 : Int)).bind fun v5 => (zcD o v5).bind fun v6 => some v6) else (some false))) else (some false)
def zhY (o : Ops) : PC := ⟨[hS], [.b], fun x => zbI o x, false⟩
theorem znO : PCok Tryz.prog tabs 139 (zhY o) := ztD (o := o) (η := []) (Γ := ⟨[(140, (zhB o))], [], false⟩) (ctok ⟨zkX, trivial⟩ trivial) Tryz.func139
def zlC (o : Ops) (v0 : Bs) (v1 : Int) : Option (Int ⊕ (Bool ⊕ Unit)) :=
 bif decide (v1 < (v0.length : Int)) then ((idx v0 v1).bind fun v2 => bif decide ((v2.toNat : Int) < ((33 : UInt8).toNat : Int)) then some (.inr (.inl false)) else ((idx v0 v1).bind fun v3 => bif decide ((v3.toNat : Int) > ((126 : UInt8).toNat : Int)) then some (.inr (.inl false)) else some (.inl (w64 (v1 + 1))))) else some (.inr (.inr ()))
def zcC (o : Ops) (v0 : Bs) : Option (Bool) :=
 (iter (zlC o v0) (0 : Int)).bind fun v4 => match v4 with
 | .inl v5 => (some v5)
 | .inr v6 => (bif decide ((v0.length : Int) ≥ 1) then (some (decide ((v0.length : Int) ≤ 128))) else (some false))
def zhJ (o : Ops) : PC := ⟨[hS], [.b], fun x => zcC o x, false⟩
theorem zlG : PCok Tryz.prog tabs 141 (zhJ o) := ztD (o := o) (η := [(200002, .loop [] ⟨[(3, hI)], []⟩ [0] [(some 1000000, ⟨[(2, hB)], []⟩), (some 0, ⟨[], []⟩)])]) (Γ := ⟨[], [], false⟩) (ctok trivial trivial) Tryz.func141
def zjY (o : Ops) (v0 : Bs) (v1 : Int) : Option (Int ⊕ (Bool ⊕ Unit)) :=
 bif decide (v1 < (v0.length : Int)) then ((idx v0 v1).bind fun v2 => (zcM o v2).bind fun v3 => bif (!v3) then ((idx v0 v1).bind fun v4 => bif ((v4.toNat : Int) != ((58 : UInt8).toNat : Int)) then some (.inr (.inl false)) else some (.inl (w64 (v1 + 1)))) else some (.inl (w64 (v1 + 1)))) else some (.inr (.inr ()))
def zcV (o : Ops) (v0 : Bs) : Option (Bool) :=
 (iter (zjY o v0) (0 : Int)).bind fun v5 => match v5 with
 | .inl v6 => (some v6)
 | .inr v7 => (bif decide ((v0.length : Int) ≥ 1) then (some (decide ((v0.length : Int) ≤ 32))) else (some false))
def zkA (o : Ops) : PC := ⟨[hS], [.b], fun x => zcV o x, false⟩
theorem zpP : PCok Tryz.prog tabs 168 (zkA o) := ztD (o := o) (η := [(200002, .loop [] ⟨[(3, hI)], []⟩ [0] [(some 1000000, ⟨[(2, hB)], []⟩), (some 0, ⟨[], []⟩)])]) (Γ := ⟨[(167, (zfH o))], [], false⟩) (ctok ⟨zjC, trivial⟩ trivial) Tryz.func168
def zkC (o : Ops) (v0 : List Bs) (v2 : Int) (v3 : Int) : Option (Int ⊕ (Bool ⊕ Unit)) :=
 bif decide (v3 < (v0.length : Int)) then (bif (v2 == 0) then ((idx v0 v3).bind fun v4 => (zcC o v4).bind fun v5 => bif (!v5) then some (.inr (.inl false)) else (bif (v2 == 1) then ((idx v0 v3).bind fun v6 => (zcV o v6).bind fun v7 => bif (!v7) then some (.inr (.inl false)) else (bif decide (v3 > 0) then ((idx v0 v3).bind fun v8 => (idx v0 (w64 (v3 - 1))).bind fun v9 => bif (Op.bytesLess v8 v9 || v8 == v9) then some (.inr (.inl false)) else some (.inl (w64 (v3 + 1)))) else some (.inl (w64 (v3 + 1))))) else (bif decide (v3 > 0) then ((idx v0 v3).bind fun v10 => (idx v0 (w64 (v3 - 1))).bind fun v11 => bif (Op.bytesLess v10 v11 || v10 == v11) then some (.inr (.inl false)) else some (.inl (w64 (v3 + 1)))) else some (.inl (w64 (v3 + 1)))))) else (bif (v2 == 1) then ((idx v0 v3).bind fun v12 => (zcV o v12).bind fun v13 => bif (!v13) then some (.inr (.inl false)) else (bif decide (v3 > 0) then ((idx v0 v3).bind fun v14 => (idx v0 (w64 (v3 - 1))).bind fun v15 => bif (Op.bytesLess v14 v15 || v14 == v15) then some (.inr (.inl false)) else some (.inl (w64 (v3 + 1)))) else some (.inl (w64 (v3 + 1))))) else (bif decide (v3 > 0) then ((idx v0 v3).bind fun v16 => (idx v0 (w64 (v3 - 1))).bind fun v17 => bif (Op.bytesLess v16 v17 || v16 == v17) then some (.inr (.inl false)) else some (.inl (w64 (v3 + 1)))) else some (.inl (w64 (v3 + 1)))))) else some (.inr (.inr ()))
def zeB (o : Ops) (v0 : List Bs) (v1 : Int) (v2 : Int) : Option (Bool) :=
 (iter (zkC o v0 v2) (0 : Int)).bind fun v18 => match v18 with
 | .inl v19 => (some v19)
 | .inr v20 => (some (decide ((v0.length : Int) ≤ v1)))
def zjS (o : Ops) : PC := ⟨[(.h (.sl .s)), hI, hI], [.b], fun x => zeB o x.1 x.2.1 x.2.2, false⟩
theorem zqB : PCok Tryz.prog tabs 142 (zjS o) := ztD (o := o) (η := [(200002, .loop [] ⟨[(7, hI)], []⟩ [0, 1, 2] [(some 1000000, ⟨[(6, hB)], []⟩), (some 0, ⟨[], []⟩)]),
 (4000004, .sch [(.pu, 0, []), (.pu, 1, []), (.pu, 2, []), (.pu, 3, []), (.pu, 4, []), (.pu, 5, []), (.pu, 6, []), (.mn, 7, []), (.pu, 8, []), (.pu, 9, []), (.pu, 10, []), (.pu, 11, []), (.pu, 12, []), (.pu, 13, []), (.pu, 14, []), (.pu, 15, []), (.pu, 16, []), (.pu, 17, []), (.mn, 18, []), (.pu, 19, []), (.pu, 20, []), (.pu, 21, []), (.pu, 22, []), (.pu, 23, []), (.pu, 24, []), (.pu, 25, []), (.pu, 26, []), (.pu, 27, []), (.pu, 28, []), (.pu, 29, []), (.pu, 30, []), (.pu, 31, []), (.pu, 32, []), (.pu, 33, []), (.pu, 34, []), (.pu, 35, []), (.pu, 36, []), (.pu, 37, [])])]) (Γ := ⟨[(141, (zhJ o)), (168, (zkA o))], [], false⟩) (ctok ⟨zlG, ⟨zpP, trivial⟩⟩ trivial) Tryz.func142
def zlU (o : Ops) (v0 : zaH) : Option (Bool ⊕ zaH) :=
 bif decide (v0.2.1 < 1) then some (.inl false) else (bif decide (v0.2.1 > 5) then some (.inl false) else (bif decide (v0.2.2.1 < 0) then some (.inl false) else ((zbI o v0.2.2.2.1).bind fun v1 => bif (!v1) then some (.inl false) else (bif (v0.2.2.2.2.1 != ([] : Bs)) then ((zcD o v0.2.2.2.2.1).bind fun v2 => bif (!v2) then some (.inl false) else (bif (v0.2.2.2.2.2.1 != ([] : Bs)) then ((zcC o v0.2.2.2.2.2.1).bind fun v3 => bif (!v3) then some (.inl false) else some (.inr v0)) else some (.inr v0))) else (bif (v0.2.2.2.2.2.1 != ([] : Bs)) then ((zcC o v0.2.2.2.2.2.1).bind fun v4 => bif (!v4) then some (.inl false) else some (.inr v0)) else some (.inr v0))))))
def zlW (o : Ops) (v8 : Int) (v9 : Int) (v10 : Int) (v11 : Int) (v12 : Bs) (v13 : Bs) (v14 : Bs) (v15 : List Bs) (v16 : Int) (v17 : Int) (v18 : Bool) (v19 : Bool) (v20 : List Bs) (v21 : Int) (v22 : Bs) (v23 : Bs) : Option (zcT ⊕ (Bool ⊕ zaH)) :=
 bif decide (v8 < (v20.length : Int)) then ((idx v20 v8).bind fun v24 => (zbI o v24).bind fun v25 => bif (!v25) then some (.inr (.inl false)) else some (.inl (w64 (v8 + 1), v9, v10, v11, v12, v13, v14, v15, v16, v17, v18, v19, v20, v21, v22, v23))) else some (.inr (.inr (v9, v10, v11, v12, v13, v14, v15, v16, v17, v18, v19, v20, v21, v22, v23)))
def zmL (o : Ops) (v28 : zaH) : Option ((Bool × zaH)) :=
 bif decide (v28.2.2.2.2.2.2.2.1 ≥ 0) then (bif decide (v28.2.2.2.2.2.2.2.1 ≤ 1099511627776) then (bif decide (v28.2.2.2.2.2.2.2.2.1 ≥ 0) then some (decide (v28.2.2.2.2.2.2.2.2.1 ≤ 1099511627776), v28) else some (false, v28)) else some (false, v28)) else some (false, v28)
def zfC (o : Ops) (v0 : zaH) : Option (Bool) :=
 (zlU o v0).bind fun v5 => match v5 with
 | .inl v6 => (some v6)
 | .inr v7 => ((iter (fun x => zlW o x.1 x.2.1 x.2.2.1 x.2.2.2.1 x.2.2.2.2.1 x.2.2.2.2.2.1 x.2.2.2.2.2.2.1 x.2.2.2.2.2.2.2.1 x.2.2.2.2.2.2.2.2.1 x.2.2.2.2.2.2.2.2.2.1 x.2.2.2.2.2.2.2.2.2.2.1 x.2.2.2.2.2.2.2.2.2.2.2.1 x.2.2.2.2.2.2.2.2.2.2.2.2.1 x.2.2.2.2.2.2.2.2.2.2.2.2.2.1 x.2.2.2.2.2.2.2.2.2.2.2.2.2.2.1 x.2.2.2.2.2.2.2.2.2.2.2.2.2.2.2) ((0 : Int), v7)).bind fun v26 => match v26 with
 | .inl v27 => (some v27)
 | .inr v28 => ((zmL o v28).bind fun v29 => bif v29.1 then ((zeB o v29.2.2.2.2.2.2.2.1 (16 : Int) (1 : Int)).bind fun v30 => bif v30 then (let v31 : Bool := decide ((v29.2.2.2.2.2.2.2.2.2.2.2.2.1.length : Int) ≤ 4)
 bif v31 then (bif decide (v29.2.2.2.2.2.2.2.2.2.2.2.2.2.1 ≥ 0) then (bif decide (v29.2.2.2.2.2.2.2.2.2.2.2.2.2.1 ≤ 3) then (let v32 : Bool := decide ((v29.2.2.2.2.2.2.2.2.2.2.2.2.2.2.1.length : Int) ≥ 1)
 bif v32 then (let v33 : Bool := decide ((v29.2.2.2.2.2.2.2.2.2.2.2.2.2.2.1.length : Int) ≤ 64)
 bif v33 then (let v34 : Bool := decide ((v29.2.2.2.2.2.2.2.2.2.2.2.2.2.2.2.length : Int) ≤ 256)
 some v34) else (some false)) else (some false)) else (some false)) else (some false)) else (some false)) else (some false)) else (some false)))
def zlV (o : Ops) : PC := ⟨[(.h zmE)], [.b], fun x => zfC o x, false⟩
theorem zrX : PCok Tryz.prog tabs 93 (zlV o) := ztD (o := o) (η := [(2000003, .join [] [] [(some 1000000, ⟨[(2, hB)], []⟩), (none, ⟨[(1, (.ptr 0 0))], [zuR]⟩)]),
 (200004, .loop [] ⟨[(1, (.ptr 0 0)), (3, hI)], [zuR]⟩ [] [(some 1000000, ⟨[(2, hB)], []⟩), (some 0, ⟨[(1, (.ptr 0 0))], [zuR]⟩)]),
 (2000009, .join [] [] [(none, ⟨[(1, (.ptr 0 0)), (4, hB)], [zuR]⟩)])]) (Γ := ⟨[(139, (zhY o)), (140, (zhB o)), (141, (zhJ o)), (142, (zjS o))], [], false⟩) (ctok ⟨znO, ⟨zkX, ⟨zlG, ⟨zqB, trivial⟩⟩⟩⟩ trivial) Tryz.func93
def zgP (o : Ops) (v0 : Int) (v1 : Int) (v2 : List zcT) : Option ((zaH × Bool × Int × List zcT)) :=
 let v3 : zaH := zhO keqI v2 v0 ((0 : Int), (0 : Int), (0 : Int), ([] : Bs), ([] : Bs), ([] : Bs), ([] : List Bs), (0 : Int), (0 : Int), false, false, ([] : List Bs), (0 : Int), ([] : Bs), ([] : Bs))
 (zgB o v3).bind fun v4 => some (v4, mhas keqI v2 v0, v1, v2)
def zmX (o : Ops) : SC := ⟨⟨[(0, (.ptr 0 0)), (1, hI)], [zmG, zkN]⟩, 2, [(none, ⟨[(0, (.h zmE)), (1, hB)], [zmG, zkN]⟩)], fun x => zgP o x.1 x.2.1 x.2.2⟩
theorem ztA : SCok Tryz.prog tabs 52 (zmX o) := zdZ (o := o) (η := []) (Γ := ⟨[(44, (ziE o))], [], false⟩) (ctok ⟨zjV, trivial⟩ trivial) Tryz.func52
def zlD (o : Ops) (v0 : List Bs) (v1 : List Bs) (v2 : Int) : Option (Int ⊕ (Bool ⊕ Unit)) :=
 bif decide (v2 < (v0.length : Int)) then ((idx v0 v2).bind fun v3 => (idx v1 v2).bind fun v4 => bif (v3 != v4) then some (.inr (.inl false)) else some (.inl (w64 (v2 + 1)))) else some (.inr (.inr ()))
def zdC (o : Ops) (v0 : List Bs) (v1 : List Bs) : Option (Bool) :=
 bif ((v0.length : Int) != (v1.length : Int)) then (some false) else ((iter (zlD o v0 v1) (0 : Int)).bind fun v5 => match v5 with
 | .inl v6 => (some v6)
 | .inr v7 => (some true))
def zkP (o : Ops) : PC := ⟨[(.h (.sl .s)), (.h (.sl .s))], [.b], fun x => zdC o x.1 x.2, false⟩
theorem zrB : PCok Tryz.prog tabs 94 (zkP o) := ztD (o := o) (η := [(200004, .loop [] ⟨[(5, hI)], []⟩ [0, 1] [(some 1000000, ⟨[(4, hB)], []⟩), (some 0, ⟨[], []⟩)]),
 (4000006, .sch [(.pu, 0, []), (.pu, 1, []), (.pu, 2, []), (.pu, 3, []), (.pu, 4, []), (.pu, 5, []), (.pu, 6, []), (.pu, 7, []), (.pu, 8, [])])]) (Γ := ⟨[], [], false⟩) (ctok trivial trivial) Tryz.func94
def zlF (o : Ops) (v0 : zaH) (v1 : zaH) : Option (Bool ⊕ (Int × Int × Int × Bs × Bs × Bs × (List Bs) × Int × Int × Bool × Bool × (List Bs) × Int × Bs × Bs × zaH)) :=
 (zdC o v0.2.2.2.2.2.2.1 v1.2.2.2.2.2.2.1).bind fun v2 => bif (!v2) then some (.inl false) else ((zdC o v0.2.2.2.2.2.2.2.2.2.2.2.1 v1.2.2.2.2.2.2.2.2.2.2.2.1).bind fun v3 => bif (!v3) then some (.inl false) else some (.inr (v0.1, v0.2.1, v0.2.2.1, v0.2.2.2.1, v0.2.2.2.2.1, v0.2.2.2.2.2.1, v0.2.2.2.2.2.2.1, v0.2.2.2.2.2.2.2.1, v0.2.2.2.2.2.2.2.2.1, v0.2.2.2.2.2.2.2.2.2.1, v0.2.2.2.2.2.2.2.2.2.2.1, v0.2.2.2.2.2.2.2.2.2.2.2.1, v0.2.2.2.2.2.2.2.2.2.2.2.2.1, v0.2.2.2.2.2.2.2.2.2.2.2.2.2.1, v0.2.2.2.2.2.2.2.2.2.2.2.2.2.2, v1)))
def zdJ (o : Ops) (v0 : zaH) (v1 : zaH) : Option (Bool) :=
 (zlF o v0 v1).bind fun v4 => match v4 with
 | .inl v5 => (some v5)
 | .inr v6 => (bif (v6.1 == v6.2.2.2.2.2.2.2.2.2.2.2.2.2.2.2.1) then (bif (v6.2.1 == v6.2.2.2.2.2.2.2.2.2.2.2.2.2.2.2.2.1) then (bif (v6.2.2.1 == v6.2.2.2.2.2.2.2.2.2.2.2.2.2.2.2.2.2.1) then (bif (v6.2.2.2.1 == v6.2.2.2.2.2.2.2.2.2.2.2.2.2.2.2.2.2.2.1) then (bif (v6.2.2.2.2.1 == v6.2.2.2.2.2.2.2.2.2.2.2.2.2.2.2.2.2.2.2.1) then (let v7 : Bool := (v6.2.2.2.2.2.1 == v6.2.2.2.2.2.2.2.2.2.2.2.2.2.2.2.2.2.2.2.2.1)
 bif v7 then (let v8 : Bool := (v6.2.2.2.2.2.2.2.1 == v6.2.2.2.2.2.2.2.2.2.2.2.2.2.2.2.2.2.2.2.2.2.2.1)
 bif v8 then (let v9 : Bool := (v6.2.2.2.2.2.2.2.2.1 == v6.2.2.2.2.2.2.2.2.2.2.2.2.2.2.2.2.2.2.2.2.2.2.2.1)
 bif v9 then (let v10 : Bool := (v6.2.2.2.2.2.2.2.2.2.1 == v6.2.2.2.2.2.2.2.2.2.2.2.2.2.2.2.2.2.2.2.2.2.2.2.2.1)
 bif v10 then (let v11 : Bool := (v6.2.2.2.2.2.2.2.2.2.2.1 == v6.2.2.2.2.2.2.2.2.2.2.2.2.2.2.2.2.2.2.2.2.2.2.2.2.2.1)
 bif v11 then (let v12 : Bool := (v6.2.2.2.2.2.2.2.2.2.2.2.2.1 == v6.2.2.2.2.2.2.2.2.2.2.2.2.2.2.2.2.2.2.2.2.2.2.2.2.2.2.2.1)
 bif v12 then (let v13 : Bool := (v6.2.2.2.2.2.2.2.2.2.2.2.2.2.1 == v6.2.2.2.2.2.2.2.2.2.2.2.2.2.2.2.2.2.2.2.2.2.2.2.2.2.2.2.2.1)
 bif v13 then (let v14 : Bool := (v6.2.2.2.2.2.2.2.2.2.2.2.2.2.2.1 == v6.2.2.2.2.2.2.2.2.2.2.2.2.2.2.2.2.2.2.2.2.2.2.2.2.2.2.2.2.2)
 some v14) else (some false)) else (some false)) else (some false)) else (some false)) else (some false)) else (some false)) else (some false)) else (some false)) else (some false)) else (some false)) else (some false)) else (some false))
def zlB (o : Ops) : PC := ⟨[(.h zmE), (.h zmE)], [.b], fun x => zdJ o x.1 x.2, false⟩
theorem zqS : PCok Tryz.prog tabs 41 (zlB o) := ztD (o := o) (η := [(2000003, .join [] [] [(some 1000000, ⟨[(4, hB)], []⟩), (none, ⟨[(2, (.ptr 0 0)), (3, (.ptr 1 0))], [zuR, zuR]⟩)])]) (Γ := ⟨[(94, (zkP o))], [], false⟩) (ctok ⟨zrB, trivial⟩ trivial) Tryz.func41
def ziQ (o : Ops) (v0 : List Int) (v1 : List Int) (v2 : Int) : Option (Int ⊕ (Bool ⊕ Unit)) :=
 bif decide (v2 < (v0.length : Int)) then ((idx v0 v2).bind fun v3 => (idx v1 v2).bind fun v4 => bif (v3 != v4) then some (.inr (.inl false)) else some (.inl (w64 (v2 + 1)))) else some (.inr (.inr ()))
def zdM (o : Ops) (v0 : List Int) (v1 : List Int) : Option (Bool) :=
 bif ((v0.length : Int) != (v1.length : Int)) then (some false) else ((iter (ziQ o v0 v1) (0 : Int)).bind fun v5 => match v5 with
 | .inl v6 => (some v6)
 | .inr v7 => (some true))
def ziT (o : Ops) : PC := ⟨[(.h (.sl (.i .i64))), (.h (.sl (.i .i64)))], [.b], fun x => zdM o x.1 x.2, false⟩
theorem zoP : PCok Tryz.prog tabs 58 (ziT o) := ztD (o := o) (η := [(200004, .loop [] ⟨[(5, hI)], []⟩ [0, 1] [(some 1000000, ⟨[(4, hB)], []⟩), (some 0, ⟨[], []⟩)]),
 (4000006, .sch [(.pu, 0, []), (.pu, 1, []), (.pu, 2, []), (.pu, 3, []), (.pu, 4, []), (.pu, 5, []), (.pu, 6, []), (.pu, 7, []), (.pu, 8, [])])]) (Γ := ⟨[], [], false⟩) (ctok trivial trivial) Tryz.func58
def zgQ (o : Ops) (v0 : Int) (v1 : Int) (v2 : Int) (v3 : Bs) (v4 : Bs) (v5 : Bs) (v6 : List Bs) (v7 : Int) (v8 : Int) (v9 : Bool) (v10 : Bool) (v11 : List Bs) (v12 : Int) (v13 : Bs) (v14 : Bs) : Option (zaH) :=
 some (v0, v1, v2, v3, v4, v5, v6, v7, v8, v9, true, v11, v12, v13, v14)
def zjD (o : Ops) : SC := ⟨⟨[(0, (.ptr 0 0))], [yiX]⟩, 0, [(none, ⟨[], [yiX]⟩)], fun x => zgQ o x.1 x.2.1 x.2.2.1 x.2.2.2.1 x.2.2.2.2.1 x.2.2.2.2.2.1 x.2.2.2.2.2.2.1 x.2.2.2.2.2.2.2.1 x.2.2.2.2.2.2.2.2.1 x.2.2.2.2.2.2.2.2.2.1 x.2.2.2.2.2.2.2.2.2.2.1 x.2.2.2.2.2.2.2.2.2.2.2.1 x.2.2.2.2.2.2.2.2.2.2.2.2.1 x.2.2.2.2.2.2.2.2.2.2.2.2.2.1 x.2.2.2.2.2.2.2.2.2.2.2.2.2.2⟩
theorem zpE : SCok Tryz.prog tabs 118 (zjD o) := zdZ (o := o) (η := []) (Γ := ⟨[], [], false⟩) (ctok trivial trivial) Tryz.func118
def zhU (o : Ops) (v0 : Int) (v1 : Int) (v2 : List zcT) : Option ((Int × List zcT)) :=
 let v3 : zaH := zhO keqI v2 v0 ((0 : Int), (0 : Int), (0 : Int), ([] : Bs), ([] : Bs), ([] : Bs), ([] : List Bs), (0 : Int), (0 : Int), false, false, ([] : List Bs), (0 : Int), ([] : Bs), ([] : Bs))
 (zgQ o v3.1 v3.2.1 v3.2.2.1 v3.2.2.2.1 v3.2.2.2.2.1 v3.2.2.2.2.2.1 v3.2.2.2.2.2.2.1 v3.2.2.2.2.2.2.2.1 v3.2.2.2.2.2.2.2.2.1 v3.2.2.2.2.2.2.2.2.2.1 v3.2.2.2.2.2.2.2.2.2.2.1 v3.2.2.2.2.2.2.2.2.2.2.2.1 v3.2.2.2.2.2.2.2.2.2.2.2.2.1 v3.2.2.2.2.2.2.2.2.2.2.2.2.2.1 v3.2.2.2.2.2.2.2.2.2.2.2.2.2.2).bind fun v4 => (chk (mhas keqI v2 v0)).bind fun _ => let v5 : List zcT := mrep keqI v2 v0 v4
 some (v1, v5)
def zkU (o : Ops) : SC := ⟨⟨[(0, (.ptr 0 0)), (1, hI), (2, (.fn 118 [] []))], [zmG, zkN]⟩, 0, [(none, ⟨[], [zmG, zkN]⟩)], fun x => zhU o x.1 x.2.1 x.2.2⟩
theorem zqZ : SCok Tryz.prog tabs 117 (zkU o) := zdZ (o := o) (η := [(4000002, .sch [(.pu, 0, []), (.pu, 1, []), (.pu, 2, []), (.pu, 3, []), (.pu, 4, []), (.pu, 5, []), (.mn, 6, [0, 1, 2, 3])])]) (Γ := ⟨[], [(118, (zjD o))], true⟩) (ctok trivial ⟨zpE, trivial⟩) Tryz.func117
def zeQ (o : Ops) (v0 : Int) (v1 : Int) (v2 : Int) (v3 : List zcT) : Option ((Int × Int × List zcT)) :=
 let v4 : zaH := zhO keqI v3 v0 ((0 : Int), (0 : Int), (0 : Int), ([] : Bs), ([] : Bs), ([] : Bs), ([] : List Bs), (0 : Int), (0 : Int), false, false, ([] : List Bs), (0 : Int), ([] : Bs), ([] : Bs))
 bif (!(mhas keqI v3 v0)) then some ((131 : Int), v2, v3) else (bif v4.2.2.2.2.2.2.2.2.2.2.1 then ((zcP o v0 v2 v3).bind fun v5 => some ((134 : Int), v5)) else ((zaL o v0 v1 v2 v3).bind fun v6 => bif (!v6.1) then some ((133 : Int), v6.2) else ((zhU o v0 v6.2.1 v6.2.2).bind fun v7 => some ((0 : Int), v7))))
def zkV (o : Ops) : SC := ⟨⟨[(0, (.ptr 0 0)), (1, hI), (2, hI)], [zmG, zkN]⟩, 1, [(none, ⟨[(0, hI)], [zmG, zkN]⟩)], fun x => zeQ o x.1 x.2.1 x.2.2.1 x.2.2.2⟩
theorem zqT : SCok Tryz.prog tabs 60 (zkV o) := zdZ (o := o) (η := []) (Γ := ⟨[], [(70, (zeR o)), (22, (zcA o)), (117, (zkU o))], false⟩) (ctok trivial ⟨ziC, ⟨zdG, ⟨zqZ, trivial⟩⟩⟩) Tryz.func60
noncomputable def zgM (o : Ops) (v0 : Bs) (v3 : Bs × Bool) (v5 : Int) (v6 : List zcT) (v7 : List Int) (v8 : zcT) (v9 : zaH) : Option ((Bool × Int × (List zcT) × List Int)) :=
 bif (!v9.2.2.2.2.2.2.2.2.2.1) then (bif (v9.2.2.2.1 == v0) then some (true, v5, v6, rngD keqI v7 v8.1) else (bif v3.2 then (bif (v3.1 != ([] : Bs)) then some ((v9.2.2.2.2.1 == v3.1), v5, v6, rngD keqI v7 v8.1) else some (false, v5, v6, rngD keqI v7 v8.1)) else some (false, v5, v6, rngD keqI v7 v8.1))) else some (false, v5, v6, rngD keqI v7 v8.1)
noncomputable def zjH (o : Ops) (v0 : Bs) (v3 : Bs × Bool) (v4 : Int) (v5 : Int) (v6 : List zcT) (v7 : List Int) : List (Option ((Int × Int × (List zcT) × List Int) ⊕ ((Int × Int × List zcT)))) :=
 rngL (rngC keqI v6 v7) (some (.inr (v4, v5, v6))) fun v8 => (mget keqI v6 v8.1).bind fun v9 => (zgM o v0 v3 v5 v6 v7 v8 v9).bind fun v10 => bif v10.1 then ((zcP o v8.1 v10.2.1 v10.2.2.1).bind fun v11 => some (.inl (w64 (v4 + 1), v11.1, v11.2, v10.2.2.2))) else some (.inl (v4, v10.2))
noncomputable def zbP (o : Ops) (v0 : Bs) (v1 : Int) (v2 : List zcT) : Option ((Int × Int × List zcT)) :=
 (zdY o v0 ([99, 58] : Bs)).bind fun v3 => (rngA (fun x => zjH o v0 v3 x.1 x.2.1 x.2.2.1 x.2.2.2) ((0 : Int), v1, v2, List.map Prod.fst v2)).bind fun v12 => some v12
noncomputable def zgH (o : Ops) : SC := ⟨⟨[(0, (.ptr 0 0)), (1, hS)], [zmG, zkN]⟩, 1, [(none, ⟨[(0, hI)], [zmG, zkN]⟩)], fun x => zbP o x.1 x.2.1 x.2.2⟩
theorem zjO : SCok Tryz.prog tabs 26 (zgH o) := zdZ (o := o) (η := [(2300007, .join [] [1, 5, 6, 7, 8] [(none, ⟨[(0, (.ptr 0 0)), (19, (.ptr 2 0)), (49, hB)], [zmG, zkN, .it 1 true (.i .i64)]⟩)]),
 (200004, .rng [] ⟨[(0, (.ptr 0 0)), (7, hI), (19, (.ptr 2 0))], [zmG, zkN, .it 1 true (.i .i64)]⟩ [1, 4, 5, 6] [(some 0, ⟨[(7, hI)], [zmG, zkN]⟩)])]) (Γ := ⟨[(72, (ziK o))], [(70, (zeR o))], false⟩) (ctok ⟨zmS, trivial⟩ ⟨ziC, trivial⟩) Tryz.func26
def zhC (o : Ops) (v0 : Int) (v1 : Int) (v2 : Int) (v3 : Bs) (v4 : Bs) (v5 : Bs) (v6 : List Bs) (v7 : Int) (v8 : Int) (v9 : Bool) (v10 : Bool) (v11 : List Bs) (v12 : Int) (v13 : Bs) (v14 : Bs) (v15 : Int) : Option ((Int × Int × Int × Bs × Bs × Bs × (List Bs) × Int × Int × Bool × Bool × (List Bs) × Int × Bs × Bs × Int)) :=
 some (v0, v1, v2, v3, v4, v5, v6, v7, v8, v9, v10, v11, (bif decide (v12 ≤ v15) then v15 else v12), v13, v14, v15)
def zkJ (o : Ops) : SC := ⟨⟨[(0, (.ptr 0 0)), (1, (.ptr 1 0))], [yiX, .blk 3 [hI]]⟩, 0, [(none, ⟨[], [yiX, .blk 3 [hI]]⟩)], fun x => zhC o x.1 x.2.1 x.2.2.1 x.2.2.2.1 x.2.2.2.2.1 x.2.2.2.2.2.1 x.2.2.2.2.2.2.1 x.2.2.2.2.2.2.2.1 x.2.2.2.2.2.2.2.2.1 x.2.2.2.2.2.2.2.2.2.1 x.2.2.2.2.2.2.2.2.2.2.1 x.2.2.2.2.2.2.2.2.2.2.2.1 x.2.2.2.2.2.2.2.2.2.2.2.2.1 x.2.2.2.2.2.2.2.2.2.2.2.2.2.1 x.2.2.2.2.2.2.2.2.2.2.2.2.2.2.1 x.2.2.2.2.2.2.2.2.2.2.2.2.2.2.2⟩
theorem zqC : SCok Tryz.prog tabs 120 (zkJ o) := zdZ (o := o) (η := [(4000000, .sch [(.pu, 0, []), (.pu, 1, []), (.pu, 2, []), (.pu, 3, []), (.pu, 4, []), (.pu, 5, []), (.pu, 6, []), (.pu, 7, []), (.pu, 8, []), (.pu, 9, []), (.pu, 10, []), (.mn, 11, [0])])]) (Γ := ⟨[], [], false⟩) (ctok trivial trivial) Tryz.func120
def zhQ (o : Ops) (v0 : Int) (v1 : Int) (v2 : Int) (v3 : List zcT) : Option ((Int × Int × List zcT)) :=
 let v4 : zaH := zhO keqI v3 v0 ((0 : Int), (0 : Int), (0 : Int), ([] : Bs), ([] : Bs), ([] : Bs), ([] : List Bs), (0 : Int), (0 : Int), false, false, ([] : List Bs), (0 : Int), ([] : Bs), ([] : Bs))
 (zhC o v4.1 v4.2.1 v4.2.2.1 v4.2.2.2.1 v4.2.2.2.2.1 v4.2.2.2.2.2.1 v4.2.2.2.2.2.2.1 v4.2.2.2.2.2.2.2.1 v4.2.2.2.2.2.2.2.2.1 v4.2.2.2.2.2.2.2.2.2.1 v4.2.2.2.2.2.2.2.2.2.2.1 v4.2.2.2.2.2.2.2.2.2.2.2.1 v4.2.2.2.2.2.2.2.2.2.2.2.2.1 v4.2.2.2.2.2.2.2.2.2.2.2.2.2.1 v4.2.2.2.2.2.2.2.2.2.2.2.2.2.2 v2).bind fun v5 => (chk (mhas keqI v3 v0)).bind fun _ => let v6 : List zcT := mrep keqI v3 v0 (v5.1, v5.2.1, v5.2.2.1, v5.2.2.2.1, v5.2.2.2.2.1, v5.2.2.2.2.2.1, v5.2.2.2.2.2.2.1, v5.2.2.2.2.2.2.2.1, v5.2.2.2.2.2.2.2.2.1, v5.2.2.2.2.2.2.2.2.2.1, v5.2.2.2.2.2.2.2.2.2.2.1, v5.2.2.2.2.2.2.2.2.2.2.2.1, v5.2.2.2.2.2.2.2.2.2.2.2.2.1, v5.2.2.2.2.2.2.2.2.2.2.2.2.2.1, v5.2.2.2.2.2.2.2.2.2.2.2.2.2.2.1)
 some (v1, v5.2.2.2.2.2.2.2.2.2.2.2.2.2.2.2, v6)
def zkW (o : Ops) : SC := ⟨⟨[(0, (.ptr 0 0)), (1, hI), (2, (.fn 120 [] [(.ptr 1 0)]))], [zrU, .blk 3 [hI], zkN]⟩, 0, [(none, ⟨[], [zrU, .blk 3 [hI], zkN]⟩)], fun x => zhQ o x.1 x.2.1 x.2.2.1 x.2.2.2⟩
theorem zrC : SCok Tryz.prog tabs 117 (zkW o) := zdZ (o := o) (η := [(4000002, .sch [(.pu, 0, []), (.pu, 1, []), (.pu, 2, []), (.pu, 3, []), (.pu, 4, []), (.pu, 5, []), (.mn, 6, [0, 1, 2, 3, 4])])]) (Γ := ⟨[], [(120, (zkJ o))], true⟩) (ctok trivial ⟨zqC, trivial⟩) Tryz.func117
def zfB (o : Ops) (v0 : Int) (v1 : Int) (v2 : Int) (v3 : List zcT) : Option ((Int × Int × List zcT)) :=
 let v4 : zaH := zhO keqI v3 v0 ((0 : Int), (0 : Int), (0 : Int), ([] : Bs), ([] : Bs), ([] : Bs), ([] : List Bs), (0 : Int), (0 : Int), false, false, ([] : List Bs), (0 : Int), ([] : Bs), ([] : Bs))
 bif (!(mhas keqI v3 v0)) then some ((131 : Int), v2, v3) else (bif (v4.2.1 != 1) then some ((131 : Int), v2, v3) else ((zaM o v1 (1 : Int) (3 : Int)).bind fun v5 => bif (!v5) then some ((131 : Int), v2, v3) else ((zhQ o v0 v2 v1 v3).bind fun v6 => some ((0 : Int), v6.1, v6.2.2))))
def zmK (o : Ops) : SC := ⟨⟨[(0, (.ptr 0 0)), (1, hI), (2, hI)], [zmG, zkN]⟩, 1, [(none, ⟨[(0, hI)], [zmG, zkN]⟩)], fun x => zfB o x.1 x.2.1 x.2.2.1 x.2.2.2⟩
theorem zsD : SCok Tryz.prog tabs 64 (zmK o) := zdZ (o := o) (η := []) (Γ := ⟨[(34, (zoI o))], [(117, (zkW o))], false⟩) (ctok ⟨zrY, trivial⟩ ⟨zrC, trivial⟩) Tryz.func64
def zhI (o : Ops) (v0 : Int) (v1 : Int) (v2 : Int) (v3 : Bs) (v4 : Bs) (v5 : Bs) (v6 : List Bs) (v7 : Int) (v8 : Int) (v9 : Bool) (v10 : Bool) (v11 : List Bs) (v12 : Int) (v13 : Bs) (v14 : Bs) (v15 : Bs) : Option ((Int × Int × Int × Bs × Bs × Bs × (List Bs) × Int × Int × Bool × Bool × (List Bs) × Int × Bs × Bs × Bs)) :=
 some (v0, v1, v2, v3, v4, v5, v6, v7, v8, v9, v10, v11, v12, v13, v15, v15)
def zkD (o : Ops) : SC := ⟨⟨[(0, (.ptr 0 0)), (1, (.ptr 1 0))], [yiX, .blk 9 [hS]]⟩, 0, [(none, ⟨[], [yiX, .blk 9 [hS]]⟩)], fun x => zhI o x.1 x.2.1 x.2.2.1 x.2.2.2.1 x.2.2.2.2.1 x.2.2.2.2.2.1 x.2.2.2.2.2.2.1 x.2.2.2.2.2.2.2.1 x.2.2.2.2.2.2.2.2.1 x.2.2.2.2.2.2.2.2.2.1 x.2.2.2.2.2.2.2.2.2.2.1 x.2.2.2.2.2.2.2.2.2.2.2.1 x.2.2.2.2.2.2.2.2.2.2.2.2.1 x.2.2.2.2.2.2.2.2.2.2.2.2.2.1 x.2.2.2.2.2.2.2.2.2.2.2.2.2.2.1 x.2.2.2.2.2.2.2.2.2.2.2.2.2.2.2⟩
theorem zpW : SCok Tryz.prog tabs 121 (zkD o) := zdZ (o := o) (η := []) (Γ := ⟨[], [], false⟩) (ctok trivial trivial) Tryz.func121
def zhV (o : Ops) (v0 : Int) (v1 : Int) (v2 : Bs) (v3 : List zcT) : Option ((Int × Bs × List zcT)) :=
 let v4 : zaH := zhO keqI v3 v0 ((0 : Int), (0 : Int), (0 : Int), ([] : Bs), ([] : Bs), ([] : Bs), ([] : List Bs), (0 : Int), (0 : Int), false, false, ([] : List Bs), (0 : Int), ([] : Bs), ([] : Bs))
 (zhI o v4.1 v4.2.1 v4.2.2.1 v4.2.2.2.1 v4.2.2.2.2.1 v4.2.2.2.2.2.1 v4.2.2.2.2.2.2.1 v4.2.2.2.2.2.2.2.1 v4.2.2.2.2.2.2.2.2.1 v4.2.2.2.2.2.2.2.2.2.1 v4.2.2.2.2.2.2.2.2.2.2.1 v4.2.2.2.2.2.2.2.2.2.2.2.1 v4.2.2.2.2.2.2.2.2.2.2.2.2.1 v4.2.2.2.2.2.2.2.2.2.2.2.2.2.1 v4.2.2.2.2.2.2.2.2.2.2.2.2.2.2 v2).bind fun v5 => (chk (mhas keqI v3 v0)).bind fun _ => let v6 : List zcT := mrep keqI v3 v0 (v5.1, v5.2.1, v5.2.2.1, v5.2.2.2.1, v5.2.2.2.2.1, v5.2.2.2.2.2.1, v5.2.2.2.2.2.2.1, v5.2.2.2.2.2.2.2.1, v5.2.2.2.2.2.2.2.2.1, v5.2.2.2.2.2.2.2.2.2.1, v5.2.2.2.2.2.2.2.2.2.2.1, v5.2.2.2.2.2.2.2.2.2.2.2.1, v5.2.2.2.2.2.2.2.2.2.2.2.2.1, v5.2.2.2.2.2.2.2.2.2.2.2.2.2.1, v5.2.2.2.2.2.2.2.2.2.2.2.2.2.2.1)
 some (v1, v5.2.2.2.2.2.2.2.2.2.2.2.2.2.2.2, v6)
def zkY (o : Ops) : SC := ⟨⟨[(0, (.ptr 0 0)), (1, hI), (2, (.fn 121 [] [(.ptr 1 0)]))], [zrU, .blk 9 [hS], zkN]⟩, 0, [(none, ⟨[], [zrU, .blk 9 [hS], zkN]⟩)], fun x => zhV o x.1 x.2.1 x.2.2.1 x.2.2.2⟩
theorem zqV : SCok Tryz.prog tabs 117 (zkY o) := zdZ (o := o) (η := [(4000002, .sch [(.pu, 0, []), (.pu, 1, []), (.pu, 2, []), (.pu, 3, []), (.pu, 4, []), (.pu, 5, []), (.mn, 6, [0, 1, 2, 3, 4])])]) (Γ := ⟨[], [(121, (zkD o))], true⟩) (ctok trivial ⟨zpW, trivial⟩) Tryz.func117
def zfD (o : Ops) (v0 : Int) (v1 : Bs) (v2 : Int) (v3 : List zcT) : Option ((Int × Int × List zcT)) :=
 let v4 : zaH := zhO keqI v3 v0 ((0 : Int), (0 : Int), (0 : Int), ([] : Bs), ([] : Bs), ([] : Bs), ([] : List Bs), (0 : Int), (0 : Int), false, false, ([] : List Bs), (0 : Int), ([] : Bs), ([] : Bs))
 bif (!(mhas keqI v3 v0)) then some ((131 : Int), v2, v3) else (bif decide ((v1.length : Int) > 256) then some ((131 : Int), v2, v3) else ((zhV o v0 v2 v1 v3).bind fun v5 => some ((0 : Int), v5.1, v5.2.2)))
def zmD (o : Ops) : SC := ⟨⟨[(0, (.ptr 0 0)), (1, hI), (2, hS)], [zmG, zkN]⟩, 1, [(none, ⟨[(0, hI)], [zmG, zkN]⟩)], fun x => zfD o x.1 x.2.1 x.2.2.1 x.2.2.2⟩
theorem zrS : SCok Tryz.prog tabs 66 (zmD o) := zdZ (o := o) (η := []) (Γ := ⟨[], [(117, (zkY o))], false⟩) (ctok trivial ⟨zqV, trivial⟩) Tryz.func66
def zfV (o : Ops) (v0 : Bs) (v3 : Int) (v4 : List zaH) (v5 : Int) (v6 : Int) (v7 : Int) (v8 : Int) (v9 : Bs) (v10 : Bs) (v11 : Bs) (v12 : Int) (v13 : Int) (v14 : Bool) (v15 : Bool) (v16 : Int) (v17 : Bs) (v18 : Bs) : Option ((Int × (List zaH) × Int × Int × Int × Int × Bs × Bs × Bs × Int × Int × Bool × Bool × Int × Bs × Bs) ⊕ ((Bool × (List zaH) × zcT) ⊕ ((List zaH) × Int × Int × Int × Int × Bs × Bs × Bs × Int × Int × Bool × Bool × Int × Bs × Bs))) :=
 bif decide (v3 < (v4.length : Int)) then ((idx v4 v3).bind fun v19 => bif (v19.2.2.2.2.2.2.2.2.2.2.2.2.2.1 == v0) then ((idx v4 v3).bind fun v20 => some (.inr (.inl (true, v4, v5, v20)))) else some (.inl (w64 (v3 + 1), v4, v5, v6, v7, v8, v9, v10, v11, v12, v13, v14, v15, v16, v17, v18))) else some (.inr (.inr (v4, v5, v6, v7, v8, v9, v10, v11, v12, v13, v14, v15, v16, v17, v18)))
def zaX (o : Ops) (v0 : Bs) (v1 : List zaH) (v2 : Int) : Option ((zaH × Bool × zlL)) :=
 (iter (fun x => zfV o v0 x.1 x.2.1 x.2.2.1 x.2.2.2.1 x.2.2.2.2.1 x.2.2.2.2.2.1 x.2.2.2.2.2.2.1 x.2.2.2.2.2.2.2.1 x.2.2.2.2.2.2.2.2.1 x.2.2.2.2.2.2.2.2.2.1 x.2.2.2.2.2.2.2.2.2.2.1 x.2.2.2.2.2.2.2.2.2.2.2.1 x.2.2.2.2.2.2.2.2.2.2.2.2.1 x.2.2.2.2.2.2.2.2.2.2.2.2.2.1 x.2.2.2.2.2.2.2.2.2.2.2.2.2.2.1 x.2.2.2.2.2.2.2.2.2.2.2.2.2.2.2) ((0 : Int), v1, v2, (0 : Int), (0 : Int), (0 : Int), ([] : Bs), ([] : Bs), ([] : Bs), (0 : Int), (0 : Int), false, false, (0 : Int), ([] : Bs), ([] : Bs))).bind fun v21 => match v21 with
 | .inl v22 => some (v22.2.2.2, v22.1, v22.2.1, v22.2.2.1)
 | .inr v23 => some (((0 : Int), (0 : Int), (0 : Int), ([] : Bs), ([] : Bs), ([] : Bs), ([] : List Bs), (0 : Int), (0 : Int), false, false, ([] : List Bs), (0 : Int), ([] : Bs), ([] : Bs)), false, v23.1, v23.2.1)
def zdH (o : Ops) : SC := ⟨⟨[(0, (.ptr 0 0)), (1, hS)], [zbQ]⟩, 2, [(none, ⟨[(0, (.h zmE)), (1, hB)], [zbQ]⟩)], fun x => zaX o x.1 x.2.1 x.2.2⟩
theorem zfW : SCok Tryz.prog tabs 40 (zdH o) := zdZ (o := o) (η := [(200002, .loop [] ⟨[(0, (.ptr 0 0)), (4, (.ptr 1 0)), (6, hI)], [zbQ, xaC]⟩ [1] [(some 1000000, ⟨[(4, (.ptr 1 0)), (5, hB)], [zbQ, zuR]⟩), (some 0, ⟨[(4, (.ptr 1 0))], [zbQ, xaC]⟩)])]) (Γ := ⟨[], [], false⟩) (ctok trivial trivial) Tryz.func40
def zhL (o : Ops) (v0 : Int) (v3 : Int) (v4 : List zaH) (v5 : Int) : Option ((Int × zlL) ⊕ ((Int × zlL) ⊕ zlL)) :=
 bif decide (v3 < (v4.length : Int)) then ((idx v4 v3).bind fun v6 => bif (v6.1 == v0) then some (.inr (.inl (v3, v4, v5))) else some (.inl (w64 (v3 + 1), v4, v5))) else some (.inr (.inr (v4, v5)))
def zaJ (o : Ops) (v0 : Int) (v1 : List zaH) (v2 : Int) : Option ((Int × zlL)) :=
 (iter (fun x => zhL o v0 x.1 x.2.1 x.2.2) ((0 : Int), v1, v2)).bind fun v7 => match v7 with
 | .inl v8 => some v8
 | .inr v9 => some ((-1 : Int), v9)
def zbF (o : Ops) : SC := ⟨⟨[(0, (.ptr 0 0)), (1, hI)], [zbQ]⟩, 1, [(none, ⟨[(0, hI)], [zbQ]⟩)], fun x => zaJ o x.1 x.2.1 x.2.2⟩
theorem zcG : SCok Tryz.prog tabs 115 (zbF o) := zdZ (o := o) (η := [(200002, .loop [] ⟨[(0, (.ptr 0 0)), (5, hI)], [zbQ]⟩ [1] [(some 1000000, ⟨[(4, hI)], [zbQ]⟩), (some 0, ⟨[], [zbQ]⟩)])]) (Γ := ⟨[], [], false⟩) (ctok trivial trivial) Tryz.func115
def zgE (o : Ops) (v4 : Int) (v5 : List zaH) (v6 : Int) (v7 : List Int) : Option ((Int × (List zaH) × Int × List Int) ⊕ (((List zaH) × Int × List Int))) :=
 bif decide (v4 ≥ 0) then ((idx v5 v4).bind fun v8 => (app v7 ([v8.1] : List Int)).bind fun v9 => (idx v5 v4).bind fun v10 => (zaJ o v10.2.2.1 v5 v6).bind fun v11 => some (.inl (v11.1, v11.2.1, v11.2.2, v9))) else some (.inr (v5, v6, v7))
def zaN (o : Ops) (v0 : Int) (v1 : List zaH) (v2 : Int) : Option (((List zaH) × Int × List Int)) :=
 (zaJ o v0 v1 v2).bind fun v3 => (iter (fun x => zgE o x.1 x.2.1 x.2.2.1 x.2.2.2) (v3.1, v3.2.1, v3.2.2, ([] : List Int))).bind fun v12 => some v12
def zbK (o : Ops) : SC := ⟨⟨[(0, (.ptr 0 0)), (1, hI)], [zbQ]⟩, 1, [(none, ⟨[(0, (.own 1))], [zbQ, .osl (.i .i64) 3]⟩)], fun x => zaN o x.1 x.2.1 x.2.2⟩
theorem zdB : SCok Tryz.prog tabs 59 (zbK o) := zdZ (o := o) (η := [(200003, .loop [] ⟨[(0, (.ptr 0 0)), (5, (.own 1)), (6, hI)], [zbQ, .osl (.i .i64) 3]⟩ [4] [(some 0, ⟨[(5, (.own 1))], [zbQ, .osl (.i .i64) 3]⟩)])]) (Γ := ⟨[], [(115, (zbF o))], false⟩) (ctok trivial ⟨zcG, trivial⟩) Tryz.func59
def zaC (o : Ops) (v0 : Int) (v1 : List zaH) (v2 : Int) : Option ((zaH × Bool × zlL)) :=
 (zaJ o v0 v1 v2).bind fun v3 => bif decide (v3.1 < 0) then some (((0 : Int), (0 : Int), (0 : Int), ([] : Bs), ([] : Bs), ([] : Bs), ([] : List Bs), (0 : Int), (0 : Int), false, false, ([] : List Bs), (0 : Int), ([] : Bs), ([] : Bs)), false, v3.2) else ((idx v3.2.1 v3.1).bind fun v4 => some (v4, true, v3.2))
def zaF (o : Ops) : SC := ⟨⟨[(0, (.ptr 0 0)), (1, hI)], [zbQ]⟩, 2, [(none, ⟨[(0, (.h zmE)), (1, hB)], [zbQ]⟩)], fun x => zaC o x.1 x.2.1 x.2.2⟩
theorem zaK : SCok Tryz.prog tabs 56 (zaF o) := zdZ (o := o) (η := []) (Γ := ⟨[], [(115, (zbF o))], false⟩) (ctok trivial ⟨zcG, trivial⟩) Tryz.func56
def zeX (o : Ops) (v4 : Int) (v5 : List zaH) (v6 : Int) (v7 : List Int) : Option ((Int × (List zaH) × Int × List Int) ⊕ ((Bool × zlL) ⊕ zlL)) :=
 bif decide (v4 < (v7.length : Int)) then ((chk (decide ((0 : Int) ≤ v4) && decide (v4 < (v7.length : Int)))).bind fun _ => (idx v7 v4).bind fun v8 => (zaC o v8 v5 v6).bind fun v9 => bif v9.1.2.2.2.2.2.2.2.2.2.1 then some (.inr (.inl (true, v9.2.2))) else some (.inl (w64 (v4 + 1), v9.2.2.1, v9.2.2.2, v7))) else some (.inr (.inr (v5, v6)))
def zaT (o : Ops) (v0 : Int) (v1 : List zaH) (v2 : Int) : Option ((Bool × zlL)) :=
 (zaN o v0 v1 v2).bind fun v3 => (iter (fun x => zeX o x.1 x.2.1 x.2.2.1 x.2.2.2) ((0 : Int), v3)).bind fun v10 => match v10 with
 | .inl v11 => some v11
 | .inr v12 => some (false, v12)
def zcQ (o : Ops) : SC := ⟨⟨[(0, (.ptr 0 0)), (1, hI)], [zbQ]⟩, 1, [(none, ⟨[(0, hB)], [zbQ]⟩)], fun x => zaT o x.1 x.2.1 x.2.2⟩
theorem zeZ : SCok Tryz.prog tabs 116 (zcQ o) := zdZ (o := o) (η := [(200003, .loop [] ⟨[(0, (.ptr 0 0)), (5, (.own 1)), (6, hI)], [zbQ, .osl (.i .i64) 3]⟩ [] [(some 1000000, ⟨[(4, hB)], [zbQ]⟩), (some 0, ⟨[], [zbQ]⟩)])]) (Γ := ⟨[], [(59, (zbK o)), (56, (zaF o))], false⟩) (ctok trivial ⟨zdB, ⟨zaK, trivial⟩⟩) Tryz.func116
def zaP (o : Ops) (v0 : Int) (v1 : Int) (v2 : List zaH) (v3 : Int) : Option ((Bool × zlL)) :=
 (zaC o v0 v2 v3).bind fun v4 => bif v4.2.1 then (bif (!v4.1.2.2.2.2.2.2.2.2.2.2.1) then (bif decide (v4.1.2.2.2.2.2.2.2.2.1 > v1) then ((zaT o v0 v4.2.2.1 v4.2.2.2).bind fun v5 => some ((!v5.1), v5.2)) else some (false, v4.2.2)) else some (false, v4.2.2)) else some (false, v4.2.2)
def zbN (o : Ops) : SC := ⟨⟨[(0, (.ptr 0 0)), (1, hI), (2, hI)], [zbQ]⟩, 1, [(none, ⟨[(0, hB)], [zbQ]⟩)], fun x => zaP o x.1 x.2.1 x.2.2.1 x.2.2.2⟩
theorem zdI : SCok Tryz.prog tabs 57 (zbN o) := zdZ (o := o) (η := []) (Γ := ⟨[], [(56, (zaF o)), (116, (zcQ o))], false⟩) (ctok trivial ⟨zaK, ⟨zeZ, trivial⟩⟩) Tryz.func57
def zfX (o : Ops) (v1 : Int) (v5 : Int) (v6 : List zaH) (v7 : Int) (v8 : List Int) : Option ((Int × (List zaH) × Int × List Int) ⊕ ((Bool × zlL) ⊕ zlL)) :=
 bif decide (v5 < (v8.length : Int)) then ((chk (decide ((0 : Int) ≤ v5) && decide (v5 < (v8.length : Int)))).bind fun _ => (idx v8 v5).bind fun v9 => bif (v9 == v1) then some (.inr (.inl (true, v6, v7))) else some (.inl (w64 (v5 + 1), v6, v7, v8))) else some (.inr (.inr (v6, v7)))
def zbT (o : Ops) (v0 : Int) (v1 : Int) (v2 : List zaH) (v3 : Int) : Option ((Bool × zlL)) :=
 (zaN o v0 v2 v3).bind fun v4 => (iter (fun x => zfX o v1 x.1 x.2.1 x.2.2.1 x.2.2.2) ((0 : Int), v4)).bind fun v10 => match v10 with
 | .inl v11 => some v11
 | .inr v12 => some (false, v12)
def zgD (o : Ops) : SC := ⟨⟨[(0, (.ptr 0 0)), (1, hI), (2, hI)], [zbQ]⟩, 1, [(none, ⟨[(0, hB)], [zbQ]⟩)], fun x => zbT o x.1 x.2.1 x.2.2.1 x.2.2.2⟩
theorem zmM : SCok Tryz.prog tabs 122 (zgD o) := zdZ (o := o) (η := [(200003, .loop [] ⟨[(7, (.own 1)), (8, hI)], [zbQ, .osl (.i .i64) 3]⟩ [2] [(some 1000000, ⟨[(6, hB)], [zbQ]⟩), (some 0, ⟨[], [zbQ]⟩)])]) (Γ := ⟨[], [(59, (zbK o))], false⟩) (ctok trivial ⟨zdB, trivial⟩) Tryz.func122
def zfF (o : Ops) (v7 : Bool) (v8 : Int) (v9 : List zaH) (v10 : Int) (v11 : List zaH) : Option (((List zaH) × Int × List zaH) ⊕ ((List zaH) × Int × List zaH)) :=
 bif decide (v8 < (v9.length : Int)) then (bif (!v7) then some (.inl (v9, v10, v11)) else some (.inr (v9, v10, v11))) else some (.inr (v9, v10, v11))
def zcY (o : Ops) (v0 : Int) (v3 : Int) (v7 : Bool) (v8 : Int) (v9 : List zaH) (v10 : Int) (v11 : List zaH) : Option ((Bool × Int × (List zaH) × Int × List zaH) ⊕ ((Bool × (List zaH) × Int × List zaH))) :=
 (zfF o v7 v8 v9 v10 v11).bind fun v12 => match v12 with
 | .inl v13 => ((idx v13.1 v8).bind fun v15 => (zaP o v15.1 v0 v13.1 v13.2.1).bind fun v16 => bif v16.1 then ((idx v16.2.1 v8).bind fun v17 => (idx v16.2.1 v3).bind fun v18 => (zbT o v17.1 v18.1 v16.2.1 v16.2.2).bind fun v19 => some (.inl (v19.1, w64 (v8 + 1), v19.2.1, v19.2.2, v13.2.2))) else some (.inl (false, w64 (v8 + 1), v16.2.1, v16.2.2, v13.2.2)))
 | .inr v14 => some (.inr (v7, v14))
def zfG (o : Ops) (v0 : Int) (v3 : Int) (v4 : List zaH) (v5 : Int) (v6 : List zaH) : Option ((Int × (List zaH) × Int × List zaH) ⊕ (((List zaH) × Int × List zaH))) :=
 bif decide (v3 < (v4.length : Int)) then ((iter (fun x => zcY o v0 v3 x.1 x.2.1 x.2.2.1 x.2.2.2.1 x.2.2.2.2) (false, v3, v4, v5, v6)).bind fun v20 => bif v20.1 then ((idx v20.2.1 v3).bind fun v21 => (app v20.2.2.2 ([v21] : List zaH)).bind fun v22 => some (.inl (w64 (v3 + 1), v20.2.1, v20.2.2.1, v22))) else some (.inl (w64 (v3 + 1), v20.2))) else some (.inr (v4, v5, v6))
def zaW (o : Ops) (v0 : Int) (v1 : List zaH) (v2 : Int) : Option ((Int × Int × List zaH)) :=
 (iter (fun x => zfG o v0 x.1 x.2.1 x.2.2.1 x.2.2.2) ((0 : Int), v1, v2, ([] : List zaH))).bind fun v23 => some (w64 ((v23.1.length : Int) - (v23.2.2.length : Int)), v23.2)
def zcX (o : Ops) : SC := ⟨⟨[(0, (.ptr 0 0)), (1, hI)], [zbQ]⟩, 1, [(none, ⟨[(0, hI)], [ywV, .osl zmE 47]⟩)], fun x => zaW o x.1 x.2.1 x.2.2⟩
theorem zfP : SCok Tryz.prog tabs 68 (zcX o) := zdZ (o := o) (η := [(2100003, .join [] [1, 6, 7, 8] [(none, ⟨[(0, (.ptr 0 0)), (5, (.own 1))], [zbQ, .osl zmE 47]⟩), (some 2, ⟨[(0, (.ptr 0 0)), (5, (.own 1))], [zbQ, .osl zmE 47]⟩)]),
 (200007, .loop [] ⟨[(0, (.ptr 0 0)), (5, (.own 1)), (7, hB), (8, hI)], [zbQ, .osl zmE 47]⟩ [1, 4, 6] [(some 2, ⟨[(0, (.ptr 0 0)), (5, (.own 1)), (7, hB)], [zbQ, .osl zmE 47]⟩)]),
 (200003, .loop [] ⟨[(0, (.ptr 0 0)), (5, (.own 1)), (6, hI)], [zbQ, .osl zmE 47]⟩ [1, 4] [(some 0, ⟨[(0, (.ptr 0 0)), (5, (.own 1))], [zbQ, .osl zmE 47]⟩)]),
 (4000009, .sch [(.pu, 0, []), (.pu, 1, []), (.pu, 2, []), (.pu, 3, []), (.pu, 4, []), (.pu, 5, []), (.pu, 6, []), (.pu, 7, []), (.pu, 8, []), (.pu, 9, []), (.mn, 10, [0]), (.pu, 11, []), (.pu, 12, []), (.pu, 13, []), (.pu, 14, []), (.pu, 15, []), (.pu, 16, []), (.pu, 17, []), (.pu, 18, []), (.pu, 19, []), (.pu, 20, []), (.pu, 21, []), (.pu, 22, []), (.pu, 23, []), (.pu, 24, []), (.pu, 25, []), (.pu, 26, []), (.pu, 27, []), (.pu, 28, []), (.mn, 29, [0]), (.pu, 30, []), (.pu, 31, [])])]) (Γ := ⟨[], [(57, (zbN o)), (122, (zgD o))], false⟩) (ctok trivial ⟨zdI, ⟨zmM, trivial⟩⟩) Tryz.func68
def zfN (o : Ops) (v0 : zaH) (v5 : (zaH × Bool × zlL)) : Option ((Int × Int × zlL) ⊕ ((List zaH) × zcT)) :=
 bif decide (v0.2.2.1 > 0) then ((zaJ o v0.2.2.1 v5.2.2.1 v5.2.2.2).bind fun v6 => bif decide (v6.1 < 0) then some (.inl ((0 : Int), (133 : Int), v6.2)) else ((zaT o v0.2.2.1 v6.2.1 v6.2.2).bind fun v7 => bif v7.1 then some (.inl ((0 : Int), (133 : Int), v7.2)) else some (.inr (v7.2.1, v7.2.2, v0)))) else some (.inr (v5.2.2.1, v5.2.2.2, v0))
def zfI (o : Ops) (v10 : (List zaH) × zcT) (v11 : (Int × Int × List zaH)) : Option ((Int × Int × Int × List zaH) ⊕ (Int × Int × Int × Int × Bs × Bs × Bs × (List Bs) × Int × Int × Bool × Bool × (List Bs) × Int × Bs × Bs × List zaH)) :=
 bif decide ((v11.2.2.length : Int) ≥ 256) then some (.inl ((0 : Int), (130 : Int), v11.2)) else (bif decide (v11.2.1 ≥ 99999999) then some (.inl ((0 : Int), (130 : Int), v11.2)) else some (.inr (v11.2.1, v10.2.2.1, v10.2.2.2.1, v10.2.2.2.2.1, v10.2.2.2.2.2.1, v10.2.2.2.2.2.2.1, v10.2.2.2.2.2.2.2.1, v10.2.2.2.2.2.2.2.2.1, v10.2.2.2.2.2.2.2.2.2.1, v10.2.2.2.2.2.2.2.2.2.2.1, v10.2.2.2.2.2.2.2.2.2.2.2.1, v10.2.2.2.2.2.2.2.2.2.2.2.2.1, v10.2.2.2.2.2.2.2.2.2.2.2.2.2.1, v10.2.2.2.2.2.2.2.2.2.2.2.2.2.2.1, v10.2.2.2.2.2.2.2.2.2.2.2.2.2.2.2.1, v10.2.2.2.2.2.2.2.2.2.2.2.2.2.2.2.2, v11.2.2)))
def zfR (o : Ops) (v14 : Int × Int × Int × Int × Bs × Bs × Bs × (List Bs) × Int × Int × Bool × Bool × (List Bs) × Int × Bs × Bs × List zaH) (v15 : List Bs) : Option ((Int × Int × Int × Int × Bs × Bs × Bs × (List Bs) × Int × Int × Bool × Bool × (List Bs) × Int × Bs × Bs × List zaH)) :=
 (app ([] : List Bs) v14.2.2.2.2.2.2.2.2.2.2.2.2.1).bind fun v16 => some (v14.1, v14.1, v14.2.2.1, v14.2.2.2.1, v14.2.2.2.2.1, v14.2.2.2.2.2.1, v14.2.2.2.2.2.2.1, v15, v14.2.2.2.2.2.2.2.2.1, v14.2.2.2.2.2.2.2.2.2.1, false, false, v16, v14.2.2.2.2.2.2.2.2.2.2.2.2.2)
def zbM (o : Ops) (v0 : zaH) (v1 : Int) (v2 : List zaH) (v3 : Int) : Option ((Int × Int × zlL)) :=
 (zfC o v0).bind fun v4 => bif (!v4) then some ((0 : Int), (131 : Int), v2, v3) else ((zaX o v0.2.2.2.2.2.2.2.2.2.2.2.2.2.1 v2 v3).bind fun v5 => bif v5.2.1 then some ((0 : Int), (132 : Int), v5.2.2) else ((zfN o v0 v5).bind fun v8 => match v8 with
 | .inl v9 => some v9
 | .inr v10 => ((zaW o v1 v10.1 v10.2.1).bind fun v11 => (zfI o v10 v11).bind fun v12 => match v12 with
 | .inl v13 => some (v13.1, v13.2.1, v13.2.2.2, v13.2.2.1)
 | .inr v14 => ((app ([] : List Bs) v14.2.2.2.2.2.2.2.1).bind fun v15 => (zfR o v14 v15).bind fun v17 => (app ([] : List zaH) v17.2.2.2.2.2.2.2.2.2.2.2.2.2.2.2.2).bind fun v18 => (app v18 ([(v17.2.1, v17.2.2.1, v17.2.2.2.1, v17.2.2.2.2.1, v17.2.2.2.2.2.1, v17.2.2.2.2.2.2.1, v17.2.2.2.2.2.2.2.1, v17.2.2.2.2.2.2.2.2.1, v17.2.2.2.2.2.2.2.2.2.1, v17.2.2.2.2.2.2.2.2.2.2.1, v17.2.2.2.2.2.2.2.2.2.2.2.1, v17.2.2.2.2.2.2.2.2.2.2.2.2.1, v17.2.2.2.2.2.2.2.2.2.2.2.2.2.1, v17.2.2.2.2.2.2.2.2.2.2.2.2.2.2.1, v17.2.2.2.2.2.2.2.2.2.2.2.2.2.2.2.1)] : List zaH)).bind fun v19 => some (v17.2.1, (0 : Int), v19, w64 (v17.1 + 1))))))
def zfQ (o : Ops) : SC := ⟨⟨[(0, (.ptr 0 0)), (1, (.h zmE)), (2, hI)], [zbQ]⟩, 2, [(none, ⟨[(0, hI), (1, hI)], [zbQ]⟩)], fun x => zbM o x.1 x.2.1 x.2.2.1 x.2.2.2⟩
theorem zlJ : SCok Tryz.prog tabs 55 (zfQ o) := zdZ (o := o) (η := [(2000008, .join [] [2] [(some 1000000, ⟨[(6, hI), (7, hI)], [zbQ]⟩), (none, ⟨[(0, (.ptr 0 0)), (4, (.ptr 1 0))], [zbQ, zuR]⟩)]),
 (2000011, .join [] [] [(some 1000000, ⟨[(6, hI), (7, hI)], [ywV, .osl zmE 47]⟩), (none, ⟨[(0, (.ptr 0 0)), (4, (.ptr 1 0))], [yzF, zuR, .osl zmE 47]⟩)]),
 (2000016, .join [] [] [(none, ⟨[(0, (.ptr 0 0)), (4, (.ptr 1 0))], [yzF, zuR, .osl zmE 47]⟩)]),
 (4000016, .sch [(.pu, 0, [3]), (.pu, 2, []), (.pu, 3, []), (.pu, 4, []), (.pu, 5, []), (.pu, 7, [3]), (.la, 8, []), (.mn, 1, []), (.mn, 6, [3]), (.rv, 8, []), (.mn, 9, [3]), (.pu, 10, []), (.pu, 11, []), (.mn, 12, [0])])]) (Γ := ⟨[(93, (zlV o))], [(40, (zdH o)), (115, (zbF o)), (116, (zcQ o)), (68, (zcX o))], false⟩) (ctok ⟨zrX, trivial⟩ ⟨zfW, ⟨zcG, ⟨zeZ, ⟨zfP, trivial⟩⟩⟩⟩) Tryz.func55
def zaI (o : Ops) (v0 : zaH) (v1 : List zaH) (v2 : Int) : Option ((Int × List zaH)) :=
 (zaJ o v0.1 v1 v2).bind fun v3 => (app ([] : List zaH) v3.2.1).bind fun v4 => (chk (decide ((0 : Int) ≤ v3.1) && decide (v3.1 < (v4.length : Int)))).bind fun _ => (setL v4 v3.1 v0).bind fun v5 => some (v3.2.2, v5)
def zaO (o : Ops) : SC := ⟨⟨[(0, (.ptr 0 0)), (1, (.h zmE))], [zbQ]⟩, 0, [(none, ⟨[], [ywV, .osl zmE 47]⟩)], fun x => zaI o x.1 x.2.1 x.2.2⟩
theorem zbA : SCok Tryz.prog tabs 119 (zaO o) := zdZ (o := o) (η := []) (Γ := ⟨[], [(115, (zbF o))], false⟩) (ctok trivial ⟨zcG, trivial⟩) Tryz.func119
def zaZ (o : Ops) (v0 : Int) (v1 : List zaH) (v2 : Int) : Option ((Int × zlL)) :=
 (zaC o v0 v1 v2).bind fun v3 => bif (!v3.2.1) then some ((131 : Int), v3.2.2) else ((zaI o (v3.1.1, v3.1.2.1, v3.1.2.2.1, v3.1.2.2.2.1, v3.1.2.2.2.2.1, v3.1.2.2.2.2.2.1, v3.1.2.2.2.2.2.2.1, v3.1.2.2.2.2.2.2.2.1, v3.1.2.2.2.2.2.2.2.2.1, true, v3.1.2.2.2.2.2.2.2.2.2.2) v3.2.2.1 v3.2.2.2).bind fun v4 => some ((0 : Int), v4.2, v4.1))
def zdD (o : Ops) : SC := ⟨⟨[(0, (.ptr 0 0)), (1, hI)], [zbQ]⟩, 1, [(none, ⟨[(0, hI)], [zbQ]⟩)], fun x => zaZ o x.1 x.2.1 x.2.2⟩
theorem zfZ : SCok Tryz.prog tabs 62 (zdD o) := zdZ (o := o) (η := []) (Γ := ⟨[], [(56, (zaF o)), (119, (zaO o))], false⟩) (ctok trivial ⟨zaK, ⟨zbA, trivial⟩⟩) Tryz.func62
def zbL (o : Ops) (v0 : Int) (v1 : Int) (v2 : List zaH) (v3 : Int) : Option ((Int × zlL)) :=
 (zaC o v0 v2 v3).bind fun v4 => bif (!v4.2.1) then some ((131 : Int), v4.2.2) else (bif v4.1.2.2.2.2.2.2.2.2.2.2.1 then ((zaZ o v0 v4.2.2.1 v4.2.2.2).bind fun v5 => some ((134 : Int), v5.2)) else ((zaP o v0 v1 v4.2.2.1 v4.2.2.2).bind fun v6 => bif (!v6.1) then some ((133 : Int), v6.2) else ((zaI o (v4.1.1, v4.1.2.1, v4.1.2.2.1, v4.1.2.2.2.1, v4.1.2.2.2.2.1, v4.1.2.2.2.2.2.1, v4.1.2.2.2.2.2.2.1, v4.1.2.2.2.2.2.2.2.1, v4.1.2.2.2.2.2.2.2.2.1, v4.1.2.2.2.2.2.2.2.2.2.1, true, v4.1.2.2.2.2.2.2.2.2.2.2.2) v6.2.1 v6.2.2).bind fun v7 => some ((0 : Int), v7.2, v7.1))))
def zfJ (o : Ops) : SC := ⟨⟨[(0, (.ptr 0 0)), (1, hI), (2, hI)], [zbQ]⟩, 1, [(none, ⟨[(0, hI)], [zbQ]⟩)], fun x => zbL o x.1 x.2.1 x.2.2.1 x.2.2.2⟩
theorem zlI : SCok Tryz.prog tabs 61 (zfJ o) := zdZ (o := o) (η := []) (Γ := ⟨[], [(56, (zaF o)), (62, (zdD o)), (57, (zbN o)), (119, (zaO o))], false⟩) (ctok trivial ⟨zaK, ⟨zfZ, ⟨zdI, ⟨zbA, trivial⟩⟩⟩⟩) Tryz.func61
def zfS (o : Ops) (v0 : Bs) (v5 : List zaH) (v6 : Int) (v7 : zaH) : Option ((Bool × (List zaH) × zcT)) :=
 bif (v7.2.2.2.2.1 != ([] : Bs)) then ((app ([99, 58] : Bs) v7.2.2.2.2.1).bind fun v8 => some ((v8 == v0), v5, v6, v7)) else some (false, v5, v6, v7)
def zfE (o : Ops) (v0 : Bs) (v9 : Bool × (List zaH) × zcT) : Option ((Bool × (List zaH) × zcT)) :=
 bif (!v9.2.2.2.2.2.2.2.2.2.2.2.2.1) then (bif (v9.2.2.2.2.2.2.1 == v0) then some (true, v9.2) else some v9) else some (false, v9.2)
def zfK (o : Ops) (v0 : Bs) (v3 : Int) (v4 : Int) (v5 : List zaH) (v6 : Int) : Option ((Int × Int × zlL) ⊕ ((Int × zlL))) :=
 bif decide (v4 < (v5.length : Int)) then ((idx v5 v4).bind fun v7 => (zfS o v0 v5 v6 v7).bind fun v9 => (zfE o v0 v9).bind fun v10 => bif v10.1 then ((zaI o (v10.2.2.2.1, v10.2.2.2.2.1, v10.2.2.2.2.2.1, v10.2.2.2.2.2.2.1, v10.2.2.2.2.2.2.2.1, v10.2.2.2.2.2.2.2.2.1, v10.2.2.2.2.2.2.2.2.2.1, v10.2.2.2.2.2.2.2.2.2.2.1, v10.2.2.2.2.2.2.2.2.2.2.2.1, true, v10.2.2.2.2.2.2.2.2.2.2.2.2.2) v10.2.1 v10.2.2.1).bind fun v11 => some (.inl (w64 (v3 + 1), w64 (v4 + 1), v11.2, v11.1))) else some (.inl (v3, w64 (v4 + 1), v10.2.1, v10.2.2.1))) else some (.inr (v3, v5, v6))
def zbH (o : Ops) (v0 : Bs) (v1 : List zaH) (v2 : Int) : Option ((Int × zlL)) :=
 (iter (fun x => zfK o v0 x.1 x.2.1 x.2.2.1 x.2.2.2) ((0 : Int), (0 : Int), v1, v2)).bind fun v12 => some v12
def zeY (o : Ops) : SC := ⟨⟨[(0, (.ptr 0 0)), (1, hS)], [zbQ]⟩, 1, [(none, ⟨[(0, hI)], [zbQ]⟩)], fun x => zbH o x.1 x.2.1 x.2.2⟩
theorem zkM : SCok Tryz.prog tabs 63 (zeY o) := zdZ (o := o) (η := [(2000007, .join [] [1, 5, 6] [(none, ⟨[(0, (.ptr 0 0)), (7, (.ptr 1 0)), (8, hB)], [zbQ, zuR]⟩)]),
 (2300008, .join [] [1, 5, 6] [(none, ⟨[(0, (.ptr 0 0)), (7, (.ptr 1 0)), (46, hB)], [zbQ, zuR]⟩)]),
 (200003, .loop [] ⟨[(0, (.ptr 0 0)), (5, hI), (6, hI)], [zbQ]⟩ [1, 4] [(some 0, ⟨[(5, hI)], [zbQ]⟩)])]) (Γ := ⟨[], [(119, (zaO o))], false⟩) (ctok trivial ⟨zbA, trivial⟩) Tryz.func63
def zgC (o : Ops) (v1 : Int) (v4 : (zaH × Bool × zlL)) : Option ((Int × zlL) ⊕ ((List zaH) × zcT)) :=
 bif (!v4.2.1) then some (.inl ((131 : Int), v4.2.2)) else (bif (v4.1.2.1 != 1) then some (.inl ((131 : Int), v4.2.2)) else (bif decide (v1 < 1) then some (.inl ((131 : Int), v4.2.2)) else (bif decide (v1 > 3) then some (.inl ((131 : Int), v4.2.2)) else some (.inr (v4.2.2.1, v4.2.2.2, v4.1)))))
def zbS (o : Ops) (v0 : Int) (v1 : Int) (v2 : List zaH) (v3 : Int) : Option ((Int × zlL)) :=
 (zaC o v0 v2 v3).bind fun v4 => (zgC o v1 v4).bind fun v5 => match v5 with
 | .inl v6 => some v6
 | .inr v7 => (bif decide (v1 > v7.2.2.2.2.2.2.2.2.2.2.2.2.2.2.1) then ((zaI o (v7.2.2.1, v7.2.2.2.1, v7.2.2.2.2.1, v7.2.2.2.2.2.1, v7.2.2.2.2.2.2.1, v7.2.2.2.2.2.2.2.1, v7.2.2.2.2.2.2.2.2.1, v7.2.2.2.2.2.2.2.2.2.1, v7.2.2.2.2.2.2.2.2.2.2.1, v7.2.2.2.2.2.2.2.2.2.2.2.1, v7.2.2.2.2.2.2.2.2.2.2.2.2.1, v7.2.2.2.2.2.2.2.2.2.2.2.2.2.1, v1, v7.2.2.2.2.2.2.2.2.2.2.2.2.2.2.2) v7.1 v7.2.1).bind fun v8 => some ((0 : Int), v8.2, v8.1)) else some ((0 : Int), v7.1, v7.2.1))
def zfU (o : Ops) : SC := ⟨⟨[(0, (.ptr 0 0)), (1, hI), (2, hI)], [zbQ]⟩, 1, [(none, ⟨[(0, hI)], [zbQ]⟩)], fun x => zbS o x.1 x.2.1 x.2.2.1 x.2.2.2⟩
theorem zmI : SCok Tryz.prog tabs 65 (zfU o) := zdZ (o := o) (η := [(2000004, .join [] [2] [(some 1000000, ⟨[(6, hI)], [zbQ]⟩), (none, ⟨[(0, (.ptr 0 0)), (7, (.ptr 1 0))], [zbQ, zuR]⟩)])]) (Γ := ⟨[], [(56, (zaF o)), (119, (zaO o))], false⟩) (ctok trivial ⟨zaK, ⟨zbA, trivial⟩⟩) Tryz.func65
def zgA (o : Ops) (v1 : Bs) (v4 : (zaH × Bool × zlL)) : Option ((Int × zlL) ⊕ ((List zaH) × zcT)) :=
 bif (!v4.2.1) then some (.inl ((131 : Int), v4.2.2)) else (bif decide ((v1.length : Int) > 256) then some (.inl ((131 : Int), v4.2.2)) else some (.inr (v4.2.2.1, v4.2.2.2, v4.1)))
def zbR (o : Ops) (v0 : Int) (v1 : Bs) (v2 : List zaH) (v3 : Int) : Option ((Int × zlL)) :=
 (zaC o v0 v2 v3).bind fun v4 => (zgA o v1 v4).bind fun v5 => match v5 with
 | .inl v6 => some v6
 | .inr v7 => ((zaI o (v7.2.2.1, v7.2.2.2.1, v7.2.2.2.2.1, v7.2.2.2.2.2.1, v7.2.2.2.2.2.2.1, v7.2.2.2.2.2.2.2.1, v7.2.2.2.2.2.2.2.2.1, v7.2.2.2.2.2.2.2.2.2.1, v7.2.2.2.2.2.2.2.2.2.2.1, v7.2.2.2.2.2.2.2.2.2.2.2.1, v7.2.2.2.2.2.2.2.2.2.2.2.2.1, v7.2.2.2.2.2.2.2.2.2.2.2.2.2.1, v7.2.2.2.2.2.2.2.2.2.2.2.2.2.2.1, v7.2.2.2.2.2.2.2.2.2.2.2.2.2.2.2.1, v1) v7.1 v7.2.1).bind fun v8 => some ((0 : Int), v8.2, v8.1))
def zgF (o : Ops) : SC := ⟨⟨[(0, (.ptr 0 0)), (1, hI), (2, hS)], [zbQ]⟩, 1, [(none, ⟨[(0, hI)], [zbQ]⟩)], fun x => zbR o x.1 x.2.1 x.2.2.1 x.2.2.2⟩
theorem zmH : SCok Tryz.prog tabs 67 (zgF o) := zdZ (o := o) (η := [(2000004, .join [] [2] [(some 1000000, ⟨[(6, hI)], [zbQ]⟩), (none, ⟨[(0, (.ptr 0 0)), (7, (.ptr 1 0))], [zbQ, zuR]⟩)])]) (Γ := ⟨[], [(56, (zaF o)), (119, (zaO o))], false⟩) (ctok trivial ⟨zaK, ⟨zbA, trivial⟩⟩) Tryz.func67
noncomputable def zgO (o : Ops) (v9 : Int) (v10 : Int) (v11 : List zaH) (v12 : Int) (v13 : List zcT) (v14 : Int) (v15 : Int) (v16 : Int) (v17 : Bs) (v18 : Bs) (v19 : Bs) (v20 : Int) (v21 : Int) (v22 : Bool) (v23 : Bool) (v24 : Int) (v25 : Bs) (v26 : Bs) (v27 : List Bs) (v28 : List Bs) : Option ((Int × Int × (List zaH) × Int × (List zcT) × Int × Int × Int × Bs × Bs × Bs × Int × Int × Bool × Bool × Int × Bs × Bs × (List Bs) × List Bs) ⊕ ((Int × (List zaH) × Int × (List zcT) × Int × Int × Int × Bs × Bs × Bs × Int × Int × Bool × Bool × Int × Bs × Bs × (List Bs) × List Bs))) :=
 bif decide (v9 < (v27.length : Int)) then ((chk (decide ((0 : Int) ≤ v9) && decide (v9 < (v27.length : Int)))).bind fun _ => (setL v27 v9 ([111, 118, 101, 114] : Bs)).bind fun v29 => some (.inl (w64 (v9 + 1), v10, v11, v12, v13, v14, v15, v16, v17, v18, v19, v20, v21, v22, v23, v24, v25, v26, v29, v28))) else some (.inr (v10, v11, v12, v13, v14, v15, v16, v17, v18, v19, v20, v21, v22, v23, v24, v25, v26, v27, v28))
noncomputable def zgL (o : Ops) (v31 : Int) (v32 : Int) (v33 : List zaH) (v34 : Int) (v35 : List zcT) (v36 : Int) (v37 : Int) (v38 : Int) (v39 : Bs) (v40 : Bs) (v41 : Bs) (v42 : Int) (v43 : Int) (v44 : Bool) (v45 : Bool) (v46 : Int) (v47 : Bs) (v48 : Bs) (v49 : List Bs) (v50 : List Bs) : Option ((Int × Int × (List zaH) × Int × (List zcT) × Int × Int × Int × Bs × Bs × Bs × Int × Int × Bool × Bool × Int × Bs × Bs × (List Bs) × List Bs) ⊕ ((Int × (List zaH) × Int × List zcT))) :=
 bif decide (v31 < (v50.length : Int)) then ((chk (decide ((0 : Int) ≤ v31) && decide (v31 < (v50.length : Int)))).bind fun _ => (setL v50 v31 ([111, 118, 101, 114] : Bs)).bind fun v51 => some (.inl (w64 (v31 + 1), v32, v33, v34, v35, v36, v37, v38, v39, v40, v41, v42, v43, v44, v45, v46, v47, v48, v49, v51))) else some (.inr (v32, v33, v34, v35))
noncomputable def zeE (o : Ops) (v0 : yqH) (v1 : Int) (v2 : List zaH) (v3 : Int) (v4 : List zcT) : Option ((Bool × Int × (List zaH) × Int × List zcT)) :=
 bif (v0.2.1 == 0) then ((app ([] : List Bs) v0.2.2.2.2.2.2.2.2.2.2.2.1).bind fun v5 => (app ([] : List Bs) v0.2.2.2.2.2.2.2.2.2.2.2.2.2.2.2.2.1).bind fun v6 => (zcU o v0.2.2.2.2.2.1 v0.2.2.2.2.2.2.1 v0.2.2.2.2.2.2.2.1 v0.2.2.2.2.2.2.2.2.1 v0.2.2.2.2.2.2.2.2.2.1 v0.2.2.2.2.2.2.2.2.2.2.1 v0.2.2.2.2.2.2.2.2.2.2.2.2.1 v0.2.2.2.2.2.2.2.2.2.2.2.2.2.1 v0.2.2.2.2.2.2.2.2.2.2.2.2.2.2.1 v0.2.2.2.2.2.2.2.2.2.2.2.2.2.2.2.1 v0.2.2.2.2.2.2.2.2.2.2.2.2.2.2.2.2.2.1 v0.2.2.2.2.2.2.2.2.2.2.2.2.2.2.2.2.2.2.1 v0.2.2.2.2.2.2.2.2.2.2.2.2.2.2.2.2.2.2.2 v0.2.2.1 v1 v5 v6 v4).bind fun v7 => (zbM o v0.2.2.2.2.2 v0.2.2.1 v2 v3).bind fun v8 => (iter (fun x => zgO o x.1 x.2.1 x.2.2.1 x.2.2.2.1 x.2.2.2.2.1 x.2.2.2.2.2.1 x.2.2.2.2.2.2.1 x.2.2.2.2.2.2.2.1 x.2.2.2.2.2.2.2.2.1 x.2.2.2.2.2.2.2.2.2.1 x.2.2.2.2.2.2.2.2.2.2.1 x.2.2.2.2.2.2.2.2.2.2.2.1 x.2.2.2.2.2.2.2.2.2.2.2.2.1 x.2.2.2.2.2.2.2.2.2.2.2.2.2.1 x.2.2.2.2.2.2.2.2.2.2.2.2.2.2.1 x.2.2.2.2.2.2.2.2.2.2.2.2.2.2.2.1 x.2.2.2.2.2.2.2.2.2.2.2.2.2.2.2.2.1 x.2.2.2.2.2.2.2.2.2.2.2.2.2.2.2.2.2.1 x.2.2.2.2.2.2.2.2.2.2.2.2.2.2.2.2.2.2.1 x.2.2.2.2.2.2.2.2.2.2.2.2.2.2.2.2.2.2.2) ((0 : Int), v7.2.2.1, v8.2.2.1, v8.2.2.2, v7.2.2.2.2.2, v0.2.2.2.2.2.1, v0.2.2.2.2.2.2.1, v0.2.2.2.2.2.2.2.1, v0.2.2.2.2.2.2.2.2.1, v0.2.2.2.2.2.2.2.2.2.1, v0.2.2.2.2.2.2.2.2.2.2.1, v0.2.2.2.2.2.2.2.2.2.2.2.2.1, v0.2.2.2.2.2.2.2.2.2.2.2.2.2.1, v0.2.2.2.2.2.2.2.2.2.2.2.2.2.2.1, v0.2.2.2.2.2.2.2.2.2.2.2.2.2.2.2.1, v0.2.2.2.2.2.2.2.2.2.2.2.2.2.2.2.2.2.1, v0.2.2.2.2.2.2.2.2.2.2.2.2.2.2.2.2.2.2.1, v0.2.2.2.2.2.2.2.2.2.2.2.2.2.2.2.2.2.2.2, v7.2.2.2.1, v7.2.2.2.2.1)).bind fun v30 => (iter (fun x => zgL o x.1 x.2.1 x.2.2.1 x.2.2.2.1 x.2.2.2.2.1 x.2.2.2.2.2.1 x.2.2.2.2.2.2.1 x.2.2.2.2.2.2.2.1 x.2.2.2.2.2.2.2.2.1 x.2.2.2.2.2.2.2.2.2.1 x.2.2.2.2.2.2.2.2.2.2.1 x.2.2.2.2.2.2.2.2.2.2.2.1 x.2.2.2.2.2.2.2.2.2.2.2.2.1 x.2.2.2.2.2.2.2.2.2.2.2.2.2.1 x.2.2.2.2.2.2.2.2.2.2.2.2.2.2.1 x.2.2.2.2.2.2.2.2.2.2.2.2.2.2.2.1 x.2.2.2.2.2.2.2.2.2.2.2.2.2.2.2.2.1 x.2.2.2.2.2.2.2.2.2.2.2.2.2.2.2.2.2.1 x.2.2.2.2.2.2.2.2.2.2.2.2.2.2.2.2.2.2.1 x.2.2.2.2.2.2.2.2.2.2.2.2.2.2.2.2.2.2.2) ((0 : Int), v30)).bind fun v52 => bif (v7.1 == v8.1) then some ((v7.2.1 == v8.2.1), v52) else some (false, v52)) else (bif (v0.2.1 == 1) then ((zgP o v0.2.2.1 v1 v4).bind fun v53 => (zaC o v0.2.2.1 v2 v3).bind fun v54 => (zbJ o v0.2.2.2.2.1 v53.2.2.1 v53.2.2.2).bind fun v55 => (zaX o v0.2.2.2.2.1 v54.2.2.1 v54.2.2.2).bind fun v56 => bif (v53.2.1 == v54.2.1) then (bif (v55.2.1 == v56.2.1) then ((zdJ o v53.1 v54.1).bind fun v57 => bif v57 then ((zdJ o v55.1 v56.1).bind fun v58 => bif v58 then ((zaL o v0.2.2.1 v0.2.2.2.1 v55.2.2.1 v55.2.2.2).bind fun v59 => (zaP o v0.2.2.1 v0.2.2.2.1 v56.2.2.1 v56.2.2.2).bind fun v60 => bif (v59.1 == v60.1) then ((zbB o v0.2.2.1 v59.2.1 v59.2.2).bind fun v61 => (zaN o v0.2.2.1 v60.2.1 v60.2.2).bind fun v62 => (zdM o v61.1 v62.2.2).bind fun v63 => some (v63, v61.2.1, v62.1, v62.2.1, v61.2.2)) else some (false, v59.2.1, v60.2.1, v60.2.2, v59.2.2)) else some (false, v55.2.2.1, v56.2.2.1, v56.2.2.2, v55.2.2.2)) else some (false, v55.2.2.1, v56.2.2.1, v56.2.2.2, v55.2.2.2)) else some (false, v55.2.2.1, v56.2.2.1, v56.2.2.2, v55.2.2.2)) else some (false, v55.2.2.1, v56.2.2.1, v56.2.2.2, v55.2.2.2)) else (bif (v0.2.1 == 2) then ((zeQ o v0.2.2.1 v0.2.2.2.1 v1 v4).bind fun v64 => (zbL o v0.2.2.1 v0.2.2.2.1 v2 v3).bind fun v65 => some ((v64.1 == v65.1), v64.2.1, v65.2.1, v65.2.2, v64.2.2)) else (bif (v0.2.1 == 3) then ((zdO o v0.2.2.1 v1 v4).bind fun v66 => (zaZ o v0.2.2.1 v2 v3).bind fun v67 => some ((v66.1 == v67.1), v66.2.1, v67.2.1, v67.2.2, v66.2.2)) else (bif (v0.2.1 == 4) then ((zbP o v0.2.2.2.2.1 v1 v4).bind fun v68 => (zbH o v0.2.2.2.2.1 v2 v3).bind fun v69 => some ((v68.1 == v69.1), v68.2.1, v69.2.1, v69.2.2, v68.2.2)) else (bif (v0.2.1 == 5) then ((zfB o v0.2.2.1 v0.2.2.2.1 v1 v4).bind fun v70 => (zbS o v0.2.2.1 v0.2.2.2.1 v2 v3).bind fun v71 => some ((v70.1 == v71.1), v70.2.1, v71.2.1, v71.2.2, v70.2.2)) else (bif (v0.2.1 == 6) then ((zfD o v0.2.2.1 v0.2.2.2.2.1 v1 v4).bind fun v72 => (zbR o v0.2.2.1 v0.2.2.2.2.1 v2 v3).bind fun v73 => some ((v72.1 == v73.1), v72.2.1, v73.2.1, v73.2.2, v72.2.2)) else (bif (v0.2.1 == 7) then ((zbG o v0.2.2.1 v1 v4).bind fun v74 => (zaW o v0.2.2.1 v2 v3).bind fun v75 => some ((v74.1 == v75.1), v74.2.1, v75.2.2, v75.2.1, v74.2.2)) else some (true, v1, v2, v3, v4))))))))
noncomputable def zkE (o : Ops) : SC := ⟨⟨[(0, (.ptr 0 0)), (1, (.ptr 1 0)), (2, (.h zzN))], [zrU, zbQ, zkN]⟩, 1, [(none, ⟨[(0, hB)], [zrU, zbQ, yjB]⟩)], fun x => zeE o x.1 x.2.1 x.2.2.1 x.2.2.2.1 x.2.2.2.2⟩
theorem zqG : SCok Tryz.prog tabs 21 (zkE o) := zdZ (o := o) (η := [(200009, .loop [] ⟨[(7, (.ptr 3 0)), (12, hI)], [zrU, zbQ, yjB, yvK, .osl .s 9, .osl .s 9]⟩ [6, 8, 9, 10, 11] [(some 1, ⟨[(7, (.ptr 3 0))], [zrU, zbQ, yjB, yvK, .osl .s 9, .osl .s 9]⟩)]),
 (200013, .loop [] ⟨[(7, (.ptr 3 0)), (13, hI)], [zrU, zbQ, yjB, yvK, .osl .s 9, .osl .s 9]⟩ [6, 8, 9, 10, 11] [(some 3, ⟨[], [zrU, zbQ, yjB]⟩)]),
 (4000022, .sch [(.pu, 0, []), (.pu, 1, []), (.pu, 2, []), (.pu, 3, []), (.pu, 4, []), (.pu, 5, []), (.pu, 6, []), (.pu, 7, []), (.pu, 8, []), (.pu, 9, []), (.pu, 10, []), (.mn, 11, []), (.pu, 12, []), (.pu, 13, []), (.pu, 14, []), (.pu, 15, []), (.mn, 16, []), (.pu, 17, []), (.pu, 18, []), (.pu, 19, []), (.pu, 20, []), (.pu, 21, []), (.pu, 22, []), (.pu, 23, []), (.pu, 25, [0, 2]), (.pu, 26, [0, 2]), (.pu, 27, [0, 2]), (.pu, 28, [0, 2]), (.pu, 29, [0, 2]), (.mn, 24, [0, 2]), (.mn, 30, [1]), (.pu, 31, []), (.pu, 32, []), (.pu, 33, []), (.pu, 34, []), (.pu, 35, []), (.pu, 36, []), (.pu, 38, [0, 2]), (.pu, 39, [0, 2]), (.pu, 40, [0, 2]), (.mn, 37, [0, 2]), (.mn, 41, [1]), (.mn, 42, []), (.pu, 43, []), (.pu, 44, [])]),
 (4000024, .sch [(.pu, 0, []), (.pu, 1, []), (.pu, 2, []), (.pu, 3, []), (.pu, 4, []), (.pu, 6, [0, 2]), (.pu, 7, [0, 2]), (.pu, 8, [0, 2]), (.pu, 9, [0, 2]), (.pu, 10, [0, 2]), (.mn, 5, [0, 2]), (.mn, 11, [1]), (.pu, 12, []), (.pu, 13, [])]),
 (4000026, .sch [(.pu, 0, []), (.pu, 1, []), (.pu, 2, []), (.pu, 4, [0, 2]), (.pu, 5, [0, 2]), (.pu, 6, [0, 2]), (.mn, 3, [0, 2]), (.mn, 7, [1]), (.pu, 8, []), (.pu, 9, [])]),
 (4000028, .sch [(.pu, 0, []), (.pu, 1, []), (.pu, 2, []), (.pu, 4, [0, 2]), (.pu, 5, [0, 2]), (.pu, 6, [0, 2]), (.mn, 3, [0, 2]), (.mn, 7, [1]), (.pu, 8, []), (.pu, 9, [])]),
 (4000030, .sch [(.pu, 0, []), (.pu, 1, []), (.pu, 2, []), (.pu, 3, []), (.pu, 4, []), (.pu, 6, [0, 2]), (.pu, 7, [0, 2]), (.pu, 8, [0, 2]), (.pu, 9, [0, 2]), (.pu, 10, [0, 2]), (.mn, 5, [0, 2]), (.mn, 11, [1]), (.pu, 12, []), (.pu, 13, [])]),
 (4000032, .sch [(.pu, 0, []), (.pu, 1, []), (.pu, 2, []), (.pu, 3, []), (.pu, 4, []), (.pu, 6, [0, 2]), (.pu, 7, [0, 2]), (.pu, 8, [0, 2]), (.pu, 9, [0, 2]), (.pu, 10, [0, 2]), (.mn, 5, [0, 2]), (.mn, 11, [1]), (.pu, 12, []), (.pu, 13, [])]),
 (4000034, .sch [(.pu, 0, []), (.pu, 1, []), (.pu, 2, []), (.pu, 4, [0, 2]), (.pu, 5, [0, 2]), (.pu, 6, [0, 2]), (.mn, 3, [0, 2]), (.mn, 7, [1]), (.pu, 8, []), (.pu, 9, [])])]) (Γ := ⟨[(41, (zlB o)), (58, (ziT o))], [(20, (zjL o)), (55, (zfQ o)), (52, (zmX o)), (56, (zaF o)), (36, (zdF o)), (40, (zdH o)), (22, (zcA o)), (57, (zbN o)), (25, (zbW o)), (59, (zbK o)), (60, (zkV o)), (61, (zfJ o)), (24, (ziB o)), (62, (zdD o)), (26, (zgH o)), (63, (zeY o)), (64, (zmK o)), (65, (zfU o)), (66, (zmD o)), (67, (zgF o)), (31, (zcW o)), (68, (zcX o))], false⟩) (ctok ⟨zqS, ⟨zoP, trivial⟩⟩ ⟨zpQ, ⟨zlJ, ⟨ztA, ⟨zaK, ⟨zeM, ⟨zfW, ⟨zdG, ⟨zdI, ⟨zdA, ⟨zdB, ⟨zqT, ⟨zlI, ⟨zmF, ⟨zfZ, ⟨zjO, ⟨zkM, ⟨zsD, ⟨zmI, ⟨zrS, ⟨zmH, ⟨zeG, ⟨zfP, trivial⟩⟩⟩⟩⟩⟩⟩⟩⟩⟩⟩⟩⟩⟩⟩⟩⟩⟩⟩⟩⟩⟩) Tryz.func21
noncomputable def zhG (o : Ops) (v0 : List yqH) (v3 : Int) (v4 : Int) (v5 : List zaH) (v6 : Int) (v7 : List zcT) : Option ((Int × Int × (List zaH) × Int × List zcT) ⊕ ((Int × List zcT))) :=
 bif decide (v3 < (v0.length : Int)) then ((idx v0 v3).bind fun v8 => (zeE o v8 v4 v5 v6 v7).bind fun v9 => some (.inl (w64 (v3 + 1), v9.2))) else some (.inr (v4, v7))
noncomputable def zeV (o : Ops) (v0 : List yqH) : Option ((Int × List zcT)) :=
 (zhW o).bind fun v1 => (ziM o).bind fun v2 => (iter (fun x => zhG o v0 x.1 x.2.1 x.2.2.1 x.2.2.2.1 x.2.2.2.2) ((0 : Int), v1.1, ([] : List zaH), v2, v1.2)).bind fun v10 => some v10
noncomputable def zkT (o : Ops) : SC := ⟨⟨[(0, (.h (.sl zzN)))], []⟩, 1, [(none, ⟨[(0, (.ptr 0 0))], [zmG, zkN]⟩)], fun x => zeV o x⟩
theorem zrA : SCok Tryz.prog tabs 17 (zkT o) := zdZ (o := o) (η := [(200006, .loop [] ⟨[(3, (.ptr 0 0)), (4, (.ptr 1 0)), (5, hI)], [zrU, zbQ, zkN]⟩ [0, 2] [(some 0, ⟨[(3, (.ptr 0 0))], [zmG, zkN]⟩)])]) (Γ := ⟨[], [(27, (znH o)), (18, (zlZ o)), (21, (zkE o))], false⟩) (ctok trivial ⟨zpK, ⟨zsL, ⟨zqG, trivial⟩⟩⟩) Tryz.func17
end
theorem yoP {nx : Int} {es : Es} (h : Ok nx es) (n : Nd) (now : Int) (hl : Lst n) :
  zcU zaB n.1 n.2.1 n.2.2.1 n.2.2.2.1 n.2.2.2.2.1 n.2.2.2.2.2.1 n.2.2.2.2.2.2.2.1 n.2.2.2.2.2.2.2.2.1 n.2.2.2.2.2.2.2.2.2.1 n.2.2.2.2.2.2.2.2.2.2.1 n.2.2.2.2.2.2.2.2.2.2.2.2.1 n.2.2.2.2.2.2.2.2.2.2.2.2.2.1 n.2.2.2.2.2.2.2.2.2.2.2.2.2.2 now nx (zdN n) (nact n) es =
  some ((zoD n now nx es).1, (zoD n now nx es).2.1, (zoD n now nx es).2.2.1, zdN n, nact n, (zoD n now nx es).2.2.2) := by
 unfold zcU zoD
 rw [show zfY zaB _ = some (mayB n) from ysC n hl.1, zaA]
 cases hm : mayB n with
 | false => rfl
 | true =>
  simp only [Bool.not_true, cond_false]
  rw [ztZ h, zaA]
  cases hf : zwG es n.2.2.2.2.2.2.2.2.2.2.2.2.2.1 with
  | some q => rfl
  | none =>
   simp only [Option.isSome_none, Option.getD_none, cond_false]
   have hj : zdS zaB n.1 n.2.1 n.2.2.1 n.2.2.2.1 n.2.2.2.2.1 n.2.2.2.2.2.1 n.2.2.2.2.2.2.2.1 n.2.2.2.2.2.2.2.2.1 n.2.2.2.2.2.2.2.2.2.1 n.2.2.2.2.2.2.2.2.2.2.1 n.2.2.2.2.2.2.2.2.2.2.2.2.1 n.2.2.2.2.2.2.2.2.2.2.2.2.2.1 n.2.2.2.2.2.2.2.2.2.2.2.2.2.2 (zdN n) (nact n) (zN, false, nx, es) = some (bif ybP es (npar n) then .inl (0, 133, nx, zdN n, nact n, es) else .inr (nx, zdN n, nact n, es, n.1, n.2.1, n.2.2.1, n.2.2.2.1, n.2.2.2.2.1, n.2.2.2.2.2.1, n.2.2.2.2.2.2.2.1, n.2.2.2.2.2.2.2.2.1, n.2.2.2.2.2.2.2.2.2.1, n.2.2.2.2.2.2.2.2.2.2.1, n.2.2.2.2.2.2.2.2.2.2.2.2.1, n.2.2.2.2.2.2.2.2.2.2.2.2.2.1, n.2.2.2.2.2.2.2.2.2.2.2.2.2.2)) := by
    unfold zdS ybP
    simp only []
    by_cases hp : npar n > 0
    ·rw [znS (p := n.2.2.1 > 0) hp, decide_eq_true hp, yfT h, zaA]
     show (bif (!(mhas keqI es (npar n))) then _ else _) = _
     cases mhas keqI es (npar n) with
     | false => rfl
     | true =>
      simp only [Bool.not_true, cond_false, Bool.true_and, Bool.false_or]
      cases zxQ es (npar n) <;> rfl
    ·rw [zqA (p := n.2.2.1 > 0) hp, decide_eq_false hp]
     rfl
   rw [show zdS zaB n.1 n.2.1 n.2.2.1 n.2.2.2.1 n.2.2.2.2.1 n.2.2.2.2.2.1 n.2.2.2.2.2.2.2.1 n.2.2.2.2.2.2.2.2.1 n.2.2.2.2.2.2.2.2.2.1 n.2.2.2.2.2.2.2.2.2.2.1 n.2.2.2.2.2.2.2.2.2.2.2.2.1 n.2.2.2.2.2.2.2.2.2.2.2.2.2.1 n.2.2.2.2.2.2.2.2.2.2.2.2.2.2 _ _ _ = _ from hj, zaA]
   cases ybP es (npar n) with
   | true => rfl
   | false =>
    simp only [cond_false]
    rw [zwR h, zaA]
    unfold zjI
    simp only []
    by_cases hg : (zdX es now).length ≥ 256
    ·rw [znS (by omega), decide_eq_true hg]
     rfl
    ·rw [zqA (by omega), decide_eq_false hg]
     by_cases hx : nx ≥ 99999999
     ·rw [znS hx, decide_eq_true hx]
      rfl
     ·rw [zqA hx, decide_eq_false hx]
      have hnx := h.next
      have h1 : n.2.2.2.2.2.2.1.length ≤ 1048576 := hl.1
      have h2 : n.2.2.2.2.2.2.2.2.2.2.2.1.length ≤ 1048576 := hl.2
      simp only [zaA, Bool.or_false, cond_false]
      unfold zrH
      simp only []
      rw [zlR (zdN n) (Nat.le_trans h1 (by decide)), zaA, zlR (nact n) (Nat.le_trans h2 (by decide)), zaA, znA (by omega) (by omega)]
      simp only [zaA]
      rw [ydV fun p hp => ((h.pruned now).ids p hp).2.2]
theorem yvV {nx nx' : Int} {es : Es} (h : Ok nx es) (id : Int) : zgP zaB id nx' es = some (zhO keqI es id zN, mhas keqI es id, nx', es) := by
 unfold zgP
 simp only []
 rw [own_ok, zaA]
 cases hh : mhas keqI es id with
 | false => rw [yhF hh]; exact ⟨by decide, by decide⟩
 | true =>
  obtain ⟨n, hn, hp⟩ := znJ hh
  rw [ziU hn]
  exact h.lst hp
def yaM (es : Es) (id now : Int) : Int × Es := match mget keqI es id with
 | none => (131, es)
 | some n => bif ydA n then (134, chI es id zmJ) else (bif ziI es id now then (0, chI es id yoF) else (133, es))
theorem yrN {nx nx' : Int} {es : Es} (h : Ok nx es) (id now : Int) : zeQ zaB id now nx' es = some ((yaM es id now).1, nx', (yaM es id now).2) := by
 unfold zeQ yaM
 cases hh : mhas keqI es id with
 | false => rw [zsB hh]; rfl
 | true =>
  obtain ⟨n, hn, hp⟩ := znJ hh
  rw [hn, ziU hn]
  simp only [Bool.not_true, cond_false]
  cases hs : ydA n with
  | true =>
   rw [show n.2.2.2.2.2.2.2.2.2.2.1 = true from hs]
   simp only [cond_true]
   rw [yfU h hh, zaA]
  | false =>
   rw [show n.2.2.2.2.2.2.2.2.2.2.1 = false from hs]
   simp only [cond_false]
   rw [zxA h, zaA]
   cases ziI es id now with
   | false => rfl
   | true =>
    simp only [Bool.not_true, cond_false, cond_true]
    unfold zhU zgQ
    simp only [zaA]
    rw [hh, zoG rfl, zaA, ziU hn, zaA, ← zwT h.rises yoF hn]
def yjC (es : Es) (id l : Int) : Int × Es := match mget keqI es id with
 | none => (131, es)
 | some n => bif (n.2.1 != (1 : Int)) then (131, es) else (bif inB l 1 3 then (0, chI es id (sLev l)) else (131, es))
theorem yuV {nx nx' : Int} {es : Es} (h : Ok nx es) (id l : Int) : zfB zaB id l nx' es = some ((yjC es id l).1, nx', (yjC es id l).2) := by
 unfold zfB yjC
 cases hh : mhas keqI es id with
 | false => rw [zsB hh]; rfl
 | true =>
  obtain ⟨n, hn, hp⟩ := znJ hh
  rw [hn, ziU hn]
  simp only [Bool.not_true, cond_false]
  cases (n.2.1 != (1 : Int)) with
  | true => rfl
  | false =>
   simp only [cond_false]
   rw [xaH, zaA]
   unfold inB
   cases (decide (1 ≤ l) && decide (l ≤ 3)) with
   | false => rfl
   | true =>
    simp only [Bool.not_true, cond_false, cond_true]
    unfold zhQ zhC
    simp only [zaA]
    rw [hh, zoG rfl, zaA, ziU hn, zaA, ← zwT h.rises (sLev l) hn]
def yiT (es : Es) (id : Int) (d : L8) : Int × Es := bif mhas keqI es id && !decide ((d.length : Int) > 256) then (0, chI es id (yvR d)) else (131, es)
theorem ywX {nx nx' : Int} {es : Es} (h : Ok nx es) (id : Int) (d : L8) : zfD zaB id d nx' es = some ((yiT es id d).1, nx', (yiT es id d).2) := by
 unfold zfD yiT
 cases hh : mhas keqI es id with
 | false => rfl
 | true =>
  obtain ⟨n, hn, hp⟩ := znJ hh
  simp only [Bool.not_true, cond_false, Bool.true_and]
  cases decide ((d.length : Int) > 256) with
  | true => rfl
  | false =>
   simp only [Bool.not_false, cond_false, cond_true]
   unfold zhV zhI
   simp only [zaA]
   rw [hh, zoG rfl, zaA, ziU hn, zaA, ← zwT h.rises (yvR d) hn]
theorem Ok.spend {nx : Int} {es : Es} (h : Ok nx es) (id now : Int) : Ok nx (yaM es id now).2 := by
 unfold yaM
 cases mget keqI es id with
 | none => exact h
 | some n =>
  simp only []
  cases ydA n with
  | true => exact h.ch (zlO _)
  | false => cases ziI es id now with
   | true => exact h.ch (yfH _)
   | false => exact h
theorem Ok.lift {nx : Int} {es : Es} (h : Ok nx es) (id l : Int) : Ok nx (yjC es id l).2 := by
 unfold yjC
 cases mget keqI es id with
 | none => exact h
 | some n =>
  simp only []
  cases (n.2.1 != (1 : Int)) with
  | true => exact h
  | false =>
   cases hl : inB l 1 3 with
   | false => exact h
   | true =>
    unfold inB at hl
    simp only [Bool.and_eq_true, decide_eq_true_eq] at hl
    exact h.ch (yjQ _ hl.1 hl.2)
theorem Ok.note {nx : Int} {es : Es} (h : Ok nx es) (id : Int) (d : L8) : Ok nx (yiT es id d).2 := by
 unfold yiT
 cases hc : mhas keqI es id && !decide ((d.length : Int) > 256) with
 | false => exact h
 | true =>
  simp only [Bool.and_eq_true, Bool.not_eq_true', decide_eq_false_iff_not] at hc
  exact h.ch (yiZ _ (by omega))
theorem ypK {es : Es} (h : zmR es) {q : Int × Nd} (hq : q ∈ es) {P P' : Int × Nd → Bool} (h1 : P q = false) (h2 : P' q = true) (h3 : ∀ p ∈ es, p.1 ≠ q.1 → P' p = P p) : (es.filter P').length = (es.filter P).length + 1 := by
 induction es with
 | nil => cases hq
 | cons p m ih =>
  have hc := List.pairwise_cons.1 h
  rcases List.mem_cons.1 hq with rfl | hq
  ·rw [List.filter_cons_of_pos h2, List.filter_cons_of_neg (by rw [h1]; exact Bool.false_ne_true), List.length_cons]
   rw [List.filter_congr fun p hp => h3 p (List.mem_cons_of_mem _ hp) (by have := hc.1 p hp; omega)]
  ·have e := ih hc.2 hq fun p hp => h3 p (List.mem_cons_of_mem _ hp)
   have hp := h3 p List.mem_cons_self (by have := hc.1 q hq; omega)
   simp only [List.filter_cons, hp]
   split
   ·simp only [List.length_cons, e]
   ·exact e
theorem yrR {es : Es} (h : zmR es) {p q : Int × Nd} (hp : p ∈ es) (hq : q ∈ es) (e : p.1 = q.1) : p = q := by
 have h1 := ziF h (k := p.1) (v := p.2) hp
 rw [e, ziF h (k := q.1) (v := q.2) hq] at h1
 exact Prod.ext e (osi h1).symm
theorem ywG {es : Es} (f : Int × Nd → Nd) (i : Int) (g : Nd → Nd) : chI (chE es f) i g = chE es fun p => if p.1 = i then g (f p) else f p := by
 unfold chI chE
 rw [List.map_map]
 rfl
theorem xbC {es : Es} {f : Int × Nd → Nd} {p : Int × Nd} (h : p ∈ es) : (p.1, f p) ∈ chE es f := List.mem_map.2 ⟨p, h, rfl⟩
def cutC (s : L8) : L8 × Bool := bif (s.take 2 == ([99, 58] : L8)) then (s.drop 2, true) else (s, false)
def ziR (s : L8) (n : Nd) : Bool := n.2.2.2.1 == s || ((cutC s).2 && ((cutC s).1 != ([] : L8) && n.2.2.2.2.1 == (cutC s).1))
def hitB (s : L8) (n : Nd) : Bool := !yoH n && ziR s n
theorem yuI (s : L8) : zdY zaB s ([99, 58] : L8) = some (cutC s) := by
 unfold zdY zcS zcR cutC
 simp only [List.length_cons, List.length_nil]
 by_cases h : (s.length : Int) ≥ 2
 ·rw [znS (by exact h), yvS (n := 2) (by omega), zaA, zaA]
  cases s.take 2 == ([99, 58] : L8) with
  | false => rfl
  | true =>
   simp only [Bool.not_true, cond_false, cond_true]
   rw [yoS (n := 2) (by omega)]
   rfl
 ·rw [zqA (by exact h), zaA]
  have e : (s.take 2 == ([99, 58] : L8)) = false := by
   cases hb : s.take 2 == ([99, 58] : L8) with
   | false => rfl
   | true =>
    have := congrArg List.length (beq_iff_eq.1 hb)
    simp at this
    omega
  rw [e]
  rfl
def ziH (es : Es) (s : L8) : Es := chE es fun p => if hitB s p.2 = true then zmJ p.2 else p.2
theorem zxF {nx : Int} {es : Es} (h : Ok nx es) (s : L8) : zbP zaB s nx es = some (((es.filter fun p => hitB s p.2).length : Int), nx, ziH es s) := by
 have hlen := h.len
 have hle : ∀ P : Int × Nd → Bool, (es.filter P).length ≤ es.length := fun P => List.length_filter_le _ _
 unfold zbP
 rw [yuI, zaA]
 suffices hA : rngA (fun x => zjH zaB s (cutC s) x.1 x.2.1 x.2.2.1 x.2.2.2) ((0 : Int), nx, es, List.map Prod.fst es) = some (((es.filter fun p => hitB s p.2).length : Int), nx, ziH es s) by
  rw [hA, zaA]
 refine zuM (fun x => ∃ left : List Int, x = (((es.filter fun p => !left.contains p.1 && hitB s p.2).length : Int), nx, chE es fun p => if (!left.contains p.1 && hitB s p.2) = true then zmJ p.2 else p.2, left)) (fun x => x.2.2.1) (fun x => x.2.2.2) (hf := fun x => rfl) ?_ ?_ ?_
 ·rintro _ ⟨left, rfl⟩ hn
  have e : ∀ p ∈ es, (!left.contains p.1 && hitB s p.2) = hitB s p.2 := fun p hp => by
   have h1 : p.1 ∉ left := by
    have hx := xbC (f := fun p => if (!left.contains p.1 && hitB s p.2) = true then zmJ p.2 else p.2) hp
    have h0 := hn _ hx
    exact h0
   have h2 : left.contains p.1 = false := by simpa using h1
   rw [h2]; rfl
  show some (Sum.inr _) = _
  rw [List.filter_congr e]
  have e2 : (chE es fun p => if (!left.contains p.1 && hitB s p.2) = true then zmJ p.2 else p.2) = ziH es s := zwN fun p hp => by rw [e p hp]
  simp only [e2]
 ·rintro _ p ⟨left, rfl⟩ hp hl
  simp only [] at hp hl
  have hK : zzP es fun p => if (!left.contains p.1 && hitB s p.2) = true then zmJ p.2 else p.2 := zlO _
  have hO := h.ch hK
  obtain ⟨q, hq, rfl⟩ := ztQ hp
  simp only [] at hl
  have hc : left.contains q.1 = true := by simpa using hl
  have hg := ziF hO.rises hp
  have hb : (!left.contains q.1 && hitB s q.2) = false := by rw [hc]; rfl
  simp only [hb, Bool.false_eq_true, if_false] at hg hp ⊢
  rw [hg, zaA]
  have hj : ∀ es', zgM zaB s (cutC s) nx es' left q q.2 = some (hitB s q.2, nx, es', rngD keqI left q.1) := fun es' => by
   unfold zgM hitB ziR yoH
   cases q.2.2.2.2.2.2.2.2.2.2.1 <;> cases (q.2.2.2.2.1 == s) <;> cases (cutC s).2 <;> cases ((cutC s).1 != ([] : L8)) <;> rfl
  rw [hj, zaA]
  have hcon : ∀ p ∈ es, p.1 ≠ q.1 → (!(rngD keqI left q.1).contains p.1) = !left.contains p.1 := fun p _ hne => by
   congr 1
   rw [Bool.eq_iff_iff]
   simp only [List.contains_iff_mem, zuJ]
   exact ⟨fun h => h.1, fun h => ⟨h, hne⟩⟩
  have hq2 : (rngD keqI left q.1).contains q.1 = false := by
   cases hb : (rngD keqI left q.1).contains q.1 with
   | false => rfl
   | true => exact absurd rfl (zuJ.1 (List.contains_iff_mem.1 hb)).2
  cases hh : hitB s q.2 with
  | true =>
   refine .inl ⟨_, ?_, ⟨rngD keqI left q.1, rfl⟩, rfl⟩
   simp only [cond_true]
   rw [yfU hO (zhN.2 ⟨_, hp⟩), zaA]
   have hcnt := ypK h.rises hq (P := fun p => !left.contains p.1 && hitB s p.2) (P' := fun p => !(rngD keqI left q.1).contains p.1 && hitB s p.2) hb (by simp only [hq2, hh]; rfl) fun p hp hne => by simp only [hcon p hp hne]
   rw [hcnt]
   have := hle fun p => !left.contains p.1 && hitB s p.2
   rw [znA (by omega) (by omega), ywG]
   have e3 : (chE es fun p => if p.1 = q.1 then zmJ (if (!left.contains p.1 && hitB s p.2) = true then zmJ p.2 else p.2) else (if (!left.contains p.1 && hitB s p.2) = true then zmJ p.2 else p.2)) = chE es fun p => if (!(rngD keqI left q.1).contains p.1 && hitB s p.2) = true then zmJ p.2 else p.2 := by
    refine zwN fun p hp2 => ?_
    by_cases hne : p.1 = q.1
    ·obtain rfl := yrR h.rises hp2 hq hne
     rw [if_pos rfl, hb, hq2, hh]
     rfl
    ·rw [if_neg hne, hcon p hp2 hne]
   rw [e3]
   rfl
  | false =>
   refine .inl ⟨_, ?_, ⟨rngD keqI left q.1, rfl⟩, rfl⟩
   simp only [cond_false]
   have e4 : ∀ p ∈ es, (!left.contains p.1 && hitB s p.2) = (!(rngD keqI left q.1).contains p.1 && hitB s p.2) := fun p hp2 => by
    by_cases hne : p.1 = q.1
    ·obtain rfl := yrR h.rises hp2 hq hne
     rw [hh, Bool.and_false, Bool.and_false]
    ·rw [hcon p hp2 hne]
   rw [List.filter_congr e4]
   have e5 : (chE es fun p => if (!left.contains p.1 && hitB s p.2) = true then zmJ p.2 else p.2) = chE es fun p => if (!(rngD keqI left q.1).contains p.1 && hitB s p.2) = true then zmJ p.2 else p.2 := zwN fun p hp2 => by rw [e4 p hp2]
   rw [e5]
 ·have e : ∀ p ∈ es, (!(List.map Prod.fst es).contains p.1 && hitB s p.2) = false := fun p hp => by
   have : (List.map Prod.fst es).contains p.1 = true := List.contains_iff_mem.2 (List.mem_map.2 ⟨p, hp, rfl⟩)
   rw [this]; rfl
  refine ⟨List.map Prod.fst es, ?_⟩
  have e1 : (es.filter fun p => !(List.map Prod.fst es).contains p.1 && hitB s p.2) = [] := List.filter_eq_nil_iff.2 fun p hp => by rw [e p hp]; exact Bool.false_ne_true
  have e2 : (chE es fun p => if (!(List.map Prod.fst es).contains p.1 && hitB s p.2) = true then zmJ p.2 else p.2) = es := by
   refine Eq.trans (List.map_congr_left fun p hp => ?_) (List.map_id es)
   show (p.1, if (!(List.map Prod.fst es).contains p.1 && hitB s p.2) = true then zmJ p.2 else p.2) = p
   rw [e p hp]
   rfl
  rw [e1, e2]
  rfl
theorem Ok.killed {nx : Int} {es : Es} (h : Ok nx es) (s : L8) : Ok nx (ziH es s) := h.ch (zlO _)
section
theorem zdE {k : Nat} (h : k < 1099511627776) : w64 ((k : Int) + 1) = ((k + 1 : Nat) : Int) := by rw [znA (by omega) (by omega)]; omega
theorem T.ixn {α : Type} {l : List α} {k : Nat} (h : (k : Int) < (l.length : Int)) : T (Go.Proofs.YtebbcofojchkpaaGreatDoor.idx l (k : Int)) fun x => x ∈ l := ⟨_, zkF rfl (by omega), List.getElem_mem _⟩
theorem ygI (b : UInt8) : T (zcM zaB b) fun _ => True := by
 unfold zcM
 repeat' first | exact T.ok trivial | refine T.bif (fun _ => ?_) fun _ => ?_
theorem yeP {s : L8} (h : s.length ≤ 1048576) : T (zcD zaB s) fun _ => True := by
 unfold zcD
 refine T.bind (Q := fun _ => True) (T.places s.length (by omega) _ fun k hk => ?_) fun r _ => ?_
 ·unfold zkQ
  exact T.dif (fun h2 => (T.ixn h2).bind fun _ _ => (ygI _).bind fun _ _ => T.bif (fun _ => T.ok trivial) fun _ => T.ok ⟨zdE (by omega), by omega⟩) fun _ => T.ok trivial
 ·cases r
  ·exact T.ok trivial
  ·exact T.bif (fun _ => T.ok trivial) fun _ => T.ok trivial
theorem ymV {s : L8} (h : s.length ≤ 1048576) : T (zbI zaB s) fun _ => True := by
 have hs : ∀ {n : Int} (hn : n ≤ (s.length : Int)) (h0 : 0 ≤ n), T (subL s n) fun r => r.length ≤ 1048576 := fun {n} hn h0 => by
  obtain ⟨k, rfl⟩ : ∃ k : Nat, n = k := ⟨n.toNat, by omega⟩
  refine ⟨_, yoS (by omega), ?_⟩
  show (s.drop k).length ≤ 1048576
  rw [List.length_drop]
  omega
 unfold zbI
 refine T.dif (fun h => (yhA (by omega) (by omega)).bind fun _ _ => T.bif (fun _ => (hs (by omega) (by omega)).bind fun _ hr => (yeP hr).bind fun _ _ => T.ok trivial) fun _ => (yhA (by omega) (by omega)).bind fun _ _ => T.bif (fun _ => (hs (by omega) (by omega)).bind fun _ hr => (yeP hr).bind fun _ _ => T.ok trivial) fun _ => T.ok trivial) fun _ => T.ok trivial
theorem yeM {s : L8} (h : s.length ≤ 1048576) : T (zcC zaB s) fun _ => True := by
 unfold zcC
 refine T.bind (Q := fun _ => True) (T.places s.length (by omega) _ fun k hk => ?_) fun r _ => ?_
 ·unfold zlC
  exact T.dif (fun h2 => (T.ixn h2).bind fun _ _ => T.bif (fun _ => T.ok trivial) fun _ => (T.ixn h2).bind fun _ _ => T.bif (fun _ => T.ok trivial) fun _ => T.ok ⟨zdE (by omega), by omega⟩) fun _ => T.ok trivial
 ·cases r
  ·exact T.ok trivial
  ·exact T.bif (fun _ => T.ok trivial) fun _ => T.ok trivial
theorem yhQ {s : L8} (h : s.length ≤ 1048576) : T (zcV zaB s) fun _ => True := by
 unfold zcV
 refine T.bind (Q := fun _ => True) (T.places s.length (by omega) _ fun k hk => ?_) fun r _ => ?_
 ·unfold zjY
  exact T.dif (fun h2 => (T.ixn h2).bind fun _ _ => (ygI _).bind fun _ _ => T.bif (fun _ => (T.ixn h2).bind fun _ _ => T.bif (fun _ => T.ok trivial) fun _ => T.ok ⟨zdE (by omega), by omega⟩) fun _ => T.ok ⟨zdE (by omega), by omega⟩) fun _ => T.ok trivial
 ·cases r
  ·exact T.ok trivial
  ·exact T.bif (fun _ => T.ok trivial) fun _ => T.ok trivial
theorem ywA {l : List L8} (h : l.length ≤ 1048576) (hs : ∀ s ∈ l, s.length ≤ 1048576) (m k : Int) : T (zeB zaB l m k) fun _ => True := by
 unfold zeB
 refine T.bind (Q := fun _ => True) (T.places l.length (by omega) _ fun i hi => ?_) fun r _ => ?_
 ·unfold zkC
  refine T.dif (fun h2 => ?_) fun _ => T.ok trivial
  have e : w64 ((i : Int) - 1) = (i : Int) - 1 := znA (by omega) (by omega)
  rw [e]
  have hn : ∀ {P : Int ⊕ (Bool ⊕ Unit) → Prop}, P (.inl (w64 ((i : Int) + 1))) → P (.inr (.inl false)) → T (bif decide ((i : Int) > 0) then (Option.bind (idx l (i : Int)) fun v8 => Option.bind (idx l ((i : Int) - (1 : Int))) fun v9 => bif (Op.bytesLess v8 v9 || v8 == v9) then some (.inr (.inl false)) else some (.inl (w64 ((i : Int) + (1 : Int))))) else some (.inl (w64 ((i : Int) + (1 : Int))))) P := fun h3 h4 =>
   T.dif (fun h0 => (T.ixn h2).bind fun _ _ => (T.ix (by omega) (by omega)).bind fun _ _ => T.bif (fun _ => T.ok h4) fun _ => T.ok h3) fun _ => T.ok h3
  have h3 : w64 ((i : Int) + 1) = ((i + 1 : Nat) : Int) ∧ i < l.length := ⟨zdE (by omega), by omega⟩
  refine T.bif (fun _ => (T.ixn h2).bind fun _ hx => (yeM (hs _ hx)).bind fun _ _ => T.bif (fun _ => T.ok trivial) fun _ => ?_) fun _ => ?_
  ·exact T.bif (fun _ => (T.ixn h2).bind fun _ hx => (yhQ (hs _ hx)).bind fun _ _ => T.bif (fun _ => T.ok trivial) fun _ => hn h3 trivial) fun _ => hn h3 trivial
  ·exact T.bif (fun _ => (T.ixn h2).bind fun _ hx => (yhQ (hs _ hx)).bind fun _ _ => T.bif (fun _ => T.ok trivial) fun _ => hn h3 trivial) fun _ => hn h3 trivial
 ·cases r <;> exact T.ok trivial
def NdOk (n : Nd) : Prop := n.2.2.2.1.length ≤ 1048576 ∧ n.2.2.2.2.1.length ≤ 1048576 ∧ n.2.2.2.2.2.1.length ≤ 1048576 ∧ n.2.2.2.2.2.2.1.length ≤ 1048576 ∧ (∀ s ∈ n.2.2.2.2.2.2.1, s.length ≤ 1048576) ∧ n.2.2.2.2.2.2.2.2.2.2.2.1.length ≤ 1048576 ∧ ∀ s ∈ n.2.2.2.2.2.2.2.2.2.2.2.1, s.length ≤ 1048576
theorem yzA {n : Nd} (h : NdOk n) : T (zfC zaB n) fun b => b = true → 0 ≤ npar n := by
 obtain ⟨h1, h2, h3, h4, h5, h6, h7⟩ := h
 unfold zfC
 refine T.bind (Q := fun r => match r with
  | .inl b => b = false
  | .inr m => m = n ∧ 0 ≤ npar n) ?_ fun r hr => ?_
 ·unfold zlU
  refine T.dif (fun _ => T.ok rfl) fun _ => T.dif (fun _ => T.ok rfl) fun _ => T.dif (fun _ => T.ok rfl) fun hp => (ymV h1).bind fun _ _ => T.bif (fun _ => T.ok rfl) fun _ => ?_
  have hp : 0 ≤ npar n := by show 0 ≤ n.2.2.1; omega
  refine T.bif (fun _ => (yeP h2).bind fun _ _ => T.bif (fun _ => T.ok rfl) fun _ => ?_) fun _ => ?_
  ·exact T.bif (fun _ => (yeM h3).bind fun _ _ => T.bif (fun _ => T.ok rfl) fun _ => T.ok ⟨rfl, hp⟩) fun _ => T.ok ⟨rfl, hp⟩
  ·exact T.bif (fun _ => (yeM h3).bind fun _ _ => T.bif (fun _ => T.ok rfl) fun _ => T.ok ⟨rfl, hp⟩) fun _ => T.ok ⟨rfl, hp⟩
 ·cases r with
  | inl b => exact T.ok fun e => by rw [hr] at e; cases e
  | inr m =>
   obtain ⟨rfl, hp⟩ := hr
   refine T.bind (Q := fun r => match r with
    | .inl b => True
    | .inr m' => m' = m) (T.iter (fun x => x.2 = m ∧ 0 ≤ x.1 ∧ x.1 ≤ (m.2.2.2.2.2.2.2.2.2.2.2.1.length : Int)) (fun x => m.2.2.2.2.2.2.2.2.2.2.2.1.length - x.1.toNat) _ (fun x hx => ?_) ⟨rfl, Int.le_refl _, by simp⟩ (by simp; omega)) fun r hr => ?_
   ·obtain ⟨i, v⟩ := x
    obtain ⟨rfl, h8, h9⟩ := hx
    simp only at h8 h9
    obtain ⟨k, rfl⟩ : ∃ k : Nat, i = k := ⟨i.toNat, by omega⟩
    unfold zlW
    simp only [] at h6 h7 ⊢
    refine T.dif (fun h2 => (T.ixn h2).bind fun _ hx => (ymV (h7 _ hx)).bind fun _ _ => T.bif (fun _ => T.ok trivial) fun _ => T.ok ⟨⟨rfl, ?_, ?_⟩, ?_⟩) fun _ => T.ok rfl
    ·rw [zdE (by omega)]; omega
    ·rw [zdE (by omega)]; omega
    ·rw [zdE (by omega)]; omega
   ·cases r with
    | inl b => exact T.ok fun _ => hp
    | inr m' =>
     simp only at hr
     subst hr
     refine T.bind (Q := fun r => r.2 = m') ?_ fun r hr => ?_
     ·unfold zmL
      exact T.dif (fun _ => T.dif (fun _ => T.dif (fun _ => T.ok rfl) fun _ => T.ok rfl) fun _ => T.ok rfl) fun _ => T.ok rfl
     ·obtain ⟨b, v⟩ := r
      simp only at hr
      subst hr
      refine T.bif (fun _ => (ywA h4 h5 _ _).bind fun _ _ => T.bif (fun _ => ?_) fun _ => T.ok fun _ => hp) fun _ => T.ok fun _ => hp
      simp only []
      repeat' first | exact T.ok fun _ => hp | refine T.bif (fun _ => ?_) fun _ => ?_
structure RY (L : List Nd) (nx : Int) : Prop where
 ids : ∀ n ∈ L, n.1 < nx ∧ 0 ≤ npar n ∧ npar n < n.1
 ok : ∀ n ∈ L, NdOk n
 next : 1 ≤ nx ∧ nx ≤ 99999999
 len : L.length ≤ 256
variable {L : List Nd} {nx : Int}
theorem at_t (hl : L.length ≤ 256) (id : Int) : T (zaJ zaB id L nx) fun r => r.2 = (L, nx) ∧ ((r.1 = -1 ∧ ∀ n ∈ L, n.1 ≠ id) ∨ ∃ (k : Nat) (hk : k < L.length), r.1 = (k : Int) ∧ L[k].1 = id) := by
 unfold zaJ
 refine T.bind (Q := fun r => match r with
  | .inl v => v.2 = (L, nx) ∧ ∃ (k : Nat) (hk : k < L.length), v.1 = (k : Int) ∧ L[k].1 = id
  | .inr v => v = (L, nx) ∧ ∀ n ∈ L, n.1 ≠ id) (T.iter (fun x => x.2 = (L, nx) ∧ 0 ≤ x.1 ∧ x.1 ≤ (L.length : Int) ∧ ∀ n ∈ L.take x.1.toNat, n.1 ≠ id) (fun x => L.length - x.1.toNat) _ (fun x hx => ?_) ⟨rfl, Int.le_refl _, by simp, by simp⟩ (by simp; omega)) fun r hr => ?_
 ·obtain ⟨i, v⟩ := x
  obtain ⟨rfl, h8, h9, h10⟩ := hx
  simp only at h8 h9 h10
  obtain ⟨k, rfl⟩ : ∃ k : Nat, i = k := ⟨i.toNat, by omega⟩
  rw [Int.toNat_natCast] at h10
  unfold zhL
  simp only []
  refine T.dif (fun h2 => ?_) fun h2 => T.ok ⟨rfl, ?_⟩
  ·have hk : k < L.length := by omega
   rw [zkF rfl hk, zaA]
   refine T.bif (fun he => T.ok ⟨rfl, k, hk, rfl, beq_iff_eq.1 he⟩) fun he => T.ok ⟨⟨rfl, ?_, ?_, ?_⟩, ?_⟩
   ·simp only []; rw [zdE (by omega)]; omega
   ·simp only []; rw [zdE (by omega)]; omega
   ·simp only []
    rw [zdE (by omega), Int.toNat_natCast, List.take_succ_eq_append_getElem hk]
    intro n hn
    rcases List.mem_append.1 hn with hn | hn
    ·exact h10 n hn
    ·rw [List.mem_singleton] at hn
     subst hn
     intro e
     rw [beq_iff_eq.2 e] at he
     cases he
   ·simp only []; rw [zdE (by omega)]; omega
  ·rw [List.take_of_length_le (by omega)] at h10
   exact h10
 ·cases r with
  | inl v => exact T.ok ⟨hr.1, .inr hr.2⟩
  | inr v => exact T.ok ⟨hr.1, .inl ⟨rfl, hr.2⟩⟩
theorem zyR (hl : L.length ≤ 256) (id : Int) : T (zaC zaB id L nx) fun r => r.2.2 = (L, nx) ∧ ((r.2.1 = true ∧ r.1 ∈ L ∧ r.1.1 = id) ∨ (r.2.1 = false ∧ r.1 = zN)) := by
 unfold zaC
 refine (at_t hl id).bind fun r hr => ?_
 obtain ⟨i, v⟩ := r
 obtain ⟨rfl, hr⟩ := hr
 simp only []
 refine T.dif (fun _ => T.ok ⟨rfl, .inr ⟨rfl, rfl⟩⟩) fun hi => ?_
 rcases hr with ⟨h1, _⟩ | ⟨k, hk, h1, h2⟩
 ·simp only at h1; omega
 ·simp only at h1
  subst h1
  rw [zkF rfl hk, zaA]
  exact T.ok ⟨rfl, .inl ⟨rfl, List.getElem_mem hk, h2⟩⟩
theorem yfL (h : RY L nx) (id : Int) : T (zaN zaB id L nx) fun r => r.1 = L ∧ r.2.1 = nx ∧ r.2.2.length ≤ 99999999 := by
 have hl := h.len
 have hnx := h.next
 unfold zaN
 refine (at_t hl id).bind fun r hr => ?_
 obtain ⟨i, v⟩ := r
 obtain ⟨rfl, hr⟩ := hr
 simp only [] at hr ⊢
 refine T.bind (Q := fun r => r.1 = L ∧ r.2.1 = nx ∧ r.2.2.length ≤ 99999999) (T.iter (fun x => x.2.1 = L ∧ x.2.2.1 = nx ∧ (x.1 = -1 ∧ x.2.2.2.length ≤ 99999999 ∨ ∃ (k : Nat) (hk : k < L.length), x.1 = (k : Int) ∧ x.2.2.2.length + L[k].1.toNat < 99999999)) (fun x => if x.1 < 0 then 0 else (match L[x.1.toNat]? with | some n => n.1.toNat + 1 | none => 0)) _ (fun x hx => ?_) ⟨rfl, rfl, ?_⟩ ?_) fun r hr => T.ok hr
 ·obtain ⟨j, L', nx', acc⟩ := x
  obtain ⟨e1, e2, hx⟩ := hx
  simp only at e1 e2 hx
  subst e1 e2
  unfold zgE
  simp only []
  rcases hx with ⟨rfl, ha⟩ | ⟨k, hk, rfl, ha⟩
  ·rw [zqA (by omega)]
   exact T.ok ⟨rfl, rfl, ha⟩
  ·have hn := h.ids _ (List.getElem_mem hk)
   rw [znS (by omega), zkF rfl hk, zaA, zrW (by simp; omega), zaA, zaA]
   refine (at_t hl _).bind fun r hr => ?_
   obtain ⟨i2, v⟩ := r
   obtain ⟨rfl, hr⟩ := hr
   simp only [] at hr
   rw [show (L'[k].2.2.1) = npar L'[k] from rfl] at hr
   rcases hr with ⟨rfl, _⟩ | ⟨k2, hk2, rfl, h2⟩
   ·refine T.ok ⟨⟨rfl, rfl, .inl ⟨rfl, ?_⟩⟩, ?_⟩
    ·simp; omega
    ·simp only [Int.toNat_natCast]
     rw [if_pos (by omega), if_neg (by omega), List.getElem?_eq_getElem hk]
     simp only []
     omega
   ·refine T.ok ⟨⟨rfl, rfl, .inr ⟨k2, hk2, rfl, ?_⟩⟩, ?_⟩
    ·rw [h2]; simp; omega
    ·simp only [Int.toNat_natCast]
     rw [if_neg (by omega), if_neg (by omega), List.getElem?_eq_getElem hk2, List.getElem?_eq_getElem hk]
     simp only [h2]
     omega
 ·rcases hr with ⟨rfl, _⟩ | ⟨k, hk, rfl, h2⟩
  ·exact .inl ⟨rfl, by simp⟩
  ·have hn := h.ids _ (List.getElem_mem hk)
   exact .inr ⟨k, hk, rfl, by simp; omega⟩
 ·split
  ·omega
  ·split
   ·rename_i n hn
    have := h.ids _ (List.mem_of_getElem? hn)
    have h3 : n.1.toNat < 99999999 := by omega
    exact Nat.lt_of_lt_of_le (Nat.succ_lt_succ h3) (by decide)
   ·omega
theorem yfY (h : RY L nx) (id : Int) : T (zaT zaB id L nx) fun r => r.2 = (L, nx) := by
 unfold zaT
 refine (yfL h id).bind fun r hr => ?_
 obtain ⟨L', nx', l⟩ := r
 obtain ⟨e1, e2, hl⟩ := hr
 simp only at e1 e2 hl
 subst e1 e2
 refine T.bind (Q := fun r => match r with
  | .inl v => v.2 = (L', nx')
  | .inr v => v = (L', nx')) (T.iter (fun x => x.2 = (L', nx', l) ∧ 0 ≤ x.1 ∧ x.1 ≤ (l.length : Int)) (fun x => l.length - x.1.toNat) _ (fun x hx => ?_) ⟨rfl, Int.le_refl _, by simp⟩ (by simp; omega)) fun r hr => ?_
 ·obtain ⟨i, v⟩ := x
  obtain ⟨rfl, h8, h9⟩ := hx
  simp only at h8 h9
  obtain ⟨k, rfl⟩ : ∃ k : Nat, i = k := ⟨i.toNat, by omega⟩
  unfold zeX
  simp only []
  refine T.dif (fun h2 => ?_) fun _ => T.ok rfl
  rw [decide_eq_true (show (0 : Int) ≤ (k : Int) by omega), decide_eq_true h2, Bool.and_self, zoG rfl, zaA]
  refine (T.ixn h2).bind fun _ _ => (zyR h.len _).bind fun r hr => ?_
  obtain ⟨n, b, v⟩ := r
  obtain ⟨rfl, _⟩ := hr
  refine T.bif (fun _ => T.ok rfl) fun _ => T.ok ⟨⟨rfl, ?_, ?_⟩, ?_⟩
  ·simp only []; rw [zdE (by omega)]; omega
  ·simp only []; rw [zdE (by omega)]; omega
  ·simp only []; rw [zdE (by omega)]; omega
 ·cases r <;> exact T.ok hr
theorem yfR (h : RY L nx) (id now : Int) : T (zaP zaB id now L nx) fun r => r.2 = (L, nx) := by
 unfold zaP
 refine (zyR h.len _).bind fun r hr => ?_
 obtain ⟨n, b, v⟩ := r
 obtain ⟨rfl, _⟩ := hr
 simp only []
 exact T.bif (fun _ => T.bif (fun _ => T.bif (fun _ => (yfY h id).bind fun _ hr => T.ok hr) fun _ => T.ok rfl) fun _ => T.ok rfl) fun _ => T.ok rfl
theorem ytM (h : RY L nx) (id on : Int) : T (zbT zaB id on L nx) fun r => r.2 = (L, nx) := by
 unfold zbT
 refine (yfL h id).bind fun r hr => ?_
 obtain ⟨L', nx', l⟩ := r
 obtain ⟨e1, e2, hl⟩ := hr
 simp only at e1 e2 hl
 subst e1 e2
 refine T.bind (Q := fun r => match r with
  | .inl v => v.2 = (L', nx')
  | .inr v => v = (L', nx')) (T.iter (fun x => x.2 = (L', nx', l) ∧ 0 ≤ x.1 ∧ x.1 ≤ (l.length : Int)) (fun x => l.length - x.1.toNat) _ (fun x hx => ?_) ⟨rfl, Int.le_refl _, by simp⟩ (by simp; omega)) fun r hr => ?_
 ·obtain ⟨i, v⟩ := x
  obtain ⟨rfl, h8, h9⟩ := hx
  simp only at h8 h9
  obtain ⟨k, rfl⟩ : ∃ k : Nat, i = k := ⟨i.toNat, by omega⟩
  unfold zfX
  simp only []
  refine T.dif (fun h2 => ?_) fun _ => T.ok rfl
  rw [decide_eq_true (show (0 : Int) ≤ (k : Int) by omega), decide_eq_true h2, Bool.and_self, zoG rfl, zaA]
  refine (T.ixn h2).bind fun _ _ => T.bif (fun _ => T.ok rfl) fun _ => T.ok ⟨⟨rfl, ?_, ?_⟩, ?_⟩
  ·simp only []; rw [zdE (by omega)]; omega
  ·simp only []; rw [zdE (by omega)]; omega
  ·simp only []; rw [zdE (by omega)]; omega
 ·cases r <;> exact T.ok hr
end
section
variable {L : List Nd} {nx : Int}
theorem ykK (hl : L.length ≤ 256) (sec : L8) : T (zaX zaB sec L nx) fun r => r.2.2 = (L, nx) ∧ (r.1 ∈ L ∨ r.1 = zN) := by
 unfold zaX
 refine T.bind (Q := fun r => match r with
  | .inl v => v.2.1 = L ∧ v.2.2.1 = nx ∧ v.2.2.2 ∈ L
  | .inr v => v.1 = L ∧ v.2.1 = nx) (T.iter (fun x => x.2.1 = L ∧ x.2.2.1 = nx ∧ 0 ≤ x.1 ∧ x.1 ≤ (L.length : Int)) (fun x => L.length - x.1.toNat) _ (fun x hx => ?_) ⟨rfl, rfl, Int.le_refl _, by simp⟩ (by simp; omega)) fun r hr => ?_
 ·obtain ⟨i, L', nx', v⟩ := x
  obtain ⟨e1, e2, h8, h9⟩ := hx
  simp only at e1 e2 h8 h9
  subst e1 e2
  obtain ⟨k, rfl⟩ : ∃ k : Nat, i = k := ⟨i.toNat, by omega⟩
  unfold zfV
  simp only []
  refine T.dif (fun h2 => (T.ixn h2).bind fun _ _ => T.bif (fun _ => (T.ixn h2).bind fun _ hx => T.ok ⟨rfl, rfl, hx⟩) fun _ => T.ok ⟨⟨rfl, rfl, ?_, ?_⟩, ?_⟩) fun _ => T.ok ⟨rfl, rfl⟩
  ·simp only []; rw [zdE (by omega)]; omega
  ·simp only []; rw [zdE (by omega)]; omega
  ·simp only []; rw [zdE (by omega)]; omega
 ·cases r with
  | inl v =>
   obtain ⟨b, L', nx', n⟩ := v
   obtain ⟨e1, e2, h⟩ := hr
   simp only at e1 e2 h
   subst e1 e2
   exact T.ok ⟨rfl, .inl h⟩
  | inr v =>
   obtain ⟨L', nx', n⟩ := v
   obtain ⟨e1, e2⟩ := hr
   simp only at e1 e2
   subst e1 e2
   exact T.ok ⟨rfl, .inr rfl⟩
theorem ygH (h : RY L nx) (now : Int) : T (zaW zaB now L nx) fun r => r.2.1 = nx ∧ (∀ n ∈ r.2.2, n ∈ L) ∧ r.2.2.length ≤ L.length := by
 have hl := h.len
 unfold zaW
 refine T.bind (Q := fun r => r.1 = L ∧ r.2.1 = nx ∧ (∀ n ∈ r.2.2, n ∈ L) ∧ r.2.2.length ≤ L.length) (T.iter (fun x => x.2.1 = L ∧ x.2.2.1 = nx ∧ 0 ≤ x.1 ∧ x.1 ≤ (L.length : Int) ∧ (∀ n ∈ x.2.2.2, n ∈ L) ∧ (x.2.2.2.length : Int) ≤ x.1) (fun x => L.length - x.1.toNat) _ (fun x hx => ?_) ⟨rfl, rfl, Int.le_refl _, by simp, by simp, by simp⟩ (by simp; omega)) fun r hr => ?_
 ·obtain ⟨i, L', nx', out⟩ := x
  obtain ⟨e1, e2, h8, h9, h10, h11⟩ := hx
  simp only at e1 e2 h8 h9 h10 h11
  subst e1 e2
  obtain ⟨k, rfl⟩ : ∃ k : Nat, i = k := ⟨i.toNat, by omega⟩
  unfold zfG
  simp only []
  refine T.dif (fun h2 => ?_) fun h2 => T.ok ⟨rfl, rfl, h10, by simp only []; omega⟩
  have hin : T (iter (fun x => zcY zaB now (k : Int) x.1 x.2.1 x.2.2.1 x.2.2.2.1 x.2.2.2.2) (false, (k : Int), L', nx', out)) fun r => r.2 = (L', nx', out) := by
   refine T.iter (fun x => x.2.2 = (L', nx', out) ∧ 0 ≤ x.2.1 ∧ x.2.1 ≤ (L'.length : Int)) (fun x => L'.length - x.2.1.toNat) _ (fun x hx => ?_) ⟨rfl, h8, h9⟩ (by simp; omega)
   obtain ⟨b, j, v⟩ := x
   obtain ⟨rfl, h12, h13⟩ := hx
   simp only at h12 h13
   obtain ⟨j, rfl⟩ : ∃ q : Nat, j = q := ⟨j.toNat, by omega⟩
   unfold zcY
   simp only []
   refine T.bind (Q := fun r => match r with
    | .inl v => v = (L', nx', out) ∧ (j : Int) < (L'.length : Int)
    | .inr v => v = (L', nx', out)) ?_ fun r hr => ?_
   ·unfold zfF
    exact T.dif (fun h3 => T.bif (fun _ => T.ok ⟨rfl, h3⟩) fun _ => T.ok rfl) fun _ => T.ok rfl
   ·cases r with
    | inr v => exact T.ok hr
    | inl v =>
     obtain ⟨rfl, h3⟩ := hr
     simp only []
     have hw : ∀ b : Bool, (fun r : (Bool × Int × (List Nd) × Int × List Nd) ⊕ ((Bool × (List Nd) × Int × List Nd)) => match r with
       | .inl s' => (s'.2.2 = (L', nx', out) ∧ 0 ≤ s'.2.1 ∧ s'.2.1 ≤ (L'.length : Int)) ∧ L'.length - s'.2.1.toNat < L'.length - ((j : Int)).toNat
       | .inr b => b.2 = (L', nx', out)) (.inl (b, w64 ((j : Int) + 1), L', nx', out)) := fun b => by
      rw [zdE (by omega)]
      exact ⟨⟨rfl, by show (0 : Int) ≤ ((j + 1 : Nat) : Int); omega, by show ((j + 1 : Nat) : Int) ≤ (L'.length : Int); omega⟩, by show L'.length - (((j + 1 : Nat) : Int)).toNat < _; omega⟩
     refine (T.ixn h3).bind fun _ _ => (yfR h _ now).bind fun r hr => ?_
     obtain ⟨b2, v⟩ := r
     simp only at hr
     subst hr
     refine T.bif (fun _ => (T.ixn h3).bind fun _ _ => (T.ixn h2).bind fun _ _ => (ytM h _ _).bind fun r hr => ?_) fun _ => T.ok (hw false)
     obtain ⟨b3, v⟩ := r
     simp only at hr
     subst hr
     exact T.ok (hw b3)
  refine hin.bind fun r hr => ?_
  obtain ⟨b, v⟩ := r
  simp only at hr
  subst hr
  refine T.bif (fun _ => ?_) fun _ => T.ok ⟨⟨rfl, rfl, ?_, ?_, h10, ?_⟩, ?_⟩
  ·refine (T.ixn h2).bind fun n hn => ?_
   simp only []
   rw [zrW (by simp; omega), zaA]
   refine T.ok ⟨⟨rfl, rfl, ?_, ?_, fun m hm => ?_, ?_⟩, ?_⟩
   ·simp only []; rw [zdE (by omega)]; omega
   ·simp only []; rw [zdE (by omega)]; omega
   ·rcases List.mem_append.1 hm with hm | hm
    ·exact h10 m hm
    ·rw [List.mem_singleton] at hm
     subst hm
     exact hn
   ·simp only []; rw [zdE (by omega), List.length_append, List.length_singleton]; omega
   ·simp only []; rw [zdE (by omega)]; omega
  ·simp only []; rw [zdE (by omega)]; omega
  ·simp only []; rw [zdE (by omega)]; omega
  ·simp only []; rw [zdE (by omega)]; omega
  ·simp only []; rw [zdE (by omega)]; omega
 ·obtain ⟨L', nx', out⟩ := r
  obtain ⟨e1, e2, h10, h11⟩ := hr
  exact T.ok ⟨e2, h10, h11⟩
theorem ymZ {α : Type} {l : List α} {i : Int} {x : α} (h0 : 0 ≤ i) (h : i < (l.length : Int)) : T (setL l i x) fun r => ∃ k : Nat, r = l.set k x := by
 obtain ⟨k, rfl⟩ : ∃ k : Nat, i = k := ⟨i.toNat, by omega⟩
 unfold setL
 rw [decide_eq_true (show (0 : Int) ≤ (k : Int) by omega), decide_eq_true h]
 exact ⟨_, rfl, k, by simp⟩
theorem ynC (h : RY L nx) {n m : Nd} (hm : m ∈ L) (h1 : n.1 = m.1) (h2 : npar n = npar m) (h3 : NdOk n) : T (zaI zaB n L nx) fun r => r.1 = nx ∧ RY r.2 nx ∧ r.2.length = L.length := by
 have hl := h.len
 unfold zaI
 refine (at_t hl _).bind fun r hr => ?_
 obtain ⟨i, v⟩ := r
 obtain ⟨rfl, hr⟩ := hr
 simp only [] at hr ⊢
 rw [zlR _ (by omega), zaA]
 rcases hr with ⟨_, hn⟩ | ⟨k, hk, rfl, h4⟩
 ·exact absurd h1.symm (hn m hm)
 ·rw [decide_eq_true (show (0 : Int) ≤ (k : Int) by omega), decide_eq_true (show (k : Int) < (L.length : Int) by omega), Bool.and_self, zoG rfl, zaA]
  refine (ymZ (by omega) (by omega)).bind fun r hr => ?_
  obtain ⟨j, rfl⟩ := hr
  have hmm : ∀ q ∈ L.set j n, q ∈ L ∨ q = n := fun q hq => List.mem_or_eq_of_mem_set hq
  exact T.ok ⟨rfl, {
    ids := fun q hq => by
     rcases hmm q hq with hq | rfl
     ·exact h.ids q hq
     ·have := h.ids m hm
      rw [h1, h2]
      exact this
    ok := fun q hq => by
     rcases hmm q hq with hq | rfl
     ·exact h.ok q hq
     ·exact h3
    next := h.next
    len := by rw [List.length_set]; exact hl }, List.length_set ..⟩
abbrev Rk : Int × List Nd × Int → Prop := fun r => RY r.2.1 r.2.2
theorem ynT (h : RY L nx) (id : Int) : T (zaZ zaB id L nx) Rk := by
 unfold zaZ
 refine (zyR h.len _).bind fun r hr => ?_
 obtain ⟨n, b, v⟩ := r
 obtain ⟨rfl, hr⟩ := hr
 simp only [] at hr ⊢
 rcases hr with ⟨rfl, hn, _⟩ | ⟨rfl, _⟩
 ·refine T.bif (fun _ => T.ok h) fun _ => (ynC h hn (by exact rfl) (by exact rfl) (by have hh := h.ok _ hn; exact hh)).bind fun r hr => ?_
  obtain ⟨q, L'⟩ := r
  obtain ⟨rfl, hr, _⟩ := hr
  exact T.ok hr
 ·exact T.ok h
theorem yqV (h : RY L nx) (id now : Int) : T (zbL zaB id now L nx) Rk := by
 unfold zbL
 refine (zyR h.len _).bind fun r hr => ?_
 obtain ⟨n, b, v⟩ := r
 obtain ⟨rfl, hr⟩ := hr
 simp only [] at hr ⊢
 rcases hr with ⟨rfl, hn, _⟩ | ⟨rfl, _⟩
 ·refine T.bif (fun _ => T.ok h) fun _ => T.bif (fun _ => (ynT h id).bind fun r hr => T.ok hr) fun _ => (yfR h id now).bind fun r hr => ?_
  obtain ⟨b, v⟩ := r
  simp only at hr
  subst hr
  refine T.bif (fun _ => T.ok h) fun _ => (ynC h hn (by exact rfl) (by exact rfl) (by have hh := h.ok _ hn; exact hh)).bind fun r hr => ?_
  obtain ⟨q, L'⟩ := r
  obtain ⟨rfl, hr, _⟩ := hr
  exact T.ok hr
 ·exact T.ok h
theorem yxF (h : RY L nx) (id l : Int) : T (zbS zaB id l L nx) Rk := by
 unfold zbS
 refine (zyR h.len _).bind fun r hr => ?_
 obtain ⟨n, b, v⟩ := r
 obtain ⟨rfl, hr⟩ := hr
 refine T.bind (Q := fun r => match r with
  | .inl v => v.2 = (L, nx)
  | .inr v => v.1 = L ∧ v.2.1 = nx ∧ v.2.2 ∈ L) ?_ fun r hr => ?_
 ·unfold zgC
  simp only [] at hr ⊢
  rcases hr with ⟨rfl, hn, _⟩ | ⟨rfl, _⟩
  ·exact T.bif (fun _ => T.ok rfl) fun _ => T.bif (fun _ => T.ok rfl) fun _ => T.dif (fun _ => T.ok rfl) fun _ => T.dif (fun _ => T.ok rfl) fun _ => T.ok ⟨rfl, rfl, hn⟩
  ·exact T.ok rfl
 ·cases r with
  | inl v =>
   obtain ⟨e, v⟩ := v
   simp only at hr
   subst hr
   exact T.ok h
  | inr v =>
   obtain ⟨L', nx', m⟩ := v
   obtain ⟨e1, e2, hm⟩ := hr
   simp only at e1 e2 hm
   subst e1 e2
   refine T.dif (fun _ => (ynC h hm (by exact rfl) (by exact rfl) (by have hh := h.ok _ hm; exact hh)).bind fun r hr => ?_) fun _ => T.ok h
   obtain ⟨q, L'⟩ := r
   obtain ⟨rfl, hr, _⟩ := hr
   exact T.ok hr
theorem ywS (h : RY L nx) (id : Int) (d : L8) : T (zbR zaB id d L nx) Rk := by
 unfold zbR
 refine (zyR h.len _).bind fun r hr => ?_
 obtain ⟨n, b, v⟩ := r
 obtain ⟨rfl, hr⟩ := hr
 refine T.bind (Q := fun r => match r with
  | .inl v => v.2 = (L, nx)
  | .inr v => v.1 = L ∧ v.2.1 = nx ∧ v.2.2 ∈ L) ?_ fun r hr => ?_
 ·unfold zgA
  simp only [] at hr ⊢
  rcases hr with ⟨rfl, hn, _⟩ | ⟨rfl, _⟩
  ·exact T.bif (fun _ => T.ok rfl) fun _ => T.dif (fun _ => T.ok rfl) fun _ => T.ok ⟨rfl, rfl, hn⟩
  ·exact T.ok rfl
 ·cases r with
  | inl v =>
   obtain ⟨e, v⟩ := v
   simp only at hr
   subst hr
   exact T.ok h
  | inr v =>
   obtain ⟨L', nx', m⟩ := v
   obtain ⟨e1, e2, hm⟩ := hr
   simp only at e1 e2 hm
   subst e1 e2
   refine (ynC h hm (by exact rfl) (by exact rfl) (by have hh := h.ok _ hm; exact hh)).bind fun r hr => ?_
   obtain ⟨q, L'⟩ := r
   obtain ⟨rfl, hr, _⟩ := hr
   exact T.ok hr
theorem ymO (h : RY L nx) (s : L8) : T (zbH zaB s L nx) Rk := by
 have hl := h.len
 unfold zbH
 refine T.bind (Q := Rk) (T.iter (fun x => RY x.2.2.1 x.2.2.2 ∧ x.2.2.1.length = L.length ∧ 0 ≤ x.2.1 ∧ x.2.1 ≤ (L.length : Int)) (fun x => L.length - x.2.1.toNat) _ (fun x hx => ?_) ⟨h, rfl, Int.le_refl _, by simp⟩ (by simp; omega)) fun r hr => T.ok hr
 obtain ⟨m, i, L', nx'⟩ := x
 obtain ⟨h, e1, h8, h9⟩ := hx
 simp only at h e1 h8 h9
 obtain ⟨k, rfl⟩ : ∃ k : Nat, i = k := ⟨i.toNat, by omega⟩
 unfold zfK
 simp only []
 refine T.dif (fun h2 => (T.ixn h2).bind fun n hn => ?_) fun _ => T.ok h
 refine T.bind (Q := fun r => r.2 = (L', nx', n)) ?_ fun r hr => ?_
 ·unfold zfS
  refine T.bif (fun _ => ?_) fun _ => T.ok rfl
  have := (h.ok n hn).2.1
  rw [zrW (by simp; omega), zaA]
  exact T.ok rfl
 ·obtain ⟨b, v⟩ := r
  simp only at hr
  subst hr
  refine T.bind (Q := fun r => r.2 = (L', nx', n)) ?_ fun r hr => ?_
  ·unfold zfE
   exact T.bif (fun _ => T.bif (fun _ => T.ok rfl) fun _ => T.ok rfl) fun _ => T.ok rfl
  ·obtain ⟨b, v⟩ := r
   simp only at hr
   subst hr
   simp only []
   refine T.bif (fun _ => (ynC h hn (by exact rfl) (by exact rfl) (by have hh := h.ok _ hn; exact hh)).bind fun r hr => ?_) fun _ => T.ok ⟨⟨h, e1, ?_, ?_⟩, ?_⟩
   ·obtain ⟨q, L2⟩ := r
    obtain ⟨rfl, hr, e2⟩ := hr
    refine T.ok ⟨⟨hr, e2.trans e1, ?_, ?_⟩, ?_⟩
    ·simp only []; rw [zdE (by omega)]; omega
    ·simp only []; rw [zdE (by omega)]; omega
    ·simp only []; rw [zdE (by omega)]; omega
   ·simp only []; rw [zdE (by omega)]; omega
   ·simp only []; rw [zdE (by omega)]; omega
   ·simp only []; rw [zdE (by omega)]; omega
theorem yqW (h : RY L nx) {n : Nd} (hn : NdOk n) (now : Int) : T (zbM zaB n now L nx) fun r => RY r.2.2.1 r.2.2.2 := by
 have hnx := h.next
 unfold zbM
 refine (yzA hn).bind fun b hb => T.bif (fun _ => T.ok h) fun hb2 => ?_
 have hp0 : 0 ≤ npar n := hb (by simpa using hb2)
 refine (ykK h.len _).bind fun r hr => ?_
 obtain ⟨q, b2, v⟩ := r
 obtain ⟨rfl, _⟩ := hr
 simp only []
 refine T.bif (fun _ => T.ok h) fun _ => ?_
 refine T.bind (Q := fun r => match r with
  | .inl v => v.2.2 = (L, nx)
  | .inr v => v = (L, nx, n) ∧ npar n < nx) ?_ fun r hr => ?_
 ·unfold zfN
  simp only []
  refine T.dif (fun hp => (at_t h.len _).bind fun r hr => ?_) fun hp => T.ok ⟨rfl, by show n.2.2.1 < nx; omega⟩
  obtain ⟨i, v⟩ := r
  obtain ⟨rfl, hr⟩ := hr
  simp only [] at hr ⊢
  refine T.dif (fun _ => T.ok rfl) fun hi => (yfY h _).bind fun r hr2 => ?_
  obtain ⟨b, v⟩ := r
  simp only at hr2
  subst hr2
  refine T.bif (fun _ => T.ok rfl) fun _ => T.ok ⟨rfl, ?_⟩
  rcases hr with ⟨rfl, _⟩ | ⟨k, hk, _, h2⟩
  ·omega
  ·have := h.ids _ (List.getElem_mem hk)
   show n.2.2.1 < nx
   omega
 ·cases r with
  | inl v =>
   obtain ⟨a, e, v⟩ := v
   simp only at hr
   subst hr
   exact T.ok h
  | inr v =>
   obtain ⟨rfl, hp1⟩ := hr
   simp only []
   refine (ygH h now).bind fun r hr => ?_
   obtain ⟨m, nx', out⟩ := r
   obtain ⟨e1, hsub, hlen⟩ := hr
   simp only at e1 hsub hlen
   subst e1
   have hO : RY out nx' := ⟨fun q hq => h.ids q (hsub q hq), fun q hq => h.ok q (hsub q hq), h.next, Nat.le_trans hlen h.len⟩
   have hn4 : n.2.2.2.2.2.2.1.length ≤ 1048576 := hn.2.2.2.1
   have hn6 : n.2.2.2.2.2.2.2.2.2.2.2.1.length ≤ 1048576 := hn.2.2.2.2.2.1
   unfold zfI
   simp only []
   by_cases hg : out.length ≥ 256
   ·rw [znS (by omega)]
    exact T.ok hO
   ·rw [zqA (by omega)]
    by_cases hx : nx' ≥ 99999999
    ·rw [znS hx]
     exact T.ok hO
    ·rw [zqA hx, zaA]
     simp only []
     rw [zlR _ (by omega), zaA]
     unfold zfR
     simp only []
     rw [zlR _ (by omega), zaA, zaA]
     simp only []
     rw [zlR _ (by omega), zaA, zrW (by simp; omega), zaA, znA (by omega) (by omega)]
     refine T.ok {
       ids := fun q hq => ?_
       ok := fun q hq => ?_
       next := ⟨by simp only []; omega, by simp only []; omega⟩
       len := by simp only [List.length_append, List.length_singleton]; omega }
     ·rcases List.mem_append.1 hq with hq | hq
      ·have := hO.ids q hq
       exact ⟨by simp only []; omega, this.2⟩
      ·rw [List.mem_singleton] at hq
       subst hq
       exact ⟨by simp only []; omega, hp0, hp1⟩
     ·rcases List.mem_append.1 hq with hq | hq
      ·exact hO.ok q hq
      ·rw [List.mem_singleton] at hq
       subst hq
       exact hn
end
end Go.Proofs.YtebbcofojchkpaaGreatDoor.Am
