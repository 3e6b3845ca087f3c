/- What some functions compute, over plain values, and that they do. Forests: what is planted by a script: plain laws. Forests: what is told, spent, lifted, noted: plain laws. Forests: all of a principal's nodes killed: plain laws. Conditions: as each theorem says. -/
import Derived.KernelRfl
import Derived.Test.YtebbcofojchkpaaGreatDoorQkK
namespace Go.Proofs.YtebbcofojchkpaaGreatDoor.Am
open Go Go.RowKit
def τWkM : TE := [(3, ⟨.int .i64, 1, [.v (.i .i64) (show Int from 0)], (.i .i64), 8⟩),
 (4, ⟨.b, 1, [.v .b (show Bool from false)], .b, 1⟩),
 (9, ⟨.s, 1, [.v .s (show Bs from [])], .s, 16⟩),
 (25, ⟨.pt 75, 1, [.nilp], .un, 8⟩),
 (35, ⟨.sl 47, 1, [.nils], (.sl (.pr (.i .i64) (.pr (.i .i64) (.pr (.i .i64) (.pr .s (.pr .s (.pr .s (.pr (.sl .s) (.pr (.i .i64) (.pr (.i .i64) (.pr .b (.pr .b (.pr (.sl .s) (.pr (.i .i64) (.pr .s .s))))))))))))))), 24⟩),
 (38, ⟨.st [(35, 0), (3, 1)], 2, [.nils, .v (.i .i64) (show Int from 0)], (.pr (.sl (.pr (.i .i64) (.pr (.i .i64) (.pr (.i .i64) (.pr .s (.pr .s (.pr .s (.pr (.sl .s) (.pr (.i .i64) (.pr (.i .i64) (.pr .b (.pr .b (.pr (.sl .s) (.pr (.i .i64) (.pr .s .s))))))))))))))) (.i .i64)), 32⟩),
 (41, ⟨.sl 50, 1, [.nils], (.sl (.pr (.i .i64) (.pr (.i .i64) (.pr (.i .i64) (.pr (.i .i64) (.pr .s (.pr (.i .i64) (.pr (.i .i64) (.pr (.i .i64) (.pr .s (.pr .s (.pr .s (.pr (.sl .s) (.pr (.i .i64) (.pr (.i .i64) (.pr .b (.pr .b (.pr (.sl .s) (.pr (.i .i64) (.pr .s .s)))))))))))))))))))), 24⟩),
 (44, ⟨.sl 3, 1, [.nils], (.sl (.i .i64)), 24⟩),
 (45, ⟨.sl 9, 1, [.nils], (.sl .s), 24⟩),
 (47, ⟨.st [(3, 0), (3, 1), (3, 2), (9, 3), (9, 4), (9, 5), (45, 6), (3, 7), (3, 8), (4, 9), (4, 10), (45, 11), (3, 12), (9, 13), (9, 14)], 15, [.v (.i .i64) (show Int from 0), .v (.i .i64) (show Int from 0), .v (.i .i64) (show Int from 0), .v .s (show Bs from []), .v .s (show Bs from []), .v .s (show Bs from []), .nils, .v (.i .i64) (show Int from 0), .v (.i .i64) (show Int from 0), .v .b (show Bool from false), .v .b (show Bool from false), .nils, .v (.i .i64) (show Int from 0), .v .s (show Bs from []), .v .s (show Bs from [])], (.pr (.i .i64) (.pr (.i .i64) (.pr (.i .i64) (.pr .s (.pr .s (.pr .s (.pr (.sl .s) (.pr (.i .i64) (.pr (.i .i64) (.pr .b (.pr .b (.pr (.sl .s) (.pr (.i .i64) (.pr .s .s)))))))))))))), 184⟩),
 (50, ⟨.st [(3, 0), (3, 1), (3, 2), (3, 3), (9, 4), (47, 5)], 20, [.v (.i .i64) (show Int from 0), .v (.i .i64) (show Int from 0), .v (.i .i64) (show Int from 0), .v (.i .i64) (show Int from 0), .v .s (show Bs from []), .v (.i .i64) (show Int from 0), .v (.i .i64) (show Int from 0), .v (.i .i64) (show Int from 0), .v .s (show Bs from []), .v .s (show Bs from []), .v .s (show Bs from []), .nils, .v (.i .i64) (show Int from 0), .v (.i .i64) (show Int from 0), .v .b (show Bool from false), .v .b (show Bool from false), .nils, .v (.i .i64) (show Int from 0), .v .s (show Bs from []), .v .s (show Bs from [])], (.pr (.i .i64) (.pr (.i .i64) (.pr (.i .i64) (.pr (.i .i64) (.pr .s (.pr (.i .i64) (.pr (.i .i64) (.pr (.i .i64) (.pr .s (.pr .s (.pr .s (.pr (.sl .s) (.pr (.i .i64) (.pr (.i .i64) (.pr .b (.pr .b (.pr (.sl .s) (.pr (.i .i64) (.pr .s .s))))))))))))))))))), 232⟩),
 (57, ⟨.sl 4, 1, [.nils], (.sl .b), 24⟩),
 (73, ⟨.map 3 81, 1, [.nilm], (.mp (.i .i64) (.pr (.i .i64) (.pr (.i .i64) (.pr (.i .i64) (.pr .s (.pr .s (.pr .s (.pr (.sl .s) (.pr (.i .i64) (.pr (.i .i64) (.pr .b (.pr .b (.pr (.sl .s) (.pr (.i .i64) (.pr .s .s))))))))))))))), 8⟩),
 (75, ⟨.st [(73, 0), (3, 1)], 2, [.nilm, .v (.i .i64) (show Int from 0)], (.pr (.mp (.i .i64) (.pr (.i .i64) (.pr (.i .i64) (.pr (.i .i64) (.pr .s (.pr .s (.pr .s (.pr (.sl .s) (.pr (.i .i64) (.pr (.i .i64) (.pr .b (.pr .b (.pr (.sl .s) (.pr (.i .i64) (.pr .s .s))))))))))))))) (.i .i64)), 16⟩),
 (81, ⟨.st [(47, 0)], 15, [.v (.i .i64) (show Int from 0), .v (.i .i64) (show Int from 0), .v (.i .i64) (show Int from 0), .v .s (show Bs from []), .v .s (show Bs from []), .v .s (show Bs from []), .nils, .v (.i .i64) (show Int from 0), .v (.i .i64) (show Int from 0), .v .b (show Bool from false), .v .b (show Bool from false), .nils, .v (.i .i64) (show Int from 0), .v .s (show Bs from []), .v .s (show Bs from [])], (.pr (.i .i64) (.pr (.i .i64) (.pr (.i .i64) (.pr .s (.pr .s (.pr .s (.pr (.sl .s) (.pr (.i .i64) (.pr (.i .i64) (.pr .b (.pr .b (.pr (.sl .s) (.pr (.i .i64) (.pr .s .s)))))))))))))), 184⟩)]
theorem τ_okWkM : TEok Tryz.prog τWkM := yoH (by kernel_rfl) (by kernel_rfl)
theorem ysT : Tryz.prog.follows .mixedOrders = true := by kernel_rfl
theorem zcD {G : List (Nat × Obj)} {o : Ops} [zsN G] [zrD G o] {Γ : CT} {η : HT} {f : FuncId} {fn : Func} {c : SC} (hΓ : ∀ B, GB G B → CTok Tryz.prog Γ B) (hf : Tryz.prog.funcs[f]? = some fn) (i : (fn.name == "runtime.NumGoroutine") = false := by kernel_rfl) (j : fn.body.isNone = false := by kernel_rfl) (l : Nat.ble c.I.sl.length fn.ntmps = true := by kernel_rfl) (r : Nat.beq fn.results.toList.length c.nr = true := by kernel_rfl) (e : fnS τWkM Γ η fn c.I c.outs = c.p := by kernel_rfl) : SCok Tryz.prog G f c := witO (G := G) (o := o) <| yzH ysT τ_okWkM hΓ hf (isFn hf i j) l r e
theorem zwI {G : List (Nat × Obj)} {o : Ops} [zsN G] [zrD G o] {Γ : CT} {η : HT} {f : FuncId} {fn : Func} {c : PC} (hΓ : ∀ B, GB G B → CTok Tryz.prog Γ B) (hf : Tryz.prog.funcs[f]? = some fn) (i : (fn.name == "runtime.NumGoroutine") = false := by kernel_rfl) (j : fn.body.isNone = false := by kernel_rfl) (l : Nat.ble c.ash.length fn.ntmps = true := by kernel_rfl) (r : c.cl = false := by kernel_rfl) (e : fnP τWkM Γ η fn c.ash c.rts = c.p := by kernel_rfl) : PCok Tryz.prog G f c := witO (G := G) (o := o) <| xcW ysT τ_okWkM hΓ hf (isFn hf i j) l r e
abbrev zaC : Type := Int × Int × Int × Bs × Bs × Bs × (List Bs) × Int × Int × Bool × Bool × (List Bs) × Int × Bs × Bs
abbrev zjB : Ty := .pr (.i .i64) (.pr (.i .i64) (.pr (.i .i64) (.pr .s (.pr .s (.pr .s (.pr (.sl .s) (.pr (.i .i64) (.pr (.i .i64) (.pr .b (.pr .b (.pr (.sl .s) (.pr (.i .i64) (.pr .s .s)))))))))))))
abbrev zcO : Type := Int × zaC
abbrev zlH : Type := (List zaC) × Int
abbrev ypO : Type := Int × Int × Int × Int × Bs × zaC
abbrev zzC : Ty := .pr (.i .i64) (.pr (.i .i64) (.pr (.i .i64) (.pr (.i .i64) (.pr .s zjB))))
abbrev zvG : OSh := .blk 47 [hI, hI, hI, hS, hS, hS, (.h (.sl .s)), hI, hI, hB, hB, (.h (.sl .s)), hI, hS, hS]
abbrev ymQ : OSh := .blk 81 [hI, hI, hI, hS, hS, hS, (.h (.sl .s)), hI, hI, hB, hB, (.h (.sl .s)), hI, hS, hS]
abbrev ynH : OSh := .blk 47 [hI, hI, hI, hS, hS, hS, (.own 4), hI, hI, hB, hB, (.own 5), hI, hS, hS]
abbrev ynD : OSh := .blk 47 [hI, hI, hI, hS, hS, hS, .nils, hI, hI, hB, hB, .nils, hI, hS, hS]
abbrev zbM : OSh := .blk 38 [(.h (.sl zjB)), hI]
abbrev ybE : OSh := .mp false (.i .i64) zjB
abbrev zmH : OSh := .mp true (.i .i64) zjB
abbrev ynR : OSh := .blk 75 [(.mpr 3), hI]
abbrev ymN : OSh := .blk 38 [(.own 1), hI]
abbrev yvL : OSh := .blk 38 [(.own 2), hI]
abbrev zoW : OSh := .blk 75 [(.mpr 1), hI]
abbrev zpR : OSh := .blk 75 [(.mpr 2), hI]
abbrev zcC : OSh := .blk 38 [.nils, hI]
def yyE : Nat × Hint := (4000016, .sch [(.pu, 0, [3]), (.pu, 2, []), (.pu, 3, []), (.pu, 4, []), (.pu, 5, []), (.pu, 7, [3]), (.la, 8, []), (.mn, 1, []), (.mn, 6, [3]), (.rv, 8, []), (.mn, 9, [3]), (.pu, 10, []), (.pu, 11, []), (.mn, 12, [0])])
def yyC : Nat × Hint := (4000022, .sch [(.pu, 0, []), (.pu, 1, []), (.pu, 2, []), (.pu, 3, []), (.pu, 4, []), (.pu, 5, []), (.pu, 6, []), (.pu, 7, []), (.pu, 8, []), (.pu, 9, []), (.pu, 10, []), (.mn, 11, []), (.pu, 12, []), (.pu, 13, []), (.pu, 14, []), (.pu, 15, []), (.mn, 16, []), (.pu, 17, []), (.pu, 18, []), (.pu, 19, []), (.pu, 20, []), (.pu, 21, []), (.pu, 22, []), (.pu, 23, []), (.pu, 25, [0, 2]), (.pu, 26, [0, 2]), (.pu, 27, [0, 2]), (.pu, 28, [0, 2]), (.pu, 29, [0, 2]), (.mn, 24, [0, 2]), (.mn, 30, [1]), (.pu, 31, []), (.pu, 32, []), (.pu, 33, []), (.pu, 34, []), (.pu, 35, []), (.pu, 36, []), (.pu, 38, [0, 2]), (.pu, 39, [0, 2]), (.pu, 40, [0, 2]), (.mn, 37, [0, 2]), (.mn, 41, [1]), (.mn, 42, []), (.pu, 43, []), (.pu, 44, [])])
def yxF : Nat × Hint := (4000024, .sch [(.pu, 0, []), (.pu, 1, []), (.pu, 2, []), (.pu, 3, []), (.pu, 4, []), (.pu, 6, [0, 2]), (.pu, 7, [0, 2]), (.pu, 8, [0, 2]), (.pu, 9, [0, 2]), (.pu, 10, [0, 2]), (.mn, 5, [0, 2]), (.mn, 11, [1]), (.pu, 12, []), (.pu, 13, [])])
def ywV : Nat × Hint := (4000026, .sch [(.pu, 0, []), (.pu, 1, []), (.pu, 2, []), (.pu, 4, [0, 2]), (.pu, 5, [0, 2]), (.pu, 6, [0, 2]), (.mn, 3, [0, 2]), (.mn, 7, [1]), (.pu, 8, []), (.pu, 9, [])])
def yyA : Nat × Hint := (4000028, .sch [(.pu, 0, []), (.pu, 1, []), (.pu, 2, []), (.pu, 4, [0, 2]), (.pu, 5, [0, 2]), (.pu, 6, [0, 2]), (.mn, 3, [0, 2]), (.mn, 7, [1]), (.pu, 8, []), (.pu, 9, [])])
def yxD : Nat × Hint := (4000030, .sch [(.pu, 0, []), (.pu, 1, []), (.pu, 2, []), (.pu, 3, []), (.pu, 4, []), (.pu, 6, [0, 2]), (.pu, 7, [0, 2]), (.pu, 8, [0, 2]), (.pu, 9, [0, 2]), (.pu, 10, [0, 2]), (.mn, 5, [0, 2]), (.mn, 11, [1]), (.pu, 12, []), (.pu, 13, [])])
def yxJ : Nat × Hint := (4000032, .sch [(.pu, 0, []), (.pu, 1, []), (.pu, 2, []), (.pu, 3, []), (.pu, 4, []), (.pu, 6, [0, 2]), (.pu, 7, [0, 2]), (.pu, 8, [0, 2]), (.pu, 9, [0, 2]), (.pu, 10, [0, 2]), (.mn, 5, [0, 2]), (.mn, 11, [1]), (.pu, 12, []), (.pu, 13, [])])
def yyL : Nat × Hint := (4000034, .sch [(.pu, 0, []), (.pu, 1, []), (.pu, 2, []), (.pu, 4, [0, 2]), (.pu, 5, [0, 2]), (.pu, 6, [0, 2]), (.mn, 3, [0, 2]), (.mn, 7, [1]), (.pu, 8, []), (.pu, 9, [])])
section
variable {tabs : List (Nat × Obj)} [zsN tabs] {o : Ops} [zrD tabs o]
def zdV (o : Ops) : Option (Int) :=
 some (1 : Int)
def zkI (o : Ops) : SC := ⟨⟨[], []⟩, 1, [(none, ⟨[(0, (.ptr 0 0))], [zcC]⟩)], fun _ => zdV o⟩
theorem zpC : SCok Tryz.prog tabs 18 (zkI o) := zcD (o := o) (η := []) (Γ := ⟨[], [], false⟩) (ctok trivial trivial) Tryz.func18
def yhE : SC := ⟨⟨[(0, (.own 0))], [.osl .s 9]⟩, 1, [(none, ⟨[(0, (.own 1))], [.osl .s 9, .osl .s 9]⟩)], fun (xs : List Bs) => (app [] xs).bind fun r => some (xs, r)⟩
theorem yrH : SCok Tryz.prog tabs 98 yhE := wit (G := tabs) <| yrW rfl ykL
def ykT : PC := ⟨[.h (.sl .s)], [(.sl .s)], fun xs => some xs, true⟩
theorem yuE : PCok Tryz.prog tabs 81 ykT := wit (G := tabs) <| yeU ysT τ_okWkM Tryz.func81 (isFn Tryz.func81) rfl (by kernel_rfl) (fun _ => by kernel_rfl)
def zuU (o : Ops) (v0 : Int) (v1 : Int) (v2 : Int) (v3 : Bs) (v4 : Bs) (v5 : Bs) (v6 : Int) (v7 : Int) (v8 : Bool) (v9 : Bool) (v10 : Int) (v11 : Bs) (v12 : Bs) (v13 : List Bs) (v14 : List Bs) : Option ((Int × Int × Int × Bs × Bs × Bs × (List Bs) × Int × Int × Bool × Bool × (List Bs) × Int × Bs × Bs × (List Bs) × List Bs)) :=
 ((fun (xs : List Bs) => (app ([] : List Bs) xs).bind fun r => some (xs, r)) v13).bind fun v15 => ((fun (xs : List Bs) => (app ([] : List Bs) xs).bind fun r => some (xs, r)) v14).bind fun v16 => some (v0, v1, v2, v3, v4, v5, v15.2, v6, v7, v8, v9, v16.2, v10, v11, v12, v15.1, v16.1)
def zxP (o : Ops) : SC := ⟨⟨[(0, (.ag [hI, hI, hI, hS, hS, hS, (.own 0), hI, hI, hB, hB, (.own 1), hI, hS, hS]))], [.osl .s 9, .osl .s 9]⟩, 1, [(none, ⟨[(0, (.ag [hI, hI, hI, hS, hS, hS, (.hc .s), hI, hI, hB, hB, (.hc .s), hI, hS, hS]))], [.osl .s 9, .osl .s 9]⟩)], fun x => zuU o x.1 x.2.1 x.2.2.1 x.2.2.2.1 x.2.2.2.2.1 x.2.2.2.2.2.1 x.2.2.2.2.2.2.1 x.2.2.2.2.2.2.2.1 x.2.2.2.2.2.2.2.2.1 x.2.2.2.2.2.2.2.2.2.1 x.2.2.2.2.2.2.2.2.2.2.1 x.2.2.2.2.2.2.2.2.2.2.2.1 x.2.2.2.2.2.2.2.2.2.2.2.2.1 x.2.2.2.2.2.2.2.2.2.2.2.2.2.1 x.2.2.2.2.2.2.2.2.2.2.2.2.2.2⟩
theorem yeO : SCok Tryz.prog tabs 44 (zxP o) := zcD (o := o) (η := [(4000001, .sch [(.pu, 0, []), (.pu, 1, []), (.pu, 4, [0, 5]), (.pu, 5, [0, 5]), (.mn, 2, [0]), (.mn, 3, [5]), (.pu, 8, [1, 7]), (.mn, 6, [1]), (.mn, 7, [7]), (.mn, 9, [2]), (.pu, 10, []), (.mn, 11, [2])])]) (Γ := ⟨[(81, ykT)], [(98, yhE)], false⟩) (ctok ⟨yuE, trivial⟩ ⟨yrH, trivial⟩) Tryz.func44
noncomputable def zfK (o : Ops) (v0 : Int) (v1 : Int) (v2 : Int) (v3 : Bs) (v4 : Bs) (v5 : Bs) (v6 : Int) (v7 : Int) (v8 : Bool) (v9 : Bool) (v10 : Int) (v11 : Bs) (v12 : Bs) (v15 : List Bs) (v16 : List Bs) (v19 : (zaC × Bool × Int × List zcO)) : Option ((Int × Int × Int × (List Bs) × (List Bs) × List zcO) ⊕ (Int × (List Bs) × (List Bs) × (List zcO) × Int × Int × Int × Bs × Bs × Bs × Int × Int × Bool × Bool × Int × Bs × Bs)) :=
 let v20 : zaC := zkA keqI v19.2.2.2 v2 ((0 : Int), (0 : Int), (0 : Int), ([] : Bs), ([] : Bs), ([] : Bs), ([] : List Bs), (0 : Int), (0 : Int), false, false, ([] : List Bs), (0 : Int), ([] : Bs), ([] : Bs))
 bif decide (v2 > 0) then (bif (!(mhas keqI v19.2.2.2 v2)) then some (.inl ((0 : Int), (133 : Int), v19.2.2.1, v15, v16, v19.2.2.2)) else ((zcG o v2 v19.2.2.1 v19.2.2.2).bind fun v21 => bif v21.1 then some (.inl ((0 : Int), (133 : Int), v21.2.1, v15, v16, v21.2.2)) else some (.inr (v21.2.1, v15, v16, v21.2.2, v0, v1, v2, v3, v4, v5, v6, v7, v8, v9, v10, v11, v12)))) else some (.inr (v19.2.2.1, v15, v16, v19.2.2.2, v0, v1, v2, v3, v4, v5, v6, v7, v8, v9, v10, v11, v12))
noncomputable def zmO (o : Ops) (v24 : Int × (List Bs) × (List Bs) × (List zcO) × Int × Int × Int × Bs × Bs × Bs × Int × Int × Bool × Bool × Int × Bs × Bs) (v25 : (Int × Int × List zcO)) : Option ((Int × Int × Int × (List Bs) × (List Bs) × List zcO) ⊕ (Int × (List Bs) × (List Bs) × (List zcO) × Int × Int × Int × Bs × Bs × Bs × Int × Int × Bool × Bool × Int × Bs × Bs)) :=
 bif decide ((v25.2.2.length : Int) ≥ 256) then some (.inl ((0 : Int), (130 : Int), v25.2.1, v24.2.1, v24.2.2.1, v25.2.2)) else (bif decide (v25.2.1 ≥ 99999999) then some (.inl ((0 : Int), (130 : Int), v25.2.1, v24.2.1, v24.2.2.1, v25.2.2)) else some (.inr (v25.2.1, v24.2.1, v24.2.2.1, v25.2.2, v24.2.2.2.2)))
noncomputable def zbO (o : Ops) (v0 : Int) (v1 : Int) (v2 : Int) (v3 : Bs) (v4 : Bs) (v5 : Bs) (v6 : Int) (v7 : Int) (v8 : Bool) (v9 : Bool) (v10 : Int) (v11 : Bs) (v12 : Bs) (v13 : Int) (v14 : Int) (v15 : List Bs) (v16 : List Bs) (v17 : List zcO) : Option ((Int × Int × Int × (List Bs) × (List Bs) × List zcO)) :=
 (zfO o (v0, v1, v2, v3, v4, v5, v15, v6, v7, v8, v9, v16, v10, v11, v12)).bind fun v18 => bif (!v18) then some ((0 : Int), (131 : Int), v14, v15, v16, v17) else ((zbB o v11 v14 v17).bind fun v19 => bif v19.2.1 then some ((0 : Int), (132 : Int), v19.2.2.1, v15, v16, v19.2.2.2) else ((zfK o v0 v1 v2 v3 v4 v5 v6 v7 v8 v9 v10 v11 v12 v15 v16 v19).bind fun v22 => match v22 with
 | .inl v23 => some v23
 | .inr v24 => ((zaY o v13 v24.1 v24.2.2.2.1).bind fun v25 => (zmO o v24 v25).bind fun v26 => match v26 with
 | .inl v27 => some v27
 | .inr v28 => ((zuU o v28.2.2.2.2.1 v28.2.2.2.2.2.1 v28.2.2.2.2.2.2.1 v28.2.2.2.2.2.2.2.1 v28.2.2.2.2.2.2.2.2.1 v28.2.2.2.2.2.2.2.2.2.1 v28.2.2.2.2.2.2.2.2.2.2.1 v28.2.2.2.2.2.2.2.2.2.2.2.1 v28.2.2.2.2.2.2.2.2.2.2.2.2.1 v28.2.2.2.2.2.2.2.2.2.2.2.2.2.1 v28.2.2.2.2.2.2.2.2.2.2.2.2.2.2.1 v28.2.2.2.2.2.2.2.2.2.2.2.2.2.2.2.1 v28.2.2.2.2.2.2.2.2.2.2.2.2.2.2.2.2 v28.2.1 v28.2.2.1).bind fun v29 => let v30 : List zcO := mset keqI kltI v28.2.2.2.1 v28.1 (v28.1, v29.2.1, v29.2.2.1, v29.2.2.2.1, v29.2.2.2.2.1, v29.2.2.2.2.2.1, v29.2.2.2.2.2.2.1, v29.2.2.2.2.2.2.2.1, v29.2.2.2.2.2.2.2.2.1, false, false, v29.2.2.2.2.2.2.2.2.2.2.2.1, v29.2.2.2.2.2.2.2.2.2.2.2.2.1, v29.2.2.2.2.2.2.2.2.2.2.2.2.2.1, v29.2.2.2.2.2.2.2.2.2.2.2.2.2.2.1)
 some (v28.1, (0 : Int), w64 (v28.1 + 1), v29.2.2.2.2.2.2.2.2.2.2.2.2.2.2.2.1, v29.2.2.2.2.2.2.2.2.2.2.2.2.2.2.2.2, v30)))))
noncomputable def ziO (o : Ops) : SC := ⟨⟨[(0, (.ptr 0 0)), (1, (.ag [hI, hI, hI, hS, hS, hS, (.own 1), hI, hI, hB, hB, (.own 2), hI, hS, hS])), (2, hI)], [ynR, .osl .s 9, .osl .s 9, zmH]⟩, 2, [(none, ⟨[(0, hI), (1, hI)], [ynR, .osl .s 9, .osl .s 9, ybE]⟩)], fun x => zbO o x.1 x.2.1 x.2.2.1 x.2.2.2.1 x.2.2.2.2.1 x.2.2.2.2.2.1 x.2.2.2.2.2.2.1 x.2.2.2.2.2.2.2.1 x.2.2.2.2.2.2.2.2.1 x.2.2.2.2.2.2.2.2.2.1 x.2.2.2.2.2.2.2.2.2.2.1 x.2.2.2.2.2.2.2.2.2.2.2.1 x.2.2.2.2.2.2.2.2.2.2.2.2.1 x.2.2.2.2.2.2.2.2.2.2.2.2.2.1 x.2.2.2.2.2.2.2.2.2.2.2.2.2.2.1 x.2.2.2.2.2.2.2.2.2.2.2.2.2.2.2.1 x.2.2.2.2.2.2.2.2.2.2.2.2.2.2.2.2.1 x.2.2.2.2.2.2.2.2.2.2.2.2.2.2.2.2.2⟩
theorem zmK : SCok Tryz.prog tabs 20 (ziO o) := zcD (o := o) (η := [(2000009, .join [] [2] [(some 1000000, ⟨[(6, hI), (7, hI)], [ynR, .osl .s 9, .osl .s 9, zmH]⟩), (none, ⟨[(0, (.ptr 0 0)), (4, (.ptr 4 0))], [ynR, .osl .s 9, .osl .s 9, zmH, .blk 47 [hI, hI, hI, hS, hS, hS, (.own 1), hI, hI, hB, hB, (.own 2), hI, hS, hS]]⟩)]),
 (2000012, .join [] [] [(some 1000000, ⟨[(6, hI), (7, hI)], [ynR, .osl .s 9, .osl .s 9, zmH]⟩), (none, ⟨[(0, (.ptr 0 0)), (4, (.ptr 4 0))], [ynR, .osl .s 9, .osl .s 9, zmH, .blk 47 [hI, hI, hI, hS, hS, hS, (.own 1), hI, hI, hB, hB, (.own 2), hI, hS, hS]]⟩)]),
 (4000006, .sch [(.pu, 0, []), (.pu, 1, []), (.pu, 2, []), (.pu, 3, []), (.pu, 4, []), (.pu, 5, []), (.pu, 6, []), (.pu, 7, []), (.pu, 8, []), (.pu, 9, [7]), (.mn, 10, []), (.mn, 11, [7]), (.pu, 12, [])]),
 (4000014, .sch [(.pu, 0, []), (.pu, 1, []), (.pu, 2, []), (.pu, 3, []), (.pu, 4, []), (.pu, 5, []), (.pu, 6, []), (.pu, 7, []), (.mn, 8, [0, 1, 2, 3, 4, 5, 6])])]) (Γ := ⟨[(53, (znF o))], [(36, (zbY o)), (54, (zeM o)), (31, (zbN o)), (44, (zxP o))], false⟩) (ctok ⟨zqS, trivial⟩ ⟨zdD, ⟨zgM, ⟨zcP, ⟨yeO, trivial⟩⟩⟩⟩) Tryz.func20
def zdS (o : Ops) (v0 : UInt8) : Option (Bool) :=
 bif decide ((v0.toNat : Int) ≥ ((97 : UInt8).toNat : Int)) then (bif decide ((v0.toNat : Int) ≤ ((122 : UInt8).toNat : Int)) then (some true) else (bif decide ((v0.toNat : Int) ≥ ((48 : UInt8).toNat : Int)) then (bif decide ((v0.toNat : Int) ≤ ((57 : UInt8).toNat : Int)) then (some true) else (bif ((v0.toNat : Int) == ((46 : UInt8).toNat : Int)) then (some true) else (bif ((v0.toNat : Int) == ((95 : UInt8).toNat : Int)) then (some true) else (some ((v0.toNat : Int) == ((45 : UInt8).toNat : Int)))))) else (bif ((v0.toNat : Int) == ((46 : UInt8).toNat : Int)) then (some true) else (bif ((v0.toNat : Int) == ((95 : UInt8).toNat : Int)) then (some true) else (some ((v0.toNat : Int) == ((45 : UInt8).toNat : Int))))))) else (bif decide ((v0.toNat : Int) ≥ ((48 : UInt8).toNat : Int)) then (bif decide ((v0.toNat : Int) ≤ ((57 : UInt8).toNat : Int)) then (some true) else (bif ((v0.toNat : Int) == ((46 : UInt8).toNat : Int)) then (some true) else (bif ((v0.toNat : Int) == ((95 : UInt8).toNat : Int)) then (some true) else (some ((v0.toNat : Int) == ((45 : UInt8).toNat : Int)))))) else (bif ((v0.toNat : Int) == ((46 : UInt8).toNat : Int)) then (some true) else (bif ((v0.toNat : Int) == ((95 : UInt8).toNat : Int)) then (some true) else (some ((v0.toNat : Int) == ((45 : UInt8).toNat : Int))))))
def zhI (o : Ops) : PC := ⟨[(.h (.i .u8))], [.b], fun x => zdS o x, false⟩
theorem zlW : PCok Tryz.prog tabs 167 (zhI o) := zwI (o := o) (η := []) (Γ := ⟨[], [], false⟩) (ctok trivial trivial) Tryz.func167
def zoF (o : Ops) (v0 : Bs) (v1 : Int) : Option (Int ⊕ (Bool ⊕ Unit)) :=
 bif decide (v1 < (v0.length : Int)) then ((idx v0 v1).bind fun v2 => (zdS o v2).bind fun v3 => bif (!v3) then some (.inr (.inl false)) else some (.inl (w64 (v1 + 1)))) else some (.inr (.inr ()))
def zdE (o : Ops) (v0 : Bs) : Option (Bool) :=
 (iter (zoF o v0) (0 : Int)).bind fun v4 => match v4 with
 | .inl v5 => (some v5)
 | .inr v6 => (bif decide ((v0.length : Int) ≥ 1) then (some (decide ((v0.length : Int) ≤ 24))) else (some false))
def zjU (o : Ops) : PC := ⟨[hS], [.b], fun x => zdE o x, false⟩
theorem zoC : PCok Tryz.prog tabs 140 (zjU o) := zwI (o := o) (η := [(200002, .loop [] ⟨[(3, hI)], []⟩ [0] [(some 1000000, ⟨[(2, hB)], []⟩), (some 0, ⟨[], []⟩)])]) (Γ := ⟨[(167, (zhI o))], [], false⟩) (ctok ⟨zlW, trivial⟩ trivial) Tryz.func140
def zcF (o : Ops) (v0 : Bs) : Option (Bool) :=
 bif decide ((v0.length : Int) > 2) then ((subH v0 (2 : Int)).bind fun v1 => bif (v1 == ([117, 58] : Bs)) then ((subL v0 (2 : Int)).bind fun v2 => (zdE o v2).bind fun v3 => some v3) else ((subH v0 (2 : Int)).bind fun v4 => bif (v4 == ([99, 58] : Bs)) then ((subL v0 (2 : Int)).bind fun v5 => (zdE o v5).bind fun v6 => some v6) else (some false))) else (some false)
def zkJ (o : Ops) : PC := ⟨[hS], [.b], fun x => zcF o x, false⟩
theorem zrL : PCok Tryz.prog tabs 139 (zkJ o) := zwI (o := o) (η := []) (Γ := ⟨[(140, (zjU o))], [], false⟩) (ctok ⟨zoC, trivial⟩ trivial) Tryz.func139
def zoH (o : Ops) (v0 : Bs) (v1 : Int) : Option (Int ⊕ (Bool ⊕ Unit)) :=
 bif decide (v1 < (v0.length : Int)) then ((idx v0 v1).bind fun v2 => bif decide ((v2.toNat : Int) < ((33 : UInt8).toNat : Int)) then some (.inr (.inl false)) else ((idx v0 v1).bind fun v3 => bif decide ((v3.toNat : Int) > ((126 : UInt8).toNat : Int)) then some (.inr (.inl false)) else some (.inl (w64 (v1 + 1))))) else some (.inr (.inr ()))
def zdF (o : Ops) (v0 : Bs) : Option (Bool) :=
 (iter (zoH o v0) (0 : Int)).bind fun v4 => match v4 with
 | .inl v5 => (some v5)
 | .inr v6 => (bif decide ((v0.length : Int) ≥ 1) then (some (decide ((v0.length : Int) ≤ 128))) else (some false))
def zjK (o : Ops) : PC := ⟨[hS], [.b], fun x => zdF o x, false⟩
theorem znW : PCok Tryz.prog tabs 141 (zjK o) := zwI (o := o) (η := [(200002, .loop [] ⟨[(3, hI)], []⟩ [0] [(some 1000000, ⟨[(2, hB)], []⟩), (some 0, ⟨[], []⟩)])]) (Γ := ⟨[], [], false⟩) (ctok trivial trivial) Tryz.func141
def znK (o : Ops) (v0 : Bs) (v1 : Int) : Option (Int ⊕ (Bool ⊕ Unit)) :=
 bif decide (v1 < (v0.length : Int)) then ((idx v0 v1).bind fun v2 => (zdS o v2).bind fun v3 => bif (!v3) then ((idx v0 v1).bind fun v4 => bif ((v4.toNat : Int) != ((58 : UInt8).toNat : Int)) then some (.inr (.inl false)) else some (.inl (w64 (v1 + 1)))) else some (.inl (w64 (v1 + 1)))) else some (.inr (.inr ()))
def zdZ (o : Ops) (v0 : Bs) : Option (Bool) :=
 (iter (znK o v0) (0 : Int)).bind fun v5 => match v5 with
 | .inl v6 => (some v6)
 | .inr v7 => (bif decide ((v0.length : Int) ≥ 1) then (some (decide ((v0.length : Int) ≤ 32))) else (some false))
def zmL (o : Ops) : PC := ⟨[hS], [.b], fun x => zdZ o x, false⟩
theorem ztK : PCok Tryz.prog tabs 168 (zmL o) := zwI (o := o) (η := [(200002, .loop [] ⟨[(3, hI)], []⟩ [0] [(some 1000000, ⟨[(2, hB)], []⟩), (some 0, ⟨[], []⟩)])]) (Γ := ⟨[(167, (zhI o))], [], false⟩) (ctok ⟨zlW, trivial⟩ trivial) Tryz.func168
def zmJ (o : Ops) (v0 : List Bs) (v2 : Int) (v3 : Int) : Option (Int ⊕ (Bool ⊕ Unit)) :=
 bif decide (v3 < (v0.length : Int)) then (bif (v2 == 0) then ((idx v0 v3).bind fun v4 => (zdF o v4).bind fun v5 => bif (!v5) then some (.inr (.inl false)) else (bif (v2 == 1) then ((idx v0 v3).bind fun v6 => (zdZ o v6).bind fun v7 => bif (!v7) then some (.inr (.inl false)) else (bif decide (v3 > 0) then ((idx v0 v3).bind fun v8 => (idx v0 (w64 (v3 - 1))).bind fun v9 => bif (Op.bytesLess v8 v9 || v8 == v9) then some (.inr (.inl false)) else some (.inl (w64 (v3 + 1)))) else some (.inl (w64 (v3 + 1))))) else (bif decide (v3 > 0) then ((idx v0 v3).bind fun v10 => (idx v0 (w64 (v3 - 1))).bind fun v11 => bif (Op.bytesLess v10 v11 || v10 == v11) then some (.inr (.inl false)) else some (.inl (w64 (v3 + 1)))) else some (.inl (w64 (v3 + 1)))))) else (bif (v2 == 1) then ((idx v0 v3).bind fun v12 => (zdZ o v12).bind fun v13 => bif (!v13) then some (.inr (.inl false)) else (bif decide (v3 > 0) then ((idx v0 v3).bind fun v14 => (idx v0 (w64 (v3 - 1))).bind fun v15 => bif (Op.bytesLess v14 v15 || v14 == v15) then some (.inr (.inl false)) else some (.inl (w64 (v3 + 1)))) else some (.inl (w64 (v3 + 1))))) else (bif decide (v3 > 0) then ((idx v0 v3).bind fun v16 => (idx v0 (w64 (v3 - 1))).bind fun v17 => bif (Op.bytesLess v16 v17 || v16 == v17) then some (.inr (.inl false)) else some (.inl (w64 (v3 + 1)))) else some (.inl (w64 (v3 + 1)))))) else some (.inr (.inr ()))
def zfT (o : Ops) (v0 : List Bs) (v1 : Int) (v2 : Int) : Option (Bool) :=
 (iter (zmJ o v0 v2) (0 : Int)).bind fun v18 => match v18 with
 | .inl v19 => (some v19)
 | .inr v20 => (some (decide ((v0.length : Int) ≤ v1)))
def zmI (o : Ops) : PC := ⟨[(.h (.sl .s)), hI, hI], [.b], fun x => zfT o x.1 x.2.1 x.2.2, false⟩
theorem ztS : PCok Tryz.prog tabs 142 (zmI o) := zwI (o := o) (η := [(200002, .loop [] ⟨[(7, hI)], []⟩ [0, 1, 2] [(some 1000000, ⟨[(6, hB)], []⟩), (some 0, ⟨[], []⟩)]),
 (4000004, .sch [(.pu, 0, []), (.pu, 1, []), (.pu, 2, []), (.pu, 3, []), (.pu, 4, []), (.pu, 5, []), (.pu, 6, []), (.mn, 7, []), (.pu, 8, []), (.pu, 9, []), (.pu, 10, []), (.pu, 11, []), (.pu, 12, []), (.pu, 13, []), (.pu, 14, []), (.pu, 15, []), (.pu, 16, []), (.pu, 17, []), (.mn, 18, []), (.pu, 19, []), (.pu, 20, []), (.pu, 21, []), (.pu, 22, []), (.pu, 23, []), (.pu, 24, []), (.pu, 25, []), (.pu, 26, []), (.pu, 27, []), (.pu, 28, []), (.pu, 29, []), (.pu, 30, []), (.pu, 31, []), (.pu, 32, []), (.pu, 33, []), (.pu, 34, []), (.pu, 35, []), (.pu, 36, []), (.pu, 37, [])])]) (Γ := ⟨[(141, (zjK o)), (168, (zmL o))], [], false⟩) (ctok ⟨znW, ⟨ztK, trivial⟩⟩ trivial) Tryz.func142
def zoX (o : Ops) (v0 : zaC) : Option (Bool ⊕ zaC) :=
 bif decide (v0.2.1 < 1) then some (.inl false) else (bif decide (v0.2.1 > 5) then some (.inl false) else (bif decide (v0.2.2.1 < 0) then some (.inl false) else ((zcF o v0.2.2.2.1).bind fun v1 => bif (!v1) then some (.inl false) else (bif (v0.2.2.2.2.1 != ([] : Bs)) then ((zdE o v0.2.2.2.2.1).bind fun v2 => bif (!v2) then some (.inl false) else (bif (v0.2.2.2.2.2.1 != ([] : Bs)) then ((zdF o v0.2.2.2.2.2.1).bind fun v3 => bif (!v3) then some (.inl false) else some (.inr v0)) else some (.inr v0))) else (bif (v0.2.2.2.2.2.1 != ([] : Bs)) then ((zdF o v0.2.2.2.2.2.1).bind fun v4 => bif (!v4) then some (.inl false) else some (.inr v0)) else some (.inr v0))))))
def zpO (o : Ops) (v8 : Int) (v9 : Int) (v10 : Int) (v11 : Int) (v12 : Bs) (v13 : Bs) (v14 : Bs) (v15 : List Bs) (v16 : Int) (v17 : Int) (v18 : Bool) (v19 : Bool) (v20 : List Bs) (v21 : Int) (v22 : Bs) (v23 : Bs) : Option (zcO ⊕ (Bool ⊕ zaC)) :=
 bif decide (v8 < (v20.length : Int)) then ((idx v20 v8).bind fun v24 => (zcF o v24).bind fun v25 => bif (!v25) then some (.inr (.inl false)) else some (.inl (w64 (v8 + 1), v9, v10, v11, v12, v13, v14, v15, v16, v17, v18, v19, v20, v21, v22, v23))) else some (.inr (.inr (v9, v10, v11, v12, v13, v14, v15, v16, v17, v18, v19, v20, v21, v22, v23)))
def zpN (o : Ops) (v28 : zaC) : Option ((Bool × zaC)) :=
 bif decide (v28.2.2.2.2.2.2.2.1 ≥ 0) then (bif decide (v28.2.2.2.2.2.2.2.1 ≤ 1099511627776) then (bif decide (v28.2.2.2.2.2.2.2.2.1 ≥ 0) then some (decide (v28.2.2.2.2.2.2.2.2.1 ≤ 1099511627776), v28) else some (false, v28)) else some (false, v28)) else some (false, v28)
def zfE (o : Ops) (v0 : zaC) : Option (Bool) :=
 (zoX o v0).bind fun v5 => match v5 with
 | .inl v6 => (some v6)
 | .inr v7 => ((iter (fun x => zpO o x.1 x.2.1 x.2.2.1 x.2.2.2.1 x.2.2.2.2.1 x.2.2.2.2.2.1 x.2.2.2.2.2.2.1 x.2.2.2.2.2.2.2.1 x.2.2.2.2.2.2.2.2.1 x.2.2.2.2.2.2.2.2.2.1 x.2.2.2.2.2.2.2.2.2.2.1 x.2.2.2.2.2.2.2.2.2.2.2.1 x.2.2.2.2.2.2.2.2.2.2.2.2.1 x.2.2.2.2.2.2.2.2.2.2.2.2.2.1 x.2.2.2.2.2.2.2.2.2.2.2.2.2.2.1 x.2.2.2.2.2.2.2.2.2.2.2.2.2.2.2) ((0 : Int), v7)).bind fun v26 => match v26 with
 | .inl v27 => (some v27)
 | .inr v28 => ((zpN o v28).bind fun v29 => bif v29.1 then ((zfT o v29.2.2.2.2.2.2.2.1 (16 : Int) (1 : Int)).bind fun v30 => bif v30 then (let v31 : Bool := decide ((v29.2.2.2.2.2.2.2.2.2.2.2.2.1.length : Int) ≤ 4)
 bif v31 then (bif decide (v29.2.2.2.2.2.2.2.2.2.2.2.2.2.1 ≥ 0) then (bif decide (v29.2.2.2.2.2.2.2.2.2.2.2.2.2.1 ≤ 3) then (let v32 : Bool := decide ((v29.2.2.2.2.2.2.2.2.2.2.2.2.2.2.1.length : Int) ≥ 1)
 bif v32 then (let v33 : Bool := decide ((v29.2.2.2.2.2.2.2.2.2.2.2.2.2.2.1.length : Int) ≤ 64)
 bif v33 then (let v34 : Bool := decide ((v29.2.2.2.2.2.2.2.2.2.2.2.2.2.2.2.length : Int) ≤ 256)
 some v34) else (some false)) else (some false)) else (some false)) else (some false)) else (some false)) else (some false)) else (some false)))
def zkD (o : Ops) : PC := ⟨[(.h zjB)], [.b], fun x => zfE o x, false⟩
theorem zpI : PCok Tryz.prog tabs 93 (zkD o) := zwI (o := o) (η := [(2000003, .join [] [] [(some 1000000, ⟨[(2, hB)], []⟩), (none, ⟨[(1, (.ptr 0 0))], [zvG]⟩)]),
 (200004, .loop [] ⟨[(1, (.ptr 0 0)), (3, hI)], [zvG]⟩ [] [(some 1000000, ⟨[(2, hB)], []⟩), (some 0, ⟨[(1, (.ptr 0 0))], [zvG]⟩)]),
 (2000009, .join [] [] [(none, ⟨[(1, (.ptr 0 0)), (4, hB)], [zvG]⟩)])]) (Γ := ⟨[(139, (zkJ o)), (140, (zjU o)), (141, (zjK o)), (142, (zmI o))], [], false⟩) (ctok ⟨zrL, ⟨zoC, ⟨znW, ⟨ztS, trivial⟩⟩⟩⟩ trivial) Tryz.func93
def zqF (o : Ops) (v2 : Int) (v3 : Int) (v4 : Int) (v5 : Int) (v6 : Int) (v7 : Bs) (v8 : Bs) (v9 : Bs) (v10 : Int) (v11 : Int) (v12 : Bool) (v13 : Bool) (v14 : Int) (v15 : Bs) (v16 : Bs) : Option ((Int × Int × Int × Int × Int × Bs × Bs × Bs × Int × Int × Bool × Bool × Int × Bs × Bs) ⊕ ((Int × Int × Int × Int × Bs × Bs × Bs × Int × Int × Bool × Bool × Int × Bs × Bs))) :=
 bif decide (v2 < 0) then none else some (.inr (v3, v4, v5, v6, v7, v8, v9, v10, v11, v12, v13, v14, v15, v16))
def zbS (o : Ops) (v0 : Bs) (v1 : Int) : Option ((Int × Int × Int × Bs × Bs × Bs × Int × Int × Bool × Bool × Int × Bs × Bs × Bool × Int)) :=
 (iter (fun x => zqF o x.1 x.2.1 x.2.2.1 x.2.2.2.1 x.2.2.2.2.1 x.2.2.2.2.2.1 x.2.2.2.2.2.2.1 x.2.2.2.2.2.2.2.1 x.2.2.2.2.2.2.2.2.1 x.2.2.2.2.2.2.2.2.2.1 x.2.2.2.2.2.2.2.2.2.2.1 x.2.2.2.2.2.2.2.2.2.2.2.1 x.2.2.2.2.2.2.2.2.2.2.2.2.1 x.2.2.2.2.2.2.2.2.2.2.2.2.2.1 x.2.2.2.2.2.2.2.2.2.2.2.2.2.2) ((0 : Int), v1, (0 : Int), (0 : Int), (0 : Int), ([] : Bs), ([] : Bs), ([] : Bs), (0 : Int), (0 : Int), false, false, (0 : Int), ([] : Bs), ([] : Bs))).bind fun v17 => some ((0 : Int), (0 : Int), (0 : Int), ([] : Bs), ([] : Bs), ([] : Bs), (0 : Int), (0 : Int), false, false, (0 : Int), ([] : Bs), ([] : Bs), false, v17.1)
def zfA (o : Ops) : SC := ⟨⟨[(0, (.ptr 0 0)), (1, hS)], [zcC]⟩, 2, [(none, ⟨[(0, (.ag [hI, hI, hI, hS, hS, hS, .nils, hI, hI, hB, hB, .nils, hI, hS, hS])), (1, hB)], [zcC]⟩)], fun x => zbS o x.1 x.2⟩
theorem ziX : SCok Tryz.prog tabs 40 (zfA o) := zcD (o := o) (η := [(200002, .loop [] ⟨[(0, (.ptr 0 0)), (4, (.ptr 1 0)), (6, hI)], [zcC, ynD]⟩ [1] [(some 0, ⟨[(4, (.ptr 1 0))], [zcC, ynD]⟩)])]) (Γ := ⟨[], [], false⟩) (ctok trivial trivial) Tryz.func40
def zrB (o : Ops) (v2 : Int) (v3 : Int) : Option ((Int × Int) ⊕ Int) :=
 bif decide (v2 < 0) then none else some (.inr v3)
def zaT (o : Ops) (v0 : Int) (v1 : Int) : Option ((Int × Int)) :=
 (iter (fun x => zrB o x.1 x.2) ((0 : Int), v1)).bind fun v4 => some ((-1 : Int), v4)
def zbZ (o : Ops) : SC := ⟨⟨[(0, (.ptr 0 0)), (1, hI)], [zcC]⟩, 1, [(none, ⟨[(0, hI)], [zcC]⟩)], fun x => zaT o x.1 x.2⟩
theorem zdQ : SCok Tryz.prog tabs 115 (zbZ o) := zcD (o := o) (η := [(200002, .loop [] ⟨[(0, (.ptr 0 0)), (5, hI)], [zcC]⟩ [1] [(some 0, ⟨[], [zcC]⟩)])]) (Γ := ⟨[], [], false⟩) (ctok trivial trivial) Tryz.func115
def zpS (o : Ops) (v3 : Int) (v4 : Int) (v5 : List Int) : Option ((Int × Int × List Int) ⊕ ((Int × List Int))) :=
 bif decide (v3 ≥ 0) then none else some (.inr (v4, v5))
def zbT (o : Ops) (v0 : Int) (v1 : Int) : Option ((Int × List Int)) :=
 (zaT o v0 v1).bind fun v2 => (iter (fun x => zpS o x.1 x.2.1 x.2.2) (v2.1, v2.2, ([] : List Int))).bind fun v6 => some v6
def zeX (o : Ops) : SC := ⟨⟨[(0, (.ptr 0 0)), (1, hI)], [zcC]⟩, 1, [(none, ⟨[(0, (.own 1))], [zcC, .osl (.i .i64) 3]⟩)], fun x => zbT o x.1 x.2⟩
theorem ziW : SCok Tryz.prog tabs 59 (zeX o) := zcD (o := o) (η := [(200003, .loop [] ⟨[(0, (.ptr 0 0)), (5, (.own 1)), (6, hI)], [zcC, .osl (.i .i64) 3]⟩ [4] [(some 0, ⟨[(5, (.own 1))], [zcC, .osl (.i .i64) 3]⟩)])]) (Γ := ⟨[], [(115, (zbZ o))], false⟩) (ctok trivial ⟨zdQ, trivial⟩) Tryz.func59
def zaF (o : Ops) (v0 : Int) (v1 : Int) : Option ((Int × Int × Int × Bs × Bs × Bs × Int × Int × Bool × Bool × Int × Bs × Bs × Bool × Int)) :=
 (zaT o v0 v1).bind fun v2 => bif decide (v2.1 < 0) then some ((0 : Int), (0 : Int), (0 : Int), ([] : Bs), ([] : Bs), ([] : Bs), (0 : Int), (0 : Int), false, false, (0 : Int), ([] : Bs), ([] : Bs), false, v2.2) else none
def zaJ (o : Ops) : SC := ⟨⟨[(0, (.ptr 0 0)), (1, hI)], [zcC]⟩, 2, [(none, ⟨[(0, (.ag [hI, hI, hI, hS, hS, hS, .nils, hI, hI, hB, hB, .nils, hI, hS, hS])), (1, hB)], [zcC]⟩)], fun x => zaF o x.1 x.2⟩
theorem zaO : SCok Tryz.prog tabs 56 (zaJ o) := zcD (o := o) (η := []) (Γ := ⟨[], [(115, (zbZ o))], false⟩) (ctok trivial ⟨zdQ, trivial⟩) Tryz.func56
def zoP (o : Ops) (v3 : Int) (v4 : Int) (v5 : List Int) : Option ((Int × Int × List Int) ⊕ ((Bool × Int) ⊕ Int)) :=
 bif decide (v3 < (v5.length : Int)) then ((chk (decide ((0 : Int) ≤ v3) && decide (v3 < (v5.length : Int)))).bind fun _ => (idx v5 v3).bind fun v6 => (zaF o v6 v4).bind fun v7 => bif v7.2.2.2.2.2.2.2.2.1 then some (.inr (.inl (true, v7.2.2.2.2.2.2.2.2.2.2.2.2.2.2))) else some (.inl (w64 (v3 + 1), v7.2.2.2.2.2.2.2.2.2.2.2.2.2.2, v5))) else some (.inr (.inr v4))
def zeE (o : Ops) (v0 : Int) (v1 : Int) : Option ((Bool × Int)) :=
 (zbT o v0 v1).bind fun v2 => (iter (fun x => zoP o x.1 x.2.1 x.2.2) ((0 : Int), v2)).bind fun v8 => match v8 with
 | .inl v9 => some v9
 | .inr v10 => some (false, v10)
def zeD (o : Ops) : SC := ⟨⟨[(0, (.ptr 0 0)), (1, hI)], [zcC]⟩, 1, [(none, ⟨[(0, hB)], [zcC]⟩)], fun x => zeE o x.1 x.2⟩
theorem zhK : SCok Tryz.prog tabs 116 (zeD o) := zcD (o := o) (η := [(200003, .loop [] ⟨[(0, (.ptr 0 0)), (5, (.own 1)), (6, hI)], [zcC, .osl (.i .i64) 3]⟩ [] [(some 1000000, ⟨[(4, hB)], [zcC]⟩), (some 0, ⟨[], [zcC]⟩)])]) (Γ := ⟨[], [(59, (zeX o)), (56, (zaJ o))], false⟩) (ctok trivial ⟨ziW, ⟨zaO, trivial⟩⟩) Tryz.func116
def zoV (o : Ops) (v5 : Bool) (v6 : Int) (v7 : Int) (v8 : List zaC) : Option ((Int × List zaC) ⊕ (Int × List zaC)) :=
 bif decide (v6 < 0) then (bif (!v5) then some (.inl (v7, v8)) else some (.inr (v7, v8))) else some (.inr (v7, v8))
def zpJ (o : Ops) (v5 : Bool) (v6 : Int) (v7 : Int) (v8 : List zaC) : Option ((Bool × Int × Int × List zaC) ⊕ ((Bool × Int × List zaC))) :=
 (zoV o v5 v6 v7 v8).bind fun v9 => match v9 with
 | .inl v10 => none
 | .inr v11 => some (.inr (v5, v11))
def zpB (o : Ops) (v2 : Int) (v3 : Int) (v4 : List zaC) : Option ((Int × Int × List zaC) ⊕ ((Int × List zaC))) :=
 bif decide (v2 < 0) then ((iter (fun x => zpJ o x.1 x.2.1 x.2.2.1 x.2.2.2) (false, v2, v3, v4)).bind fun v12 => bif v12.1 then none else some (.inl (w64 (v2 + 1), v12.2))) else some (.inr (v3, v4))
def zbI (o : Ops) (v0 : Int) (v1 : Int) : Option ((Int × Int × List zaC)) :=
 (iter (fun x => zpB o x.1 x.2.1 x.2.2) ((0 : Int), v1, ([] : List zaC))).bind fun v13 => some (w64 ((0 : Int) - (v13.2.length : Int)), v13)
def zeG (o : Ops) : SC := ⟨⟨[(0, (.ptr 0 0)), (1, hI)], [zcC]⟩, 1, [(none, ⟨[(0, hI)], [ymN, .osl zjB 47]⟩)], fun x => zbI o x.1 x.2⟩
theorem zhU : SCok Tryz.prog tabs 68 (zeG o) := zcD (o := o) (η := [(2100003, .join [] [1, 6, 7, 8] [(none, ⟨[(0, (.ptr 0 0)), (5, (.own 1))], [zcC, .osl zjB 47]⟩), (some 2, ⟨[(0, (.ptr 0 0)), (5, (.own 1))], [zcC, .osl zjB 47]⟩)]),
 (200007, .loop [] ⟨[(0, (.ptr 0 0)), (5, (.own 1)), (7, hB), (8, hI)], [zcC, .osl zjB 47]⟩ [1, 4, 6] [(some 2, ⟨[(0, (.ptr 0 0)), (5, (.own 1)), (7, hB)], [zcC, .osl zjB 47]⟩)]),
 (200003, .loop [] ⟨[(0, (.ptr 0 0)), (5, (.own 1)), (6, hI)], [zcC, .osl zjB 47]⟩ [1, 4] [(some 0, ⟨[(0, (.ptr 0 0)), (5, (.own 1))], [zcC, .osl zjB 47]⟩)]),
 (4000009, .sch [(.pu, 0, []), (.pu, 1, []), (.pu, 2, []), (.pu, 3, []), (.pu, 4, []), (.pu, 5, []), (.pu, 6, []), (.pu, 7, []), (.pu, 8, []), (.pu, 9, []), (.mn, 10, []), (.pu, 11, []), (.pu, 12, []), (.pu, 13, []), (.pu, 14, []), (.pu, 15, []), (.pu, 16, []), (.pu, 17, []), (.pu, 18, []), (.pu, 19, []), (.pu, 20, []), (.pu, 21, []), (.pu, 22, []), (.pu, 23, []), (.pu, 24, []), (.pu, 25, []), (.pu, 26, []), (.pu, 27, []), (.pu, 28, []), (.mn, 29, []), (.pu, 30, []), (.pu, 31, [])])]) (Γ := ⟨[], [], false⟩) (ctok trivial trivial) Tryz.func68
def zeL (o : Ops) (v0 : zaC) (v4 : (Int × Int × Int × Bs × Bs × Bs × Int × Int × Bool × Bool × Int × Bs × Bs × Bool × Int)) : Option ((Int × Int × Int) ⊕ zcO) :=
 bif decide (v0.2.2.1 > 0) then ((zaT o v0.2.2.1 v4.2.2.2.2.2.2.2.2.2.2.2.2.2.2).bind fun v5 => bif decide (v5.1 < 0) then some (.inl ((0 : Int), (133 : Int), v5.2)) else ((zeE o v0.2.2.1 v5.2).bind fun v6 => bif v6.1 then some (.inl ((0 : Int), (133 : Int), v6.2)) else some (.inr (v6.2, v0)))) else some (.inr (v4.2.2.2.2.2.2.2.2.2.2.2.2.2.2, v0))
def zhO (o : Ops) (v9 : zcO) (v10 : (Int × Int × List zaC)) : Option ((Int × Int × Int × List zaC) ⊕ (Int × Int × Int × Int × Bs × Bs × Bs × (List Bs) × Int × Int × Bool × Bool × (List Bs) × Int × Bs × Bs × List zaC)) :=
 bif decide ((v10.2.2.length : Int) ≥ 256) then some (.inl ((0 : Int), (130 : Int), v10.2)) else (bif decide (v10.2.1 ≥ 99999999) then some (.inl ((0 : Int), (130 : Int), v10.2)) else some (.inr (v10.2.1, v9.2.1, v9.2.2.1, v9.2.2.2.1, v9.2.2.2.2.1, v9.2.2.2.2.2.1, v9.2.2.2.2.2.2.1, v9.2.2.2.2.2.2.2.1, v9.2.2.2.2.2.2.2.2.1, v9.2.2.2.2.2.2.2.2.2.1, v9.2.2.2.2.2.2.2.2.2.2.1, v9.2.2.2.2.2.2.2.2.2.2.2.1, v9.2.2.2.2.2.2.2.2.2.2.2.2.1, v9.2.2.2.2.2.2.2.2.2.2.2.2.2.1, v9.2.2.2.2.2.2.2.2.2.2.2.2.2.2.1, v9.2.2.2.2.2.2.2.2.2.2.2.2.2.2.2, v10.2.2)))
def zhS (o : Ops) (v13 : Int × Int × Int × Int × Bs × Bs × Bs × (List Bs) × Int × Int × Bool × Bool × (List Bs) × Int × Bs × Bs × List zaC) (v14 : List Bs) : Option ((Int × Int × Int × Int × Bs × Bs × Bs × (List Bs) × Int × Int × Bool × Bool × (List Bs) × Int × Bs × Bs × List zaC)) :=
 (app ([] : List Bs) v13.2.2.2.2.2.2.2.2.2.2.2.2.1).bind fun v15 => some (v13.1, v13.1, v13.2.2.1, v13.2.2.2.1, v13.2.2.2.2.1, v13.2.2.2.2.2.1, v13.2.2.2.2.2.2.1, v14, v13.2.2.2.2.2.2.2.2.1, v13.2.2.2.2.2.2.2.2.2.1, false, false, v15, v13.2.2.2.2.2.2.2.2.2.2.2.2.2)
def zcW (o : Ops) (v0 : zaC) (v1 : Int) (v2 : Int) : Option ((Int × Int × zlH)) :=
 (zfE o v0).bind fun v3 => bif (!v3) then some ((0 : Int), (131 : Int), ([] : List zaC), v2) else ((zbS o v0.2.2.2.2.2.2.2.2.2.2.2.2.2.1 v2).bind fun v4 => bif v4.2.2.2.2.2.2.2.2.2.2.2.2.2.1 then some ((0 : Int), (132 : Int), ([] : List zaC), v4.2.2.2.2.2.2.2.2.2.2.2.2.2.2) else ((zeL o v0 v4).bind fun v7 => match v7 with
 | .inl v8 => some (v8.1, v8.2.1, ([] : List zaC), v8.2.2)
 | .inr v9 => ((zbI o v1 v9.1).bind fun v10 => (zhO o v9 v10).bind fun v11 => match v11 with
 | .inl v12 => some (v12.1, v12.2.1, v12.2.2.2, v12.2.2.1)
 | .inr v13 => ((app ([] : List Bs) v13.2.2.2.2.2.2.2.1).bind fun v14 => (zhS o v13 v14).bind fun v16 => (app ([] : List zaC) v16.2.2.2.2.2.2.2.2.2.2.2.2.2.2.2.2).bind fun v17 => (app v17 ([(v16.2.1, v16.2.2.1, v16.2.2.2.1, v16.2.2.2.2.1, v16.2.2.2.2.2.1, v16.2.2.2.2.2.2.1, v16.2.2.2.2.2.2.2.1, v16.2.2.2.2.2.2.2.2.1, v16.2.2.2.2.2.2.2.2.2.1, v16.2.2.2.2.2.2.2.2.2.2.1, v16.2.2.2.2.2.2.2.2.2.2.2.1, v16.2.2.2.2.2.2.2.2.2.2.2.2.1, v16.2.2.2.2.2.2.2.2.2.2.2.2.2.1, v16.2.2.2.2.2.2.2.2.2.2.2.2.2.2.1, v16.2.2.2.2.2.2.2.2.2.2.2.2.2.2.2.1)] : List zaC)).bind fun v18 => some (v16.2.1, (0 : Int), v18, w64 (v16.1 + 1))))))
def zhT (o : Ops) : SC := ⟨⟨[(0, (.ptr 0 0)), (1, (.h zjB)), (2, hI)], [zcC]⟩, 2, [(none, ⟨[(0, hI), (1, hI)], [zbM]⟩)], fun x => zcW o x.1 x.2.1 x.2.2⟩
theorem zpF : SCok Tryz.prog tabs 55 (zhT o) := zcD (o := o) (η := [(2000008, .join [] [2] [(some 1000000, ⟨[(6, hI), (7, hI)], [zcC]⟩), (none, ⟨[(0, (.ptr 0 0)), (4, (.ptr 1 0))], [zcC, zvG]⟩)]),
 (2000011, .join [] [] [(some 1000000, ⟨[(6, hI), (7, hI)], [ymN, .osl zjB 47]⟩), (none, ⟨[(0, (.ptr 0 0)), (4, (.ptr 1 0))], [yvL, zvG, .osl zjB 47]⟩)]),
 (2000016, .join [] [] [(none, ⟨[(0, (.ptr 0 0)), (4, (.ptr 1 0))], [yvL, zvG, .osl zjB 47]⟩)]),
 yyE]) (Γ := ⟨[(93, (zkD o))], [(40, (zfA o)), (115, (zbZ o)), (116, (zeD o)), (68, (zeG o))], false⟩) (ctok ⟨zpI, trivial⟩ ⟨ziX, ⟨zdQ, ⟨zhK, ⟨zhU, trivial⟩⟩⟩⟩) Tryz.func55
def zfR (o : Ops) (v0 : Int) (v1 : Int) (v2 : List zcO) : Option ((zaC × Bool × Int × List zcO)) :=
 let v3 : zaC := zkA keqI v2 v0 ((0 : Int), (0 : Int), (0 : Int), ([] : Bs), ([] : Bs), ([] : Bs), ([] : List Bs), (0 : Int), (0 : Int), false, false, ([] : List Bs), (0 : Int), ([] : Bs), ([] : Bs))
 (zfN o v3).bind fun v4 => some (v4, mhas keqI v2 v0, v1, v2)
def zlC (o : Ops) : SC := ⟨⟨[(0, (.ptr 0 0)), (1, hI)], [zoW, zmH]⟩, 2, [(none, ⟨[(0, (.h zjB)), (1, hB)], [zoW, zmH]⟩)], fun x => zfR o x.1 x.2.1 x.2.2⟩
theorem zqI : SCok Tryz.prog tabs 52 (zlC o) := zcD (o := o) (η := []) (Γ := ⟨[(44, (ziF o))], [], false⟩) (ctok ⟨zkW, trivial⟩ trivial) Tryz.func52
def znX (o : Ops) (v0 : List Bs) (v1 : List Bs) (v2 : Int) : Option (Int ⊕ (Bool ⊕ Unit)) :=
 bif decide (v2 < (v0.length : Int)) then ((idx v0 v2).bind fun v3 => (idx v1 v2).bind fun v4 => bif (v3 != v4) then some (.inr (.inl false)) else some (.inl (w64 (v2 + 1)))) else some (.inr (.inr ()))
def zeH (o : Ops) (v0 : List Bs) (v1 : List Bs) : Option (Bool) :=
 bif ((v0.length : Int) != (v1.length : Int)) then (some false) else ((iter (znX o v0 v1) (0 : Int)).bind fun v5 => match v5 with
 | .inl v6 => (some v6)
 | .inr v7 => (some true))
def znP (o : Ops) : PC := ⟨[(.h (.sl .s)), (.h (.sl .s))], [.b], fun x => zeH o x.1 x.2, false⟩
theorem zuO : PCok Tryz.prog tabs 94 (znP o) := zwI (o := o) (η := [(200004, .loop [] ⟨[(5, hI)], []⟩ [0, 1] [(some 1000000, ⟨[(4, hB)], []⟩), (some 0, ⟨[], []⟩)]),
 (4000006, .sch [(.pu, 0, []), (.pu, 1, []), (.pu, 2, []), (.pu, 3, []), (.pu, 4, []), (.pu, 5, []), (.pu, 6, []), (.pu, 7, []), (.pu, 8, [])])]) (Γ := ⟨[], [], false⟩) (ctok trivial trivial) Tryz.func94
def zoB (o : Ops) (v0 : zaC) (v1 : zaC) : Option (Bool ⊕ (Int × Int × Int × Bs × Bs × Bs × (List Bs) × Int × Int × Bool × Bool × (List Bs) × Int × Bs × Bs × zaC)) :=
 (zeH o v0.2.2.2.2.2.2.1 v1.2.2.2.2.2.2.1).bind fun v2 => bif (!v2) then some (.inl false) else ((zeH o v0.2.2.2.2.2.2.2.2.2.2.2.1 v1.2.2.2.2.2.2.2.2.2.2.2.1).bind fun v3 => bif (!v3) then some (.inl false) else some (.inr (v0.1, v0.2.1, v0.2.2.1, v0.2.2.2.1, v0.2.2.2.2.1, v0.2.2.2.2.2.1, v0.2.2.2.2.2.2.1, v0.2.2.2.2.2.2.2.1, v0.2.2.2.2.2.2.2.2.1, v0.2.2.2.2.2.2.2.2.2.1, v0.2.2.2.2.2.2.2.2.2.2.1, v0.2.2.2.2.2.2.2.2.2.2.2.1, v0.2.2.2.2.2.2.2.2.2.2.2.2.1, v0.2.2.2.2.2.2.2.2.2.2.2.2.2.1, v0.2.2.2.2.2.2.2.2.2.2.2.2.2.2, v1)))
def zcB (o : Ops) (v0 : zaC) (v1 : zaC) : Option (Bool) :=
 (zoB o v0 v1).bind fun v4 => match v4 with
 | .inl v5 => (some v5)
 | .inr v6 => (bif (v6.1 == v6.2.2.2.2.2.2.2.2.2.2.2.2.2.2.2.1) then (bif (v6.2.1 == v6.2.2.2.2.2.2.2.2.2.2.2.2.2.2.2.2.1) then (bif (v6.2.2.1 == v6.2.2.2.2.2.2.2.2.2.2.2.2.2.2.2.2.2.1) then (bif (v6.2.2.2.1 == v6.2.2.2.2.2.2.2.2.2.2.2.2.2.2.2.2.2.2.1) then (bif (v6.2.2.2.2.1 == v6.2.2.2.2.2.2.2.2.2.2.2.2.2.2.2.2.2.2.2.1) then (let v7 : Bool := (v6.2.2.2.2.2.1 == v6.2.2.2.2.2.2.2.2.2.2.2.2.2.2.2.2.2.2.2.2.1)
 bif v7 then (let v8 : Bool := (v6.2.2.2.2.2.2.2.1 == v6.2.2.2.2.2.2.2.2.2.2.2.2.2.2.2.2.2.2.2.2.2.2.1)
 bif v8 then (let v9 : Bool := (v6.2.2.2.2.2.2.2.2.1 == v6.2.2.2.2.2.2.2.2.2.2.2.2.2.2.2.2.2.2.2.2.2.2.2.1)
 bif v9 then (let v10 : Bool := (v6.2.2.2.2.2.2.2.2.2.1 == v6.2.2.2.2.2.2.2.2.2.2.2.2.2.2.2.2.2.2.2.2.2.2.2.2.1)
 bif v10 then (let v11 : Bool := (v6.2.2.2.2.2.2.2.2.2.2.1 == v6.2.2.2.2.2.2.2.2.2.2.2.2.2.2.2.2.2.2.2.2.2.2.2.2.2.1)
 bif v11 then (let v12 : Bool := (v6.2.2.2.2.2.2.2.2.2.2.2.2.1 == v6.2.2.2.2.2.2.2.2.2.2.2.2.2.2.2.2.2.2.2.2.2.2.2.2.2.2.2.1)
 bif v12 then (let v13 : Bool := (v6.2.2.2.2.2.2.2.2.2.2.2.2.2.1 == v6.2.2.2.2.2.2.2.2.2.2.2.2.2.2.2.2.2.2.2.2.2.2.2.2.2.2.2.2.1)
 bif v13 then (let v14 : Bool := (v6.2.2.2.2.2.2.2.2.2.2.2.2.2.2.1 == v6.2.2.2.2.2.2.2.2.2.2.2.2.2.2.2.2.2.2.2.2.2.2.2.2.2.2.2.2.2)
 some v14) else (some false)) else (some false)) else (some false)) else (some false)) else (some false)) else (some false)) else (some false)) else (some false)) else (some false)) else (some false)) else (some false)) else (some false))
def zjT (o : Ops) : PC := ⟨[(.h zjB), (.h zjB)], [.b], fun x => zcB o x.1 x.2, false⟩
theorem znR : PCok Tryz.prog tabs 41 (zjT o) := zwI (o := o) (η := [(2000003, .join [] [] [(some 1000000, ⟨[(4, hB)], []⟩), (none, ⟨[(2, (.ptr 0 0)), (3, (.ptr 1 0))], [zvG, zvG]⟩)])]) (Γ := ⟨[(94, (znP o))], [], false⟩) (ctok ⟨zuO, trivial⟩ trivial) Tryz.func41
def zbP (o : Ops) (v0 : Int) (v1 : Int) (v2 : Int) : Option ((Bool × Int)) :=
 (zaF o v0 v2).bind fun v3 => bif v3.2.2.2.2.2.2.2.2.2.2.2.2.2.1 then (bif (!v3.2.2.2.2.2.2.2.2.2.1) then (bif decide (v3.2.2.2.2.2.2.2.1 > v1) then ((zeE o v0 v3.2.2.2.2.2.2.2.2.2.2.2.2.2.2).bind fun v4 => some ((!v4.1), v4.2)) else some (false, v3.2.2.2.2.2.2.2.2.2.2.2.2.2.2)) else some (false, v3.2.2.2.2.2.2.2.2.2.2.2.2.2.2)) else some (false, v3.2.2.2.2.2.2.2.2.2.2.2.2.2.2)
def zeW (o : Ops) : SC := ⟨⟨[(0, (.ptr 0 0)), (1, hI), (2, hI)], [zcC]⟩, 1, [(none, ⟨[(0, hB)], [zcC]⟩)], fun x => zbP o x.1 x.2.1 x.2.2⟩
theorem ziZ : SCok Tryz.prog tabs 57 (zeW o) := zcD (o := o) (η := []) (Γ := ⟨[], [(56, (zaJ o)), (116, (zeD o))], false⟩) (ctok trivial ⟨zaO, ⟨zhK, trivial⟩⟩) Tryz.func57
def zlM (o : Ops) (v0 : List Int) (v1 : List Int) (v2 : Int) : Option (Int ⊕ (Bool ⊕ Unit)) :=
 bif decide (v2 < (v0.length : Int)) then ((idx v0 v2).bind fun v3 => (idx v1 v2).bind fun v4 => bif (v3 != v4) then some (.inr (.inl false)) else some (.inl (w64 (v2 + 1)))) else some (.inr (.inr ()))
def zdI (o : Ops) (v0 : List Int) (v1 : List Int) : Option (Bool) :=
 bif ((v0.length : Int) != (v1.length : Int)) then (some false) else ((iter (zlM o v0 v1) (0 : Int)).bind fun v5 => match v5 with
 | .inl v6 => (some v6)
 | .inr v7 => (some true))
def zgQ (o : Ops) : PC := ⟨[(.h (.sl (.i .i64))), (.h (.sl (.i .i64)))], [.b], fun x => zdI o x.1 x.2, false⟩
theorem zlJ : PCok Tryz.prog tabs 58 (zgQ o) := zwI (o := o) (η := [(200004, .loop [] ⟨[(5, hI)], []⟩ [0, 1] [(some 1000000, ⟨[(4, hB)], []⟩), (some 0, ⟨[], []⟩)]),
 (4000006, .sch [(.pu, 0, []), (.pu, 1, []), (.pu, 2, []), (.pu, 3, []), (.pu, 4, []), (.pu, 5, []), (.pu, 6, []), (.pu, 7, []), (.pu, 8, [])])]) (Γ := ⟨[], [], false⟩) (ctok trivial trivial) Tryz.func58
def ziP (o : Ops) (v0 : Int) (v1 : Int) (v2 : Int) (v3 : Bs) (v4 : Bs) (v5 : Bs) (v6 : List Bs) (v7 : Int) (v8 : Int) (v9 : Bool) (v10 : Bool) (v11 : List Bs) (v12 : Int) (v13 : Bs) (v14 : Bs) : Option (zaC) :=
 some (v0, v1, v2, v3, v4, v5, v6, v7, v8, v9, true, v11, v12, v13, v14)
def zlX (o : Ops) : SC := ⟨⟨[(0, (.ptr 0 0))], [ymQ]⟩, 0, [(none, ⟨[], [ymQ]⟩)], fun x => ziP o x.1 x.2.1 x.2.2.1 x.2.2.2.1 x.2.2.2.2.1 x.2.2.2.2.2.1 x.2.2.2.2.2.2.1 x.2.2.2.2.2.2.2.1 x.2.2.2.2.2.2.2.2.1 x.2.2.2.2.2.2.2.2.2.1 x.2.2.2.2.2.2.2.2.2.2.1 x.2.2.2.2.2.2.2.2.2.2.2.1 x.2.2.2.2.2.2.2.2.2.2.2.2.1 x.2.2.2.2.2.2.2.2.2.2.2.2.2.1 x.2.2.2.2.2.2.2.2.2.2.2.2.2.2⟩
theorem zsQ : SCok Tryz.prog tabs 118 (zlX o) := zcD (o := o) (η := []) (Γ := ⟨[], [], false⟩) (ctok trivial trivial) Tryz.func118
def zkK (o : Ops) (v0 : Int) (v1 : Int) (v2 : List zcO) : Option ((Int × List zcO)) :=
 let v3 : zaC := zkA keqI v2 v0 ((0 : Int), (0 : Int), (0 : Int), ([] : Bs), ([] : Bs), ([] : Bs), ([] : List Bs), (0 : Int), (0 : Int), false, false, ([] : List Bs), (0 : Int), ([] : Bs), ([] : Bs))
 (ziP o v3.1 v3.2.1 v3.2.2.1 v3.2.2.2.1 v3.2.2.2.2.1 v3.2.2.2.2.2.1 v3.2.2.2.2.2.2.1 v3.2.2.2.2.2.2.2.1 v3.2.2.2.2.2.2.2.2.1 v3.2.2.2.2.2.2.2.2.2.1 v3.2.2.2.2.2.2.2.2.2.2.1 v3.2.2.2.2.2.2.2.2.2.2.2.1 v3.2.2.2.2.2.2.2.2.2.2.2.2.1 v3.2.2.2.2.2.2.2.2.2.2.2.2.2.1 v3.2.2.2.2.2.2.2.2.2.2.2.2.2.2).bind fun v4 => (chk (mhas keqI v2 v0)).bind fun _ => let v5 : List zcO := mrep keqI v2 v0 v4
 some (v1, v5)
def znZ (o : Ops) : SC := ⟨⟨[(0, (.ptr 0 0)), (1, hI), (2, (.fn 118 [] []))], [zoW, zmH]⟩, 0, [(none, ⟨[], [zoW, zmH]⟩)], fun x => zkK o x.1 x.2.1 x.2.2⟩
theorem zuL : SCok Tryz.prog tabs 117 (znZ o) := zcD (o := o) (η := [(4000002, .sch [(.pu, 0, []), (.pu, 1, []), (.pu, 2, []), (.pu, 3, []), (.pu, 4, []), (.pu, 5, []), (.mn, 6, [0, 1, 2, 3])])]) (Γ := ⟨[], [(118, (zlX o))], true⟩) (ctok trivial ⟨zsQ, trivial⟩) Tryz.func117
def zeI (o : Ops) (v0 : Int) (v1 : Int) (v2 : Int) (v3 : List zcO) : Option ((Int × Int × List zcO)) :=
 let v4 : zaC := zkA keqI v3 v0 ((0 : Int), (0 : Int), (0 : Int), ([] : Bs), ([] : Bs), ([] : Bs), ([] : List Bs), (0 : Int), (0 : Int), false, false, ([] : List Bs), (0 : Int), ([] : Bs), ([] : Bs))
 bif (!(mhas keqI v3 v0)) then some ((131 : Int), v2, v3) else (bif v4.2.2.2.2.2.2.2.2.2.2.1 then ((zdT o v0 v2 v3).bind fun v5 => some ((134 : Int), v5)) else ((zaQ o v0 v1 v2 v3).bind fun v6 => bif (!v6.1) then some ((133 : Int), v6.2) else ((zkK o v0 v6.2.1 v6.2.2).bind fun v7 => some ((0 : Int), v7))))
def zjS (o : Ops) : SC := ⟨⟨[(0, (.ptr 0 0)), (1, hI), (2, hI)], [zoW, zmH]⟩, 1, [(none, ⟨[(0, hI)], [zoW, zmH]⟩)], fun x => zeI o x.1 x.2.1 x.2.2.1 x.2.2.2⟩
theorem zoD : SCok Tryz.prog tabs 60 (zjS o) := zcD (o := o) (η := []) (Γ := ⟨[], [(70, (zgK o)), (22, (zdA o)), (117, (znZ o))], false⟩) (ctok trivial ⟨zkP, ⟨zeF, ⟨zuL, trivial⟩⟩⟩) Tryz.func60
def zcA (o : Ops) (v0 : Int) (v1 : Int) (v2 : Int) (v3 : Bs) (v4 : Bs) (v5 : Bs) (v6 : Int) (v7 : Int) (v8 : Bool) (v9 : Bool) (v10 : Int) (v11 : Bs) (v12 : Bs) (v13 : Int) : Option ((Int × List zaC)) :=
 (zaT o v0 v13).bind fun v14 => (app ([] : List zaC) ([] : List zaC)).bind fun v15 => (chk (decide ((0 : Int) ≤ v14.1) && decide (v14.1 < (v15.length : Int)))).bind fun _ => (setL v15 v14.1 (v0, v1, v2, v3, v4, v5, ([] : List Bs), v6, v7, v8, v9, ([] : List Bs), v10, v11, v12)).bind fun v16 => some (v14.2, v16)
def zbV (o : Ops) : SC := ⟨⟨[(0, (.ptr 0 0)), (1, (.ag [hI, hI, hI, hS, hS, hS, .nils, hI, hI, hB, hB, .nils, hI, hS, hS]))], [zcC]⟩, 0, [(none, ⟨[], [ymN, .osl zjB 47]⟩)], fun x => zcA o x.1 x.2.1 x.2.2.1 x.2.2.2.1 x.2.2.2.2.1 x.2.2.2.2.2.1 x.2.2.2.2.2.2.1 x.2.2.2.2.2.2.2.1 x.2.2.2.2.2.2.2.2.1 x.2.2.2.2.2.2.2.2.2.1 x.2.2.2.2.2.2.2.2.2.2.1 x.2.2.2.2.2.2.2.2.2.2.2.1 x.2.2.2.2.2.2.2.2.2.2.2.2.1 x.2.2.2.2.2.2.2.2.2.2.2.2.2⟩
theorem zdN : SCok Tryz.prog tabs 119 (zbV o) := zcD (o := o) (η := []) (Γ := ⟨[], [(115, (zbZ o))], false⟩) (ctok trivial ⟨zdQ, trivial⟩) Tryz.func119
def zbU (o : Ops) (v0 : Int) (v1 : Int) : Option ((Int × zlH)) :=
 (zaF o v0 v1).bind fun v2 => bif (!v2.2.2.2.2.2.2.2.2.2.2.2.2.2.1) then some ((131 : Int), ([] : List zaC), v2.2.2.2.2.2.2.2.2.2.2.2.2.2.2) else ((zcA o v2.1 v2.2.1 v2.2.2.1 v2.2.2.2.1 v2.2.2.2.2.1 v2.2.2.2.2.2.1 v2.2.2.2.2.2.2.1 v2.2.2.2.2.2.2.2.1 true v2.2.2.2.2.2.2.2.2.2.1 v2.2.2.2.2.2.2.2.2.2.2.1 v2.2.2.2.2.2.2.2.2.2.2.2.1 v2.2.2.2.2.2.2.2.2.2.2.2.2.1 v2.2.2.2.2.2.2.2.2.2.2.2.2.2.2).bind fun v3 => some ((0 : Int), v3.2, v3.1))
def zeY (o : Ops) : SC := ⟨⟨[(0, (.ptr 0 0)), (1, hI)], [zcC]⟩, 1, [(none, ⟨[(0, hI)], [zbM]⟩)], fun x => zbU o x.1 x.2⟩
theorem ziS : SCok Tryz.prog tabs 62 (zeY o) := zcD (o := o) (η := []) (Γ := ⟨[], [(119, (zbV o)), (56, (zaJ o))], false⟩) (ctok trivial ⟨zdN, ⟨zaO, trivial⟩⟩) Tryz.func62
def zcS (o : Ops) (v0 : Int) (v1 : Int) (v2 : Int) : Option ((Int × zlH)) :=
 (zaF o v0 v2).bind fun v3 => bif (!v3.2.2.2.2.2.2.2.2.2.2.2.2.2.1) then some ((131 : Int), ([] : List zaC), v3.2.2.2.2.2.2.2.2.2.2.2.2.2.2) else (bif v3.2.2.2.2.2.2.2.2.2.1 then ((zbU o v0 v3.2.2.2.2.2.2.2.2.2.2.2.2.2.2).bind fun v4 => some ((134 : Int), v4.2)) else ((zbP o v0 v1 v3.2.2.2.2.2.2.2.2.2.2.2.2.2.2).bind fun v5 => bif (!v5.1) then some ((133 : Int), ([] : List zaC), v5.2) else ((zcA o v3.1 v3.2.1 v3.2.2.1 v3.2.2.2.1 v3.2.2.2.2.1 v3.2.2.2.2.2.1 v3.2.2.2.2.2.2.1 v3.2.2.2.2.2.2.2.1 v3.2.2.2.2.2.2.2.2.1 true v3.2.2.2.2.2.2.2.2.2.2.1 v3.2.2.2.2.2.2.2.2.2.2.2.1 v3.2.2.2.2.2.2.2.2.2.2.2.2.1 v5.2).bind fun v6 => some ((0 : Int), v6.2, v6.1))))
def ziA (o : Ops) : SC := ⟨⟨[(0, (.ptr 0 0)), (1, hI), (2, hI)], [zcC]⟩, 1, [(none, ⟨[(0, hI)], [zbM]⟩)], fun x => zcS o x.1 x.2.1 x.2.2⟩
theorem zpG : SCok Tryz.prog tabs 61 (ziA o) := zcD (o := o) (η := []) (Γ := ⟨[], [(119, (zbV o)), (56, (zaJ o)), (62, (zeY o)), (57, (zeW o))], false⟩) (ctok trivial ⟨zdN, ⟨zaO, ⟨ziS, ⟨ziZ, trivial⟩⟩⟩⟩) Tryz.func61
noncomputable def ziI (o : Ops) (v0 : Bs) (v3 : Bs × Bool) (v5 : Int) (v6 : List zcO) (v7 : List Int) (v8 : zcO) (v9 : zaC) : Option ((Bool × Int × (List zcO) × List Int)) :=
 bif (!v9.2.2.2.2.2.2.2.2.2.1) then (bif (v9.2.2.2.1 == v0) then some (true, v5, v6, rngD keqI v7 v8.1) else (bif v3.2 then (bif (v3.1 != ([] : Bs)) then some ((v9.2.2.2.2.1 == v3.1), v5, v6, rngD keqI v7 v8.1) else some (false, v5, v6, rngD keqI v7 v8.1)) else some (false, v5, v6, rngD keqI v7 v8.1))) else some (false, v5, v6, rngD keqI v7 v8.1)
noncomputable def znL (o : Ops) (v0 : Bs) (v3 : Bs × Bool) (v4 : Int) (v5 : Int) (v6 : List zcO) (v7 : List Int) : List (Option ((Int × Int × (List zcO) × List Int) ⊕ ((Int × Int × List zcO)))) :=
 rngL (rngC keqI v6 v7) (some (.inr (v4, v5, v6))) fun v8 => (mget keqI v6 v8.1).bind fun v9 => (ziI o v0 v3 v5 v6 v7 v8 v9).bind fun v10 => bif v10.1 then ((zdT o v8.1 v10.2.1 v10.2.2.1).bind fun v11 => some (.inl (w64 (v4 + 1), v11.1, v11.2, v10.2.2.2))) else some (.inl (v4, v10.2))
noncomputable def zdY (o : Ops) (v0 : Bs) (v1 : Int) (v2 : List zcO) : Option ((Int × Int × List zcO)) :=
 (zcY o v0 ([99, 58] : Bs)).bind fun v3 => (rngA (fun x => znL o v0 v3 x.1 x.2.1 x.2.2.1 x.2.2.2) ((0 : Int), v1, v2, List.map Prod.fst v2)).bind fun v12 => some v12
noncomputable def ziQ (o : Ops) : SC := ⟨⟨[(0, (.ptr 0 0)), (1, hS)], [zoW, zmH]⟩, 1, [(none, ⟨[(0, hI)], [zoW, zmH]⟩)], fun x => zdY o x.1 x.2.1 x.2.2⟩
theorem zmX : SCok Tryz.prog tabs 26 (ziQ o) := zcD (o := o) (η := [(2300007, .join [] [1, 5, 6, 7, 8] [(none, ⟨[(0, (.ptr 0 0)), (19, (.ptr 2 0)), (49, hB)], [zoW, zmH, .it 1 true (.i .i64)]⟩)]),
 (200004, .rng [] ⟨[(0, (.ptr 0 0)), (7, hI), (19, (.ptr 2 0))], [zoW, zmH, .it 1 true (.i .i64)]⟩ [1, 4, 5, 6] [(some 0, ⟨[(7, hI)], [zoW, zmH]⟩)])]) (Γ := ⟨[(72, (zlD o))], [(70, (zgK o))], false⟩) (ctok ⟨zqJ, trivial⟩ ⟨zkP, trivial⟩) Tryz.func26
def zoJ (o : Ops) (v2 : Int) (v3 : Int) (v4 : Int) : Option ((Int × Int × Int) ⊕ ((Int × Int))) :=
 bif decide (v3 < 0) then none else some (.inr (v2, v4))
def zcI (o : Ops) (v0 : Bs) (v1 : Int) : Option ((Int × Int)) :=
 (iter (fun x => zoJ o x.1 x.2.1 x.2.2) ((0 : Int), (0 : Int), v1)).bind fun v5 => some v5
def zhF (o : Ops) : SC := ⟨⟨[(0, (.ptr 0 0)), (1, hS)], [zcC]⟩, 1, [(none, ⟨[(0, hI)], [zcC]⟩)], fun x => zcI o x.1 x.2⟩
theorem zoO : SCok Tryz.prog tabs 63 (zhF o) := zcD (o := o) (η := [(200003, .loop [] ⟨[(0, (.ptr 0 0)), (5, hI), (6, hI)], [zcC]⟩ [1, 4] [(some 0, ⟨[(5, hI)], [zcC]⟩)])]) (Γ := ⟨[], [], false⟩) (ctok trivial trivial) Tryz.func63
def zjG (o : Ops) (v0 : Int) (v1 : Int) (v2 : Int) (v3 : Bs) (v4 : Bs) (v5 : Bs) (v6 : List Bs) (v7 : Int) (v8 : Int) (v9 : Bool) (v10 : Bool) (v11 : List Bs) (v12 : Int) (v13 : Bs) (v14 : Bs) (v15 : Int) : Option ((Int × Int × Int × Bs × Bs × Bs × (List Bs) × Int × Int × Bool × Bool × (List Bs) × Int × Bs × Bs × Int)) :=
 some (v0, v1, v2, v3, v4, v5, v6, v7, v8, v9, v10, v11, (bif decide (v12 ≤ v15) then v15 else v12), v13, v14, v15)
def zmR (o : Ops) : SC := ⟨⟨[(0, (.ptr 0 0)), (1, (.ptr 1 0))], [ymQ, .blk 3 [hI]]⟩, 0, [(none, ⟨[], [ymQ, .blk 3 [hI]]⟩)], fun x => zjG o x.1 x.2.1 x.2.2.1 x.2.2.2.1 x.2.2.2.2.1 x.2.2.2.2.2.1 x.2.2.2.2.2.2.1 x.2.2.2.2.2.2.2.1 x.2.2.2.2.2.2.2.2.1 x.2.2.2.2.2.2.2.2.2.1 x.2.2.2.2.2.2.2.2.2.2.1 x.2.2.2.2.2.2.2.2.2.2.2.1 x.2.2.2.2.2.2.2.2.2.2.2.2.1 x.2.2.2.2.2.2.2.2.2.2.2.2.2.1 x.2.2.2.2.2.2.2.2.2.2.2.2.2.2.1 x.2.2.2.2.2.2.2.2.2.2.2.2.2.2.2⟩
theorem ztX : SCok Tryz.prog tabs 120 (zmR o) := zcD (o := o) (η := [(4000000, .sch [(.pu, 0, []), (.pu, 1, []), (.pu, 2, []), (.pu, 3, []), (.pu, 4, []), (.pu, 5, []), (.pu, 6, []), (.pu, 7, []), (.pu, 8, []), (.pu, 9, []), (.pu, 10, []), (.mn, 11, [0])])]) (Γ := ⟨[], [], false⟩) (ctok trivial trivial) Tryz.func120
def zkH (o : Ops) (v0 : Int) (v1 : Int) (v2 : Int) (v3 : List zcO) : Option ((Int × Int × List zcO)) :=
 let v4 : zaC := zkA keqI v3 v0 ((0 : Int), (0 : Int), (0 : Int), ([] : Bs), ([] : Bs), ([] : Bs), ([] : List Bs), (0 : Int), (0 : Int), false, false, ([] : List Bs), (0 : Int), ([] : Bs), ([] : Bs))
 (zjG o v4.1 v4.2.1 v4.2.2.1 v4.2.2.2.1 v4.2.2.2.2.1 v4.2.2.2.2.2.1 v4.2.2.2.2.2.2.1 v4.2.2.2.2.2.2.2.1 v4.2.2.2.2.2.2.2.2.1 v4.2.2.2.2.2.2.2.2.2.1 v4.2.2.2.2.2.2.2.2.2.2.1 v4.2.2.2.2.2.2.2.2.2.2.2.1 v4.2.2.2.2.2.2.2.2.2.2.2.2.1 v4.2.2.2.2.2.2.2.2.2.2.2.2.2.1 v4.2.2.2.2.2.2.2.2.2.2.2.2.2.2 v2).bind fun v5 => (chk (mhas keqI v3 v0)).bind fun _ => let v6 : List zcO := mrep keqI v3 v0 (v5.1, v5.2.1, v5.2.2.1, v5.2.2.2.1, v5.2.2.2.2.1, v5.2.2.2.2.2.1, v5.2.2.2.2.2.2.1, v5.2.2.2.2.2.2.2.1, v5.2.2.2.2.2.2.2.2.1, v5.2.2.2.2.2.2.2.2.2.1, v5.2.2.2.2.2.2.2.2.2.2.1, v5.2.2.2.2.2.2.2.2.2.2.2.1, v5.2.2.2.2.2.2.2.2.2.2.2.2.1, v5.2.2.2.2.2.2.2.2.2.2.2.2.2.1, v5.2.2.2.2.2.2.2.2.2.2.2.2.2.2.1)
 some (v1, v5.2.2.2.2.2.2.2.2.2.2.2.2.2.2.2, v6)
def znT (o : Ops) : SC := ⟨⟨[(0, (.ptr 0 0)), (1, hI), (2, (.fn 120 [] [(.ptr 1 0)]))], [zpR, .blk 3 [hI], zmH]⟩, 0, [(none, ⟨[], [zpR, .blk 3 [hI], zmH]⟩)], fun x => zkH o x.1 x.2.1 x.2.2.1 x.2.2.2⟩
theorem zuQ : SCok Tryz.prog tabs 117 (znT o) := zcD (o := o) (η := [(4000002, .sch [(.pu, 0, []), (.pu, 1, []), (.pu, 2, []), (.pu, 3, []), (.pu, 4, []), (.pu, 5, []), (.mn, 6, [0, 1, 2, 3, 4])])]) (Γ := ⟨[], [(120, (zmR o))], true⟩) (ctok trivial ⟨ztX, trivial⟩) Tryz.func117
def zfB (o : Ops) (v0 : Int) (v1 : Int) (v2 : Int) (v3 : List zcO) : Option ((Int × Int × List zcO)) :=
 let v4 : zaC := zkA keqI v3 v0 ((0 : Int), (0 : Int), (0 : Int), ([] : Bs), ([] : Bs), ([] : Bs), ([] : List Bs), (0 : Int), (0 : Int), false, false, ([] : List Bs), (0 : Int), ([] : Bs), ([] : Bs))
 bif (!(mhas keqI v3 v0)) then some ((131 : Int), v2, v3) else (bif (v4.2.1 != 1) then some ((131 : Int), v2, v3) else ((zaU o v1 (1 : Int) (3 : Int)).bind fun v5 => bif (!v5) then some ((131 : Int), v2, v3) else ((zkH o v0 v2 v1 v3).bind fun v6 => some ((0 : Int), v6.1, v6.2.2))))
def zkC (o : Ops) : SC := ⟨⟨[(0, (.ptr 0 0)), (1, hI), (2, hI)], [zoW, zmH]⟩, 1, [(none, ⟨[(0, hI)], [zoW, zmH]⟩)], fun x => zfB o x.1 x.2.1 x.2.2.1 x.2.2.2⟩
theorem zoZ : SCok Tryz.prog tabs 64 (zkC o) := zcD (o := o) (η := []) (Γ := ⟨[(34, (zrY o))], [(117, (znT o))], false⟩) (ctok ⟨zuY, trivial⟩ ⟨zuQ, trivial⟩) Tryz.func64
def zpV (o : Ops) (v1 : Int) (v3 : (Int × Int × Int × Bs × Bs × Bs × Int × Int × Bool × Bool × Int × Bs × Bs × Bool × Int)) : Option ((Int × Int) ⊕ (Int × Int × Int × Int × Bs × Bs × Bs × Int × Int × Bool × Bool × Int × Bs × Bs)) :=
 bif (!v3.2.2.2.2.2.2.2.2.2.2.2.2.2.1) then some (.inl ((131 : Int), v3.2.2.2.2.2.2.2.2.2.2.2.2.2.2)) else (bif (v3.2.1 != 1) then some (.inl ((131 : Int), v3.2.2.2.2.2.2.2.2.2.2.2.2.2.2)) else (bif decide (v1 < 1) then some (.inl ((131 : Int), v3.2.2.2.2.2.2.2.2.2.2.2.2.2.2)) else (bif decide (v1 > 3) then some (.inl ((131 : Int), v3.2.2.2.2.2.2.2.2.2.2.2.2.2.2)) else some (.inr (v3.2.2.2.2.2.2.2.2.2.2.2.2.2.2, v3.1, v3.2.1, v3.2.2.1, v3.2.2.2.1, v3.2.2.2.2.1, v3.2.2.2.2.2.1, v3.2.2.2.2.2.2.1, v3.2.2.2.2.2.2.2.1, v3.2.2.2.2.2.2.2.2.1, v3.2.2.2.2.2.2.2.2.2.1, v3.2.2.2.2.2.2.2.2.2.2.1, v3.2.2.2.2.2.2.2.2.2.2.2.1, v3.2.2.2.2.2.2.2.2.2.2.2.2.1)))))
def zdL (o : Ops) (v0 : Int) (v1 : Int) (v2 : Int) : Option ((Int × zlH)) :=
 (zaF o v0 v2).bind fun v3 => (zpV o v1 v3).bind fun v4 => match v4 with
 | .inl v5 => some (v5.1, ([] : List zaC), v5.2)
 | .inr v6 => (bif decide (v1 > v6.2.2.2.2.2.2.2.2.2.2.2.1) then ((zcA o v6.2.1 v6.2.2.1 v6.2.2.2.1 v6.2.2.2.2.1 v6.2.2.2.2.2.1 v6.2.2.2.2.2.2.1 v6.2.2.2.2.2.2.2.1 v6.2.2.2.2.2.2.2.2.1 v6.2.2.2.2.2.2.2.2.2.1 v6.2.2.2.2.2.2.2.2.2.2.1 v1 v6.2.2.2.2.2.2.2.2.2.2.2.2.1 v6.2.2.2.2.2.2.2.2.2.2.2.2.2 v6.1).bind fun v7 => some ((0 : Int), v7.2, v7.1)) else some ((0 : Int), ([] : List zaC), v6.1))
def ziY (o : Ops) : SC := ⟨⟨[(0, (.ptr 0 0)), (1, hI), (2, hI)], [zcC]⟩, 1, [(none, ⟨[(0, hI)], [zbM]⟩)], fun x => zdL o x.1 x.2.1 x.2.2⟩
theorem zqE : SCok Tryz.prog tabs 65 (ziY o) := zcD (o := o) (η := [(2000004, .join [] [2] [(some 1000000, ⟨[(6, hI)], [zcC]⟩), (none, ⟨[(0, (.ptr 0 0)), (7, (.ptr 1 0))], [zcC, ynD]⟩)])]) (Γ := ⟨[], [(119, (zbV o)), (56, (zaJ o))], false⟩) (ctok trivial ⟨zdN, ⟨zaO, trivial⟩⟩) Tryz.func65
def zjE (o : Ops) (v0 : Int) (v1 : Int) (v2 : Int) (v3 : Bs) (v4 : Bs) (v5 : Bs) (v6 : List Bs) (v7 : Int) (v8 : Int) (v9 : Bool) (v10 : Bool) (v11 : List Bs) (v12 : Int) (v13 : Bs) (v14 : Bs) (v15 : Bs) : Option ((Int × Int × Int × Bs × Bs × Bs × (List Bs) × Int × Int × Bool × Bool × (List Bs) × Int × Bs × Bs × Bs)) :=
 some (v0, v1, v2, v3, v4, v5, v6, v7, v8, v9, v10, v11, v12, v13, v15, v15)
def znD (o : Ops) : SC := ⟨⟨[(0, (.ptr 0 0)), (1, (.ptr 1 0))], [ymQ, .blk 9 [hS]]⟩, 0, [(none, ⟨[], [ymQ, .blk 9 [hS]]⟩)], fun x => zjE o x.1 x.2.1 x.2.2.1 x.2.2.2.1 x.2.2.2.2.1 x.2.2.2.2.2.1 x.2.2.2.2.2.2.1 x.2.2.2.2.2.2.2.1 x.2.2.2.2.2.2.2.2.1 x.2.2.2.2.2.2.2.2.2.1 x.2.2.2.2.2.2.2.2.2.2.1 x.2.2.2.2.2.2.2.2.2.2.2.1 x.2.2.2.2.2.2.2.2.2.2.2.2.1 x.2.2.2.2.2.2.2.2.2.2.2.2.2.1 x.2.2.2.2.2.2.2.2.2.2.2.2.2.2.1 x.2.2.2.2.2.2.2.2.2.2.2.2.2.2.2⟩
theorem ztP : SCok Tryz.prog tabs 121 (znD o) := zcD (o := o) (η := []) (Γ := ⟨[], [], false⟩) (ctok trivial trivial) Tryz.func121
def zkR (o : Ops) (v0 : Int) (v1 : Int) (v2 : Bs) (v3 : List zcO) : Option ((Int × Bs × List zcO)) :=
 let v4 : zaC := zkA keqI v3 v0 ((0 : Int), (0 : Int), (0 : Int), ([] : Bs), ([] : Bs), ([] : Bs), ([] : List Bs), (0 : Int), (0 : Int), false, false, ([] : List Bs), (0 : Int), ([] : Bs), ([] : Bs))
 (zjE o v4.1 v4.2.1 v4.2.2.1 v4.2.2.2.1 v4.2.2.2.2.1 v4.2.2.2.2.2.1 v4.2.2.2.2.2.2.1 v4.2.2.2.2.2.2.2.1 v4.2.2.2.2.2.2.2.2.1 v4.2.2.2.2.2.2.2.2.2.1 v4.2.2.2.2.2.2.2.2.2.2.1 v4.2.2.2.2.2.2.2.2.2.2.2.1 v4.2.2.2.2.2.2.2.2.2.2.2.2.1 v4.2.2.2.2.2.2.2.2.2.2.2.2.2.1 v4.2.2.2.2.2.2.2.2.2.2.2.2.2.2 v2).bind fun v5 => (chk (mhas keqI v3 v0)).bind fun _ => let v6 : List zcO := mrep keqI v3 v0 (v5.1, v5.2.1, v5.2.2.1, v5.2.2.2.1, v5.2.2.2.2.1, v5.2.2.2.2.2.1, v5.2.2.2.2.2.2.1, v5.2.2.2.2.2.2.2.1, v5.2.2.2.2.2.2.2.2.1, v5.2.2.2.2.2.2.2.2.2.1, v5.2.2.2.2.2.2.2.2.2.2.1, v5.2.2.2.2.2.2.2.2.2.2.2.1, v5.2.2.2.2.2.2.2.2.2.2.2.2.1, v5.2.2.2.2.2.2.2.2.2.2.2.2.2.1, v5.2.2.2.2.2.2.2.2.2.2.2.2.2.2.1)
 some (v1, v5.2.2.2.2.2.2.2.2.2.2.2.2.2.2.2, v6)
def znU (o : Ops) : SC := ⟨⟨[(0, (.ptr 0 0)), (1, hI), (2, (.fn 121 [] [(.ptr 1 0)]))], [zpR, .blk 9 [hS], zmH]⟩, 0, [(none, ⟨[], [zpR, .blk 9 [hS], zmH]⟩)], fun x => zkR o x.1 x.2.1 x.2.2.1 x.2.2.2⟩
theorem zuJ : SCok Tryz.prog tabs 117 (znU o) := zcD (o := o) (η := [(4000002, .sch [(.pu, 0, []), (.pu, 1, []), (.pu, 2, []), (.pu, 3, []), (.pu, 4, []), (.pu, 5, []), (.mn, 6, [0, 1, 2, 3, 4])])]) (Γ := ⟨[], [(121, (znD o))], true⟩) (ctok trivial ⟨ztP, trivial⟩) Tryz.func117
def zfD (o : Ops) (v0 : Int) (v1 : Bs) (v2 : Int) (v3 : List zcO) : Option ((Int × Int × List zcO)) :=
 let v4 : zaC := zkA keqI v3 v0 ((0 : Int), (0 : Int), (0 : Int), ([] : Bs), ([] : Bs), ([] : Bs), ([] : List Bs), (0 : Int), (0 : Int), false, false, ([] : List Bs), (0 : Int), ([] : Bs), ([] : Bs))
 bif (!(mhas keqI v3 v0)) then some ((131 : Int), v2, v3) else (bif decide ((v1.length : Int) > 256) then some ((131 : Int), v2, v3) else ((zkR o v0 v2 v1 v3).bind fun v5 => some ((0 : Int), v5.1, v5.2.2)))
def zkF (o : Ops) : SC := ⟨⟨[(0, (.ptr 0 0)), (1, hI), (2, hS)], [zoW, zmH]⟩, 1, [(none, ⟨[(0, hI)], [zoW, zmH]⟩)], fun x => zfD o x.1 x.2.1 x.2.2.1 x.2.2.2⟩
theorem zpD : SCok Tryz.prog tabs 66 (zkF o) := zcD (o := o) (η := []) (Γ := ⟨[], [(117, (znU o))], false⟩) (ctok trivial ⟨zuJ, trivial⟩) Tryz.func66
def zqA (o : Ops) (v1 : Bs) (v3 : (Int × Int × Int × Bs × Bs × Bs × Int × Int × Bool × Bool × Int × Bs × Bs × Bool × Int)) : Option ((Int × Int) ⊕ (Int × Int × Int × Int × Bs × Bs × Bs × Int × Int × Bool × Bool × Int × Bs × Bs)) :=
 bif (!v3.2.2.2.2.2.2.2.2.2.2.2.2.2.1) then some (.inl ((131 : Int), v3.2.2.2.2.2.2.2.2.2.2.2.2.2.2)) else (bif decide ((v1.length : Int) > 256) then some (.inl ((131 : Int), v3.2.2.2.2.2.2.2.2.2.2.2.2.2.2)) else some (.inr (v3.2.2.2.2.2.2.2.2.2.2.2.2.2.2, v3.1, v3.2.1, v3.2.2.1, v3.2.2.2.1, v3.2.2.2.2.1, v3.2.2.2.2.2.1, v3.2.2.2.2.2.2.1, v3.2.2.2.2.2.2.2.1, v3.2.2.2.2.2.2.2.2.1, v3.2.2.2.2.2.2.2.2.2.1, v3.2.2.2.2.2.2.2.2.2.2.1, v3.2.2.2.2.2.2.2.2.2.2.2.1, v3.2.2.2.2.2.2.2.2.2.2.2.2.1)))
def zdM (o : Ops) (v0 : Int) (v1 : Bs) (v2 : Int) : Option ((Int × zlH)) :=
 (zaF o v0 v2).bind fun v3 => (zqA o v1 v3).bind fun v4 => match v4 with
 | .inl v5 => some (v5.1, ([] : List zaC), v5.2)
 | .inr v6 => ((zcA o v6.2.1 v6.2.2.1 v6.2.2.2.1 v6.2.2.2.2.1 v6.2.2.2.2.2.1 v6.2.2.2.2.2.2.1 v6.2.2.2.2.2.2.2.1 v6.2.2.2.2.2.2.2.2.1 v6.2.2.2.2.2.2.2.2.2.1 v6.2.2.2.2.2.2.2.2.2.2.1 v6.2.2.2.2.2.2.2.2.2.2.2.1 v6.2.2.2.2.2.2.2.2.2.2.2.2.1 v1 v6.1).bind fun v7 => some ((0 : Int), v7.2, v7.1))
def ziV (o : Ops) : SC := ⟨⟨[(0, (.ptr 0 0)), (1, hI), (2, hS)], [zcC]⟩, 1, [(none, ⟨[(0, hI)], [zbM]⟩)], fun x => zdM o x.1 x.2.1 x.2.2⟩
theorem zqC : SCok Tryz.prog tabs 67 (ziV o) := zcD (o := o) (η := [(2000004, .join [] [2] [(some 1000000, ⟨[(6, hI)], [zcC]⟩), (none, ⟨[(0, (.ptr 0 0)), (7, (.ptr 1 0))], [zcC, ynD]⟩)])]) (Γ := ⟨[], [(119, (zbV o)), (56, (zaJ o))], false⟩) (ctok trivial ⟨zdN, ⟨zaO, trivial⟩⟩) Tryz.func67
noncomputable def zjJ (o : Ops) (v8 : Int) (v9 : Int) (v10 : List zaC) (v11 : Int) (v12 : List zcO) (v13 : Int) (v14 : Int) (v15 : Int) (v16 : Bs) (v17 : Bs) (v18 : Bs) (v19 : Int) (v20 : Int) (v21 : Bool) (v22 : Bool) (v23 : Int) (v24 : Bs) (v25 : Bs) (v26 : List Bs) (v27 : List Bs) : Option ((Int × Int × (List zaC) × Int × (List zcO) × Int × Int × Int × Bs × Bs × Bs × Int × Int × Bool × Bool × Int × Bs × Bs × (List Bs) × List Bs) ⊕ ((Int × (List zaC) × Int × (List zcO) × Int × Int × Int × Bs × Bs × Bs × Int × Int × Bool × Bool × Int × Bs × Bs × (List Bs) × List Bs))) :=
 bif decide (v8 < (v26.length : Int)) then ((chk (decide ((0 : Int) ≤ v8) && decide (v8 < (v26.length : Int)))).bind fun _ => (setL v26 v8 ([111, 118, 101, 114] : Bs)).bind fun v28 => some (.inl (w64 (v8 + 1), v9, v10, v11, v12, v13, v14, v15, v16, v17, v18, v19, v20, v21, v22, v23, v24, v25, v28, v27))) else some (.inr (v9, v10, v11, v12, v13, v14, v15, v16, v17, v18, v19, v20, v21, v22, v23, v24, v25, v26, v27))
noncomputable def zjL (o : Ops) (v30 : Int) (v31 : Int) (v32 : List zaC) (v33 : Int) (v34 : List zcO) (v35 : Int) (v36 : Int) (v37 : Int) (v38 : Bs) (v39 : Bs) (v40 : Bs) (v41 : Int) (v42 : Int) (v43 : Bool) (v44 : Bool) (v45 : Int) (v46 : Bs) (v47 : Bs) (v48 : List Bs) (v49 : List Bs) : Option ((Int × Int × (List zaC) × Int × (List zcO) × Int × Int × Int × Bs × Bs × Bs × Int × Int × Bool × Bool × Int × Bs × Bs × (List Bs) × List Bs) ⊕ ((Int × (List zaC) × Int × List zcO))) :=
 bif decide (v30 < (v49.length : Int)) then ((chk (decide ((0 : Int) ≤ v30) && decide (v30 < (v49.length : Int)))).bind fun _ => (setL v49 v30 ([111, 118, 101, 114] : Bs)).bind fun v50 => some (.inl (w64 (v30 + 1), v31, v32, v33, v34, v35, v36, v37, v38, v39, v40, v41, v42, v43, v44, v45, v46, v47, v48, v50))) else some (.inr (v31, v32, v33, v34))
noncomputable def zeO (o : Ops) (v0 : ypO) (v1 : Int) (v2 : Int) (v3 : List zcO) : Option ((Bool × Int × (List zaC) × Int × List zcO)) :=
 bif (v0.2.1 == 0) then ((app ([] : List Bs) v0.2.2.2.2.2.2.2.2.2.2.2.1).bind fun v4 => (app ([] : List Bs) v0.2.2.2.2.2.2.2.2.2.2.2.2.2.2.2.2.1).bind fun v5 => (zbO o v0.2.2.2.2.2.1 v0.2.2.2.2.2.2.1 v0.2.2.2.2.2.2.2.1 v0.2.2.2.2.2.2.2.2.1 v0.2.2.2.2.2.2.2.2.2.1 v0.2.2.2.2.2.2.2.2.2.2.1 v0.2.2.2.2.2.2.2.2.2.2.2.2.1 v0.2.2.2.2.2.2.2.2.2.2.2.2.2.1 v0.2.2.2.2.2.2.2.2.2.2.2.2.2.2.1 v0.2.2.2.2.2.2.2.2.2.2.2.2.2.2.2.1 v0.2.2.2.2.2.2.2.2.2.2.2.2.2.2.2.2.2.1 v0.2.2.2.2.2.2.2.2.2.2.2.2.2.2.2.2.2.2.1 v0.2.2.2.2.2.2.2.2.2.2.2.2.2.2.2.2.2.2.2 v0.2.2.1 v1 v4 v5 v3).bind fun v6 => (zcW o v0.2.2.2.2.2 v0.2.2.1 v2).bind fun v7 => (iter (fun x => zjJ o x.1 x.2.1 x.2.2.1 x.2.2.2.1 x.2.2.2.2.1 x.2.2.2.2.2.1 x.2.2.2.2.2.2.1 x.2.2.2.2.2.2.2.1 x.2.2.2.2.2.2.2.2.1 x.2.2.2.2.2.2.2.2.2.1 x.2.2.2.2.2.2.2.2.2.2.1 x.2.2.2.2.2.2.2.2.2.2.2.1 x.2.2.2.2.2.2.2.2.2.2.2.2.1 x.2.2.2.2.2.2.2.2.2.2.2.2.2.1 x.2.2.2.2.2.2.2.2.2.2.2.2.2.2.1 x.2.2.2.2.2.2.2.2.2.2.2.2.2.2.2.1 x.2.2.2.2.2.2.2.2.2.2.2.2.2.2.2.2.1 x.2.2.2.2.2.2.2.2.2.2.2.2.2.2.2.2.2.1 x.2.2.2.2.2.2.2.2.2.2.2.2.2.2.2.2.2.2.1 x.2.2.2.2.2.2.2.2.2.2.2.2.2.2.2.2.2.2.2) ((0 : Int), v6.2.2.1, v7.2.2.1, v7.2.2.2, v6.2.2.2.2.2, v0.2.2.2.2.2.1, v0.2.2.2.2.2.2.1, v0.2.2.2.2.2.2.2.1, v0.2.2.2.2.2.2.2.2.1, v0.2.2.2.2.2.2.2.2.2.1, v0.2.2.2.2.2.2.2.2.2.2.1, v0.2.2.2.2.2.2.2.2.2.2.2.2.1, v0.2.2.2.2.2.2.2.2.2.2.2.2.2.1, v0.2.2.2.2.2.2.2.2.2.2.2.2.2.2.1, v0.2.2.2.2.2.2.2.2.2.2.2.2.2.2.2.1, v0.2.2.2.2.2.2.2.2.2.2.2.2.2.2.2.2.2.1, v0.2.2.2.2.2.2.2.2.2.2.2.2.2.2.2.2.2.2.1, v0.2.2.2.2.2.2.2.2.2.2.2.2.2.2.2.2.2.2.2, v6.2.2.2.1, v6.2.2.2.2.1)).bind fun v29 => (iter (fun x => zjL o x.1 x.2.1 x.2.2.1 x.2.2.2.1 x.2.2.2.2.1 x.2.2.2.2.2.1 x.2.2.2.2.2.2.1 x.2.2.2.2.2.2.2.1 x.2.2.2.2.2.2.2.2.1 x.2.2.2.2.2.2.2.2.2.1 x.2.2.2.2.2.2.2.2.2.2.1 x.2.2.2.2.2.2.2.2.2.2.2.1 x.2.2.2.2.2.2.2.2.2.2.2.2.1 x.2.2.2.2.2.2.2.2.2.2.2.2.2.1 x.2.2.2.2.2.2.2.2.2.2.2.2.2.2.1 x.2.2.2.2.2.2.2.2.2.2.2.2.2.2.2.1 x.2.2.2.2.2.2.2.2.2.2.2.2.2.2.2.2.1 x.2.2.2.2.2.2.2.2.2.2.2.2.2.2.2.2.2.1 x.2.2.2.2.2.2.2.2.2.2.2.2.2.2.2.2.2.2.1 x.2.2.2.2.2.2.2.2.2.2.2.2.2.2.2.2.2.2.2) ((0 : Int), v29)).bind fun v51 => bif (v6.1 == v7.1) then some ((v6.2.1 == v7.2.1), v51) else some (false, v51)) else (bif (v0.2.1 == 1) then ((zfR o v0.2.2.1 v1 v3).bind fun v52 => (zaF o v0.2.2.1 v2).bind fun v53 => (zbB o v0.2.2.2.2.1 v52.2.2.1 v52.2.2.2).bind fun v54 => (zbS o v0.2.2.2.2.1 v53.2.2.2.2.2.2.2.2.2.2.2.2.2.2).bind fun v55 => bif (v52.2.1 == v53.2.2.2.2.2.2.2.2.2.2.2.2.2.1) then (bif (v54.2.1 == v55.2.2.2.2.2.2.2.2.2.2.2.2.2.1) then ((zcB o v52.1 (v53.1, v53.2.1, v53.2.2.1, v53.2.2.2.1, v53.2.2.2.2.1, v53.2.2.2.2.2.1, ([] : List Bs), v53.2.2.2.2.2.2.1, v53.2.2.2.2.2.2.2.1, v53.2.2.2.2.2.2.2.2.1, v53.2.2.2.2.2.2.2.2.2.1, ([] : List Bs), v53.2.2.2.2.2.2.2.2.2.2.1, v53.2.2.2.2.2.2.2.2.2.2.2.1, v53.2.2.2.2.2.2.2.2.2.2.2.2.1)).bind fun v56 => bif v56 then ((zcB o v54.1 (v55.1, v55.2.1, v55.2.2.1, v55.2.2.2.1, v55.2.2.2.2.1, v55.2.2.2.2.2.1, ([] : List Bs), v55.2.2.2.2.2.2.1, v55.2.2.2.2.2.2.2.1, v55.2.2.2.2.2.2.2.2.1, v55.2.2.2.2.2.2.2.2.2.1, ([] : List Bs), v55.2.2.2.2.2.2.2.2.2.2.1, v55.2.2.2.2.2.2.2.2.2.2.2.1, v55.2.2.2.2.2.2.2.2.2.2.2.2.1)).bind fun v57 => bif v57 then ((zaQ o v0.2.2.1 v0.2.2.2.1 v54.2.2.1 v54.2.2.2).bind fun v58 => (zbP o v0.2.2.1 v0.2.2.2.1 v55.2.2.2.2.2.2.2.2.2.2.2.2.2.2).bind fun v59 => bif (v58.1 == v59.1) then ((zbL o v0.2.2.1 v58.2.1 v58.2.2).bind fun v60 => (zbT o v0.2.2.1 v59.2).bind fun v61 => (zdI o v60.1 v61.2).bind fun v62 => some (v62, v60.2.1, ([] : List zaC), v61.1, v60.2.2)) else some (false, v58.2.1, ([] : List zaC), v59.2, v58.2.2)) else some (false, v54.2.2.1, ([] : List zaC), v55.2.2.2.2.2.2.2.2.2.2.2.2.2.2, v54.2.2.2)) else some (false, v54.2.2.1, ([] : List zaC), v55.2.2.2.2.2.2.2.2.2.2.2.2.2.2, v54.2.2.2)) else some (false, v54.2.2.1, ([] : List zaC), v55.2.2.2.2.2.2.2.2.2.2.2.2.2.2, v54.2.2.2)) else some (false, v54.2.2.1, ([] : List zaC), v55.2.2.2.2.2.2.2.2.2.2.2.2.2.2, v54.2.2.2)) else (bif (v0.2.1 == 2) then ((zeI o v0.2.2.1 v0.2.2.2.1 v1 v3).bind fun v63 => (zcS o v0.2.2.1 v0.2.2.2.1 v2).bind fun v64 => some ((v63.1 == v64.1), v63.2.1, v64.2.1, v64.2.2, v63.2.2)) else (bif (v0.2.1 == 3) then ((zdU o v0.2.2.1 v1 v3).bind fun v65 => (zbU o v0.2.2.1 v2).bind fun v66 => some ((v65.1 == v66.1), v65.2.1, v66.2.1, v66.2.2, v65.2.2)) else (bif (v0.2.1 == 4) then ((zdY o v0.2.2.2.2.1 v1 v3).bind fun v67 => (zcI o v0.2.2.2.2.1 v2).bind fun v68 => some ((v67.1 == v68.1), v67.2.1, ([] : List zaC), v68.2, v67.2.2)) else (bif (v0.2.1 == 5) then ((zfB o v0.2.2.1 v0.2.2.2.1 v1 v3).bind fun v69 => (zdL o v0.2.2.1 v0.2.2.2.1 v2).bind fun v70 => some ((v69.1 == v70.1), v69.2.1, v70.2.1, v70.2.2, v69.2.2)) else (bif (v0.2.1 == 6) then ((zfD o v0.2.2.1 v0.2.2.2.2.1 v1 v3).bind fun v71 => (zdM o v0.2.2.1 v0.2.2.2.2.1 v2).bind fun v72 => some ((v71.1 == v72.1), v71.2.1, v72.2.1, v72.2.2, v71.2.2)) else (bif (v0.2.1 == 7) then ((zaY o v0.2.2.1 v1 v3).bind fun v73 => (zbI o v0.2.2.1 v2).bind fun v74 => some ((v73.1 == v74.1), v73.2.1, v74.2.2, v74.2.1, v73.2.2)) else some (true, v1, ([] : List zaC), v2, v3))))))))
noncomputable def znV (o : Ops) : SC := ⟨⟨[(0, (.ptr 0 0)), (1, (.ptr 1 0)), (2, (.h zzC))], [zpR, zcC, zmH]⟩, 1, [(none, ⟨[(0, hB)], [zpR, zbM, ybE]⟩)], fun x => zeO o x.1 x.2.1 x.2.2.1 x.2.2.2⟩
theorem zuN : SCok Tryz.prog tabs 21 (znV o) := zcD (o := o) (η := [(200009, .loop [] ⟨[(7, (.ptr 3 0)), (12, hI)], [zpR, zbM, ybE, ynH, .osl .s 9, .osl .s 9]⟩ [6, 8, 9, 10, 11] [(some 1, ⟨[(7, (.ptr 3 0))], [zpR, zbM, ybE, ynH, .osl .s 9, .osl .s 9]⟩)]),
 (200013, .loop [] ⟨[(7, (.ptr 3 0)), (13, hI)], [zpR, zbM, ybE, ynH, .osl .s 9, .osl .s 9]⟩ [6, 8, 9, 10, 11] [(some 3, ⟨[], [zpR, zbM, ybE]⟩)]),
 yyC,
 yxF,
 ywV,
 yyA,
 yxD,
 yxJ,
 yyL]) (Γ := ⟨[(41, (zjT o)), (58, (zgQ o))], [(55, (zhT o)), (56, (zaJ o)), (40, (zfA o)), (57, (zeW o)), (59, (zeX o)), (61, (ziA o)), (62, (zeY o)), (63, (zhF o)), (65, (ziY o)), (67, (ziV o)), (68, (zeG o)), (20, (ziO o)), (52, (zlC o)), (36, (zbY o)), (22, (zdA o)), (25, (zdB o)), (60, (zjS o)), (24, (zgL o)), (26, (ziQ o)), (64, (zkC o)), (66, (zkF o)), (31, (zbN o))], false⟩) (ctok ⟨znR, ⟨zlJ, trivial⟩⟩ ⟨zpF, ⟨zaO, ⟨ziX, ⟨ziZ, ⟨ziW, ⟨zpG, ⟨ziS, ⟨zoO, ⟨zqE, ⟨zqC, ⟨zhU, ⟨zmK, ⟨zqI, ⟨zdD, ⟨zeF, ⟨zeR, ⟨zoD, ⟨zkL, ⟨zmX, ⟨zoZ, ⟨zpD, ⟨zcP, trivial⟩⟩⟩⟩⟩⟩⟩⟩⟩⟩⟩⟩⟩⟩⟩⟩⟩⟩⟩⟩⟩⟩) Tryz.func21
def zhQ (o : Ops) (v0 : Bs) (v3 : Int) (v4 : List zaC) (v5 : Int) (v6 : Int) (v7 : Int) (v8 : Int) (v9 : Bs) (v10 : Bs) (v11 : Bs) (v12 : Int) (v13 : Int) (v14 : Bool) (v15 : Bool) (v16 : Int) (v17 : Bs) (v18 : Bs) : Option ((Int × (List zaC) × Int × Int × Int × Int × Bs × Bs × Bs × Int × Int × Bool × Bool × Int × Bs × Bs) ⊕ ((Bool × (List zaC) × zcO) ⊕ ((List zaC) × Int × Int × Int × Int × Bs × Bs × Bs × Int × Int × Bool × Bool × Int × Bs × Bs))) :=
 bif decide (v3 < (v4.length : Int)) then ((idx v4 v3).bind fun v19 => bif (v19.2.2.2.2.2.2.2.2.2.2.2.2.2.1 == v0) then ((idx v4 v3).bind fun v20 => some (.inr (.inl (true, v4, v5, v20)))) else some (.inl (w64 (v3 + 1), v4, v5, v6, v7, v8, v9, v10, v11, v12, v13, v14, v15, v16, v17, v18))) else some (.inr (.inr (v4, v5, v6, v7, v8, v9, v10, v11, v12, v13, v14, v15, v16, v17, v18)))
def zbG (o : Ops) (v0 : Bs) (v1 : List zaC) (v2 : Int) : Option ((zaC × Bool × zlH)) :=
 (iter (fun x => zhQ o v0 x.1 x.2.1 x.2.2.1 x.2.2.2.1 x.2.2.2.2.1 x.2.2.2.2.2.1 x.2.2.2.2.2.2.1 x.2.2.2.2.2.2.2.1 x.2.2.2.2.2.2.2.2.1 x.2.2.2.2.2.2.2.2.2.1 x.2.2.2.2.2.2.2.2.2.2.1 x.2.2.2.2.2.2.2.2.2.2.2.1 x.2.2.2.2.2.2.2.2.2.2.2.2.1 x.2.2.2.2.2.2.2.2.2.2.2.2.2.1 x.2.2.2.2.2.2.2.2.2.2.2.2.2.2.1 x.2.2.2.2.2.2.2.2.2.2.2.2.2.2.2) ((0 : Int), v1, v2, (0 : Int), (0 : Int), (0 : Int), ([] : Bs), ([] : Bs), ([] : Bs), (0 : Int), (0 : Int), false, false, (0 : Int), ([] : Bs), ([] : Bs))).bind fun v21 => match v21 with
 | .inl v22 => some (v22.2.2.2, v22.1, v22.2.1, v22.2.2.1)
 | .inr v23 => some (((0 : Int), (0 : Int), (0 : Int), ([] : Bs), ([] : Bs), ([] : Bs), ([] : List Bs), (0 : Int), (0 : Int), false, false, ([] : List Bs), (0 : Int), ([] : Bs), ([] : Bs)), false, v23.1, v23.2.1)
def zeQ (o : Ops) : SC := ⟨⟨[(0, (.ptr 0 0)), (1, hS)], [zbM]⟩, 2, [(none, ⟨[(0, (.h zjB)), (1, hB)], [zbM]⟩)], fun x => zbG o x.1 x.2.1 x.2.2⟩
theorem ziB : SCok Tryz.prog tabs 40 (zeQ o) := zcD (o := o) (η := [(200002, .loop [] ⟨[(0, (.ptr 0 0)), (4, (.ptr 1 0)), (6, hI)], [zbM, ynD]⟩ [1] [(some 1000000, ⟨[(4, (.ptr 1 0)), (5, hB)], [zbM, zvG]⟩), (some 0, ⟨[(4, (.ptr 1 0))], [zbM, ynD]⟩)])]) (Γ := ⟨[], [], false⟩) (ctok trivial trivial) Tryz.func40
def zjZ (o : Ops) (v0 : Int) (v3 : Int) (v4 : List zaC) (v5 : Int) : Option ((Int × zlH) ⊕ ((Int × zlH) ⊕ zlH)) :=
 bif decide (v3 < (v4.length : Int)) then ((idx v4 v3).bind fun v6 => bif (v6.1 == v0) then some (.inr (.inl (v3, v4, v5))) else some (.inl (w64 (v3 + 1), v4, v5))) else some (.inr (.inr (v4, v5)))
def zaL (o : Ops) (v0 : Int) (v1 : List zaC) (v2 : Int) : Option ((Int × zlH)) :=
 (iter (fun x => zjZ o v0 x.1 x.2.1 x.2.2) ((0 : Int), v1, v2)).bind fun v7 => match v7 with
 | .inl v8 => some v8
 | .inr v9 => some ((-1 : Int), v9)
def zbQ (o : Ops) : SC := ⟨⟨[(0, (.ptr 0 0)), (1, hI)], [zbM]⟩, 1, [(none, ⟨[(0, hI)], [zbM]⟩)], fun x => zaL o x.1 x.2.1 x.2.2⟩
theorem zdK : SCok Tryz.prog tabs 115 (zbQ o) := zcD (o := o) (η := [(200002, .loop [] ⟨[(0, (.ptr 0 0)), (5, hI)], [zbM]⟩ [1] [(some 1000000, ⟨[(4, hI)], [zbM]⟩), (some 0, ⟨[], [zbM]⟩)])]) (Γ := ⟨[], [], false⟩) (ctok trivial trivial) Tryz.func115
def zhN (o : Ops) (v4 : Int) (v5 : List zaC) (v6 : Int) (v7 : List Int) : Option ((Int × (List zaC) × Int × List Int) ⊕ (((List zaC) × Int × List Int))) :=
 bif decide (v4 ≥ 0) then ((idx v5 v4).bind fun v8 => (app v7 ([v8.1] : List Int)).bind fun v9 => (idx v5 v4).bind fun v10 => (zaL o v10.2.2.1 v5 v6).bind fun v11 => some (.inl (v11.1, v11.2.1, v11.2.2, v9))) else some (.inr (v5, v6, v7))
def zaW (o : Ops) (v0 : Int) (v1 : List zaC) (v2 : Int) : Option (((List zaC) × Int × List Int)) :=
 (zaL o v0 v1 v2).bind fun v3 => (iter (fun x => zhN o x.1 x.2.1 x.2.2.1 x.2.2.2) (v3.1, v3.2.1, v3.2.2, ([] : List Int))).bind fun v12 => some v12
def zcM (o : Ops) : SC := ⟨⟨[(0, (.ptr 0 0)), (1, hI)], [zbM]⟩, 1, [(none, ⟨[(0, (.own 1))], [zbM, .osl (.i .i64) 3]⟩)], fun x => zaW o x.1 x.2.1 x.2.2⟩
theorem zeN : SCok Tryz.prog tabs 59 (zcM o) := zcD (o := o) (η := [(200003, .loop [] ⟨[(0, (.ptr 0 0)), (5, (.own 1)), (6, hI)], [zbM, .osl (.i .i64) 3]⟩ [4] [(some 0, ⟨[(5, (.own 1))], [zbM, .osl (.i .i64) 3]⟩)])]) (Γ := ⟨[], [(115, (zbQ o))], false⟩) (ctok trivial ⟨zdK, trivial⟩) Tryz.func59
def zaE (o : Ops) (v0 : Int) (v1 : List zaC) (v2 : Int) : Option ((zaC × Bool × zlH)) :=
 (zaL o v0 v1 v2).bind fun v3 => bif decide (v3.1 < 0) then some (((0 : Int), (0 : Int), (0 : Int), ([] : Bs), ([] : Bs), ([] : Bs), ([] : List Bs), (0 : Int), (0 : Int), false, false, ([] : List Bs), (0 : Int), ([] : Bs), ([] : Bs)), false, v3.2) else ((idx v3.2.1 v3.1).bind fun v4 => some (v4, true, v3.2))
def zaH (o : Ops) : SC := ⟨⟨[(0, (.ptr 0 0)), (1, hI)], [zbM]⟩, 2, [(none, ⟨[(0, (.h zjB)), (1, hB)], [zbM]⟩)], fun x => zaE o x.1 x.2.1 x.2.2⟩
theorem zaN : SCok Tryz.prog tabs 56 (zaH o) := zcD (o := o) (η := []) (Γ := ⟨[], [(115, (zbQ o))], false⟩) (ctok trivial ⟨zdK, trivial⟩) Tryz.func56
def zgT (o : Ops) (v4 : Int) (v5 : List zaC) (v6 : Int) (v7 : List Int) : Option ((Int × (List zaC) × Int × List Int) ⊕ ((Bool × zlH) ⊕ zlH)) :=
 bif decide (v4 < (v7.length : Int)) then ((chk (decide ((0 : Int) ≤ v4) && decide (v4 < (v7.length : Int)))).bind fun _ => (idx v7 v4).bind fun v8 => (zaE o v8 v5 v6).bind fun v9 => bif v9.1.2.2.2.2.2.2.2.2.2.1 then some (.inr (.inl (true, v9.2.2))) else some (.inl (w64 (v4 + 1), v9.2.2.1, v9.2.2.2, v7))) else some (.inr (.inr (v5, v6)))
def zbC (o : Ops) (v0 : Int) (v1 : List zaC) (v2 : Int) : Option ((Bool × zlH)) :=
 (zaW o v0 v1 v2).bind fun v3 => (iter (fun x => zgT o x.1 x.2.1 x.2.2.1 x.2.2.2) ((0 : Int), v3)).bind fun v10 => match v10 with
 | .inl v11 => some v11
 | .inr v12 => some (false, v12)
def zdW (o : Ops) : SC := ⟨⟨[(0, (.ptr 0 0)), (1, hI)], [zbM]⟩, 1, [(none, ⟨[(0, hB)], [zbM]⟩)], fun x => zbC o x.1 x.2.1 x.2.2⟩
theorem zgS : SCok Tryz.prog tabs 116 (zdW o) := zcD (o := o) (η := [(200003, .loop [] ⟨[(0, (.ptr 0 0)), (5, (.own 1)), (6, hI)], [zbM, .osl (.i .i64) 3]⟩ [] [(some 1000000, ⟨[(4, hB)], [zbM]⟩), (some 0, ⟨[], [zbM]⟩)])]) (Γ := ⟨[], [(59, (zcM o)), (56, (zaH o))], false⟩) (ctok trivial ⟨zeN, ⟨zaN, trivial⟩⟩) Tryz.func116
def zaV (o : Ops) (v0 : Int) (v1 : Int) (v2 : List zaC) (v3 : Int) : Option ((Bool × zlH)) :=
 (zaE o v0 v2 v3).bind fun v4 => bif v4.2.1 then (bif (!v4.1.2.2.2.2.2.2.2.2.2.2.1) then (bif decide (v4.1.2.2.2.2.2.2.2.2.1 > v1) then ((zbC o v0 v4.2.2.1 v4.2.2.2).bind fun v5 => some ((!v5.1), v5.2)) else some (false, v4.2.2)) else some (false, v4.2.2)) else some (false, v4.2.2)
def zcH (o : Ops) : SC := ⟨⟨[(0, (.ptr 0 0)), (1, hI), (2, hI)], [zbM]⟩, 1, [(none, ⟨[(0, hB)], [zbM]⟩)], fun x => zaV o x.1 x.2.1 x.2.2.1 x.2.2.2⟩
theorem zeJ : SCok Tryz.prog tabs 57 (zcH o) := zcD (o := o) (η := []) (Γ := ⟨[], [(56, (zaH o)), (116, (zdW o))], false⟩) (ctok trivial ⟨zaN, ⟨zgS, trivial⟩⟩) Tryz.func57
def zhR (o : Ops) (v1 : Int) (v5 : Int) (v6 : List zaC) (v7 : Int) (v8 : List Int) : Option ((Int × (List zaC) × Int × List Int) ⊕ ((Bool × zlH) ⊕ zlH)) :=
 bif decide (v5 < (v8.length : Int)) then ((chk (decide ((0 : Int) ≤ v5) && decide (v5 < (v8.length : Int)))).bind fun _ => (idx v8 v5).bind fun v9 => bif (v9 == v1) then some (.inr (.inl (true, v6, v7))) else some (.inl (w64 (v5 + 1), v6, v7, v8))) else some (.inr (.inr (v6, v7)))
def zcU (o : Ops) (v0 : Int) (v1 : Int) (v2 : List zaC) (v3 : Int) : Option ((Bool × zlH)) :=
 (zaW o v0 v2 v3).bind fun v4 => (iter (fun x => zhR o v1 x.1 x.2.1 x.2.2.1 x.2.2.2) ((0 : Int), v4)).bind fun v10 => match v10 with
 | .inl v11 => some v11
 | .inr v12 => some (false, v12)
def zhP (o : Ops) : SC := ⟨⟨[(0, (.ptr 0 0)), (1, hI), (2, hI)], [zbM]⟩, 1, [(none, ⟨[(0, hB)], [zbM]⟩)], fun x => zcU o x.1 x.2.1 x.2.2.1 x.2.2.2⟩
theorem zpE : SCok Tryz.prog tabs 122 (zhP o) := zcD (o := o) (η := [(200003, .loop [] ⟨[(7, (.own 1)), (8, hI)], [zbM, .osl (.i .i64) 3]⟩ [2] [(some 1000000, ⟨[(6, hB)], [zbM]⟩), (some 0, ⟨[], [zbM]⟩)])]) (Γ := ⟨[], [(59, (zcM o))], false⟩) (ctok trivial ⟨zeN, trivial⟩) Tryz.func122
def zhC (o : Ops) (v7 : Bool) (v8 : Int) (v9 : List zaC) (v10 : Int) (v11 : List zaC) : Option (((List zaC) × Int × List zaC) ⊕ ((List zaC) × Int × List zaC)) :=
 bif decide (v8 < (v9.length : Int)) then (bif (!v7) then some (.inl (v9, v10, v11)) else some (.inr (v9, v10, v11))) else some (.inr (v9, v10, v11))
def zeC (o : Ops) (v0 : Int) (v3 : Int) (v7 : Bool) (v8 : Int) (v9 : List zaC) (v10 : Int) (v11 : List zaC) : Option ((Bool × Int × (List zaC) × Int × List zaC) ⊕ ((Bool × (List zaC) × Int × List zaC))) :=
 (zhC o v7 v8 v9 v10 v11).bind fun v12 => match v12 with
 | .inl v13 => ((idx v13.1 v8).bind fun v15 => (zaV o v15.1 v0 v13.1 v13.2.1).bind fun v16 => bif v16.1 then ((idx v16.2.1 v8).bind fun v17 => (idx v16.2.1 v3).bind fun v18 => (zcU o v17.1 v18.1 v16.2.1 v16.2.2).bind fun v19 => some (.inl (v19.1, w64 (v8 + 1), v19.2.1, v19.2.2, v13.2.2))) else some (.inl (false, w64 (v8 + 1), v16.2.1, v16.2.2, v13.2.2)))
 | .inr v14 => some (.inr (v7, v14))
def zhA (o : Ops) (v0 : Int) (v3 : Int) (v4 : List zaC) (v5 : Int) (v6 : List zaC) : Option ((Int × (List zaC) × Int × List zaC) ⊕ (((List zaC) × Int × List zaC))) :=
 bif decide (v3 < (v4.length : Int)) then ((iter (fun x => zeC o v0 v3 x.1 x.2.1 x.2.2.1 x.2.2.2.1 x.2.2.2.2) (false, v3, v4, v5, v6)).bind fun v20 => bif v20.1 then ((idx v20.2.1 v3).bind fun v21 => (app v20.2.2.2 ([v21] : List zaC)).bind fun v22 => some (.inl (w64 (v3 + 1), v20.2.1, v20.2.2.1, v22))) else some (.inl (w64 (v3 + 1), v20.2))) else some (.inr (v4, v5, v6))
def zbE (o : Ops) (v0 : Int) (v1 : List zaC) (v2 : Int) : Option ((Int × Int × List zaC)) :=
 (iter (fun x => zhA o v0 x.1 x.2.1 x.2.2.1 x.2.2.2) ((0 : Int), v1, v2, ([] : List zaC))).bind fun v23 => some (w64 ((v23.1.length : Int) - (v23.2.2.length : Int)), v23.2)
def zeB (o : Ops) : SC := ⟨⟨[(0, (.ptr 0 0)), (1, hI)], [zbM]⟩, 1, [(none, ⟨[(0, hI)], [ymN, .osl zjB 47]⟩)], fun x => zbE o x.1 x.2.1 x.2.2⟩
theorem zgW : SCok Tryz.prog tabs 68 (zeB o) := zcD (o := o) (η := [(2100003, .join [] [1, 6, 7, 8] [(none, ⟨[(0, (.ptr 0 0)), (5, (.own 1))], [zbM, .osl zjB 47]⟩), (some 2, ⟨[(0, (.ptr 0 0)), (5, (.own 1))], [zbM, .osl zjB 47]⟩)]),
 (200007, .loop [] ⟨[(0, (.ptr 0 0)), (5, (.own 1)), (7, hB), (8, hI)], [zbM, .osl zjB 47]⟩ [1, 4, 6] [(some 2, ⟨[(0, (.ptr 0 0)), (5, (.own 1)), (7, hB)], [zbM, .osl zjB 47]⟩)]),
 (200003, .loop [] ⟨[(0, (.ptr 0 0)), (5, (.own 1)), (6, hI)], [zbM, .osl zjB 47]⟩ [1, 4] [(some 0, ⟨[(0, (.ptr 0 0)), (5, (.own 1))], [zbM, .osl zjB 47]⟩)]),
 (4000009, .sch [(.pu, 0, []), (.pu, 1, []), (.pu, 2, []), (.pu, 3, []), (.pu, 4, []), (.pu, 5, []), (.pu, 6, []), (.pu, 7, []), (.pu, 8, []), (.pu, 9, []), (.mn, 10, [0]), (.pu, 11, []), (.pu, 12, []), (.pu, 13, []), (.pu, 14, []), (.pu, 15, []), (.pu, 16, []), (.pu, 17, []), (.pu, 18, []), (.pu, 19, []), (.pu, 20, []), (.pu, 21, []), (.pu, 22, []), (.pu, 23, []), (.pu, 24, []), (.pu, 25, []), (.pu, 26, []), (.pu, 27, []), (.pu, 28, []), (.mn, 29, [0]), (.pu, 30, []), (.pu, 31, [])])]) (Γ := ⟨[], [(57, (zcH o)), (122, (zhP o))], false⟩) (ctok trivial ⟨zeJ, ⟨zpE, trivial⟩⟩) Tryz.func68
def zgZ (o : Ops) (v0 : zaC) (v5 : (zaC × Bool × zlH)) : Option ((Int × Int × zlH) ⊕ ((List zaC) × zcO)) :=
 bif decide (v0.2.2.1 > 0) then ((zaL o v0.2.2.1 v5.2.2.1 v5.2.2.2).bind fun v6 => bif decide (v6.1 < 0) then some (.inl ((0 : Int), (133 : Int), v6.2)) else ((zbC o v0.2.2.1 v6.2.1 v6.2.2).bind fun v7 => bif v7.1 then some (.inl ((0 : Int), (133 : Int), v7.2)) else some (.inr (v7.2.1, v7.2.2, v0)))) else some (.inr (v5.2.2.1, v5.2.2.2, v0))
def zgY (o : Ops) (v10 : (List zaC) × zcO) (v11 : (Int × Int × List zaC)) : Option ((Int × Int × Int × List zaC) ⊕ (Int × Int × Int × Int × Bs × Bs × Bs × (List Bs) × Int × Int × Bool × Bool × (List Bs) × Int × Bs × Bs × List zaC)) :=
 bif decide ((v11.2.2.length : Int) ≥ 256) then some (.inl ((0 : Int), (130 : Int), v11.2)) else (bif decide (v11.2.1 ≥ 99999999) then some (.inl ((0 : Int), (130 : Int), v11.2)) else some (.inr (v11.2.1, v10.2.2.1, v10.2.2.2.1, v10.2.2.2.2.1, v10.2.2.2.2.2.1, v10.2.2.2.2.2.2.1, v10.2.2.2.2.2.2.2.1, v10.2.2.2.2.2.2.2.2.1, v10.2.2.2.2.2.2.2.2.2.1, v10.2.2.2.2.2.2.2.2.2.2.1, v10.2.2.2.2.2.2.2.2.2.2.2.1, v10.2.2.2.2.2.2.2.2.2.2.2.2.1, v10.2.2.2.2.2.2.2.2.2.2.2.2.2.1, v10.2.2.2.2.2.2.2.2.2.2.2.2.2.2.1, v10.2.2.2.2.2.2.2.2.2.2.2.2.2.2.2.1, v10.2.2.2.2.2.2.2.2.2.2.2.2.2.2.2.2, v11.2.2)))
def zgV (o : Ops) (v14 : Int × Int × Int × Int × Bs × Bs × Bs × (List Bs) × Int × Int × Bool × Bool × (List Bs) × Int × Bs × Bs × List zaC) (v15 : List Bs) : Option ((Int × Int × Int × Int × Bs × Bs × Bs × (List Bs) × Int × Int × Bool × Bool × (List Bs) × Int × Bs × Bs × List zaC)) :=
 (app ([] : List Bs) v14.2.2.2.2.2.2.2.2.2.2.2.2.1).bind fun v16 => some (v14.1, v14.1, v14.2.2.1, v14.2.2.2.1, v14.2.2.2.2.1, v14.2.2.2.2.2.1, v14.2.2.2.2.2.2.1, v15, v14.2.2.2.2.2.2.2.2.1, v14.2.2.2.2.2.2.2.2.2.1, false, false, v16, v14.2.2.2.2.2.2.2.2.2.2.2.2.2)
def zcJ (o : Ops) (v0 : zaC) (v1 : Int) (v2 : List zaC) (v3 : Int) : Option ((Int × Int × zlH)) :=
 (zfE o v0).bind fun v4 => bif (!v4) then some ((0 : Int), (131 : Int), v2, v3) else ((zbG o v0.2.2.2.2.2.2.2.2.2.2.2.2.2.1 v2 v3).bind fun v5 => bif v5.2.1 then some ((0 : Int), (132 : Int), v5.2.2) else ((zgZ o v0 v5).bind fun v8 => match v8 with
 | .inl v9 => some v9
 | .inr v10 => ((zbE o v1 v10.1 v10.2.1).bind fun v11 => (zgY o v10 v11).bind fun v12 => match v12 with
 | .inl v13 => some (v13.1, v13.2.1, v13.2.2.2, v13.2.2.1)
 | .inr v14 => ((app ([] : List Bs) v14.2.2.2.2.2.2.2.1).bind fun v15 => (zgV o v14 v15).bind fun v17 => (app ([] : List zaC) v17.2.2.2.2.2.2.2.2.2.2.2.2.2.2.2.2).bind fun v18 => (app v18 ([(v17.2.1, v17.2.2.1, v17.2.2.2.1, v17.2.2.2.2.1, v17.2.2.2.2.2.1, v17.2.2.2.2.2.2.1, v17.2.2.2.2.2.2.2.1, v17.2.2.2.2.2.2.2.2.1, v17.2.2.2.2.2.2.2.2.2.1, v17.2.2.2.2.2.2.2.2.2.2.1, v17.2.2.2.2.2.2.2.2.2.2.2.1, v17.2.2.2.2.2.2.2.2.2.2.2.2.1, v17.2.2.2.2.2.2.2.2.2.2.2.2.2.1, v17.2.2.2.2.2.2.2.2.2.2.2.2.2.2.1, v17.2.2.2.2.2.2.2.2.2.2.2.2.2.2.2.1)] : List zaC)).bind fun v19 => some (v17.2.1, (0 : Int), v19, w64 (v17.1 + 1))))))
def zhD (o : Ops) : SC := ⟨⟨[(0, (.ptr 0 0)), (1, (.h zjB)), (2, hI)], [zbM]⟩, 2, [(none, ⟨[(0, hI), (1, hI)], [zbM]⟩)], fun x => zcJ o x.1 x.2.1 x.2.2.1 x.2.2.2⟩
theorem zoM : SCok Tryz.prog tabs 55 (zhD o) := zcD (o := o) (η := [(2000008, .join [] [2] [(some 1000000, ⟨[(6, hI), (7, hI)], [zbM]⟩), (none, ⟨[(0, (.ptr 0 0)), (4, (.ptr 1 0))], [zbM, zvG]⟩)]),
 (2000011, .join [] [] [(some 1000000, ⟨[(6, hI), (7, hI)], [ymN, .osl zjB 47]⟩), (none, ⟨[(0, (.ptr 0 0)), (4, (.ptr 1 0))], [yvL, zvG, .osl zjB 47]⟩)]),
 (2000016, .join [] [] [(none, ⟨[(0, (.ptr 0 0)), (4, (.ptr 1 0))], [yvL, zvG, .osl zjB 47]⟩)]),
 yyE]) (Γ := ⟨[(93, (zkD o))], [(40, (zeQ o)), (115, (zbQ o)), (116, (zdW o)), (68, (zeB o))], false⟩) (ctok ⟨zpI, trivial⟩ ⟨ziB, ⟨zdK, ⟨zgS, ⟨zgW, trivial⟩⟩⟩⟩) Tryz.func55
def zaK (o : Ops) (v0 : zaC) (v1 : List zaC) (v2 : Int) : Option ((Int × List zaC)) :=
 (zaL o v0.1 v1 v2).bind fun v3 => (app ([] : List zaC) v3.2.1).bind fun v4 => (chk (decide ((0 : Int) ≤ v3.1) && decide (v3.1 < (v4.length : Int)))).bind fun _ => (setL v4 v3.1 v0).bind fun v5 => some (v3.2.2, v5)
def zaX (o : Ops) : SC := ⟨⟨[(0, (.ptr 0 0)), (1, (.h zjB))], [zbM]⟩, 0, [(none, ⟨[], [ymN, .osl zjB 47]⟩)], fun x => zaK o x.1 x.2.1 x.2.2⟩
theorem zbJ : SCok Tryz.prog tabs 119 (zaX o) := zcD (o := o) (η := []) (Γ := ⟨[], [(115, (zbQ o))], false⟩) (ctok trivial ⟨zdK, trivial⟩) Tryz.func119
def zbK (o : Ops) (v0 : Int) (v1 : List zaC) (v2 : Int) : Option ((Int × zlH)) :=
 (zaE o v0 v1 v2).bind fun v3 => bif (!v3.2.1) then some ((131 : Int), v3.2.2) else ((zaK o (v3.1.1, v3.1.2.1, v3.1.2.2.1, v3.1.2.2.2.1, v3.1.2.2.2.2.1, v3.1.2.2.2.2.2.1, v3.1.2.2.2.2.2.2.1, v3.1.2.2.2.2.2.2.2.1, v3.1.2.2.2.2.2.2.2.2.1, true, v3.1.2.2.2.2.2.2.2.2.2.2) v3.2.2.1 v3.2.2.2).bind fun v4 => some ((0 : Int), v4.2, v4.1))
def zeK (o : Ops) : SC := ⟨⟨[(0, (.ptr 0 0)), (1, hI)], [zbM]⟩, 1, [(none, ⟨[(0, hI)], [zbM]⟩)], fun x => zbK o x.1 x.2.1 x.2.2⟩
theorem zhY : SCok Tryz.prog tabs 62 (zeK o) := zcD (o := o) (η := []) (Γ := ⟨[], [(56, (zaH o)), (119, (zaX o))], false⟩) (ctok trivial ⟨zaN, ⟨zbJ, trivial⟩⟩) Tryz.func62
def zcK (o : Ops) (v0 : Int) (v1 : Int) (v2 : List zaC) (v3 : Int) : Option ((Int × zlH)) :=
 (zaE o v0 v2 v3).bind fun v4 => bif (!v4.2.1) then some ((131 : Int), v4.2.2) else (bif v4.1.2.2.2.2.2.2.2.2.2.2.1 then ((zbK o v0 v4.2.2.1 v4.2.2.2).bind fun v5 => some ((134 : Int), v5.2)) else ((zaV o v0 v1 v4.2.2.1 v4.2.2.2).bind fun v6 => bif (!v6.1) then some ((133 : Int), v6.2) else ((zaK o (v4.1.1, v4.1.2.1, v4.1.2.2.1, v4.1.2.2.2.1, v4.1.2.2.2.2.1, v4.1.2.2.2.2.2.1, v4.1.2.2.2.2.2.2.1, v4.1.2.2.2.2.2.2.2.1, v4.1.2.2.2.2.2.2.2.2.1, v4.1.2.2.2.2.2.2.2.2.2.1, true, v4.1.2.2.2.2.2.2.2.2.2.2.2) v6.2.1 v6.2.2).bind fun v7 => some ((0 : Int), v7.2, v7.1))))
def zhG (o : Ops) : SC := ⟨⟨[(0, (.ptr 0 0)), (1, hI), (2, hI)], [zbM]⟩, 1, [(none, ⟨[(0, hI)], [zbM]⟩)], fun x => zcK o x.1 x.2.1 x.2.2.1 x.2.2.2⟩
theorem zoK : SCok Tryz.prog tabs 61 (zhG o) := zcD (o := o) (η := []) (Γ := ⟨[], [(56, (zaH o)), (62, (zeK o)), (57, (zcH o)), (119, (zaX o))], false⟩) (ctok trivial ⟨zaN, ⟨zhY, ⟨zeJ, ⟨zbJ, trivial⟩⟩⟩⟩) Tryz.func61
def zhL (o : Ops) (v0 : Bs) (v5 : List zaC) (v6 : Int) (v7 : zaC) : Option ((Bool × (List zaC) × zcO)) :=
 bif (v7.2.2.2.2.1 != ([] : Bs)) then ((app ([99, 58] : Bs) v7.2.2.2.2.1).bind fun v8 => some ((v8 == v0), v5, v6, v7)) else some (false, v5, v6, v7)
def zhH (o : Ops) (v0 : Bs) (v9 : Bool × (List zaC) × zcO) : Option ((Bool × (List zaC) × zcO)) :=
 bif (!v9.2.2.2.2.2.2.2.2.2.2.2.2.1) then (bif (v9.2.2.2.2.2.2.1 == v0) then some (true, v9.2) else some v9) else some (false, v9.2)
def zhB (o : Ops) (v0 : Bs) (v3 : Int) (v4 : Int) (v5 : List zaC) (v6 : Int) : Option ((Int × Int × zlH) ⊕ ((Int × zlH))) :=
 bif decide (v4 < (v5.length : Int)) then ((idx v5 v4).bind fun v7 => (zhL o v0 v5 v6 v7).bind fun v9 => (zhH o v0 v9).bind fun v10 => bif v10.1 then ((zaK o (v10.2.2.2.1, v10.2.2.2.2.1, v10.2.2.2.2.2.1, v10.2.2.2.2.2.2.1, v10.2.2.2.2.2.2.2.1, v10.2.2.2.2.2.2.2.2.1, v10.2.2.2.2.2.2.2.2.2.1, v10.2.2.2.2.2.2.2.2.2.2.1, v10.2.2.2.2.2.2.2.2.2.2.2.1, true, v10.2.2.2.2.2.2.2.2.2.2.2.2.2) v10.2.1 v10.2.2.1).bind fun v11 => some (.inl (w64 (v3 + 1), w64 (v4 + 1), v11.2, v11.1))) else some (.inl (v3, w64 (v4 + 1), v10.2.1, v10.2.2.1))) else some (.inr (v3, v5, v6))
def zcE (o : Ops) (v0 : Bs) (v1 : List zaC) (v2 : Int) : Option ((Int × zlH)) :=
 (iter (fun x => zhB o v0 x.1 x.2.1 x.2.2.1 x.2.2.2) ((0 : Int), (0 : Int), v1, v2)).bind fun v12 => some v12
def zgR (o : Ops) : SC := ⟨⟨[(0, (.ptr 0 0)), (1, hS)], [zbM]⟩, 1, [(none, ⟨[(0, hI)], [zbM]⟩)], fun x => zcE o x.1 x.2.1 x.2.2⟩
theorem znN : SCok Tryz.prog tabs 63 (zgR o) := zcD (o := o) (η := [(2000007, .join [] [1, 5, 6] [(none, ⟨[(0, (.ptr 0 0)), (7, (.ptr 1 0)), (8, hB)], [zbM, zvG]⟩)]),
 (2300008, .join [] [1, 5, 6] [(none, ⟨[(0, (.ptr 0 0)), (7, (.ptr 1 0)), (46, hB)], [zbM, zvG]⟩)]),
 (200003, .loop [] ⟨[(0, (.ptr 0 0)), (5, hI), (6, hI)], [zbM]⟩ [1, 4] [(some 0, ⟨[(5, hI)], [zbM]⟩)])]) (Γ := ⟨[], [(119, (zaX o))], false⟩) (ctok trivial ⟨zbJ, trivial⟩) Tryz.func63
def zhX (o : Ops) (v1 : Int) (v4 : (zaC × Bool × zlH)) : Option ((Int × zlH) ⊕ ((List zaC) × zcO)) :=
 bif (!v4.2.1) then some (.inl ((131 : Int), v4.2.2)) else (bif (v4.1.2.1 != 1) then some (.inl ((131 : Int), v4.2.2)) else (bif decide (v1 < 1) then some (.inl ((131 : Int), v4.2.2)) else (bif decide (v1 > 3) then some (.inl ((131 : Int), v4.2.2)) else some (.inr (v4.2.2.1, v4.2.2.2, v4.1)))))
def zcT (o : Ops) (v0 : Int) (v1 : Int) (v2 : List zaC) (v3 : Int) : Option ((Int × zlH)) :=
 (zaE o v0 v2 v3).bind fun v4 => (zhX o v1 v4).bind fun v5 => match v5 with
 | .inl v6 => some v6
 | .inr v7 => (bif decide (v1 > v7.2.2.2.2.2.2.2.2.2.2.2.2.2.2.1) then ((zaK o (v7.2.2.1, v7.2.2.2.1, v7.2.2.2.2.1, v7.2.2.2.2.2.1, v7.2.2.2.2.2.2.1, v7.2.2.2.2.2.2.2.1, v7.2.2.2.2.2.2.2.2.1, v7.2.2.2.2.2.2.2.2.2.1, v7.2.2.2.2.2.2.2.2.2.2.1, v7.2.2.2.2.2.2.2.2.2.2.2.1, v7.2.2.2.2.2.2.2.2.2.2.2.2.1, v7.2.2.2.2.2.2.2.2.2.2.2.2.2.1, v1, v7.2.2.2.2.2.2.2.2.2.2.2.2.2.2.2) v7.1 v7.2.1).bind fun v8 => some ((0 : Int), v8.2, v8.1)) else some ((0 : Int), v7.1, v7.2.1))
def zhM (o : Ops) : SC := ⟨⟨[(0, (.ptr 0 0)), (1, hI), (2, hI)], [zbM]⟩, 1, [(none, ⟨[(0, hI)], [zbM]⟩)], fun x => zcT o x.1 x.2.1 x.2.2.1 x.2.2.2⟩
theorem zpQ : SCok Tryz.prog tabs 65 (zhM o) := zcD (o := o) (η := [(2000004, .join [] [2] [(some 1000000, ⟨[(6, hI)], [zbM]⟩), (none, ⟨[(0, (.ptr 0 0)), (7, (.ptr 1 0))], [zbM, zvG]⟩)])]) (Γ := ⟨[], [(56, (zaH o)), (119, (zaX o))], false⟩) (ctok trivial ⟨zaN, ⟨zbJ, trivial⟩⟩) Tryz.func65
def zhW (o : Ops) (v1 : Bs) (v4 : (zaC × Bool × zlH)) : Option ((Int × zlH) ⊕ ((List zaC) × zcO)) :=
 bif (!v4.2.1) then some (.inl ((131 : Int), v4.2.2)) else (bif decide ((v1.length : Int) > 256) then some (.inl ((131 : Int), v4.2.2)) else some (.inr (v4.2.2.1, v4.2.2.2, v4.1)))
def zcV (o : Ops) (v0 : Int) (v1 : Bs) (v2 : List zaC) (v3 : Int) : Option ((Int × zlH)) :=
 (zaE o v0 v2 v3).bind fun v4 => (zhW o v1 v4).bind fun v5 => match v5 with
 | .inl v6 => some v6
 | .inr v7 => ((zaK o (v7.2.2.1, v7.2.2.2.1, v7.2.2.2.2.1, v7.2.2.2.2.2.1, v7.2.2.2.2.2.2.1, v7.2.2.2.2.2.2.2.1, v7.2.2.2.2.2.2.2.2.1, v7.2.2.2.2.2.2.2.2.2.1, v7.2.2.2.2.2.2.2.2.2.2.1, v7.2.2.2.2.2.2.2.2.2.2.2.1, v7.2.2.2.2.2.2.2.2.2.2.2.2.1, v7.2.2.2.2.2.2.2.2.2.2.2.2.2.1, v7.2.2.2.2.2.2.2.2.2.2.2.2.2.2.1, v7.2.2.2.2.2.2.2.2.2.2.2.2.2.2.2.1, v1) v7.1 v7.2.1).bind fun v8 => some ((0 : Int), v8.2, v8.1))
def zhV (o : Ops) : SC := ⟨⟨[(0, (.ptr 0 0)), (1, hI), (2, hS)], [zbM]⟩, 1, [(none, ⟨[(0, hI)], [zbM]⟩)], fun x => zcV o x.1 x.2.1 x.2.2.1 x.2.2.2⟩
theorem zpH : SCok Tryz.prog tabs 67 (zhV o) := zcD (o := o) (η := [(2000004, .join [] [2] [(some 1000000, ⟨[(6, hI)], [zbM]⟩), (none, ⟨[(0, (.ptr 0 0)), (7, (.ptr 1 0))], [zbM, zvG]⟩)])]) (Γ := ⟨[], [(56, (zaH o)), (119, (zaX o))], false⟩) (ctok trivial ⟨zaN, ⟨zbJ, trivial⟩⟩) Tryz.func67
noncomputable def ziL (o : Ops) (v9 : Int) (v10 : Int) (v11 : List zaC) (v12 : Int) (v13 : List zcO) (v14 : Int) (v15 : Int) (v16 : Int) (v17 : Bs) (v18 : Bs) (v19 : Bs) (v20 : Int) (v21 : Int) (v22 : Bool) (v23 : Bool) (v24 : Int) (v25 : Bs) (v26 : Bs) (v27 : List Bs) (v28 : List Bs) : Option ((Int × Int × (List zaC) × Int × (List zcO) × Int × Int × Int × Bs × Bs × Bs × Int × Int × Bool × Bool × Int × Bs × Bs × (List Bs) × List Bs) ⊕ ((Int × (List zaC) × Int × (List zcO) × Int × Int × Int × Bs × Bs × Bs × Int × Int × Bool × Bool × Int × Bs × Bs × (List Bs) × List Bs))) :=
 bif decide (v9 < (v27.length : Int)) then ((chk (decide ((0 : Int) ≤ v9) && decide (v9 < (v27.length : Int)))).bind fun _ => (setL v27 v9 ([111, 118, 101, 114] : Bs)).bind fun v29 => some (.inl (w64 (v9 + 1), v10, v11, v12, v13, v14, v15, v16, v17, v18, v19, v20, v21, v22, v23, v24, v25, v26, v29, v28))) else some (.inr (v10, v11, v12, v13, v14, v15, v16, v17, v18, v19, v20, v21, v22, v23, v24, v25, v26, v27, v28))
noncomputable def ziH (o : Ops) (v31 : Int) (v32 : Int) (v33 : List zaC) (v34 : Int) (v35 : List zcO) (v36 : Int) (v37 : Int) (v38 : Int) (v39 : Bs) (v40 : Bs) (v41 : Bs) (v42 : Int) (v43 : Int) (v44 : Bool) (v45 : Bool) (v46 : Int) (v47 : Bs) (v48 : Bs) (v49 : List Bs) (v50 : List Bs) : Option ((Int × Int × (List zaC) × Int × (List zcO) × Int × Int × Int × Bs × Bs × Bs × Int × Int × Bool × Bool × Int × Bs × Bs × (List Bs) × List Bs) ⊕ ((Int × (List zaC) × Int × List zcO))) :=
 bif decide (v31 < (v50.length : Int)) then ((chk (decide ((0 : Int) ≤ v31) && decide (v31 < (v50.length : Int)))).bind fun _ => (setL v50 v31 ([111, 118, 101, 114] : Bs)).bind fun v51 => some (.inl (w64 (v31 + 1), v32, v33, v34, v35, v36, v37, v38, v39, v40, v41, v42, v43, v44, v45, v46, v47, v48, v49, v51))) else some (.inr (v32, v33, v34, v35))
noncomputable def zfY (o : Ops) (v0 : ypO) (v1 : Int) (v2 : List zaC) (v3 : Int) (v4 : List zcO) : Option ((Bool × Int × (List zaC) × Int × List zcO)) :=
 bif (v0.2.1 == 0) then ((app ([] : List Bs) v0.2.2.2.2.2.2.2.2.2.2.2.1).bind fun v5 => (app ([] : List Bs) v0.2.2.2.2.2.2.2.2.2.2.2.2.2.2.2.2.1).bind fun v6 => (zbO o v0.2.2.2.2.2.1 v0.2.2.2.2.2.2.1 v0.2.2.2.2.2.2.2.1 v0.2.2.2.2.2.2.2.2.1 v0.2.2.2.2.2.2.2.2.2.1 v0.2.2.2.2.2.2.2.2.2.2.1 v0.2.2.2.2.2.2.2.2.2.2.2.2.1 v0.2.2.2.2.2.2.2.2.2.2.2.2.2.1 v0.2.2.2.2.2.2.2.2.2.2.2.2.2.2.1 v0.2.2.2.2.2.2.2.2.2.2.2.2.2.2.2.1 v0.2.2.2.2.2.2.2.2.2.2.2.2.2.2.2.2.2.1 v0.2.2.2.2.2.2.2.2.2.2.2.2.2.2.2.2.2.2.1 v0.2.2.2.2.2.2.2.2.2.2.2.2.2.2.2.2.2.2.2 v0.2.2.1 v1 v5 v6 v4).bind fun v7 => (zcJ o v0.2.2.2.2.2 v0.2.2.1 v2 v3).bind fun v8 => (iter (fun x => ziL o x.1 x.2.1 x.2.2.1 x.2.2.2.1 x.2.2.2.2.1 x.2.2.2.2.2.1 x.2.2.2.2.2.2.1 x.2.2.2.2.2.2.2.1 x.2.2.2.2.2.2.2.2.1 x.2.2.2.2.2.2.2.2.2.1 x.2.2.2.2.2.2.2.2.2.2.1 x.2.2.2.2.2.2.2.2.2.2.2.1 x.2.2.2.2.2.2.2.2.2.2.2.2.1 x.2.2.2.2.2.2.2.2.2.2.2.2.2.1 x.2.2.2.2.2.2.2.2.2.2.2.2.2.2.1 x.2.2.2.2.2.2.2.2.2.2.2.2.2.2.2.1 x.2.2.2.2.2.2.2.2.2.2.2.2.2.2.2.2.1 x.2.2.2.2.2.2.2.2.2.2.2.2.2.2.2.2.2.1 x.2.2.2.2.2.2.2.2.2.2.2.2.2.2.2.2.2.2.1 x.2.2.2.2.2.2.2.2.2.2.2.2.2.2.2.2.2.2.2) ((0 : Int), v7.2.2.1, v8.2.2.1, v8.2.2.2, v7.2.2.2.2.2, v0.2.2.2.2.2.1, v0.2.2.2.2.2.2.1, v0.2.2.2.2.2.2.2.1, v0.2.2.2.2.2.2.2.2.1, v0.2.2.2.2.2.2.2.2.2.1, v0.2.2.2.2.2.2.2.2.2.2.1, v0.2.2.2.2.2.2.2.2.2.2.2.2.1, v0.2.2.2.2.2.2.2.2.2.2.2.2.2.1, v0.2.2.2.2.2.2.2.2.2.2.2.2.2.2.1, v0.2.2.2.2.2.2.2.2.2.2.2.2.2.2.2.1, v0.2.2.2.2.2.2.2.2.2.2.2.2.2.2.2.2.2.1, v0.2.2.2.2.2.2.2.2.2.2.2.2.2.2.2.2.2.2.1, v0.2.2.2.2.2.2.2.2.2.2.2.2.2.2.2.2.2.2.2, v7.2.2.2.1, v7.2.2.2.2.1)).bind fun v30 => (iter (fun x => ziH o x.1 x.2.1 x.2.2.1 x.2.2.2.1 x.2.2.2.2.1 x.2.2.2.2.2.1 x.2.2.2.2.2.2.1 x.2.2.2.2.2.2.2.1 x.2.2.2.2.2.2.2.2.1 x.2.2.2.2.2.2.2.2.2.1 x.2.2.2.2.2.2.2.2.2.2.1 x.2.2.2.2.2.2.2.2.2.2.2.1 x.2.2.2.2.2.2.2.2.2.2.2.2.1 x.2.2.2.2.2.2.2.2.2.2.2.2.2.1 x.2.2.2.2.2.2.2.2.2.2.2.2.2.2.1 x.2.2.2.2.2.2.2.2.2.2.2.2.2.2.2.1 x.2.2.2.2.2.2.2.2.2.2.2.2.2.2.2.2.1 x.2.2.2.2.2.2.2.2.2.2.2.2.2.2.2.2.2.1 x.2.2.2.2.2.2.2.2.2.2.2.2.2.2.2.2.2.2.1 x.2.2.2.2.2.2.2.2.2.2.2.2.2.2.2.2.2.2.2) ((0 : Int), v30)).bind fun v52 => bif (v7.1 == v8.1) then some ((v7.2.1 == v8.2.1), v52) else some (false, v52)) else (bif (v0.2.1 == 1) then ((zfR o v0.2.2.1 v1 v4).bind fun v53 => (zaE o v0.2.2.1 v2 v3).bind fun v54 => (zbB o v0.2.2.2.2.1 v53.2.2.1 v53.2.2.2).bind fun v55 => (zbG o v0.2.2.2.2.1 v54.2.2.1 v54.2.2.2).bind fun v56 => bif (v53.2.1 == v54.2.1) then (bif (v55.2.1 == v56.2.1) then ((zcB o v53.1 v54.1).bind fun v57 => bif v57 then ((zcB o v55.1 v56.1).bind fun v58 => bif v58 then ((zaQ o v0.2.2.1 v0.2.2.2.1 v55.2.2.1 v55.2.2.2).bind fun v59 => (zaV o v0.2.2.1 v0.2.2.2.1 v56.2.2.1 v56.2.2.2).bind fun v60 => bif (v59.1 == v60.1) then ((zbL o v0.2.2.1 v59.2.1 v59.2.2).bind fun v61 => (zaW o v0.2.2.1 v60.2.1 v60.2.2).bind fun v62 => (zdI o v61.1 v62.2.2).bind fun v63 => some (v63, v61.2.1, v62.1, v62.2.1, v61.2.2)) else some (false, v59.2.1, v60.2.1, v60.2.2, v59.2.2)) else some (false, v55.2.2.1, v56.2.2.1, v56.2.2.2, v55.2.2.2)) else some (false, v55.2.2.1, v56.2.2.1, v56.2.2.2, v55.2.2.2)) else some (false, v55.2.2.1, v56.2.2.1, v56.2.2.2, v55.2.2.2)) else some (false, v55.2.2.1, v56.2.2.1, v56.2.2.2, v55.2.2.2)) else (bif (v0.2.1 == 2) then ((zeI o v0.2.2.1 v0.2.2.2.1 v1 v4).bind fun v64 => (zcK o v0.2.2.1 v0.2.2.2.1 v2 v3).bind fun v65 => some ((v64.1 == v65.1), v64.2.1, v65.2.1, v65.2.2, v64.2.2)) else (bif (v0.2.1 == 3) then ((zdU o v0.2.2.1 v1 v4).bind fun v66 => (zbK o v0.2.2.1 v2 v3).bind fun v67 => some ((v66.1 == v67.1), v66.2.1, v67.2.1, v67.2.2, v66.2.2)) else (bif (v0.2.1 == 4) then ((zdY o v0.2.2.2.2.1 v1 v4).bind fun v68 => (zcE o v0.2.2.2.2.1 v2 v3).bind fun v69 => some ((v68.1 == v69.1), v68.2.1, v69.2.1, v69.2.2, v68.2.2)) else (bif (v0.2.1 == 5) then ((zfB o v0.2.2.1 v0.2.2.2.1 v1 v4).bind fun v70 => (zcT o v0.2.2.1 v0.2.2.2.1 v2 v3).bind fun v71 => some ((v70.1 == v71.1), v70.2.1, v71.2.1, v71.2.2, v70.2.2)) else (bif (v0.2.1 == 6) then ((zfD o v0.2.2.1 v0.2.2.2.2.1 v1 v4).bind fun v72 => (zcV o v0.2.2.1 v0.2.2.2.2.1 v2 v3).bind fun v73 => some ((v72.1 == v73.1), v72.2.1, v73.2.1, v73.2.2, v72.2.2)) else (bif (v0.2.1 == 7) then ((zaY o v0.2.2.1 v1 v4).bind fun v74 => (zbE o v0.2.2.1 v2 v3).bind fun v75 => some ((v74.1 == v75.1), v74.2.1, v75.2.2, v75.2.1, v74.2.2)) else some (true, v1, v2, v3, v4))))))))
noncomputable def znA (o : Ops) : SC := ⟨⟨[(0, (.ptr 0 0)), (1, (.ptr 1 0)), (2, (.h zzC))], [zpR, zbM, zmH]⟩, 1, [(none, ⟨[(0, hB)], [zpR, zbM, ybE]⟩)], fun x => zfY o x.1 x.2.1 x.2.2.1 x.2.2.2.1 x.2.2.2.2⟩
theorem ztN : SCok Tryz.prog tabs 21 (znA o) := zcD (o := o) (η := [(200009, .loop [] ⟨[(7, (.ptr 3 0)), (12, hI)], [zpR, zbM, ybE, ynH, .osl .s 9, .osl .s 9]⟩ [6, 8, 9, 10, 11] [(some 1, ⟨[(7, (.ptr 3 0))], [zpR, zbM, ybE, ynH, .osl .s 9, .osl .s 9]⟩)]),
 (200013, .loop [] ⟨[(7, (.ptr 3 0)), (13, hI)], [zpR, zbM, ybE, ynH, .osl .s 9, .osl .s 9]⟩ [6, 8, 9, 10, 11] [(some 3, ⟨[], [zpR, zbM, ybE]⟩)]),
 yyC,
 yxF,
 ywV,
 yyA,
 yxD,
 yxJ,
 yyL]) (Γ := ⟨[(41, (zjT o)), (58, (zgQ o))], [(20, (ziO o)), (55, (zhD o)), (52, (zlC o)), (56, (zaH o)), (36, (zbY o)), (40, (zeQ o)), (22, (zdA o)), (57, (zcH o)), (25, (zdB o)), (59, (zcM o)), (60, (zjS o)), (61, (zhG o)), (24, (zgL o)), (62, (zeK o)), (26, (ziQ o)), (63, (zgR o)), (64, (zkC o)), (65, (zhM o)), (66, (zkF o)), (67, (zhV o)), (31, (zbN o)), (68, (zeB o))], false⟩) (ctok ⟨znR, ⟨zlJ, trivial⟩⟩ ⟨zmK, ⟨zoM, ⟨zqI, ⟨zaN, ⟨zdD, ⟨ziB, ⟨zeF, ⟨zeJ, ⟨zeR, ⟨zeN, ⟨zoD, ⟨zoK, ⟨zkL, ⟨zhY, ⟨zmX, ⟨znN, ⟨zoZ, ⟨zpQ, ⟨zpD, ⟨zpH, ⟨zcP, ⟨zgW, trivial⟩⟩⟩⟩⟩⟩⟩⟩⟩⟩⟩⟩⟩⟩⟩⟩⟩⟩⟩⟩⟩⟩) Tryz.func21
noncomputable def zjI (o : Ops) (v0 : List ypO) (v3 : Int) (v4 : Int) (v5 : List zaC) (v6 : Int) (v7 : List zcO) : Option ((Int × Int × (List zaC) × Int × List zcO) ⊕ ((Int × List zcO))) :=
 bif decide (v3 < (v0.length : Int)) then ((idx v0 v3).bind fun v8 => (zfY o v8 v4 v5 v6 v7).bind fun v9 => some (.inl (w64 (v3 + 1), v9.2))) else some (.inr (v4, v7))
noncomputable def zgF (o : Ops) (v0 : List ypO) : Option ((Int × List zcO)) :=
 (zhZ o).bind fun v1 => (zdV o).bind fun v2 => (iter (fun x => zjI o v0 x.1 x.2.1 x.2.2.1 x.2.2.2.1 x.2.2.2.2) ((0 : Int), v1.1, ([] : List zaC), v2, v1.2)).bind fun v10 => some v10
noncomputable def znS (o : Ops) : SC := ⟨⟨[(0, (.h (.sl zzC)))], []⟩, 1, [(none, ⟨[(0, (.ptr 0 0))], [zoW, zmH]⟩)], fun x => zgF o x⟩
theorem zuM : SCok Tryz.prog tabs 17 (znS o) := zcD (o := o) (η := [(200006, .loop [] ⟨[(3, (.ptr 0 0)), (4, (.ptr 1 0)), (5, hI)], [zpR, zbM, zmH]⟩ [0, 2] [(some 0, ⟨[(3, (.ptr 0 0))], [zoW, zmH]⟩)])]) (Γ := ⟨[], [(27, (zqT o)), (18, (zkI o)), (21, (znA o))], false⟩) (ctok trivial ⟨ztG, ⟨zpC, ⟨ztN, trivial⟩⟩⟩) Tryz.func17
end
theorem ygZ {nx : Int} {es : Es} (h : Ok nx es) (n : Nd) (now : Int) (hl : Lst n) :
  zbO zaB n.1 n.2.1 n.2.2.1 n.2.2.2.1 n.2.2.2.2.1 n.2.2.2.2.2.1 n.2.2.2.2.2.2.2.1 n.2.2.2.2.2.2.2.2.1 n.2.2.2.2.2.2.2.2.2.1 n.2.2.2.2.2.2.2.2.2.2.1 n.2.2.2.2.2.2.2.2.2.2.2.2.1 n.2.2.2.2.2.2.2.2.2.2.2.2.2.1 n.2.2.2.2.2.2.2.2.2.2.2.2.2.2 now nx (zdR n) (nact n) es =
  some ((zpK n now nx es).1, (zpK n now nx es).2.1, (zpK n now nx es).2.2.1, zdR n, nact n, (zpK n now nx es).2.2.2) := by
 unfold zbO zpK
 rw [show zfO zaB _ = some (mayB n) from ymE n hl.1, zaA]
 cases hm : mayB n with
 | false => rfl
 | true =>
  simp only [Bool.not_true, cond_false]
  rw [zrS h, zaA]
  cases hf : zvQ es n.2.2.2.2.2.2.2.2.2.2.2.2.2.1 with
  | some q => rfl
  | none =>
   simp only [Option.isSome_none, Option.getD_none, cond_false]
   have hj : zfK zaB n.1 n.2.1 n.2.2.1 n.2.2.2.1 n.2.2.2.2.1 n.2.2.2.2.2.1 n.2.2.2.2.2.2.2.1 n.2.2.2.2.2.2.2.2.1 n.2.2.2.2.2.2.2.2.2.1 n.2.2.2.2.2.2.2.2.2.2.1 n.2.2.2.2.2.2.2.2.2.2.2.2.1 n.2.2.2.2.2.2.2.2.2.2.2.2.2.1 n.2.2.2.2.2.2.2.2.2.2.2.2.2.2 (zdR n) (nact n) (zN, false, nx, es) = some (bif zyY es (npar n) then .inl (0, 133, nx, zdR n, nact n, es) else .inr (nx, zdR n, nact n, es, n.1, n.2.1, n.2.2.1, n.2.2.2.1, n.2.2.2.2.1, n.2.2.2.2.2.1, n.2.2.2.2.2.2.2.1, n.2.2.2.2.2.2.2.2.1, n.2.2.2.2.2.2.2.2.2.1, n.2.2.2.2.2.2.2.2.2.2.1, n.2.2.2.2.2.2.2.2.2.2.2.2.1, n.2.2.2.2.2.2.2.2.2.2.2.2.2.1, n.2.2.2.2.2.2.2.2.2.2.2.2.2.2)) := by
    unfold zfK zyY
    simp only []
    by_cases hp : npar n > 0
    ·rw [zmD (p := n.2.2.1 > 0) hp, decide_eq_true hp, yeJ h, zaA]
     show (bif (!(mhas keqI es (npar n))) then _ else _) = _
     cases mhas keqI es (npar n) with
     | false => rfl
     | true =>
      simp only [Bool.not_true, cond_false, Bool.true_and, Bool.false_or]
      cases ynF es (npar n) <;> rfl
    ·rw [zkB (p := n.2.2.1 > 0) hp, decide_eq_false hp]
     rfl
   rw [show zfK zaB n.1 n.2.1 n.2.2.1 n.2.2.2.1 n.2.2.2.2.1 n.2.2.2.2.2.1 n.2.2.2.2.2.2.2.1 n.2.2.2.2.2.2.2.2.1 n.2.2.2.2.2.2.2.2.2.1 n.2.2.2.2.2.2.2.2.2.2.1 n.2.2.2.2.2.2.2.2.2.2.2.2.1 n.2.2.2.2.2.2.2.2.2.2.2.2.2.1 n.2.2.2.2.2.2.2.2.2.2.2.2.2.2 _ _ _ = _ from hj, zaA]
   cases zyY es (npar n) with
   | true => rfl
   | false =>
    simp only [cond_false]
    rw [zvS h, zaA]
    unfold zmO
    simp only []
    by_cases hg : (zfH es now).length ≥ 256
    ·rw [zmD (by omega), decide_eq_true hg]
     rfl
    ·rw [zkB (by omega), decide_eq_false hg]
     by_cases hx : nx ≥ 99999999
     ·rw [zmD hx, decide_eq_true hx]
      rfl
     ·rw [zkB hx, decide_eq_false hx]
      have hnx := h.next
      have h1 : n.2.2.2.2.2.2.1.length ≤ 1048576 := hl.1
      have h2 : n.2.2.2.2.2.2.2.2.2.2.2.1.length ≤ 1048576 := hl.2
      simp only [zaA, Bool.or_false, cond_false]
      unfold zuU
      simp only []
      rw [ziJ (zdR n) (Nat.le_trans h1 (by decide)), zaA, ziJ (nact n) (Nat.le_trans h2 (by decide)), zaA, zlK (by omega) (by omega)]
      simp only [zaA]
      rw [zxO fun p hp => ((h.pruned now).ids p hp).2.2]
theorem ysJ {nx nx' : Int} {es : Es} (h : Ok nx es) (id : Int) : zfR zaB id nx' es = some (zkA keqI es id zN, mhas keqI es id, nx', es) := by
 unfold zfR
 simp only []
 rw [own_ok, zaA]
 cases hh : mhas keqI es id with
 | false => rw [ymF hh]; exact ⟨by decide, by decide⟩
 | true =>
  obtain ⟨n, hn, hp⟩ := zrV hh
  rw [zmF hn]
  exact h.lst hp
def ydC (es : Es) (id now : Int) : Int × Es := match mget keqI es id with
 | none => (131, es)
 | some n => bif yaZ n then (134, chI es id zsA) else (bif yaY es id now then (0, chI es id ysE) else (133, es))
theorem ylA {nx nx' : Int} {es : Es} (h : Ok nx es) (id now : Int) : zeI zaB id now nx' es = some ((ydC es id now).1, nx', (ydC es id now).2) := by
 unfold zeI ydC
 cases hh : mhas keqI es id with
 | false => rw [zxY hh]; rfl
 | true =>
  obtain ⟨n, hn, hp⟩ := zrV hh
  rw [hn, zmF hn]
  simp only [Bool.not_true, cond_false]
  cases hs : yaZ n with
  | true =>
   rw [show n.2.2.2.2.2.2.2.2.2.2.1 = true from hs]
   simp only [cond_true]
   rw [yiL h hh, zaA]
  | false =>
   rw [show n.2.2.2.2.2.2.2.2.2.2.1 = false from hs]
   simp only [cond_false]
   rw [yfP h, zaA]
   cases yaY es id now with
   | false => rfl
   | true =>
    simp only [Bool.not_true, cond_false, cond_true]
    unfold zkK ziP
    simp only [zaA]
    rw [hh, zrH rfl, zaA, zmF hn, zaA, ← zzW h.rises ysE hn]
def ynB (es : Es) (id l : Int) : Int × Es := match mget keqI es id with
 | none => (131, es)
 | some n => bif (n.2.1 != (1 : Int)) then (131, es) else (bif inB l 1 3 then (0, chI es id (sLev l)) else (131, es))
theorem ytM {nx nx' : Int} {es : Es} (h : Ok nx es) (id l : Int) : zfB zaB id l nx' es = some ((ynB es id l).1, nx', (ynB es id l).2) := by
 unfold zfB ynB
 cases hh : mhas keqI es id with
 | false => rw [zxY hh]; rfl
 | true =>
  obtain ⟨n, hn, hp⟩ := zrV hh
  rw [hn, zmF hn]
  simp only [Bool.not_true, cond_false]
  cases (n.2.1 != (1 : Int)) with
  | true => rfl
  | false =>
   simp only [cond_false]
   rw [xaZ, zaA]
   unfold inB
   cases (decide (1 ≤ l) && decide (l ≤ 3)) with
   | false => rfl
   | true =>
    simp only [Bool.not_true, cond_false, cond_true]
    unfold zkH zjG
    simp only [zaA]
    rw [hh, zrH rfl, zaA, zmF hn, zaA, ← zzW h.rises (sLev l) hn]
def ymL (es : Es) (id : Int) (d : L8) : Int × Es := bif mhas keqI es id && !decide ((d.length : Int) > 256) then (0, chI es id (xcY d)) else (131, es)
theorem yqV {nx nx' : Int} {es : Es} (h : Ok nx es) (id : Int) (d : L8) : zfD zaB id d nx' es = some ((ymL es id d).1, nx', (ymL es id d).2) := by
 unfold zfD ymL
 cases hh : mhas keqI es id with
 | false => rfl
 | true =>
  obtain ⟨n, hn, hp⟩ := zrV hh
  simp only [Bool.not_true, cond_false, Bool.true_and]
  cases decide ((d.length : Int) > 256) with
  | true => rfl
  | false =>
   simp only [Bool.not_false, cond_false, cond_true]
   unfold zkR zjE
   simp only [zaA]
   rw [hh, zrH rfl, zaA, zmF hn, zaA, ← zzW h.rises (xcY d) hn]
theorem Ok.spend {nx : Int} {es : Es} (h : Ok nx es) (id now : Int) : Ok nx (ydC es id now).2 := by
 unfold ydC
 cases mget keqI es id with
 | none => exact h
 | some n =>
  simp only []
  cases yaZ n with
  | true => exact h.ch (zsP _)
  | false => cases yaY es id now with
   | true => exact h.ch (yjA _)
   | false => exact h
theorem Ok.lift {nx : Int} {es : Es} (h : Ok nx es) (id l : Int) : Ok nx (ynB es id l).2 := by
 unfold ynB
 cases mget keqI es id with
 | none => exact h
 | some n =>
  simp only []
  cases (n.2.1 != (1 : Int)) with
  | true => exact h
  | false =>
   cases hl : inB l 1 3 with
   | false => exact h
   | true =>
    unfold inB at hl
    simp only [Bool.and_eq_true, decide_eq_true_eq] at hl
    exact h.ch (yoF _ hl.1 hl.2)
theorem Ok.note {nx : Int} {es : Es} (h : Ok nx es) (id : Int) (d : L8) : Ok nx (ymL es id d).2 := by
 unfold ymL
 cases hc : mhas keqI es id && !decide ((d.length : Int) > 256) with
 | false => exact h
 | true =>
  simp only [Bool.and_eq_true, Bool.not_eq_true', decide_eq_false_iff_not] at hc
  exact h.ch (ynP _ (by omega))
theorem ywN {es : Es} (h : zpZ es) {q : Int × Nd} (hq : q ∈ es) {P P' : Int × Nd → Bool} (h1 : P q = false) (h2 : P' q = true) (h3 : ∀ p ∈ es, p.1 ≠ q.1 → P' p = P p) : (es.filter P').length = (es.filter P).length + 1 := by
 induction es with
 | nil => cases hq
 | cons p m ih =>
  have hc := List.pairwise_cons.1 h
  rcases List.mem_cons.1 hq with rfl | hq
  ·rw [List.filter_cons_of_pos h2, List.filter_cons_of_neg (by rw [h1]; exact Bool.false_ne_true), List.length_cons]
   rw [List.filter_congr fun p hp => h3 p (List.mem_cons_of_mem _ hp) (by have := hc.1 p hp; omega)]
  ·have e := ih hc.2 hq fun p hp => h3 p (List.mem_cons_of_mem _ hp)
   have hp := h3 p List.mem_cons_self (by have := hc.1 q hq; omega)
   simp only [List.filter_cons, hp]
   split
   ·simp only [List.length_cons, e]
   ·exact e
theorem yxU {es : Es} (h : zpZ es) {p q : Int × Nd} (hp : p ∈ es) (hq : q ∈ es) (e : p.1 = q.1) : p = q := by
 have h1 := zlP h (k := p.1) (v := p.2) hp
 rw [e, zlP h (k := q.1) (v := q.2) hq] at h1
 exact Prod.ext e (osi h1).symm
theorem yyP {es : Es} (f : Int × Nd → Nd) (i : Int) (g : Nd → Nd) : chI (chE es f) i g = chE es fun p => if p.1 = i then g (f p) else f p := by
 unfold chI chE
 rw [List.map_map]
 rfl
theorem xdI {es : Es} {f : Int × Nd → Nd} {p : Int × Nd} (h : p ∈ es) : (p.1, f p) ∈ chE es f := List.mem_map.2 ⟨p, h, rfl⟩
def cutC (s : L8) : L8 × Bool := bif (s.take 2 == ([99, 58] : L8)) then (s.drop 2, true) else (s, false)
def xdA (s : L8) (n : Nd) : Bool := n.2.2.2.1 == s || ((cutC s).2 && ((cutC s).1 != ([] : L8) && n.2.2.2.2.1 == (cutC s).1))
def hitB (s : L8) (n : Nd) : Bool := !yiS n && xdA s n
theorem xbT (s : L8) : zcY zaB s ([99, 58] : L8) = some (cutC s) := by
 unfold zcY zbW zbX cutC
 simp only [List.length_cons, List.length_nil]
 by_cases h : (s.length : Int) ≥ 2
 ·rw [zmD (by exact h), ybR (n := 2) (by omega), zaA, zaA]
  cases s.take 2 == ([99, 58] : L8) with
  | false => rfl
  | true =>
   simp only [Bool.not_true, cond_false, cond_true]
   rw [zwU (n := 2) (by omega)]
   rfl
 ·rw [zkB (by exact h), zaA]
  have e : (s.take 2 == ([99, 58] : L8)) = false := by
   cases hb : s.take 2 == ([99, 58] : L8) with
   | false => rfl
   | true =>
    have := congrArg List.length (beq_iff_eq.1 hb)
    simp at this
    omega
  rw [e]
  rfl
def yaP (es : Es) (s : L8) : Es := chE es fun p => if hitB s p.2 = true then zsA p.2 else p.2
theorem yhX {nx : Int} {es : Es} (h : Ok nx es) (s : L8) : zdY zaB s nx es = some (((es.filter fun p => hitB s p.2).length : Int), nx, yaP es s) := by
 have hlen := h.len
 have hle : ∀ P : Int × Nd → Bool, (es.filter P).length ≤ es.length := fun P => List.length_filter_le _ _
 unfold zdY
 rw [xbT, zaA]
 suffices hA : rngA (fun x => znL zaB s (cutC s) x.1 x.2.1 x.2.2.1 x.2.2.2) ((0 : Int), nx, es, List.map Prod.fst es) = some (((es.filter fun p => hitB s p.2).length : Int), nx, yaP es s) by
  rw [hA, zaA]
 refine zxH (fun x => ∃ left : List Int, x = (((es.filter fun p => !left.contains p.1 && hitB s p.2).length : Int), nx, chE es fun p => if (!left.contains p.1 && hitB s p.2) = true then zsA p.2 else p.2, left)) (fun x => x.2.2.1) (fun x => x.2.2.2) (hf := fun x => rfl) ?_ ?_ ?_
 ·rintro _ ⟨left, rfl⟩ hn
  have e : ∀ p ∈ es, (!left.contains p.1 && hitB s p.2) = hitB s p.2 := fun p hp => by
   have h1 : p.1 ∉ left := by
    have hx := xdI (f := fun p => if (!left.contains p.1 && hitB s p.2) = true then zsA p.2 else p.2) hp
    have h0 := hn _ hx
    exact h0
   have h2 : left.contains p.1 = false := by simpa using h1
   rw [h2]; rfl
  show some (Sum.inr _) = _
  rw [List.filter_congr e]
  have e2 : (chE es fun p => if (!left.contains p.1 && hitB s p.2) = true then zsA p.2 else p.2) = yaP es s := zzU fun p hp => by rw [e p hp]
  simp only [e2]
 ·rintro _ p ⟨left, rfl⟩ hp hl
  simp only [] at hp hl
  have hK : yjB es fun p => if (!left.contains p.1 && hitB s p.2) = true then zsA p.2 else p.2 := zsP _
  have hO := h.ch hK
  obtain ⟨q, hq, rfl⟩ := zxZ hp
  simp only [] at hl
  have hc : left.contains q.1 = true := by simpa using hl
  have hg := zlP hO.rises hp
  have hb : (!left.contains q.1 && hitB s q.2) = false := by rw [hc]; rfl
  simp only [hb, Bool.false_eq_true, if_false] at hg hp ⊢
  rw [hg, zaA]
  have hj : ∀ es', ziI zaB s (cutC s) nx es' left q q.2 = some (hitB s q.2, nx, es', rngD keqI left q.1) := fun es' => by
   unfold ziI hitB xdA yiS
   cases q.2.2.2.2.2.2.2.2.2.2.1 <;> cases (q.2.2.2.2.1 == s) <;> cases (cutC s).2 <;> cases ((cutC s).1 != ([] : L8)) <;> rfl
  rw [hj, zaA]
  have hcon : ∀ p ∈ es, p.1 ≠ q.1 → (!(rngD keqI left q.1).contains p.1) = !left.contains p.1 := fun p _ hne => by
   congr 1
   rw [Bool.eq_iff_iff]
   simp only [List.contains_iff_mem, zxK]
   exact ⟨fun h => h.1, fun h => ⟨h, hne⟩⟩
  have hq2 : (rngD keqI left q.1).contains q.1 = false := by
   cases hb : (rngD keqI left q.1).contains q.1 with
   | false => rfl
   | true => exact absurd rfl (zxK.1 (List.contains_iff_mem.1 hb)).2
  cases hh : hitB s q.2 with
  | true =>
   refine .inl ⟨_, ?_, ⟨rngD keqI left q.1, rfl⟩, rfl⟩
   simp only [cond_true]
   rw [yiL hO (zkX.2 ⟨_, hp⟩), zaA]
   have hcnt := ywN h.rises hq (P := fun p => !left.contains p.1 && hitB s p.2) (P' := fun p => !(rngD keqI left q.1).contains p.1 && hitB s p.2) hb (by simp only [hq2, hh]; rfl) fun p hp hne => by simp only [hcon p hp hne]
   rw [hcnt]
   have := hle fun p => !left.contains p.1 && hitB s p.2
   rw [zlK (by omega) (by omega), yyP]
   have e3 : (chE es fun p => if p.1 = q.1 then zsA (if (!left.contains p.1 && hitB s p.2) = true then zsA p.2 else p.2) else (if (!left.contains p.1 && hitB s p.2) = true then zsA p.2 else p.2)) = chE es fun p => if (!(rngD keqI left q.1).contains p.1 && hitB s p.2) = true then zsA p.2 else p.2 := by
    refine zzU fun p hp2 => ?_
    by_cases hne : p.1 = q.1
    ·obtain rfl := yxU h.rises hp2 hq hne
     rw [if_pos rfl, hb, hq2, hh]
     rfl
    ·rw [if_neg hne, hcon p hp2 hne]
   rw [e3]
   rfl
  | false =>
   refine .inl ⟨_, ?_, ⟨rngD keqI left q.1, rfl⟩, rfl⟩
   simp only [cond_false]
   have e4 : ∀ p ∈ es, (!left.contains p.1 && hitB s p.2) = (!(rngD keqI left q.1).contains p.1 && hitB s p.2) := fun p hp2 => by
    by_cases hne : p.1 = q.1
    ·obtain rfl := yxU h.rises hp2 hq hne
     rw [hh, Bool.and_false, Bool.and_false]
    ·rw [hcon p hp2 hne]
   rw [List.filter_congr e4]
   have e5 : (chE es fun p => if (!left.contains p.1 && hitB s p.2) = true then zsA p.2 else p.2) = chE es fun p => if (!(rngD keqI left q.1).contains p.1 && hitB s p.2) = true then zsA p.2 else p.2 := zzU fun p hp2 => by rw [e4 p hp2]
   rw [e5]
 ·have e : ∀ p ∈ es, (!(List.map Prod.fst es).contains p.1 && hitB s p.2) = false := fun p hp => by
   have : (List.map Prod.fst es).contains p.1 = true := List.contains_iff_mem.2 (List.mem_map.2 ⟨p, hp, rfl⟩)
   rw [this]; rfl
  refine ⟨List.map Prod.fst es, ?_⟩
  have e1 : (es.filter fun p => !(List.map Prod.fst es).contains p.1 && hitB s p.2) = [] := List.filter_eq_nil_iff.2 fun p hp => by rw [e p hp]; exact Bool.false_ne_true
  have e2 : (chE es fun p => if (!(List.map Prod.fst es).contains p.1 && hitB s p.2) = true then zsA p.2 else p.2) = es := by
   refine Eq.trans (List.map_congr_left fun p hp => ?_) (List.map_id es)
   show (p.1, if (!(List.map Prod.fst es).contains p.1 && hitB s p.2) = true then zsA p.2 else p.2) = p
   rw [e p hp]
   rfl
  rw [e1, e2]
  rfl
theorem Ok.killed {nx : Int} {es : Es} (h : Ok nx es) (s : L8) : Ok nx (yaP es s) := h.ch (zsP _)
end Go.Proofs.YtebbcofojchkpaaGreatDoor.Am
