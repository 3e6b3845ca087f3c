/- What some functions compute, over plain values, and that they do. Forests: what is planted by a script: plain laws. Forests: what is told, spent, lifted, noted: plain laws. Forests: all of a principal's nodes killed: plain laws. The document's forest answers: what may be, where a number stands, paths: plain laws. The document's forest answers, whatever is called: plain laws. Conditions: as each theorem says. -/
import Derived.KernelRfl
import Derived.Test.YtebbcofojchkpaaGreatDoorQsJ
namespace Go.Proofs.YtebbcofojchkpaaGreatDoor.Am
open Go Go.RowKit
def τWkM : TE := [(3, ⟨.int .i64, 1, [.v (.i .i64) (show Int from 0)], (.i .i64), 8⟩),
 (4, ⟨.b, 1, [.v .b (show Bool from false)], .b, 1⟩),
 (9, ⟨.s, 1, [.v .s (show Bs from [])], .s, 16⟩),
 (25, ⟨.pt 75, 1, [.nilp], .un, 8⟩),
 (35, ⟨.sl 47, 1, [.nils], (.sl (.pr (.i .i64) (.pr (.i .i64) (.pr (.i .i64) (.pr .s (.pr .s (.pr .s (.pr (.sl .s) (.pr (.i .i64) (.pr (.i .i64) (.pr .b (.pr .b (.pr (.sl .s) (.pr (.i .i64) (.pr .s .s))))))))))))))), 24⟩),
 (38, ⟨.st [(35, 0), (3, 1)], 2, [.nils, .v (.i .i64) (show Int from 0)], (.pr (.sl (.pr (.i .i64) (.pr (.i .i64) (.pr (.i .i64) (.pr .s (.pr .s (.pr .s (.pr (.sl .s) (.pr (.i .i64) (.pr (.i .i64) (.pr .b (.pr .b (.pr (.sl .s) (.pr (.i .i64) (.pr .s .s))))))))))))))) (.i .i64)), 32⟩),
 (41, ⟨.sl 50, 1, [.nils], (.sl (.pr (.i .i64) (.pr (.i .i64) (.pr (.i .i64) (.pr (.i .i64) (.pr .s (.pr (.i .i64) (.pr (.i .i64) (.pr (.i .i64) (.pr .s (.pr .s (.pr .s (.pr (.sl .s) (.pr (.i .i64) (.pr (.i .i64) (.pr .b (.pr .b (.pr (.sl .s) (.pr (.i .i64) (.pr .s .s)))))))))))))))))))), 24⟩),
 (44, ⟨.sl 3, 1, [.nils], (.sl (.i .i64)), 24⟩),
 (45, ⟨.sl 9, 1, [.nils], (.sl .s), 24⟩),
 (47, ⟨.st [(3, 0), (3, 1), (3, 2), (9, 3), (9, 4), (9, 5), (45, 6), (3, 7), (3, 8), (4, 9), (4, 10), (45, 11), (3, 12), (9, 13), (9, 14)], 15, [.v (.i .i64) (show Int from 0), .v (.i .i64) (show Int from 0), .v (.i .i64) (show Int from 0), .v .s (show Bs from []), .v .s (show Bs from []), .v .s (show Bs from []), .nils, .v (.i .i64) (show Int from 0), .v (.i .i64) (show Int from 0), .v .b (show Bool from false), .v .b (show Bool from false), .nils, .v (.i .i64) (show Int from 0), .v .s (show Bs from []), .v .s (show Bs from [])], (.pr (.i .i64) (.pr (.i .i64) (.pr (.i .i64) (.pr .s (.pr .s (.pr .s (.pr (.sl .s) (.pr (.i .i64) (.pr (.i .i64) (.pr .b (.pr .b (.pr (.sl .s) (.pr (.i .i64) (.pr .s .s)))))))))))))), 184⟩),
 (50, ⟨.st [(3, 0), (3, 1), (3, 2), (3, 3), (9, 4), (47, 5)], 20, [.v (.i .i64) (show Int from 0), .v (.i .i64) (show Int from 0), .v (.i .i64) (show Int from 0), .v (.i .i64) (show Int from 0), .v .s (show Bs from []), .v (.i .i64) (show Int from 0), .v (.i .i64) (show Int from 0), .v (.i .i64) (show Int from 0), .v .s (show Bs from []), .v .s (show Bs from []), .v .s (show Bs from []), .nils, .v (.i .i64) (show Int from 0), .v (.i .i64) (show Int from 0), .v .b (show Bool from false), .v .b (show Bool from false), .nils, .v (.i .i64) (show Int from 0), .v .s (show Bs from []), .v .s (show Bs from [])], (.pr (.i .i64) (.pr (.i .i64) (.pr (.i .i64) (.pr (.i .i64) (.pr .s (.pr (.i .i64) (.pr (.i .i64) (.pr (.i .i64) (.pr .s (.pr .s (.pr .s (.pr (.sl .s) (.pr (.i .i64) (.pr (.i .i64) (.pr .b (.pr .b (.pr (.sl .s) (.pr (.i .i64) (.pr .s .s))))))))))))))))))), 232⟩),
 (57, ⟨.sl 4, 1, [.nils], (.sl .b), 24⟩),
 (73, ⟨.map 3 81, 1, [.nilm], (.mp (.i .i64) (.pr (.i .i64) (.pr (.i .i64) (.pr (.i .i64) (.pr .s (.pr .s (.pr .s (.pr (.sl .s) (.pr (.i .i64) (.pr (.i .i64) (.pr .b (.pr .b (.pr (.sl .s) (.pr (.i .i64) (.pr .s .s))))))))))))))), 8⟩),
 (75, ⟨.st [(73, 0), (3, 1)], 2, [.nilm, .v (.i .i64) (show Int from 0)], (.pr (.mp (.i .i64) (.pr (.i .i64) (.pr (.i .i64) (.pr (.i .i64) (.pr .s (.pr .s (.pr .s (.pr (.sl .s) (.pr (.i .i64) (.pr (.i .i64) (.pr .b (.pr .b (.pr (.sl .s) (.pr (.i .i64) (.pr .s .s))))))))))))))) (.i .i64)), 16⟩),
 (81, ⟨.st [(47, 0)], 15, [.v (.i .i64) (show Int from 0), .v (.i .i64) (show Int from 0), .v (.i .i64) (show Int from 0), .v .s (show Bs from []), .v .s (show Bs from []), .v .s (show Bs from []), .nils, .v (.i .i64) (show Int from 0), .v (.i .i64) (show Int from 0), .v .b (show Bool from false), .v .b (show Bool from false), .nils, .v (.i .i64) (show Int from 0), .v .s (show Bs from []), .v .s (show Bs from [])], (.pr (.i .i64) (.pr (.i .i64) (.pr (.i .i64) (.pr .s (.pr .s (.pr .s (.pr (.sl .s) (.pr (.i .i64) (.pr (.i .i64) (.pr .b (.pr .b (.pr (.sl .s) (.pr (.i .i64) (.pr .s .s)))))))))))))), 184⟩)]
theorem τ_okWkM : TEok Tryz.prog τWkM := ykM (by kernel_rfl) (by kernel_rfl)
theorem yoO : Tryz.prog.follows .mixedOrders = true := by kernel_rfl
theorem zeA {G : List (Nat × Obj)} {o : Ops} [zpM G] [znW G o] {Γ : CT} {η : HT} {f : FuncId} {fn : Func} {c : SC} (hΓ : ∀ B, GB G B → CTok Tryz.prog Γ B) (hf : Tryz.prog.funcs[f]? = some fn) (i : (fn.name == "runtime.NumGoroutine") = false := by kernel_rfl) (j : fn.body.isNone = false := by kernel_rfl) (l : Nat.ble c.I.sl.length fn.ntmps = true := by kernel_rfl) (r : Nat.beq fn.results.toList.length c.nr = true := by kernel_rfl) (e : fnS τWkM Γ η fn c.I c.outs = c.p := by kernel_rfl) : SCok Tryz.prog G f c := witO (G := G) (o := o) <| yvU yoO τ_okWkM hΓ hf (isFn hf i j) l r e
theorem ztP {G : List (Nat × Obj)} {o : Ops} [zpM G] [znW G o] {Γ : CT} {η : HT} {f : FuncId} {fn : Func} {c : PC} (hΓ : ∀ B, GB G B → CTok Tryz.prog Γ B) (hf : Tryz.prog.funcs[f]? = some fn) (i : (fn.name == "runtime.NumGoroutine") = false := by kernel_rfl) (j : fn.body.isNone = false := by kernel_rfl) (l : Nat.ble c.ash.length fn.ntmps = true := by kernel_rfl) (r : c.cl = false := by kernel_rfl) (e : fnP τWkM Γ η fn c.ash c.rts = c.p := by kernel_rfl) : PCok Tryz.prog G f c := witO (G := G) (o := o) <| yvM yoO τ_okWkM hΓ hf (isFn hf i j) l r e
abbrev zaH : Type := Int × Int × Int × Bs × Bs × Bs × (List Bs) × Int × Int × Bool × Bool × (List Bs) × Int × Bs × Bs
abbrev zmE : Ty := .pr (.i .i64) (.pr (.i .i64) (.pr (.i .i64) (.pr .s (.pr .s (.pr .s (.pr (.sl .s) (.pr (.i .i64) (.pr (.i .i64) (.pr .b (.pr .b (.pr (.sl .s) (.pr (.i .i64) (.pr .s .s)))))))))))))
abbrev zcX : Type := Int × zaH
abbrev zlQ : Type := (List zaH) × Int
abbrev ypT : Type := Int × Int × Int × Int × Bs × zaH
abbrev zxW : Ty := .pr (.i .i64) (.pr (.i .i64) (.pr (.i .i64) (.pr (.i .i64) (.pr .s zmE))))
abbrev zvB : OSh := .blk 47 [hI, hI, hI, hS, hS, hS, (.h (.sl .s)), hI, hI, hB, hB, (.h (.sl .s)), hI, hS, hS]
abbrev yjB : OSh := .blk 81 [hI, hI, hI, hS, hS, hS, (.h (.sl .s)), hI, hI, hB, hB, (.h (.sl .s)), hI, hS, hS]
abbrev yvO : OSh := .blk 47 [hI, hI, hI, hS, hS, hS, (.own 4), hI, hI, hB, hB, (.own 5), hI, hS, hS]
abbrev xbO : OSh := .blk 47 [hI, hI, hI, hS, hS, hS, .nils, hI, hI, hB, hB, .nils, hI, hS, hS]
abbrev zbS : OSh := .blk 38 [(.h (.sl zmE)), hI]
abbrev yjW : OSh := .mp false (.i .i64) zmE
abbrev zkU : OSh := .mp true (.i .i64) zmE
abbrev yjU : OSh := .blk 75 [(.mpr 3), hI]
abbrev yuY : OSh := .blk 38 [(.own 1), hI]
abbrev yzX : OSh := .blk 38 [(.own 2), hI]
abbrev zmC : OSh := .blk 75 [(.mpr 1), hI]
abbrev zsQ : OSh := .blk 75 [(.mpr 2), hI]
abbrev yyW : OSh := .blk 38 [.nils, hI]
section
variable {tabs : List (Nat × Obj)} [zpM tabs] {o : Ops} [znW tabs o]
def zdT (o : Ops) : Option (Int) :=
 some (1 : Int)
def zhY (o : Ops) : SC := ⟨⟨[], []⟩, 1, [(none, ⟨[(0, (.ptr 0 0))], [yyW]⟩)], fun _ => zdT o⟩
theorem zmK : SCok Tryz.prog tabs 18 (zhY o) := zeA (o := o) (η := []) (Γ := ⟨[], [], false⟩) (ctok trivial trivial) Tryz.func18
def yeK : SC := ⟨⟨[(0, (.own 0))], [.osl .s 9]⟩, 1, [(none, ⟨[(0, (.own 1))], [.osl .s 9, .osl .s 9]⟩)], fun (xs : List Bs) => (app [] xs).bind fun r => some (xs, r)⟩
theorem ymJ : SCok Tryz.prog tabs 98 yeK := wit (G := tabs) <| ykJ rfl yiF
def yiC : PC := ⟨[.h (.sl .s)], [(.sl .s)], fun xs => some xs, true⟩
theorem yrS : PCok Tryz.prog tabs 81 yiC := wit (G := tabs) <| ybU yoO τ_okWkM Tryz.func81 (isFn Tryz.func81) rfl (by kernel_rfl) (fun _ => by kernel_rfl)
def zrX (o : Ops) (v0 : Int) (v1 : Int) (v2 : Int) (v3 : Bs) (v4 : Bs) (v5 : Bs) (v6 : Int) (v7 : Int) (v8 : Bool) (v9 : Bool) (v10 : Int) (v11 : Bs) (v12 : Bs) (v13 : List Bs) (v14 : List Bs) : Option ((Int × Int × Int × Bs × Bs × Bs × (List Bs) × Int × Int × Bool × Bool × (List Bs) × Int × Bs × Bs × (List Bs) × List Bs)) :=
 ((fun (xs : List Bs) => (app ([] : List Bs) xs).bind fun r => some (xs, r)) v13).bind fun v15 => ((fun (xs : List Bs) => (app ([] : List Bs) xs).bind fun r => some (xs, r)) v14).bind fun v16 => some (v0, v1, v2, v3, v4, v5, v15.2, v6, v7, v8, v9, v16.2, v10, v11, v12, v15.1, v16.1)
def zuO (o : Ops) : SC := ⟨⟨[(0, (.ag [hI, hI, hI, hS, hS, hS, (.own 0), hI, hI, hB, hB, (.own 1), hI, hS, hS]))], [.osl .s 9, .osl .s 9]⟩, 1, [(none, ⟨[(0, (.ag [hI, hI, hI, hS, hS, hS, (.hc .s), hI, hI, hB, hB, (.hc .s), hI, hS, hS]))], [.osl .s 9, .osl .s 9]⟩)], fun x => zrX o x.1 x.2.1 x.2.2.1 x.2.2.2.1 x.2.2.2.2.1 x.2.2.2.2.2.1 x.2.2.2.2.2.2.1 x.2.2.2.2.2.2.2.1 x.2.2.2.2.2.2.2.2.1 x.2.2.2.2.2.2.2.2.2.1 x.2.2.2.2.2.2.2.2.2.2.1 x.2.2.2.2.2.2.2.2.2.2.2.1 x.2.2.2.2.2.2.2.2.2.2.2.2.1 x.2.2.2.2.2.2.2.2.2.2.2.2.2.1 x.2.2.2.2.2.2.2.2.2.2.2.2.2.2⟩
theorem ybS : SCok Tryz.prog tabs 44 (zuO o) := zeA (o := o) (η := [(4000001, .sch [(.pu, 0, []), (.pu, 1, []), (.pu, 4, [0, 5]), (.pu, 5, [0, 5]), (.mn, 2, [0]), (.mn, 3, [5]), (.pu, 8, [1, 7]), (.mn, 6, [1]), (.mn, 7, [7]), (.mn, 9, [2]), (.pu, 10, []), (.mn, 11, [2])])]) (Γ := ⟨[(81, yiC)], [(98, yeK)], false⟩) (ctok ⟨yrS, trivial⟩ ⟨ymJ, trivial⟩) Tryz.func44
noncomputable def zdV (o : Ops) (v0 : Int) (v1 : Int) (v2 : Int) (v3 : Bs) (v4 : Bs) (v5 : Bs) (v6 : Int) (v7 : Int) (v8 : Bool) (v9 : Bool) (v10 : Int) (v11 : Bs) (v12 : Bs) (v15 : List Bs) (v16 : List Bs) (v19 : (zaH × Bool × Int × List zcX)) : Option ((Int × Int × Int × (List Bs) × (List Bs) × List zcX) ⊕ (Int × (List Bs) × (List Bs) × (List zcX) × Int × Int × Int × Bs × Bs × Bs × Int × Int × Bool × Bool × Int × Bs × Bs)) :=
 let v20 : zaH := zgZ keqI v19.2.2.2 v2 ((0 : Int), (0 : Int), (0 : Int), ([] : Bs), ([] : Bs), ([] : Bs), ([] : List Bs), (0 : Int), (0 : Int), false, false, ([] : List Bs), (0 : Int), ([] : Bs), ([] : Bs))
 bif decide (v2 > 0) then (bif (!(mhas keqI v19.2.2.2 v2)) then some (.inl ((0 : Int), (133 : Int), v19.2.2.1, v15, v16, v19.2.2.2)) else ((zbK o v2 v19.2.2.1 v19.2.2.2).bind fun v21 => bif v21.1 then some (.inl ((0 : Int), (133 : Int), v21.2.1, v15, v16, v21.2.2)) else some (.inr (v21.2.1, v15, v16, v21.2.2, v0, v1, v2, v3, v4, v5, v6, v7, v8, v9, v10, v11, v12)))) else some (.inr (v19.2.2.1, v15, v16, v19.2.2.2, v0, v1, v2, v3, v4, v5, v6, v7, v8, v9, v10, v11, v12))
noncomputable def zkG (o : Ops) (v24 : Int × (List Bs) × (List Bs) × (List zcX) × Int × Int × Int × Bs × Bs × Bs × Int × Int × Bool × Bool × Int × Bs × Bs) (v25 : (Int × Int × List zcX)) : Option ((Int × Int × Int × (List Bs) × (List Bs) × List zcX) ⊕ (Int × (List Bs) × (List Bs) × (List zcX) × Int × Int × Int × Bs × Bs × Bs × Int × Int × Bool × Bool × Int × Bs × Bs)) :=
 bif decide ((v25.2.2.length : Int) ≥ 256) then some (.inl ((0 : Int), (130 : Int), v25.2.1, v24.2.1, v24.2.2.1, v25.2.2)) else (bif decide (v25.2.1 ≥ 99999999) then some (.inl ((0 : Int), (130 : Int), v25.2.1, v24.2.1, v24.2.2.1, v25.2.2)) else some (.inr (v25.2.1, v24.2.1, v24.2.2.1, v25.2.2, v24.2.2.2.2)))
noncomputable def zcV (o : Ops) (v0 : Int) (v1 : Int) (v2 : Int) (v3 : Bs) (v4 : Bs) (v5 : Bs) (v6 : Int) (v7 : Int) (v8 : Bool) (v9 : Bool) (v10 : Int) (v11 : Bs) (v12 : Bs) (v13 : Int) (v14 : Int) (v15 : List Bs) (v16 : List Bs) (v17 : List zcX) : Option ((Int × Int × Int × (List Bs) × (List Bs) × List zcX)) :=
 (zeQ o (v0, v1, v2, v3, v4, v5, v15, v6, v7, v8, v9, v16, v10, v11, v12)).bind fun v18 => bif (!v18) then some ((0 : Int), (131 : Int), v14, v15, v16, v17) else ((zbE o v11 v14 v17).bind fun v19 => bif v19.2.1 then some ((0 : Int), (132 : Int), v19.2.2.1, v15, v16, v19.2.2.2) else ((zdV o v0 v1 v2 v3 v4 v5 v6 v7 v8 v9 v10 v11 v12 v15 v16 v19).bind fun v22 => match v22 with
 | .inl v23 => some v23
 | .inr v24 => ((zaX o v13 v24.1 v24.2.2.2.1).bind fun v25 => (zkG o v24 v25).bind fun v26 => match v26 with
 | .inl v27 => some v27
 | .inr v28 => ((zrX o v28.2.2.2.2.1 v28.2.2.2.2.2.1 v28.2.2.2.2.2.2.1 v28.2.2.2.2.2.2.2.1 v28.2.2.2.2.2.2.2.2.1 v28.2.2.2.2.2.2.2.2.2.1 v28.2.2.2.2.2.2.2.2.2.2.1 v28.2.2.2.2.2.2.2.2.2.2.2.1 v28.2.2.2.2.2.2.2.2.2.2.2.2.1 v28.2.2.2.2.2.2.2.2.2.2.2.2.2.1 v28.2.2.2.2.2.2.2.2.2.2.2.2.2.2.1 v28.2.2.2.2.2.2.2.2.2.2.2.2.2.2.2.1 v28.2.2.2.2.2.2.2.2.2.2.2.2.2.2.2.2 v28.2.1 v28.2.2.1).bind fun v29 => let v30 : List zcX := mset keqI kltI v28.2.2.2.1 v28.1 (v28.1, v29.2.1, v29.2.2.1, v29.2.2.2.1, v29.2.2.2.2.1, v29.2.2.2.2.2.1, v29.2.2.2.2.2.2.1, v29.2.2.2.2.2.2.2.1, v29.2.2.2.2.2.2.2.2.1, false, false, v29.2.2.2.2.2.2.2.2.2.2.2.1, v29.2.2.2.2.2.2.2.2.2.2.2.2.1, v29.2.2.2.2.2.2.2.2.2.2.2.2.2.1, v29.2.2.2.2.2.2.2.2.2.2.2.2.2.2.1)
 some (v28.1, (0 : Int), w64 (v28.1 + 1), v29.2.2.2.2.2.2.2.2.2.2.2.2.2.2.2.1, v29.2.2.2.2.2.2.2.2.2.2.2.2.2.2.2.2, v30)))))
noncomputable def zjP (o : Ops) : SC := ⟨⟨[(0, (.ptr 0 0)), (1, (.ag [hI, hI, hI, hS, hS, hS, (.own 1), hI, hI, hB, hB, (.own 2), hI, hS, hS])), (2, hI)], [yjU, .osl .s 9, .osl .s 9, zkU]⟩, 2, [(none, ⟨[(0, hI), (1, hI)], [yjU, .osl .s 9, .osl .s 9, yjW]⟩)], fun x => zcV o x.1 x.2.1 x.2.2.1 x.2.2.2.1 x.2.2.2.2.1 x.2.2.2.2.2.1 x.2.2.2.2.2.2.1 x.2.2.2.2.2.2.2.1 x.2.2.2.2.2.2.2.2.1 x.2.2.2.2.2.2.2.2.2.1 x.2.2.2.2.2.2.2.2.2.2.1 x.2.2.2.2.2.2.2.2.2.2.2.1 x.2.2.2.2.2.2.2.2.2.2.2.2.1 x.2.2.2.2.2.2.2.2.2.2.2.2.2.1 x.2.2.2.2.2.2.2.2.2.2.2.2.2.2.1 x.2.2.2.2.2.2.2.2.2.2.2.2.2.2.2.1 x.2.2.2.2.2.2.2.2.2.2.2.2.2.2.2.2.1 x.2.2.2.2.2.2.2.2.2.2.2.2.2.2.2.2.2⟩
theorem zqI : SCok Tryz.prog tabs 20 (zjP o) := zeA (o := o) (η := [(2000009, .join [] [2] [(some 1000000, ⟨[(6, hI), (7, hI)], [yjU, .osl .s 9, .osl .s 9, zkU]⟩), (none, ⟨[(0, (.ptr 0 0)), (4, (.ptr 4 0))], [yjU, .osl .s 9, .osl .s 9, zkU, .blk 47 [hI, hI, hI, hS, hS, hS, (.own 1), hI, hI, hB, hB, (.own 2), hI, hS, hS]]⟩)]),
 (2000012, .join [] [] [(some 1000000, ⟨[(6, hI), (7, hI)], [yjU, .osl .s 9, .osl .s 9, zkU]⟩), (none, ⟨[(0, (.ptr 0 0)), (4, (.ptr 4 0))], [yjU, .osl .s 9, .osl .s 9, zkU, .blk 47 [hI, hI, hI, hS, hS, hS, (.own 1), hI, hI, hB, hB, (.own 2), hI, hS, hS]]⟩)]),
 (4000006, .sch [(.pu, 0, []), (.pu, 1, []), (.pu, 2, []), (.pu, 3, []), (.pu, 4, []), (.pu, 5, []), (.pu, 6, []), (.pu, 7, []), (.pu, 8, []), (.pu, 9, [7]), (.mn, 10, []), (.mn, 11, [7]), (.pu, 12, [])]),
 (4000014, .sch [(.pu, 0, []), (.pu, 1, []), (.pu, 2, []), (.pu, 3, []), (.pu, 4, []), (.pu, 5, []), (.pu, 6, []), (.pu, 7, []), (.mn, 8, [0, 1, 2, 3, 4, 5, 6])])]) (Γ := ⟨[(53, (zkH o))], [(36, (zbZ o)), (54, (zdE o)), (31, (zbR o)), (44, (zuO o))], false⟩) (ctok ⟨znM, trivial⟩ ⟨zdB, ⟨zeT, ⟨zcW, ⟨ybS, trivial⟩⟩⟩⟩) Tryz.func20
def zcO (o : Ops) (v0 : UInt8) : Option (Bool) :=
 bif decide ((v0.toNat : Int) ≥ ((97 : UInt8).toNat : Int)) then (bif decide ((v0.toNat : Int) ≤ ((122 : UInt8).toNat : Int)) then (some true) else (bif decide ((v0.toNat : Int) ≥ ((48 : UInt8).toNat : Int)) then (bif decide ((v0.toNat : Int) ≤ ((57 : UInt8).toNat : Int)) then (some true) else (bif ((v0.toNat : Int) == ((46 : UInt8).toNat : Int)) then (some true) else (bif ((v0.toNat : Int) == ((95 : UInt8).toNat : Int)) then (some true) else (some ((v0.toNat : Int) == ((45 : UInt8).toNat : Int)))))) else (bif ((v0.toNat : Int) == ((46 : UInt8).toNat : Int)) then (some true) else (bif ((v0.toNat : Int) == ((95 : UInt8).toNat : Int)) then (some true) else (some ((v0.toNat : Int) == ((45 : UInt8).toNat : Int))))))) else (bif decide ((v0.toNat : Int) ≥ ((48 : UInt8).toNat : Int)) then (bif decide ((v0.toNat : Int) ≤ ((57 : UInt8).toNat : Int)) then (some true) else (bif ((v0.toNat : Int) == ((46 : UInt8).toNat : Int)) then (some true) else (bif ((v0.toNat : Int) == ((95 : UInt8).toNat : Int)) then (some true) else (some ((v0.toNat : Int) == ((45 : UInt8).toNat : Int)))))) else (bif ((v0.toNat : Int) == ((46 : UInt8).toNat : Int)) then (some true) else (bif ((v0.toNat : Int) == ((95 : UInt8).toNat : Int)) then (some true) else (some ((v0.toNat : Int) == ((45 : UInt8).toNat : Int))))))
def zfM (o : Ops) : PC := ⟨[(.h (.i .u8))], [.b], fun x => zcO o x, false⟩
theorem zjJ : PCok Tryz.prog tabs 167 (zfM o) := ztP (o := o) (η := []) (Γ := ⟨[], [], false⟩) (ctok trivial trivial) Tryz.func167
def zlL (o : Ops) (v0 : Bs) (v1 : Int) : Option (Int ⊕ (Bool ⊕ Unit)) :=
 bif decide (v1 < (v0.length : Int)) then ((idx v0 v1).bind fun v2 => (zcO o v2).bind fun v3 => bif (!v3) then some (.inr (.inl false)) else some (.inl (w64 (v1 + 1)))) else some (.inr (.inr ()))
def zcI (o : Ops) (v0 : Bs) : Option (Bool) :=
 (iter (zlL o v0) (0 : Int)).bind fun v4 => match v4 with
 | .inl v5 => (some v5)
 | .inr v6 => (bif decide ((v0.length : Int) ≥ 1) then (some (decide ((v0.length : Int) ≤ 24))) else (some false))
def zhK (o : Ops) : PC := ⟨[hS], [.b], fun x => zcI o x, false⟩
theorem zlJ : PCok Tryz.prog tabs 140 (zhK o) := ztP (o := o) (η := [(200002, .loop [] ⟨[(3, hI)], []⟩ [0] [(some 1000000, ⟨[(2, hB)], []⟩), (some 0, ⟨[], []⟩)])]) (Γ := ⟨[(167, (zfM o))], [], false⟩) (ctok ⟨zjJ, trivial⟩ trivial) Tryz.func140
def zbJ (o : Ops) (v0 : Bs) : Option (Bool) :=
 bif decide ((v0.length : Int) > 2) then ((subH v0 (2 : Int)).bind fun v1 => bif (v1 == ([117, 58] : Bs)) then ((subL v0 (2 : Int)).bind fun v2 => (zcI o v2).bind fun v3 => some v3) else ((subH v0 (2 : Int)).bind fun v4 => bif (v4 == ([99, 58] : Bs)) then ((subL v0 (2 : Int)).bind fun v5 => (zcI o v5).bind fun v6 => some v6) else (some false))) else (some false)
def ziJ (o : Ops) : PC := ⟨[hS], [.b], fun x => zbJ o x, false⟩
theorem zoE : PCok Tryz.prog tabs 139 (ziJ o) := ztP (o := o) (η := []) (Γ := ⟨[(140, (zhK o))], [], false⟩) (ctok ⟨zlJ, trivial⟩ trivial) Tryz.func139
def zlF (o : Ops) (v0 : Bs) (v1 : Int) : Option (Int ⊕ (Bool ⊕ Unit)) :=
 bif decide (v1 < (v0.length : Int)) then ((idx v0 v1).bind fun v2 => bif decide ((v2.toNat : Int) < ((33 : UInt8).toNat : Int)) then some (.inr (.inl false)) else ((idx v0 v1).bind fun v3 => bif decide ((v3.toNat : Int) > ((126 : UInt8).toNat : Int)) then some (.inr (.inl false)) else some (.inl (w64 (v1 + 1))))) else some (.inr (.inr ()))
def zcF (o : Ops) (v0 : Bs) : Option (Bool) :=
 (iter (zlF o v0) (0 : Int)).bind fun v4 => match v4 with
 | .inl v5 => (some v5)
 | .inr v6 => (bif decide ((v0.length : Int) ≥ 1) then (some (decide ((v0.length : Int) ≤ 128))) else (some false))
def zhO (o : Ops) : PC := ⟨[hS], [.b], fun x => zcF o x, false⟩
theorem zkZ : PCok Tryz.prog tabs 141 (zhO o) := ztP (o := o) (η := [(200002, .loop [] ⟨[(3, hI)], []⟩ [0] [(some 1000000, ⟨[(2, hB)], []⟩), (some 0, ⟨[], []⟩)])]) (Γ := ⟨[], [], false⟩) (ctok trivial trivial) Tryz.func141
def zjS (o : Ops) (v0 : Bs) (v1 : Int) : Option (Int ⊕ (Bool ⊕ Unit)) :=
 bif decide (v1 < (v0.length : Int)) then ((idx v0 v1).bind fun v2 => (zcO o v2).bind fun v3 => bif (!v3) then ((idx v0 v1).bind fun v4 => bif ((v4.toNat : Int) != ((58 : UInt8).toNat : Int)) then some (.inr (.inl false)) else some (.inl (w64 (v1 + 1)))) else some (.inl (w64 (v1 + 1)))) else some (.inr (.inr ()))
def zcU (o : Ops) (v0 : Bs) : Option (Bool) :=
 (iter (zjS o v0) (0 : Int)).bind fun v5 => match v5 with
 | .inl v6 => (some v6)
 | .inr v7 => (bif decide ((v0.length : Int) ≥ 1) then (some (decide ((v0.length : Int) ≤ 32))) else (some false))
def zjM (o : Ops) : PC := ⟨[hS], [.b], fun x => zcU o x, false⟩
theorem zpY : PCok Tryz.prog tabs 168 (zjM o) := ztP (o := o) (η := [(200002, .loop [] ⟨[(3, hI)], []⟩ [0] [(some 1000000, ⟨[(2, hB)], []⟩), (some 0, ⟨[], []⟩)])]) (Γ := ⟨[(167, (zfM o))], [], false⟩) (ctok ⟨zjJ, trivial⟩ trivial) Tryz.func168
def zkL (o : Ops) (v0 : List Bs) (v2 : Int) (v3 : Int) : Option (Int ⊕ (Bool ⊕ Unit)) :=
 bif decide (v3 < (v0.length : Int)) then (bif (v2 == 0) then ((idx v0 v3).bind fun v4 => (zcF o v4).bind fun v5 => bif (!v5) then some (.inr (.inl false)) else (bif (v2 == 1) then ((idx v0 v3).bind fun v6 => (zcU o v6).bind fun v7 => bif (!v7) then some (.inr (.inl false)) else (bif decide (v3 > 0) then ((idx v0 v3).bind fun v8 => (idx v0 (w64 (v3 - 1))).bind fun v9 => bif (Op.bytesLess v8 v9 || v8 == v9) then some (.inr (.inl false)) else some (.inl (w64 (v3 + 1)))) else some (.inl (w64 (v3 + 1))))) else (bif decide (v3 > 0) then ((idx v0 v3).bind fun v10 => (idx v0 (w64 (v3 - 1))).bind fun v11 => bif (Op.bytesLess v10 v11 || v10 == v11) then some (.inr (.inl false)) else some (.inl (w64 (v3 + 1)))) else some (.inl (w64 (v3 + 1)))))) else (bif (v2 == 1) then ((idx v0 v3).bind fun v12 => (zcU o v12).bind fun v13 => bif (!v13) then some (.inr (.inl false)) else (bif decide (v3 > 0) then ((idx v0 v3).bind fun v14 => (idx v0 (w64 (v3 - 1))).bind fun v15 => bif (Op.bytesLess v14 v15 || v14 == v15) then some (.inr (.inl false)) else some (.inl (w64 (v3 + 1)))) else some (.inl (w64 (v3 + 1))))) else (bif decide (v3 > 0) then ((idx v0 v3).bind fun v16 => (idx v0 (w64 (v3 - 1))).bind fun v17 => bif (Op.bytesLess v16 v17 || v16 == v17) then some (.inr (.inl false)) else some (.inl (w64 (v3 + 1)))) else some (.inl (w64 (v3 + 1)))))) else some (.inr (.inr ()))
def zeI (o : Ops) (v0 : List Bs) (v1 : Int) (v2 : Int) : Option (Bool) :=
 (iter (zkL o v0 v2) (0 : Int)).bind fun v18 => match v18 with
 | .inl v19 => (some v19)
 | .inr v20 => (some (decide ((v0.length : Int) ≤ v1)))
def zjY (o : Ops) : PC := ⟨[(.h (.sl .s)), hI, hI], [.b], fun x => zeI o x.1 x.2.1 x.2.2, false⟩
theorem zqP : PCok Tryz.prog tabs 142 (zjY o) := ztP (o := o) (η := [(200002, .loop [] ⟨[(7, hI)], []⟩ [0, 1, 2] [(some 1000000, ⟨[(6, hB)], []⟩), (some 0, ⟨[], []⟩)]),
 (4000004, .sch [(.pu, 0, []), (.pu, 1, []), (.pu, 2, []), (.pu, 3, []), (.pu, 4, []), (.pu, 5, []), (.pu, 6, []), (.mn, 7, []), (.pu, 8, []), (.pu, 9, []), (.pu, 10, []), (.pu, 11, []), (.pu, 12, []), (.pu, 13, []), (.pu, 14, []), (.pu, 15, []), (.pu, 16, []), (.pu, 17, []), (.mn, 18, []), (.pu, 19, []), (.pu, 20, []), (.pu, 21, []), (.pu, 22, []), (.pu, 23, []), (.pu, 24, []), (.pu, 25, []), (.pu, 26, []), (.pu, 27, []), (.pu, 28, []), (.pu, 29, []), (.pu, 30, []), (.pu, 31, []), (.pu, 32, []), (.pu, 33, []), (.pu, 34, []), (.pu, 35, []), (.pu, 36, []), (.pu, 37, [])])]) (Γ := ⟨[(141, (zhO o)), (168, (zjM o))], [], false⟩) (ctok ⟨zkZ, ⟨zpY, trivial⟩⟩ trivial) Tryz.func142
def zmT (o : Ops) (v0 : zaH) : Option (Bool ⊕ zaH) :=
 bif decide (v0.2.1 < 1) then some (.inl false) else (bif decide (v0.2.1 > 5) then some (.inl false) else (bif decide (v0.2.2.1 < 0) then some (.inl false) else ((zbJ o v0.2.2.2.1).bind fun v1 => bif (!v1) then some (.inl false) else (bif (v0.2.2.2.2.1 != ([] : Bs)) then ((zcI o v0.2.2.2.2.1).bind fun v2 => bif (!v2) then some (.inl false) else (bif (v0.2.2.2.2.2.1 != ([] : Bs)) then ((zcF o v0.2.2.2.2.2.1).bind fun v3 => bif (!v3) then some (.inl false) else some (.inr v0)) else some (.inr v0))) else (bif (v0.2.2.2.2.2.1 != ([] : Bs)) then ((zcF o v0.2.2.2.2.2.1).bind fun v4 => bif (!v4) then some (.inl false) else some (.inr v0)) else some (.inr v0))))))
def zmR (o : Ops) (v8 : Int) (v9 : Int) (v10 : Int) (v11 : Int) (v12 : Bs) (v13 : Bs) (v14 : Bs) (v15 : List Bs) (v16 : Int) (v17 : Int) (v18 : Bool) (v19 : Bool) (v20 : List Bs) (v21 : Int) (v22 : Bs) (v23 : Bs) : Option (zcX ⊕ (Bool ⊕ zaH)) :=
 bif decide (v8 < (v20.length : Int)) then ((idx v20 v8).bind fun v24 => (zbJ o v24).bind fun v25 => bif (!v25) then some (.inr (.inl false)) else some (.inl (w64 (v8 + 1), v9, v10, v11, v12, v13, v14, v15, v16, v17, v18, v19, v20, v21, v22, v23))) else some (.inr (.inr (v9, v10, v11, v12, v13, v14, v15, v16, v17, v18, v19, v20, v21, v22, v23)))
def zmQ (o : Ops) (v28 : zaH) : Option ((Bool × zaH)) :=
 bif decide (v28.2.2.2.2.2.2.2.1 ≥ 0) then (bif decide (v28.2.2.2.2.2.2.2.1 ≤ 1099511627776) then (bif decide (v28.2.2.2.2.2.2.2.2.1 ≥ 0) then some (decide (v28.2.2.2.2.2.2.2.2.1 ≤ 1099511627776), v28) else some (false, v28)) else some (false, v28)) else some (false, v28)
def zfH (o : Ops) (v0 : zaH) : Option (Bool) :=
 (zmT o v0).bind fun v5 => match v5 with
 | .inl v6 => (some v6)
 | .inr v7 => ((iter (fun x => zmR o x.1 x.2.1 x.2.2.1 x.2.2.2.1 x.2.2.2.2.1 x.2.2.2.2.2.1 x.2.2.2.2.2.2.1 x.2.2.2.2.2.2.2.1 x.2.2.2.2.2.2.2.2.1 x.2.2.2.2.2.2.2.2.2.1 x.2.2.2.2.2.2.2.2.2.2.1 x.2.2.2.2.2.2.2.2.2.2.2.1 x.2.2.2.2.2.2.2.2.2.2.2.2.1 x.2.2.2.2.2.2.2.2.2.2.2.2.2.1 x.2.2.2.2.2.2.2.2.2.2.2.2.2.2.1 x.2.2.2.2.2.2.2.2.2.2.2.2.2.2.2) ((0 : Int), v7)).bind fun v26 => match v26 with
 | .inl v27 => (some v27)
 | .inr v28 => ((zmQ o v28).bind fun v29 => bif v29.1 then ((zeI o v29.2.2.2.2.2.2.2.1 (16 : Int) (1 : Int)).bind fun v30 => bif v30 then (let v31 : Bool := decide ((v29.2.2.2.2.2.2.2.2.2.2.2.2.1.length : Int) ≤ 4)
 bif v31 then (bif decide (v29.2.2.2.2.2.2.2.2.2.2.2.2.2.1 ≥ 0) then (bif decide (v29.2.2.2.2.2.2.2.2.2.2.2.2.2.1 ≤ 3) then (let v32 : Bool := decide ((v29.2.2.2.2.2.2.2.2.2.2.2.2.2.2.1.length : Int) ≥ 1)
 bif v32 then (let v33 : Bool := decide ((v29.2.2.2.2.2.2.2.2.2.2.2.2.2.2.1.length : Int) ≤ 64)
 bif v33 then (let v34 : Bool := decide ((v29.2.2.2.2.2.2.2.2.2.2.2.2.2.2.2.length : Int) ≤ 256)
 some v34) else (some false)) else (some false)) else (some false)) else (some false)) else (some false)) else (some false)) else (some false)))
def zmI (o : Ops) : PC := ⟨[(.h zmE)], [.b], fun x => zfH o x, false⟩
theorem zsP : PCok Tryz.prog tabs 93 (zmI o) := ztP (o := o) (η := [(2000003, .join [] [] [(some 1000000, ⟨[(2, hB)], []⟩), (none, ⟨[(1, (.ptr 0 0))], [zvB]⟩)]),
 (200004, .loop [] ⟨[(1, (.ptr 0 0)), (3, hI)], [zvB]⟩ [] [(some 1000000, ⟨[(2, hB)], []⟩), (some 0, ⟨[(1, (.ptr 0 0))], [zvB]⟩)]),
 (2000009, .join [] [] [(none, ⟨[(1, (.ptr 0 0)), (4, hB)], [zvB]⟩)])]) (Γ := ⟨[(139, (ziJ o)), (140, (zhK o)), (141, (zhO o)), (142, (zjY o))], [], false⟩) (ctok ⟨zoE, ⟨zlJ, ⟨zkZ, ⟨zqP, trivial⟩⟩⟩⟩ trivial) Tryz.func93
def zdA (o : Ops) (v0 : Int) (v1 : Int) (v2 : List zcX) : Option ((zaH × Bool × Int × List zcX)) :=
 let v3 : zaH := zgZ keqI v2 v0 ((0 : Int), (0 : Int), (0 : Int), ([] : Bs), ([] : Bs), ([] : Bs), ([] : List Bs), (0 : Int), (0 : Int), false, false, ([] : List Bs), (0 : Int), ([] : Bs), ([] : Bs))
 (zeX o v3).bind fun v4 => some (v4, mhas keqI v2 v0, v1, v2)
def ziS (o : Ops) : SC := ⟨⟨[(0, (.ptr 0 0)), (1, hI)], [zmC, zkU]⟩, 2, [(none, ⟨[(0, (.h zmE)), (1, hB)], [zmC, zkU]⟩)], fun x => zdA o x.1 x.2.1 x.2.2⟩
theorem znB : SCok Tryz.prog tabs 52 (ziS o) := zeA (o := o) (η := []) (Γ := ⟨[(44, (zgU o))], [], false⟩) (ctok ⟨ziM, trivial⟩ trivial) Tryz.func52
def zlH (o : Ops) (v0 : List Bs) (v1 : List Bs) (v2 : Int) : Option (Int ⊕ (Bool ⊕ Unit)) :=
 bif decide (v2 < (v0.length : Int)) then ((idx v0 v2).bind fun v3 => (idx v1 v2).bind fun v4 => bif (v3 != v4) then some (.inr (.inl false)) else some (.inl (w64 (v2 + 1)))) else some (.inr (.inr ()))
def zdG (o : Ops) (v0 : List Bs) (v1 : List Bs) : Option (Bool) :=
 bif ((v0.length : Int) != (v1.length : Int)) then (some false) else ((iter (zlH o v0 v1) (0 : Int)).bind fun v5 => match v5 with
 | .inl v6 => (some v6)
 | .inr v7 => (some true))
def zkY (o : Ops) : PC := ⟨[(.h (.sl .s)), (.h (.sl .s))], [.b], fun x => zdG o x.1 x.2, false⟩
theorem zrN : PCok Tryz.prog tabs 94 (zkY o) := ztP (o := o) (η := [(200004, .loop [] ⟨[(5, hI)], []⟩ [0, 1] [(some 1000000, ⟨[(4, hB)], []⟩), (some 0, ⟨[], []⟩)]),
 (4000006, .sch [(.pu, 0, []), (.pu, 1, []), (.pu, 2, []), (.pu, 3, []), (.pu, 4, []), (.pu, 5, []), (.pu, 6, []), (.pu, 7, []), (.pu, 8, [])])]) (Γ := ⟨[], [], false⟩) (ctok trivial trivial) Tryz.func94
def zlK (o : Ops) (v0 : zaH) (v1 : zaH) : Option (Bool ⊕ (Int × Int × Int × Bs × Bs × Bs × (List Bs) × Int × Int × Bool × Bool × (List Bs) × Int × Bs × Bs × zaH)) :=
 (zdG o v0.2.2.2.2.2.2.1 v1.2.2.2.2.2.2.1).bind fun v2 => bif (!v2) then some (.inl false) else ((zdG o v0.2.2.2.2.2.2.2.2.2.2.2.1 v1.2.2.2.2.2.2.2.2.2.2.2.1).bind fun v3 => bif (!v3) then some (.inl false) else some (.inr (v0.1, v0.2.1, v0.2.2.1, v0.2.2.2.1, v0.2.2.2.2.1, v0.2.2.2.2.2.1, v0.2.2.2.2.2.2.1, v0.2.2.2.2.2.2.2.1, v0.2.2.2.2.2.2.2.2.1, v0.2.2.2.2.2.2.2.2.2.1, v0.2.2.2.2.2.2.2.2.2.2.1, v0.2.2.2.2.2.2.2.2.2.2.2.1, v0.2.2.2.2.2.2.2.2.2.2.2.2.1, v0.2.2.2.2.2.2.2.2.2.2.2.2.2.1, v0.2.2.2.2.2.2.2.2.2.2.2.2.2.2, v1)))
def zdF (o : Ops) (v0 : zaH) (v1 : zaH) : Option (Bool) :=
 (zlK o v0 v1).bind fun v4 => match v4 with
 | .inl v5 => (some v5)
 | .inr v6 => (bif (v6.1 == v6.2.2.2.2.2.2.2.2.2.2.2.2.2.2.2.1) then (bif (v6.2.1 == v6.2.2.2.2.2.2.2.2.2.2.2.2.2.2.2.2.1) then (bif (v6.2.2.1 == v6.2.2.2.2.2.2.2.2.2.2.2.2.2.2.2.2.2.1) then (bif (v6.2.2.2.1 == v6.2.2.2.2.2.2.2.2.2.2.2.2.2.2.2.2.2.2.1) then (bif (v6.2.2.2.2.1 == v6.2.2.2.2.2.2.2.2.2.2.2.2.2.2.2.2.2.2.2.1) then (let v7 : Bool := (v6.2.2.2.2.2.1 == v6.2.2.2.2.2.2.2.2.2.2.2.2.2.2.2.2.2.2.2.2.1)
 bif v7 then (let v8 : Bool := (v6.2.2.2.2.2.2.2.1 == v6.2.2.2.2.2.2.2.2.2.2.2.2.2.2.2.2.2.2.2.2.2.2.1)
 bif v8 then (let v9 : Bool := (v6.2.2.2.2.2.2.2.2.1 == v6.2.2.2.2.2.2.2.2.2.2.2.2.2.2.2.2.2.2.2.2.2.2.2.1)
 bif v9 then (let v10 : Bool := (v6.2.2.2.2.2.2.2.2.2.1 == v6.2.2.2.2.2.2.2.2.2.2.2.2.2.2.2.2.2.2.2.2.2.2.2.2.1)
 bif v10 then (let v11 : Bool := (v6.2.2.2.2.2.2.2.2.2.2.1 == v6.2.2.2.2.2.2.2.2.2.2.2.2.2.2.2.2.2.2.2.2.2.2.2.2.2.1)
 bif v11 then (let v12 : Bool := (v6.2.2.2.2.2.2.2.2.2.2.2.2.1 == v6.2.2.2.2.2.2.2.2.2.2.2.2.2.2.2.2.2.2.2.2.2.2.2.2.2.2.2.1)
 bif v12 then (let v13 : Bool := (v6.2.2.2.2.2.2.2.2.2.2.2.2.2.1 == v6.2.2.2.2.2.2.2.2.2.2.2.2.2.2.2.2.2.2.2.2.2.2.2.2.2.2.2.2.1)
 bif v13 then (let v14 : Bool := (v6.2.2.2.2.2.2.2.2.2.2.2.2.2.2.1 == v6.2.2.2.2.2.2.2.2.2.2.2.2.2.2.2.2.2.2.2.2.2.2.2.2.2.2.2.2.2)
 some v14) else (some false)) else (some false)) else (some false)) else (some false)) else (some false)) else (some false)) else (some false)) else (some false)) else (some false)) else (some false)) else (some false)) else (some false))
def zlG (o : Ops) : PC := ⟨[(.h zmE), (.h zmE)], [.b], fun x => zdF o x.1 x.2, false⟩
theorem zrO : PCok Tryz.prog tabs 41 (zlG o) := ztP (o := o) (η := [(2000003, .join [] [] [(some 1000000, ⟨[(4, hB)], []⟩), (none, ⟨[(2, (.ptr 0 0)), (3, (.ptr 1 0))], [zvB, zvB]⟩)])]) (Γ := ⟨[(94, (zkY o))], [], false⟩) (ctok ⟨zrN, trivial⟩ trivial) Tryz.func41
def ziV (o : Ops) (v0 : List Int) (v1 : List Int) (v2 : Int) : Option (Int ⊕ (Bool ⊕ Unit)) :=
 bif decide (v2 < (v0.length : Int)) then ((idx v0 v2).bind fun v3 => (idx v1 v2).bind fun v4 => bif (v3 != v4) then some (.inr (.inl false)) else some (.inl (w64 (v2 + 1)))) else some (.inr (.inr ()))
def zdN (o : Ops) (v0 : List Int) (v1 : List Int) : Option (Bool) :=
 bif ((v0.length : Int) != (v1.length : Int)) then (some false) else ((iter (ziV o v0 v1) (0 : Int)).bind fun v5 => match v5 with
 | .inl v6 => (some v6)
 | .inr v7 => (some true))
def ziW (o : Ops) : PC := ⟨[(.h (.sl (.i .i64))), (.h (.sl (.i .i64)))], [.b], fun x => zdN o x.1 x.2, false⟩
theorem zpA : PCok Tryz.prog tabs 58 (ziW o) := ztP (o := o) (η := [(200004, .loop [] ⟨[(5, hI)], []⟩ [0, 1] [(some 1000000, ⟨[(4, hB)], []⟩), (some 0, ⟨[], []⟩)]),
 (4000006, .sch [(.pu, 0, []), (.pu, 1, []), (.pu, 2, []), (.pu, 3, []), (.pu, 4, []), (.pu, 5, []), (.pu, 6, []), (.pu, 7, []), (.pu, 8, [])])]) (Γ := ⟨[], [], false⟩) (ctok trivial trivial) Tryz.func58
def zgN (o : Ops) (v0 : Int) (v1 : Int) (v2 : Int) (v3 : Bs) (v4 : Bs) (v5 : Bs) (v6 : List Bs) (v7 : Int) (v8 : Int) (v9 : Bool) (v10 : Bool) (v11 : List Bs) (v12 : Int) (v13 : Bs) (v14 : Bs) : Option (zaH) :=
 some (v0, v1, v2, v3, v4, v5, v6, v7, v8, v9, true, v11, v12, v13, v14)
def zjI (o : Ops) : SC := ⟨⟨[(0, (.ptr 0 0))], [yjB]⟩, 0, [(none, ⟨[], [yjB]⟩)], fun x => zgN o x.1 x.2.1 x.2.2.1 x.2.2.2.1 x.2.2.2.2.1 x.2.2.2.2.2.1 x.2.2.2.2.2.2.1 x.2.2.2.2.2.2.2.1 x.2.2.2.2.2.2.2.2.1 x.2.2.2.2.2.2.2.2.2.1 x.2.2.2.2.2.2.2.2.2.2.1 x.2.2.2.2.2.2.2.2.2.2.2.1 x.2.2.2.2.2.2.2.2.2.2.2.2.1 x.2.2.2.2.2.2.2.2.2.2.2.2.2.1 x.2.2.2.2.2.2.2.2.2.2.2.2.2.2⟩
theorem zpO : SCok Tryz.prog tabs 118 (zjI o) := zeA (o := o) (η := []) (Γ := ⟨[], [], false⟩) (ctok trivial trivial) Tryz.func118
def ziF (o : Ops) (v0 : Int) (v1 : Int) (v2 : List zcX) : Option ((Int × List zcX)) :=
 let v3 : zaH := zgZ keqI v2 v0 ((0 : Int), (0 : Int), (0 : Int), ([] : Bs), ([] : Bs), ([] : Bs), ([] : List Bs), (0 : Int), (0 : Int), false, false, ([] : List Bs), (0 : Int), ([] : Bs), ([] : Bs))
 (zgN o v3.1 v3.2.1 v3.2.2.1 v3.2.2.2.1 v3.2.2.2.2.1 v3.2.2.2.2.2.1 v3.2.2.2.2.2.2.1 v3.2.2.2.2.2.2.2.1 v3.2.2.2.2.2.2.2.2.1 v3.2.2.2.2.2.2.2.2.2.1 v3.2.2.2.2.2.2.2.2.2.2.1 v3.2.2.2.2.2.2.2.2.2.2.2.1 v3.2.2.2.2.2.2.2.2.2.2.2.2.1 v3.2.2.2.2.2.2.2.2.2.2.2.2.2.1 v3.2.2.2.2.2.2.2.2.2.2.2.2.2.2).bind fun v4 => (chk (mhas keqI v2 v0)).bind fun _ => let v5 : List zcX := mrep keqI v2 v0 v4
 some (v1, v5)
def zlN (o : Ops) : SC := ⟨⟨[(0, (.ptr 0 0)), (1, hI), (2, (.fn 118 [] []))], [zmC, zkU]⟩, 0, [(none, ⟨[], [zmC, zkU]⟩)], fun x => ziF o x.1 x.2.1 x.2.2⟩
theorem zrM : SCok Tryz.prog tabs 117 (zlN o) := zeA (o := o) (η := [(4000002, .sch [(.pu, 0, []), (.pu, 1, []), (.pu, 2, []), (.pu, 3, []), (.pu, 4, []), (.pu, 5, []), (.mn, 6, [0, 1, 2, 3])])]) (Γ := ⟨[], [(118, (zjI o))], true⟩) (ctok trivial ⟨zpO, trivial⟩) Tryz.func117
def zeY (o : Ops) (v0 : Int) (v1 : Int) (v2 : Int) (v3 : List zcX) : Option ((Int × Int × List zcX)) :=
 let v4 : zaH := zgZ keqI v3 v0 ((0 : Int), (0 : Int), (0 : Int), ([] : Bs), ([] : Bs), ([] : Bs), ([] : List Bs), (0 : Int), (0 : Int), false, false, ([] : List Bs), (0 : Int), ([] : Bs), ([] : Bs))
 bif (!(mhas keqI v3 v0)) then some ((131 : Int), v2, v3) else (bif v4.2.2.2.2.2.2.2.2.2.2.1 then ((zcP o v0 v2 v3).bind fun v5 => some ((134 : Int), v5)) else ((zaJ o v0 v1 v2 v3).bind fun v6 => bif (!v6.1) then some ((133 : Int), v6.2) else ((ziF o v0 v6.2.1 v6.2.2).bind fun v7 => some ((0 : Int), v7))))
def zlE (o : Ops) : SC := ⟨⟨[(0, (.ptr 0 0)), (1, hI), (2, hI)], [zmC, zkU]⟩, 1, [(none, ⟨[(0, hI)], [zmC, zkU]⟩)], fun x => zeY o x.1 x.2.1 x.2.2.1 x.2.2.2⟩
theorem zrL : SCok Tryz.prog tabs 60 (zlE o) := zeA (o := o) (η := []) (Γ := ⟨[], [(70, (zeO o)), (22, (zcG o)), (117, (zlN o))], false⟩) (ctok trivial ⟨ziH, ⟨zdI, ⟨zrM, trivial⟩⟩⟩) Tryz.func60
noncomputable def zgV (o : Ops) (v0 : Bs) (v3 : Bs × Bool) (v5 : Int) (v6 : List zcX) (v7 : List Int) (v8 : zcX) (v9 : zaH) : Option ((Bool × Int × (List zcX) × List Int)) :=
 bif (!v9.2.2.2.2.2.2.2.2.2.1) then (bif (v9.2.2.2.1 == v0) then some (true, v5, v6, rngD keqI v7 v8.1) else (bif v3.2 then (bif (v3.1 != ([] : Bs)) then some ((v9.2.2.2.2.1 == v3.1), v5, v6, rngD keqI v7 v8.1) else some (false, v5, v6, rngD keqI v7 v8.1)) else some (false, v5, v6, rngD keqI v7 v8.1))) else some (false, v5, v6, rngD keqI v7 v8.1)
noncomputable def zkN (o : Ops) (v0 : Bs) (v3 : Bs × Bool) (v4 : Int) (v5 : Int) (v6 : List zcX) (v7 : List Int) : List (Option ((Int × Int × (List zcX) × List Int) ⊕ ((Int × Int × List zcX)))) :=
 rngL (rngC keqI v6 v7) (some (.inr (v4, v5, v6))) fun v8 => (mget keqI v6 v8.1).bind fun v9 => (zgV o v0 v3 v5 v6 v7 v8 v9).bind fun v10 => bif v10.1 then ((zcP o v8.1 v10.2.1 v10.2.2.1).bind fun v11 => some (.inl (w64 (v4 + 1), v11.1, v11.2, v10.2.2.2))) else some (.inl (v4, v10.2))
noncomputable def zeJ (o : Ops) (v0 : Bs) (v1 : Int) (v2 : List zcX) : Option ((Int × Int × List zcX)) :=
 (zdZ o v0 ([99, 58] : Bs)).bind fun v3 => (rngA (fun x => zkN o v0 v3 x.1 x.2.1 x.2.2.1 x.2.2.2) ((0 : Int), v1, v2, List.map Prod.fst v2)).bind fun v12 => some v12
noncomputable def zkF (o : Ops) : SC := ⟨⟨[(0, (.ptr 0 0)), (1, hS)], [zmC, zkU]⟩, 1, [(none, ⟨[(0, hI)], [zmC, zkU]⟩)], fun x => zeJ o x.1 x.2.1 x.2.2⟩
theorem zqD : SCok Tryz.prog tabs 26 (zkF o) := zeA (o := o) (η := [(2300007, .join [] [1, 5, 6, 7, 8] [(none, ⟨[(0, (.ptr 0 0)), (19, (.ptr 2 0)), (49, hB)], [zmC, zkU, .it 1 true (.i .i64)]⟩)]),
 (200004, .rng [] ⟨[(0, (.ptr 0 0)), (7, hI), (19, (.ptr 2 0))], [zmC, zkU, .it 1 true (.i .i64)]⟩ [1, 4, 5, 6] [(some 0, ⟨[(7, hI)], [zmC, zkU]⟩)])]) (Γ := ⟨[(72, (ziU o))], [(70, (zeO o))], false⟩) (ctok ⟨znG, trivial⟩ ⟨ziH, trivial⟩) Tryz.func26
def zhJ (o : Ops) (v0 : Int) (v1 : Int) (v2 : Int) (v3 : Bs) (v4 : Bs) (v5 : Bs) (v6 : List Bs) (v7 : Int) (v8 : Int) (v9 : Bool) (v10 : Bool) (v11 : List Bs) (v12 : Int) (v13 : Bs) (v14 : Bs) (v15 : Int) : Option ((Int × Int × Int × Bs × Bs × Bs × (List Bs) × Int × Int × Bool × Bool × (List Bs) × Int × Bs × Bs × Int)) :=
 some (v0, v1, v2, v3, v4, v5, v6, v7, v8, v9, v10, v11, (bif decide (v12 ≤ v15) then v15 else v12), v13, v14, v15)
def zkJ (o : Ops) : SC := ⟨⟨[(0, (.ptr 0 0)), (1, (.ptr 1 0))], [yjB, .blk 3 [hI]]⟩, 0, [(none, ⟨[], [yjB, .blk 3 [hI]]⟩)], fun x => zhJ o x.1 x.2.1 x.2.2.1 x.2.2.2.1 x.2.2.2.2.1 x.2.2.2.2.2.1 x.2.2.2.2.2.2.1 x.2.2.2.2.2.2.2.1 x.2.2.2.2.2.2.2.2.1 x.2.2.2.2.2.2.2.2.2.1 x.2.2.2.2.2.2.2.2.2.2.1 x.2.2.2.2.2.2.2.2.2.2.2.1 x.2.2.2.2.2.2.2.2.2.2.2.2.1 x.2.2.2.2.2.2.2.2.2.2.2.2.2.1 x.2.2.2.2.2.2.2.2.2.2.2.2.2.2.1 x.2.2.2.2.2.2.2.2.2.2.2.2.2.2.2⟩
theorem zqT : SCok Tryz.prog tabs 120 (zkJ o) := zeA (o := o) (η := [(4000000, .sch [(.pu, 0, []), (.pu, 1, []), (.pu, 2, []), (.pu, 3, []), (.pu, 4, []), (.pu, 5, []), (.pu, 6, []), (.pu, 7, []), (.pu, 8, []), (.pu, 9, []), (.pu, 10, []), (.mn, 11, [0])])]) (Γ := ⟨[], [], false⟩) (ctok trivial trivial) Tryz.func120
def ziA (o : Ops) (v0 : Int) (v1 : Int) (v2 : Int) (v3 : List zcX) : Option ((Int × Int × List zcX)) :=
 let v4 : zaH := zgZ keqI v3 v0 ((0 : Int), (0 : Int), (0 : Int), ([] : Bs), ([] : Bs), ([] : Bs), ([] : List Bs), (0 : Int), (0 : Int), false, false, ([] : List Bs), (0 : Int), ([] : Bs), ([] : Bs))
 (zhJ o v4.1 v4.2.1 v4.2.2.1 v4.2.2.2.1 v4.2.2.2.2.1 v4.2.2.2.2.2.1 v4.2.2.2.2.2.2.1 v4.2.2.2.2.2.2.2.1 v4.2.2.2.2.2.2.2.2.1 v4.2.2.2.2.2.2.2.2.2.1 v4.2.2.2.2.2.2.2.2.2.2.1 v4.2.2.2.2.2.2.2.2.2.2.2.1 v4.2.2.2.2.2.2.2.2.2.2.2.2.1 v4.2.2.2.2.2.2.2.2.2.2.2.2.2.1 v4.2.2.2.2.2.2.2.2.2.2.2.2.2.2 v2).bind fun v5 => (chk (mhas keqI v3 v0)).bind fun _ => let v6 : List zcX := mrep keqI v3 v0 (v5.1, v5.2.1, v5.2.2.1, v5.2.2.2.1, v5.2.2.2.2.1, v5.2.2.2.2.2.1, v5.2.2.2.2.2.2.1, v5.2.2.2.2.2.2.2.1, v5.2.2.2.2.2.2.2.2.1, v5.2.2.2.2.2.2.2.2.2.1, v5.2.2.2.2.2.2.2.2.2.2.1, v5.2.2.2.2.2.2.2.2.2.2.2.1, v5.2.2.2.2.2.2.2.2.2.2.2.2.1, v5.2.2.2.2.2.2.2.2.2.2.2.2.2.1, v5.2.2.2.2.2.2.2.2.2.2.2.2.2.2.1)
 some (v1, v5.2.2.2.2.2.2.2.2.2.2.2.2.2.2.2, v6)
def zlM (o : Ops) : SC := ⟨⟨[(0, (.ptr 0 0)), (1, hI), (2, (.fn 120 [] [(.ptr 1 0)]))], [zsQ, .blk 3 [hI], zkU]⟩, 0, [(none, ⟨[], [zsQ, .blk 3 [hI], zkU]⟩)], fun x => ziA o x.1 x.2.1 x.2.2.1 x.2.2.2⟩
theorem zrQ : SCok Tryz.prog tabs 117 (zlM o) := zeA (o := o) (η := [(4000002, .sch [(.pu, 0, []), (.pu, 1, []), (.pu, 2, []), (.pu, 3, []), (.pu, 4, []), (.pu, 5, []), (.mn, 6, [0, 1, 2, 3, 4])])]) (Γ := ⟨[], [(120, (zkJ o))], true⟩) (ctok trivial ⟨zqT, trivial⟩) Tryz.func117
def zfG (o : Ops) (v0 : Int) (v1 : Int) (v2 : Int) (v3 : List zcX) : Option ((Int × Int × List zcX)) :=
 let v4 : zaH := zgZ keqI v3 v0 ((0 : Int), (0 : Int), (0 : Int), ([] : Bs), ([] : Bs), ([] : Bs), ([] : List Bs), (0 : Int), (0 : Int), false, false, ([] : List Bs), (0 : Int), ([] : Bs), ([] : Bs))
 bif (!(mhas keqI v3 v0)) then some ((131 : Int), v2, v3) else (bif (v4.2.1 != 1) then some ((131 : Int), v2, v3) else ((zaM o v1 (1 : Int) (3 : Int)).bind fun v5 => bif (!v5) then some ((131 : Int), v2, v3) else ((ziA o v0 v2 v1 v3).bind fun v6 => some ((0 : Int), v6.1, v6.2.2))))
def zmD (o : Ops) : SC := ⟨⟨[(0, (.ptr 0 0)), (1, hI), (2, hI)], [zmC, zkU]⟩, 1, [(none, ⟨[(0, hI)], [zmC, zkU]⟩)], fun x => zfG o x.1 x.2.1 x.2.2.1 x.2.2.2⟩
theorem zsE : SCok Tryz.prog tabs 64 (zmD o) := zeA (o := o) (η := []) (Γ := ⟨[(34, (zoS o))], [(117, (zlM o))], false⟩) (ctok ⟨zrZ, trivial⟩ ⟨zrQ, trivial⟩) Tryz.func64
def zhL (o : Ops) (v0 : Int) (v1 : Int) (v2 : Int) (v3 : Bs) (v4 : Bs) (v5 : Bs) (v6 : List Bs) (v7 : Int) (v8 : Int) (v9 : Bool) (v10 : Bool) (v11 : List Bs) (v12 : Int) (v13 : Bs) (v14 : Bs) (v15 : Bs) : Option ((Int × Int × Int × Bs × Bs × Bs × (List Bs) × Int × Int × Bool × Bool × (List Bs) × Int × Bs × Bs × Bs)) :=
 some (v0, v1, v2, v3, v4, v5, v6, v7, v8, v9, v10, v11, v12, v13, v15, v15)
def zkI (o : Ops) : SC := ⟨⟨[(0, (.ptr 0 0)), (1, (.ptr 1 0))], [yjB, .blk 9 [hS]]⟩, 0, [(none, ⟨[], [yjB, .blk 9 [hS]]⟩)], fun x => zhL o x.1 x.2.1 x.2.2.1 x.2.2.2.1 x.2.2.2.2.1 x.2.2.2.2.2.1 x.2.2.2.2.2.2.1 x.2.2.2.2.2.2.2.1 x.2.2.2.2.2.2.2.2.1 x.2.2.2.2.2.2.2.2.2.1 x.2.2.2.2.2.2.2.2.2.2.1 x.2.2.2.2.2.2.2.2.2.2.2.1 x.2.2.2.2.2.2.2.2.2.2.2.2.1 x.2.2.2.2.2.2.2.2.2.2.2.2.2.1 x.2.2.2.2.2.2.2.2.2.2.2.2.2.2.1 x.2.2.2.2.2.2.2.2.2.2.2.2.2.2.2⟩
theorem zqH : SCok Tryz.prog tabs 121 (zkI o) := zeA (o := o) (η := []) (Γ := ⟨[], [], false⟩) (ctok trivial trivial) Tryz.func121
def ziD (o : Ops) (v0 : Int) (v1 : Int) (v2 : Bs) (v3 : List zcX) : Option ((Int × Bs × List zcX)) :=
 let v4 : zaH := zgZ keqI v3 v0 ((0 : Int), (0 : Int), (0 : Int), ([] : Bs), ([] : Bs), ([] : Bs), ([] : List Bs), (0 : Int), (0 : Int), false, false, ([] : List Bs), (0 : Int), ([] : Bs), ([] : Bs))
 (zhL o v4.1 v4.2.1 v4.2.2.1 v4.2.2.2.1 v4.2.2.2.2.1 v4.2.2.2.2.2.1 v4.2.2.2.2.2.2.1 v4.2.2.2.2.2.2.2.1 v4.2.2.2.2.2.2.2.2.1 v4.2.2.2.2.2.2.2.2.2.1 v4.2.2.2.2.2.2.2.2.2.2.1 v4.2.2.2.2.2.2.2.2.2.2.2.1 v4.2.2.2.2.2.2.2.2.2.2.2.2.1 v4.2.2.2.2.2.2.2.2.2.2.2.2.2.1 v4.2.2.2.2.2.2.2.2.2.2.2.2.2.2 v2).bind fun v5 => (chk (mhas keqI v3 v0)).bind fun _ => let v6 : List zcX := mrep keqI v3 v0 (v5.1, v5.2.1, v5.2.2.1, v5.2.2.2.1, v5.2.2.2.2.1, v5.2.2.2.2.2.1, v5.2.2.2.2.2.2.1, v5.2.2.2.2.2.2.2.1, v5.2.2.2.2.2.2.2.2.1, v5.2.2.2.2.2.2.2.2.2.1, v5.2.2.2.2.2.2.2.2.2.2.1, v5.2.2.2.2.2.2.2.2.2.2.2.1, v5.2.2.2.2.2.2.2.2.2.2.2.2.1, v5.2.2.2.2.2.2.2.2.2.2.2.2.2.1, v5.2.2.2.2.2.2.2.2.2.2.2.2.2.2.1)
 some (v1, v5.2.2.2.2.2.2.2.2.2.2.2.2.2.2.2, v6)
def zlI (o : Ops) : SC := ⟨⟨[(0, (.ptr 0 0)), (1, hI), (2, (.fn 121 [] [(.ptr 1 0)]))], [zsQ, .blk 9 [hS], zkU]⟩, 0, [(none, ⟨[], [zsQ, .blk 9 [hS], zkU]⟩)], fun x => ziD o x.1 x.2.1 x.2.2.1 x.2.2.2⟩
theorem zrP : SCok Tryz.prog tabs 117 (zlI o) := zeA (o := o) (η := [(4000002, .sch [(.pu, 0, []), (.pu, 1, []), (.pu, 2, []), (.pu, 3, []), (.pu, 4, []), (.pu, 5, []), (.mn, 6, [0, 1, 2, 3, 4])])]) (Γ := ⟨[], [(121, (zkI o))], true⟩) (ctok trivial ⟨zqH, trivial⟩) Tryz.func117
def zfF (o : Ops) (v0 : Int) (v1 : Bs) (v2 : Int) (v3 : List zcX) : Option ((Int × Int × List zcX)) :=
 let v4 : zaH := zgZ keqI v3 v0 ((0 : Int), (0 : Int), (0 : Int), ([] : Bs), ([] : Bs), ([] : Bs), ([] : List Bs), (0 : Int), (0 : Int), false, false, ([] : List Bs), (0 : Int), ([] : Bs), ([] : Bs))
 bif (!(mhas keqI v3 v0)) then some ((131 : Int), v2, v3) else (bif decide ((v1.length : Int) > 256) then some ((131 : Int), v2, v3) else ((ziD o v0 v2 v1 v3).bind fun v5 => some ((0 : Int), v5.1, v5.2.2)))
def zmV (o : Ops) : SC := ⟨⟨[(0, (.ptr 0 0)), (1, hI), (2, hS)], [zmC, zkU]⟩, 1, [(none, ⟨[(0, hI)], [zmC, zkU]⟩)], fun x => zfF o x.1 x.2.1 x.2.2.1 x.2.2.2⟩
theorem zsR : SCok Tryz.prog tabs 66 (zmV o) := zeA (o := o) (η := []) (Γ := ⟨[], [(117, (zlI o))], false⟩) (ctok trivial ⟨zrP, trivial⟩) Tryz.func66
def zgI (o : Ops) (v0 : Bs) (v3 : Int) (v4 : List zaH) (v5 : Int) (v6 : Int) (v7 : Int) (v8 : Int) (v9 : Bs) (v10 : Bs) (v11 : Bs) (v12 : Int) (v13 : Int) (v14 : Bool) (v15 : Bool) (v16 : Int) (v17 : Bs) (v18 : Bs) : Option ((Int × (List zaH) × Int × Int × Int × Int × Bs × Bs × Bs × Int × Int × Bool × Bool × Int × Bs × Bs) ⊕ ((Bool × (List zaH) × zcX) ⊕ ((List zaH) × Int × Int × Int × Int × Bs × Bs × Bs × Int × Int × Bool × Bool × Int × Bs × Bs))) :=
 bif decide (v3 < (v4.length : Int)) then ((idx v4 v3).bind fun v19 => bif (v19.2.2.2.2.2.2.2.2.2.2.2.2.2.1 == v0) then ((idx v4 v3).bind fun v20 => some (.inr (.inl (true, v4, v5, v20)))) else some (.inl (w64 (v3 + 1), v4, v5, v6, v7, v8, v9, v10, v11, v12, v13, v14, v15, v16, v17, v18))) else some (.inr (.inr (v4, v5, v6, v7, v8, v9, v10, v11, v12, v13, v14, v15, v16, v17, v18)))
def zbA (o : Ops) (v0 : Bs) (v1 : List zaH) (v2 : Int) : Option ((zaH × Bool × zlQ)) :=
 (iter (fun x => zgI o v0 x.1 x.2.1 x.2.2.1 x.2.2.2.1 x.2.2.2.2.1 x.2.2.2.2.2.1 x.2.2.2.2.2.2.1 x.2.2.2.2.2.2.2.1 x.2.2.2.2.2.2.2.2.1 x.2.2.2.2.2.2.2.2.2.1 x.2.2.2.2.2.2.2.2.2.2.1 x.2.2.2.2.2.2.2.2.2.2.2.1 x.2.2.2.2.2.2.2.2.2.2.2.2.1 x.2.2.2.2.2.2.2.2.2.2.2.2.2.1 x.2.2.2.2.2.2.2.2.2.2.2.2.2.2.1 x.2.2.2.2.2.2.2.2.2.2.2.2.2.2.2) ((0 : Int), v1, v2, (0 : Int), (0 : Int), (0 : Int), ([] : Bs), ([] : Bs), ([] : Bs), (0 : Int), (0 : Int), false, false, (0 : Int), ([] : Bs), ([] : Bs))).bind fun v21 => match v21 with
 | .inl v22 => some (v22.2.2.2, v22.1, v22.2.1, v22.2.2.1)
 | .inr v23 => some (((0 : Int), (0 : Int), (0 : Int), ([] : Bs), ([] : Bs), ([] : Bs), ([] : List Bs), (0 : Int), (0 : Int), false, false, ([] : List Bs), (0 : Int), ([] : Bs), ([] : Bs)), false, v23.1, v23.2.1)
def zdK (o : Ops) : SC := ⟨⟨[(0, (.ptr 0 0)), (1, hS)], [zbS]⟩, 2, [(none, ⟨[(0, (.h zmE)), (1, hB)], [zbS]⟩)], fun x => zbA o x.1 x.2.1 x.2.2⟩
theorem zgE : SCok Tryz.prog tabs 40 (zdK o) := zeA (o := o) (η := [(200002, .loop [] ⟨[(0, (.ptr 0 0)), (4, (.ptr 1 0)), (6, hI)], [zbS, xbO]⟩ [1] [(some 1000000, ⟨[(4, (.ptr 1 0)), (5, hB)], [zbS, zvB]⟩), (some 0, ⟨[(4, (.ptr 1 0))], [zbS, xbO]⟩)])]) (Γ := ⟨[], [], false⟩) (ctok trivial trivial) Tryz.func40
def zhU (o : Ops) (v0 : Int) (v3 : Int) (v4 : List zaH) (v5 : Int) : Option ((Int × zlQ) ⊕ ((Int × zlQ) ⊕ zlQ)) :=
 bif decide (v3 < (v4.length : Int)) then ((idx v4 v3).bind fun v6 => bif (v6.1 == v0) then some (.inr (.inl (v3, v4, v5))) else some (.inl (w64 (v3 + 1), v4, v5))) else some (.inr (.inr (v4, v5)))
def zaK (o : Ops) (v0 : Int) (v1 : List zaH) (v2 : Int) : Option ((Int × zlQ)) :=
 (iter (fun x => zhU o v0 x.1 x.2.1 x.2.2) ((0 : Int), v1, v2)).bind fun v7 => match v7 with
 | .inl v8 => some v8
 | .inr v9 => some ((-1 : Int), v9)
def zbG (o : Ops) : SC := ⟨⟨[(0, (.ptr 0 0)), (1, hI)], [zbS]⟩, 1, [(none, ⟨[(0, hI)], [zbS]⟩)], fun x => zaK o x.1 x.2.1 x.2.2⟩
theorem zcM : SCok Tryz.prog tabs 115 (zbG o) := zeA (o := o) (η := [(200002, .loop [] ⟨[(0, (.ptr 0 0)), (5, hI)], [zbS]⟩ [1] [(some 1000000, ⟨[(4, hI)], [zbS]⟩), (some 0, ⟨[], [zbS]⟩)])]) (Γ := ⟨[], [], false⟩) (ctok trivial trivial) Tryz.func115
def zgD (o : Ops) (v4 : Int) (v5 : List zaH) (v6 : Int) (v7 : List Int) : Option ((Int × (List zaH) × Int × List Int) ⊕ (((List zaH) × Int × List Int))) :=
 bif decide (v4 ≥ 0) then ((idx v5 v4).bind fun v8 => (app v7 ([v8.1] : List Int)).bind fun v9 => (idx v5 v4).bind fun v10 => (zaK o v10.2.2.1 v5 v6).bind fun v11 => some (.inl (v11.1, v11.2.1, v11.2.2, v9))) else some (.inr (v5, v6, v7))
def zaP (o : Ops) (v0 : Int) (v1 : List zaH) (v2 : Int) : Option (((List zaH) × Int × List Int)) :=
 (zaK o v0 v1 v2).bind fun v3 => (iter (fun x => zgD o x.1 x.2.1 x.2.2.1 x.2.2.2) (v3.1, v3.2.1, v3.2.2, ([] : List Int))).bind fun v12 => some v12
def zbO (o : Ops) : SC := ⟨⟨[(0, (.ptr 0 0)), (1, hI)], [zbS]⟩, 1, [(none, ⟨[(0, (.own 1))], [zbS, .osl (.i .i64) 3]⟩)], fun x => zaP o x.1 x.2.1 x.2.2⟩
theorem zdH : SCok Tryz.prog tabs 59 (zbO o) := zeA (o := o) (η := [(200003, .loop [] ⟨[(0, (.ptr 0 0)), (5, (.own 1)), (6, hI)], [zbS, .osl (.i .i64) 3]⟩ [4] [(some 0, ⟨[(5, (.own 1))], [zbS, .osl (.i .i64) 3]⟩)])]) (Γ := ⟨[], [(115, (zbG o))], false⟩) (ctok trivial ⟨zcM, trivial⟩) Tryz.func59
def zaD (o : Ops) (v0 : Int) (v1 : List zaH) (v2 : Int) : Option ((zaH × Bool × zlQ)) :=
 (zaK o v0 v1 v2).bind fun v3 => bif decide (v3.1 < 0) then some (((0 : Int), (0 : Int), (0 : Int), ([] : Bs), ([] : Bs), ([] : Bs), ([] : List Bs), (0 : Int), (0 : Int), false, false, ([] : List Bs), (0 : Int), ([] : Bs), ([] : Bs)), false, v3.2) else ((idx v3.2.1 v3.1).bind fun v4 => some (v4, true, v3.2))
def zaF (o : Ops) : SC := ⟨⟨[(0, (.ptr 0 0)), (1, hI)], [zbS]⟩, 2, [(none, ⟨[(0, (.h zmE)), (1, hB)], [zbS]⟩)], fun x => zaD o x.1 x.2.1 x.2.2⟩
theorem zaL : SCok Tryz.prog tabs 56 (zaF o) := zeA (o := o) (η := []) (Γ := ⟨[], [(115, (zbG o))], false⟩) (ctok trivial ⟨zcM, trivial⟩) Tryz.func56
def zfC (o : Ops) (v4 : Int) (v5 : List zaH) (v6 : Int) (v7 : List Int) : Option ((Int × (List zaH) × Int × List Int) ⊕ ((Bool × zlQ) ⊕ zlQ)) :=
 bif decide (v4 < (v7.length : Int)) then ((chk (decide ((0 : Int) ≤ v4) && decide (v4 < (v7.length : Int)))).bind fun _ => (idx v7 v4).bind fun v8 => (zaD o v8 v5 v6).bind fun v9 => bif v9.1.2.2.2.2.2.2.2.2.2.1 then some (.inr (.inl (true, v9.2.2))) else some (.inl (w64 (v4 + 1), v9.2.2.1, v9.2.2.2, v7))) else some (.inr (.inr (v5, v6)))
def zaT (o : Ops) (v0 : Int) (v1 : List zaH) (v2 : Int) : Option ((Bool × zlQ)) :=
 (zaP o v0 v1 v2).bind fun v3 => (iter (fun x => zfC o x.1 x.2.1 x.2.2.1 x.2.2.2) ((0 : Int), v3)).bind fun v10 => match v10 with
 | .inl v11 => some v11
 | .inr v12 => some (false, v12)
def zcR (o : Ops) : SC := ⟨⟨[(0, (.ptr 0 0)), (1, hI)], [zbS]⟩, 1, [(none, ⟨[(0, hB)], [zbS]⟩)], fun x => zaT o x.1 x.2.1 x.2.2⟩
theorem zfE : SCok Tryz.prog tabs 116 (zcR o) := zeA (o := o) (η := [(200003, .loop [] ⟨[(0, (.ptr 0 0)), (5, (.own 1)), (6, hI)], [zbS, .osl (.i .i64) 3]⟩ [] [(some 1000000, ⟨[(4, hB)], [zbS]⟩), (some 0, ⟨[], [zbS]⟩)])]) (Γ := ⟨[], [(59, (zbO o)), (56, (zaF o))], false⟩) (ctok trivial ⟨zdH, ⟨zaL, trivial⟩⟩) Tryz.func116
def zaO (o : Ops) (v0 : Int) (v1 : Int) (v2 : List zaH) (v3 : Int) : Option ((Bool × zlQ)) :=
 (zaD o v0 v2 v3).bind fun v4 => bif v4.2.1 then (bif (!v4.1.2.2.2.2.2.2.2.2.2.2.1) then (bif decide (v4.1.2.2.2.2.2.2.2.2.1 > v1) then ((zaT o v0 v4.2.2.1 v4.2.2.2).bind fun v5 => some ((!v5.1), v5.2)) else some (false, v4.2.2)) else some (false, v4.2.2)) else some (false, v4.2.2)
def zbP (o : Ops) : SC := ⟨⟨[(0, (.ptr 0 0)), (1, hI), (2, hI)], [zbS]⟩, 1, [(none, ⟨[(0, hB)], [zbS]⟩)], fun x => zaO o x.1 x.2.1 x.2.2.1 x.2.2.2⟩
theorem zdD : SCok Tryz.prog tabs 57 (zbP o) := zeA (o := o) (η := []) (Γ := ⟨[], [(56, (zaF o)), (116, (zcR o))], false⟩) (ctok trivial ⟨zaL, ⟨zfE, trivial⟩⟩) Tryz.func57
def zfZ (o : Ops) (v1 : Int) (v5 : Int) (v6 : List zaH) (v7 : Int) (v8 : List Int) : Option ((Int × (List zaH) × Int × List Int) ⊕ ((Bool × zlQ) ⊕ zlQ)) :=
 bif decide (v5 < (v8.length : Int)) then ((chk (decide ((0 : Int) ≤ v5) && decide (v5 < (v8.length : Int)))).bind fun _ => (idx v8 v5).bind fun v9 => bif (v9 == v1) then some (.inr (.inl (true, v6, v7))) else some (.inl (w64 (v5 + 1), v6, v7, v8))) else some (.inr (.inr (v6, v7)))
def zbT (o : Ops) (v0 : Int) (v1 : Int) (v2 : List zaH) (v3 : Int) : Option ((Bool × zlQ)) :=
 (zaP o v0 v2 v3).bind fun v4 => (iter (fun x => zfZ o v1 x.1 x.2.1 x.2.2.1 x.2.2.2) ((0 : Int), v4)).bind fun v10 => match v10 with
 | .inl v11 => some v11
 | .inr v12 => some (false, v12)
def zgB (o : Ops) : SC := ⟨⟨[(0, (.ptr 0 0)), (1, hI), (2, hI)], [zbS]⟩, 1, [(none, ⟨[(0, hB)], [zbS]⟩)], fun x => zbT o x.1 x.2.1 x.2.2.1 x.2.2.2⟩
theorem zmO : SCok Tryz.prog tabs 122 (zgB o) := zeA (o := o) (η := [(200003, .loop [] ⟨[(7, (.own 1)), (8, hI)], [zbS, .osl (.i .i64) 3]⟩ [2] [(some 1000000, ⟨[(6, hB)], [zbS]⟩), (some 0, ⟨[], [zbS]⟩)])]) (Γ := ⟨[], [(59, (zbO o))], false⟩) (ctok trivial ⟨zdH, trivial⟩) Tryz.func122
def zfR (o : Ops) (v7 : Bool) (v8 : Int) (v9 : List zaH) (v10 : Int) (v11 : List zaH) : Option (((List zaH) × Int × List zaH) ⊕ ((List zaH) × Int × List zaH)) :=
 bif decide (v8 < (v9.length : Int)) then (bif (!v7) then some (.inl (v9, v10, v11)) else some (.inr (v9, v10, v11))) else some (.inr (v9, v10, v11))
def zcY (o : Ops) (v0 : Int) (v3 : Int) (v7 : Bool) (v8 : Int) (v9 : List zaH) (v10 : Int) (v11 : List zaH) : Option ((Bool × Int × (List zaH) × Int × List zaH) ⊕ ((Bool × (List zaH) × Int × List zaH))) :=
 (zfR o v7 v8 v9 v10 v11).bind fun v12 => match v12 with
 | .inl v13 => ((idx v13.1 v8).bind fun v15 => (zaO o v15.1 v0 v13.1 v13.2.1).bind fun v16 => bif v16.1 then ((idx v16.2.1 v8).bind fun v17 => (idx v16.2.1 v3).bind fun v18 => (zbT o v17.1 v18.1 v16.2.1 v16.2.2).bind fun v19 => some (.inl (v19.1, w64 (v8 + 1), v19.2.1, v19.2.2, v13.2.2))) else some (.inl (false, w64 (v8 + 1), v16.2.1, v16.2.2, v13.2.2)))
 | .inr v14 => some (.inr (v7, v14))
def zfU (o : Ops) (v0 : Int) (v3 : Int) (v4 : List zaH) (v5 : Int) (v6 : List zaH) : Option ((Int × (List zaH) × Int × List zaH) ⊕ (((List zaH) × Int × List zaH))) :=
 bif decide (v3 < (v4.length : Int)) then ((iter (fun x => zcY o v0 v3 x.1 x.2.1 x.2.2.1 x.2.2.2.1 x.2.2.2.2) (false, v3, v4, v5, v6)).bind fun v20 => bif v20.1 then ((idx v20.2.1 v3).bind fun v21 => (app v20.2.2.2 ([v21] : List zaH)).bind fun v22 => some (.inl (w64 (v3 + 1), v20.2.1, v20.2.2.1, v22))) else some (.inl (w64 (v3 + 1), v20.2))) else some (.inr (v4, v5, v6))
def zaW (o : Ops) (v0 : Int) (v1 : List zaH) (v2 : Int) : Option ((Int × Int × List zaH)) :=
 (iter (fun x => zfU o v0 x.1 x.2.1 x.2.2.1 x.2.2.2) ((0 : Int), v1, v2, ([] : List zaH))).bind fun v23 => some (w64 ((v23.1.length : Int) - (v23.2.2.length : Int)), v23.2)
def zcZ (o : Ops) : SC := ⟨⟨[(0, (.ptr 0 0)), (1, hI)], [zbS]⟩, 1, [(none, ⟨[(0, hI)], [yuY, .osl zmE 47]⟩)], fun x => zaW o x.1 x.2.1 x.2.2⟩
theorem zfX : SCok Tryz.prog tabs 68 (zcZ o) := zeA (o := o) (η := [(2100003, .join [] [1, 6, 7, 8] [(none, ⟨[(0, (.ptr 0 0)), (5, (.own 1))], [zbS, .osl zmE 47]⟩), (some 2, ⟨[(0, (.ptr 0 0)), (5, (.own 1))], [zbS, .osl zmE 47]⟩)]),
 (200007, .loop [] ⟨[(0, (.ptr 0 0)), (5, (.own 1)), (7, hB), (8, hI)], [zbS, .osl zmE 47]⟩ [1, 4, 6] [(some 2, ⟨[(0, (.ptr 0 0)), (5, (.own 1)), (7, hB)], [zbS, .osl zmE 47]⟩)]),
 (200003, .loop [] ⟨[(0, (.ptr 0 0)), (5, (.own 1)), (6, hI)], [zbS, .osl zmE 47]⟩ [1, 4] [(some 0, ⟨[(0, (.ptr 0 0)), (5, (.own 1))], [zbS, .osl zmE 47]⟩)]),
 (4000009, .sch [(.pu, 0, []), (.pu, 1, []), (.pu, 2, []), (.pu, 3, []), (.pu, 4, []), (.pu, 5, []), (.pu, 6, []), (.pu, 7, []), (.pu, 8, []), (.pu, 9, []), (.mn, 10, [0]), (.pu, 11, []), (.pu, 12, []), (.pu, 13, []), (.pu, 14, []), (.pu, 15, []), (.pu, 16, []), (.pu, 17, []), (.pu, 18, []), (.pu, 19, []), (.pu, 20, []), (.pu, 21, []), (.pu, 22, []), (.pu, 23, []), (.pu, 24, []), (.pu, 25, []), (.pu, 26, []), (.pu, 27, []), (.pu, 28, []), (.mn, 29, [0]), (.pu, 30, []), (.pu, 31, [])])]) (Γ := ⟨[], [(57, (zbP o)), (122, (zgB o))], false⟩) (ctok trivial ⟨zdD, ⟨zmO, trivial⟩⟩) Tryz.func68
def zfV (o : Ops) (v0 : zaH) (v5 : (zaH × Bool × zlQ)) : Option ((Int × Int × zlQ) ⊕ ((List zaH) × zcX)) :=
 bif decide (v0.2.2.1 > 0) then ((zaK o v0.2.2.1 v5.2.2.1 v5.2.2.2).bind fun v6 => bif decide (v6.1 < 0) then some (.inl ((0 : Int), (133 : Int), v6.2)) else ((zaT o v0.2.2.1 v6.2.1 v6.2.2).bind fun v7 => bif v7.1 then some (.inl ((0 : Int), (133 : Int), v7.2)) else some (.inr (v7.2.1, v7.2.2, v0)))) else some (.inr (v5.2.2.1, v5.2.2.2, v0))
def zfT (o : Ops) (v10 : (List zaH) × zcX) (v11 : (Int × Int × List zaH)) : Option ((Int × Int × Int × List zaH) ⊕ (Int × Int × Int × Int × Bs × Bs × Bs × (List Bs) × Int × Int × Bool × Bool × (List Bs) × Int × Bs × Bs × List zaH)) :=
 bif decide ((v11.2.2.length : Int) ≥ 256) then some (.inl ((0 : Int), (130 : Int), v11.2)) else (bif decide (v11.2.1 ≥ 99999999) then some (.inl ((0 : Int), (130 : Int), v11.2)) else some (.inr (v11.2.1, v10.2.2.1, v10.2.2.2.1, v10.2.2.2.2.1, v10.2.2.2.2.2.1, v10.2.2.2.2.2.2.1, v10.2.2.2.2.2.2.2.1, v10.2.2.2.2.2.2.2.2.1, v10.2.2.2.2.2.2.2.2.2.1, v10.2.2.2.2.2.2.2.2.2.2.1, v10.2.2.2.2.2.2.2.2.2.2.2.1, v10.2.2.2.2.2.2.2.2.2.2.2.2.1, v10.2.2.2.2.2.2.2.2.2.2.2.2.2.1, v10.2.2.2.2.2.2.2.2.2.2.2.2.2.2.1, v10.2.2.2.2.2.2.2.2.2.2.2.2.2.2.2.1, v10.2.2.2.2.2.2.2.2.2.2.2.2.2.2.2.2, v11.2.2)))
def zfP (o : Ops) (v14 : Int × Int × Int × Int × Bs × Bs × Bs × (List Bs) × Int × Int × Bool × Bool × (List Bs) × Int × Bs × Bs × List zaH) (v15 : List Bs) : Option ((Int × Int × Int × Int × Bs × Bs × Bs × (List Bs) × Int × Int × Bool × Bool × (List Bs) × Int × Bs × Bs × List zaH)) :=
 (app ([] : List Bs) v14.2.2.2.2.2.2.2.2.2.2.2.2.1).bind fun v16 => some (v14.1, v14.1, v14.2.2.1, v14.2.2.2.1, v14.2.2.2.2.1, v14.2.2.2.2.2.1, v14.2.2.2.2.2.2.1, v15, v14.2.2.2.2.2.2.2.2.1, v14.2.2.2.2.2.2.2.2.2.1, false, false, v16, v14.2.2.2.2.2.2.2.2.2.2.2.2.2)
def zbM (o : Ops) (v0 : zaH) (v1 : Int) (v2 : List zaH) (v3 : Int) : Option ((Int × Int × zlQ)) :=
 (zfH o v0).bind fun v4 => bif (!v4) then some ((0 : Int), (131 : Int), v2, v3) else ((zbA o v0.2.2.2.2.2.2.2.2.2.2.2.2.2.1 v2 v3).bind fun v5 => bif v5.2.1 then some ((0 : Int), (132 : Int), v5.2.2) else ((zfV o v0 v5).bind fun v8 => match v8 with
 | .inl v9 => some v9
 | .inr v10 => ((zaW o v1 v10.1 v10.2.1).bind fun v11 => (zfT o v10 v11).bind fun v12 => match v12 with
 | .inl v13 => some (v13.1, v13.2.1, v13.2.2.2, v13.2.2.1)
 | .inr v14 => ((app ([] : List Bs) v14.2.2.2.2.2.2.2.1).bind fun v15 => (zfP o v14 v15).bind fun v17 => (app ([] : List zaH) v17.2.2.2.2.2.2.2.2.2.2.2.2.2.2.2.2).bind fun v18 => (app v18 ([(v17.2.1, v17.2.2.1, v17.2.2.2.1, v17.2.2.2.2.1, v17.2.2.2.2.2.1, v17.2.2.2.2.2.2.1, v17.2.2.2.2.2.2.2.1, v17.2.2.2.2.2.2.2.2.1, v17.2.2.2.2.2.2.2.2.2.1, v17.2.2.2.2.2.2.2.2.2.2.1, v17.2.2.2.2.2.2.2.2.2.2.2.1, v17.2.2.2.2.2.2.2.2.2.2.2.2.1, v17.2.2.2.2.2.2.2.2.2.2.2.2.2.1, v17.2.2.2.2.2.2.2.2.2.2.2.2.2.2.1, v17.2.2.2.2.2.2.2.2.2.2.2.2.2.2.2.1)] : List zaH)).bind fun v19 => some (v17.2.1, (0 : Int), v19, w64 (v17.1 + 1))))))
def zfQ (o : Ops) : SC := ⟨⟨[(0, (.ptr 0 0)), (1, (.h zmE)), (2, hI)], [zbS]⟩, 2, [(none, ⟨[(0, hI), (1, hI)], [zbS]⟩)], fun x => zbM o x.1 x.2.1 x.2.2.1 x.2.2.2⟩
theorem zlS : SCok Tryz.prog tabs 55 (zfQ o) := zeA (o := o) (η := [(2000008, .join [] [2] [(some 1000000, ⟨[(6, hI), (7, hI)], [zbS]⟩), (none, ⟨[(0, (.ptr 0 0)), (4, (.ptr 1 0))], [zbS, zvB]⟩)]),
 (2000011, .join [] [] [(some 1000000, ⟨[(6, hI), (7, hI)], [yuY, .osl zmE 47]⟩), (none, ⟨[(0, (.ptr 0 0)), (4, (.ptr 1 0))], [yzX, zvB, .osl zmE 47]⟩)]),
 (2000016, .join [] [] [(none, ⟨[(0, (.ptr 0 0)), (4, (.ptr 1 0))], [yzX, zvB, .osl zmE 47]⟩)]),
 (4000016, .sch [(.pu, 0, [3]), (.pu, 2, []), (.pu, 3, []), (.pu, 4, []), (.pu, 5, []), (.pu, 7, [3]), (.la, 8, []), (.mn, 1, []), (.mn, 6, [3]), (.rv, 8, []), (.mn, 9, [3]), (.pu, 10, []), (.pu, 11, []), (.mn, 12, [0])])]) (Γ := ⟨[(93, (zmI o))], [(40, (zdK o)), (115, (zbG o)), (116, (zcR o)), (68, (zcZ o))], false⟩) (ctok ⟨zsP, trivial⟩ ⟨zgE, ⟨zcM, ⟨zfE, ⟨zfX, trivial⟩⟩⟩⟩) Tryz.func55
def zaI (o : Ops) (v0 : zaH) (v1 : List zaH) (v2 : Int) : Option ((Int × List zaH)) :=
 (zaK o v0.1 v1 v2).bind fun v3 => (app ([] : List zaH) v3.2.1).bind fun v4 => (chk (decide ((0 : Int) ≤ v3.1) && decide (v3.1 < (v4.length : Int)))).bind fun _ => (setL v4 v3.1 v0).bind fun v5 => some (v3.2.2, v5)
def zaN (o : Ops) : SC := ⟨⟨[(0, (.ptr 0 0)), (1, (.h zmE))], [zbS]⟩, 0, [(none, ⟨[], [yuY, .osl zmE 47]⟩)], fun x => zaI o x.1 x.2.1 x.2.2⟩
theorem zbB : SCok Tryz.prog tabs 119 (zaN o) := zeA (o := o) (η := []) (Γ := ⟨[], [(115, (zbG o))], false⟩) (ctok trivial ⟨zcM, trivial⟩) Tryz.func119
def zaY (o : Ops) (v0 : Int) (v1 : List zaH) (v2 : Int) : Option ((Int × zlQ)) :=
 (zaD o v0 v1 v2).bind fun v3 => bif (!v3.2.1) then some ((131 : Int), v3.2.2) else ((zaI o (v3.1.1, v3.1.2.1, v3.1.2.2.1, v3.1.2.2.2.1, v3.1.2.2.2.2.1, v3.1.2.2.2.2.2.1, v3.1.2.2.2.2.2.2.1, v3.1.2.2.2.2.2.2.2.1, v3.1.2.2.2.2.2.2.2.2.1, true, v3.1.2.2.2.2.2.2.2.2.2.2) v3.2.2.1 v3.2.2.2).bind fun v4 => some ((0 : Int), v4.2, v4.1))
def zdJ (o : Ops) : SC := ⟨⟨[(0, (.ptr 0 0)), (1, hI)], [zbS]⟩, 1, [(none, ⟨[(0, hI)], [zbS]⟩)], fun x => zaY o x.1 x.2.1 x.2.2⟩
theorem zgH : SCok Tryz.prog tabs 62 (zdJ o) := zeA (o := o) (η := []) (Γ := ⟨[], [(56, (zaF o)), (119, (zaN o))], false⟩) (ctok trivial ⟨zaL, ⟨zbB, trivial⟩⟩) Tryz.func62
def zbL (o : Ops) (v0 : Int) (v1 : Int) (v2 : List zaH) (v3 : Int) : Option ((Int × zlQ)) :=
 (zaD o v0 v2 v3).bind fun v4 => bif (!v4.2.1) then some ((131 : Int), v4.2.2) else (bif v4.1.2.2.2.2.2.2.2.2.2.2.1 then ((zaY o v0 v4.2.2.1 v4.2.2.2).bind fun v5 => some ((134 : Int), v5.2)) else ((zaO o v0 v1 v4.2.2.1 v4.2.2.2).bind fun v6 => bif (!v6.1) then some ((133 : Int), v6.2) else ((zaI o (v4.1.1, v4.1.2.1, v4.1.2.2.1, v4.1.2.2.2.1, v4.1.2.2.2.2.1, v4.1.2.2.2.2.2.1, v4.1.2.2.2.2.2.2.1, v4.1.2.2.2.2.2.2.2.1, v4.1.2.2.2.2.2.2.2.2.1, v4.1.2.2.2.2.2.2.2.2.2.1, true, v4.1.2.2.2.2.2.2.2.2.2.2.2) v6.2.1 v6.2.2).bind fun v7 => some ((0 : Int), v7.2, v7.1))))
def zfK (o : Ops) : SC := ⟨⟨[(0, (.ptr 0 0)), (1, hI), (2, hI)], [zbS]⟩, 1, [(none, ⟨[(0, hI)], [zbS]⟩)], fun x => zbL o x.1 x.2.1 x.2.2.1 x.2.2.2⟩
theorem zlW : SCok Tryz.prog tabs 61 (zfK o) := zeA (o := o) (η := []) (Γ := ⟨[], [(56, (zaF o)), (62, (zdJ o)), (57, (zbP o)), (119, (zaN o))], false⟩) (ctok trivial ⟨zaL, ⟨zgH, ⟨zdD, ⟨zbB, trivial⟩⟩⟩⟩) Tryz.func61
def zfL (o : Ops) (v0 : Bs) (v5 : List zaH) (v6 : Int) (v7 : zaH) : Option ((Bool × (List zaH) × zcX)) :=
 bif (v7.2.2.2.2.1 != ([] : Bs)) then ((app ([99, 58] : Bs) v7.2.2.2.2.1).bind fun v8 => some ((v8 == v0), v5, v6, v7)) else some (false, v5, v6, v7)
def zfS (o : Ops) (v0 : Bs) (v9 : Bool × (List zaH) × zcX) : Option ((Bool × (List zaH) × zcX)) :=
 bif (!v9.2.2.2.2.2.2.2.2.2.2.2.2.1) then (bif (v9.2.2.2.2.2.2.1 == v0) then some (true, v9.2) else some v9) else some (false, v9.2)
def zfW (o : Ops) (v0 : Bs) (v3 : Int) (v4 : Int) (v5 : List zaH) (v6 : Int) : Option ((Int × Int × zlQ) ⊕ ((Int × zlQ))) :=
 bif decide (v4 < (v5.length : Int)) then ((idx v5 v4).bind fun v7 => (zfL o v0 v5 v6 v7).bind fun v9 => (zfS o v0 v9).bind fun v10 => bif v10.1 then ((zaI o (v10.2.2.2.1, v10.2.2.2.2.1, v10.2.2.2.2.2.1, v10.2.2.2.2.2.2.1, v10.2.2.2.2.2.2.2.1, v10.2.2.2.2.2.2.2.2.1, v10.2.2.2.2.2.2.2.2.2.1, v10.2.2.2.2.2.2.2.2.2.2.1, v10.2.2.2.2.2.2.2.2.2.2.2.1, true, v10.2.2.2.2.2.2.2.2.2.2.2.2.2) v10.2.1 v10.2.2.1).bind fun v11 => some (.inl (w64 (v3 + 1), w64 (v4 + 1), v11.2, v11.1))) else some (.inl (v3, w64 (v4 + 1), v10.2.1, v10.2.2.1))) else some (.inr (v3, v5, v6))
def zbI (o : Ops) (v0 : Bs) (v1 : List zaH) (v2 : Int) : Option ((Int × zlQ)) :=
 (iter (fun x => zfW o v0 x.1 x.2.1 x.2.2.1 x.2.2.2) ((0 : Int), (0 : Int), v1, v2)).bind fun v12 => some v12
def zfD (o : Ops) : SC := ⟨⟨[(0, (.ptr 0 0)), (1, hS)], [zbS]⟩, 1, [(none, ⟨[(0, hI)], [zbS]⟩)], fun x => zbI o x.1 x.2.1 x.2.2⟩
theorem zkT : SCok Tryz.prog tabs 63 (zfD o) := zeA (o := o) (η := [(2000007, .join [] [1, 5, 6] [(none, ⟨[(0, (.ptr 0 0)), (7, (.ptr 1 0)), (8, hB)], [zbS, zvB]⟩)]),
 (2300008, .join [] [1, 5, 6] [(none, ⟨[(0, (.ptr 0 0)), (7, (.ptr 1 0)), (46, hB)], [zbS, zvB]⟩)]),
 (200003, .loop [] ⟨[(0, (.ptr 0 0)), (5, hI), (6, hI)], [zbS]⟩ [1, 4] [(some 0, ⟨[(5, hI)], [zbS]⟩)])]) (Γ := ⟨[], [(119, (zaN o))], false⟩) (ctok trivial ⟨zbB, trivial⟩) Tryz.func63
def zgJ (o : Ops) (v1 : Int) (v4 : (zaH × Bool × zlQ)) : Option ((Int × zlQ) ⊕ ((List zaH) × zcX)) :=
 bif (!v4.2.1) then some (.inl ((131 : Int), v4.2.2)) else (bif (v4.1.2.1 != 1) then some (.inl ((131 : Int), v4.2.2)) else (bif decide (v1 < 1) then some (.inl ((131 : Int), v4.2.2)) else (bif decide (v1 > 3) then some (.inl ((131 : Int), v4.2.2)) else some (.inr (v4.2.2.1, v4.2.2.2, v4.1)))))
def zbU (o : Ops) (v0 : Int) (v1 : Int) (v2 : List zaH) (v3 : Int) : Option ((Int × zlQ)) :=
 (zaD o v0 v2 v3).bind fun v4 => (zgJ o v1 v4).bind fun v5 => match v5 with
 | .inl v6 => some v6
 | .inr v7 => (bif decide (v1 > v7.2.2.2.2.2.2.2.2.2.2.2.2.2.2.1) then ((zaI o (v7.2.2.1, v7.2.2.2.1, v7.2.2.2.2.1, v7.2.2.2.2.2.1, v7.2.2.2.2.2.2.1, v7.2.2.2.2.2.2.2.1, v7.2.2.2.2.2.2.2.2.1, v7.2.2.2.2.2.2.2.2.2.1, v7.2.2.2.2.2.2.2.2.2.2.1, v7.2.2.2.2.2.2.2.2.2.2.2.1, v7.2.2.2.2.2.2.2.2.2.2.2.2.1, v7.2.2.2.2.2.2.2.2.2.2.2.2.2.1, v1, v7.2.2.2.2.2.2.2.2.2.2.2.2.2.2.2) v7.1 v7.2.1).bind fun v8 => some ((0 : Int), v8.2, v8.1)) else some ((0 : Int), v7.1, v7.2.1))
def zgG (o : Ops) : SC := ⟨⟨[(0, (.ptr 0 0)), (1, hI), (2, hI)], [zbS]⟩, 1, [(none, ⟨[(0, hI)], [zbS]⟩)], fun x => zbU o x.1 x.2.1 x.2.2.1 x.2.2.2⟩
theorem zmN : SCok Tryz.prog tabs 65 (zgG o) := zeA (o := o) (η := [(2000004, .join [] [2] [(some 1000000, ⟨[(6, hI)], [zbS]⟩), (none, ⟨[(0, (.ptr 0 0)), (7, (.ptr 1 0))], [zbS, zvB]⟩)])]) (Γ := ⟨[], [(56, (zaF o)), (119, (zaN o))], false⟩) (ctok trivial ⟨zaL, ⟨zbB, trivial⟩⟩) Tryz.func65
def zgC (o : Ops) (v1 : Bs) (v4 : (zaH × Bool × zlQ)) : Option ((Int × zlQ) ⊕ ((List zaH) × zcX)) :=
 bif (!v4.2.1) then some (.inl ((131 : Int), v4.2.2)) else (bif decide ((v1.length : Int) > 256) then some (.inl ((131 : Int), v4.2.2)) else some (.inr (v4.2.2.1, v4.2.2.2, v4.1)))
def zbV (o : Ops) (v0 : Int) (v1 : Bs) (v2 : List zaH) (v3 : Int) : Option ((Int × zlQ)) :=
 (zaD o v0 v2 v3).bind fun v4 => (zgC o v1 v4).bind fun v5 => match v5 with
 | .inl v6 => some v6
 | .inr v7 => ((zaI o (v7.2.2.1, v7.2.2.2.1, v7.2.2.2.2.1, v7.2.2.2.2.2.1, v7.2.2.2.2.2.2.1, v7.2.2.2.2.2.2.2.1, v7.2.2.2.2.2.2.2.2.1, v7.2.2.2.2.2.2.2.2.2.1, v7.2.2.2.2.2.2.2.2.2.2.1, v7.2.2.2.2.2.2.2.2.2.2.2.1, v7.2.2.2.2.2.2.2.2.2.2.2.2.1, v7.2.2.2.2.2.2.2.2.2.2.2.2.2.1, v7.2.2.2.2.2.2.2.2.2.2.2.2.2.2.1, v7.2.2.2.2.2.2.2.2.2.2.2.2.2.2.2.1, v1) v7.1 v7.2.1).bind fun v8 => some ((0 : Int), v8.2, v8.1))
def zgF (o : Ops) : SC := ⟨⟨[(0, (.ptr 0 0)), (1, hI), (2, hS)], [zbS]⟩, 1, [(none, ⟨[(0, hI)], [zbS]⟩)], fun x => zbV o x.1 x.2.1 x.2.2.1 x.2.2.2⟩
theorem zmG : SCok Tryz.prog tabs 67 (zgF o) := zeA (o := o) (η := [(2000004, .join [] [2] [(some 1000000, ⟨[(6, hI)], [zbS]⟩), (none, ⟨[(0, (.ptr 0 0)), (7, (.ptr 1 0))], [zbS, zvB]⟩)])]) (Γ := ⟨[], [(56, (zaF o)), (119, (zaN o))], false⟩) (ctok trivial ⟨zaL, ⟨zbB, trivial⟩⟩) Tryz.func67
noncomputable def zgT (o : Ops) (v9 : Int) (v10 : Int) (v11 : List zaH) (v12 : Int) (v13 : List zcX) (v14 : Int) (v15 : Int) (v16 : Int) (v17 : Bs) (v18 : Bs) (v19 : Bs) (v20 : Int) (v21 : Int) (v22 : Bool) (v23 : Bool) (v24 : Int) (v25 : Bs) (v26 : Bs) (v27 : List Bs) (v28 : List Bs) : Option ((Int × Int × (List zaH) × Int × (List zcX) × Int × Int × Int × Bs × Bs × Bs × Int × Int × Bool × Bool × Int × Bs × Bs × (List Bs) × List Bs) ⊕ ((Int × (List zaH) × Int × (List zcX) × Int × Int × Int × Bs × Bs × Bs × Int × Int × Bool × Bool × Int × Bs × Bs × (List Bs) × List Bs))) :=
 bif decide (v9 < (v27.length : Int)) then ((chk (decide ((0 : Int) ≤ v9) && decide (v9 < (v27.length : Int)))).bind fun _ => (setL v27 v9 ([111, 118, 101, 114] : Bs)).bind fun v29 => some (.inl (w64 (v9 + 1), v10, v11, v12, v13, v14, v15, v16, v17, v18, v19, v20, v21, v22, v23, v24, v25, v26, v29, v28))) else some (.inr (v10, v11, v12, v13, v14, v15, v16, v17, v18, v19, v20, v21, v22, v23, v24, v25, v26, v27, v28))
noncomputable def zgK (o : Ops) (v31 : Int) (v32 : Int) (v33 : List zaH) (v34 : Int) (v35 : List zcX) (v36 : Int) (v37 : Int) (v38 : Int) (v39 : Bs) (v40 : Bs) (v41 : Bs) (v42 : Int) (v43 : Int) (v44 : Bool) (v45 : Bool) (v46 : Int) (v47 : Bs) (v48 : Bs) (v49 : List Bs) (v50 : List Bs) : Option ((Int × Int × (List zaH) × Int × (List zcX) × Int × Int × Int × Bs × Bs × Bs × Int × Int × Bool × Bool × Int × Bs × Bs × (List Bs) × List Bs) ⊕ ((Int × (List zaH) × Int × List zcX))) :=
 bif decide (v31 < (v50.length : Int)) then ((chk (decide ((0 : Int) ≤ v31) && decide (v31 < (v50.length : Int)))).bind fun _ => (setL v50 v31 ([111, 118, 101, 114] : Bs)).bind fun v51 => some (.inl (w64 (v31 + 1), v32, v33, v34, v35, v36, v37, v38, v39, v40, v41, v42, v43, v44, v45, v46, v47, v48, v49, v51))) else some (.inr (v32, v33, v34, v35))
noncomputable def zcT (o : Ops) (v0 : ypT) (v1 : Int) (v2 : List zaH) (v3 : Int) (v4 : List zcX) : Option ((Bool × Int × (List zaH) × Int × List zcX)) :=
 bif (v0.2.1 == 0) then ((app ([] : List Bs) v0.2.2.2.2.2.2.2.2.2.2.2.1).bind fun v5 => (app ([] : List Bs) v0.2.2.2.2.2.2.2.2.2.2.2.2.2.2.2.2.1).bind fun v6 => (zcV o v0.2.2.2.2.2.1 v0.2.2.2.2.2.2.1 v0.2.2.2.2.2.2.2.1 v0.2.2.2.2.2.2.2.2.1 v0.2.2.2.2.2.2.2.2.2.1 v0.2.2.2.2.2.2.2.2.2.2.1 v0.2.2.2.2.2.2.2.2.2.2.2.2.1 v0.2.2.2.2.2.2.2.2.2.2.2.2.2.1 v0.2.2.2.2.2.2.2.2.2.2.2.2.2.2.1 v0.2.2.2.2.2.2.2.2.2.2.2.2.2.2.2.1 v0.2.2.2.2.2.2.2.2.2.2.2.2.2.2.2.2.2.1 v0.2.2.2.2.2.2.2.2.2.2.2.2.2.2.2.2.2.2.1 v0.2.2.2.2.2.2.2.2.2.2.2.2.2.2.2.2.2.2.2 v0.2.2.1 v1 v5 v6 v4).bind fun v7 => (zbM o v0.2.2.2.2.2 v0.2.2.1 v2 v3).bind fun v8 => (iter (fun x => zgT o x.1 x.2.1 x.2.2.1 x.2.2.2.1 x.2.2.2.2.1 x.2.2.2.2.2.1 x.2.2.2.2.2.2.1 x.2.2.2.2.2.2.2.1 x.2.2.2.2.2.2.2.2.1 x.2.2.2.2.2.2.2.2.2.1 x.2.2.2.2.2.2.2.2.2.2.1 x.2.2.2.2.2.2.2.2.2.2.2.1 x.2.2.2.2.2.2.2.2.2.2.2.2.1 x.2.2.2.2.2.2.2.2.2.2.2.2.2.1 x.2.2.2.2.2.2.2.2.2.2.2.2.2.2.1 x.2.2.2.2.2.2.2.2.2.2.2.2.2.2.2.1 x.2.2.2.2.2.2.2.2.2.2.2.2.2.2.2.2.1 x.2.2.2.2.2.2.2.2.2.2.2.2.2.2.2.2.2.1 x.2.2.2.2.2.2.2.2.2.2.2.2.2.2.2.2.2.2.1 x.2.2.2.2.2.2.2.2.2.2.2.2.2.2.2.2.2.2.2) ((0 : Int), v7.2.2.1, v8.2.2.1, v8.2.2.2, v7.2.2.2.2.2, v0.2.2.2.2.2.1, v0.2.2.2.2.2.2.1, v0.2.2.2.2.2.2.2.1, v0.2.2.2.2.2.2.2.2.1, v0.2.2.2.2.2.2.2.2.2.1, v0.2.2.2.2.2.2.2.2.2.2.1, v0.2.2.2.2.2.2.2.2.2.2.2.2.1, v0.2.2.2.2.2.2.2.2.2.2.2.2.2.1, v0.2.2.2.2.2.2.2.2.2.2.2.2.2.2.1, v0.2.2.2.2.2.2.2.2.2.2.2.2.2.2.2.1, v0.2.2.2.2.2.2.2.2.2.2.2.2.2.2.2.2.2.1, v0.2.2.2.2.2.2.2.2.2.2.2.2.2.2.2.2.2.2.1, v0.2.2.2.2.2.2.2.2.2.2.2.2.2.2.2.2.2.2.2, v7.2.2.2.1, v7.2.2.2.2.1)).bind fun v30 => (iter (fun x => zgK o x.1 x.2.1 x.2.2.1 x.2.2.2.1 x.2.2.2.2.1 x.2.2.2.2.2.1 x.2.2.2.2.2.2.1 x.2.2.2.2.2.2.2.1 x.2.2.2.2.2.2.2.2.1 x.2.2.2.2.2.2.2.2.2.1 x.2.2.2.2.2.2.2.2.2.2.1 x.2.2.2.2.2.2.2.2.2.2.2.1 x.2.2.2.2.2.2.2.2.2.2.2.2.1 x.2.2.2.2.2.2.2.2.2.2.2.2.2.1 x.2.2.2.2.2.2.2.2.2.2.2.2.2.2.1 x.2.2.2.2.2.2.2.2.2.2.2.2.2.2.2.1 x.2.2.2.2.2.2.2.2.2.2.2.2.2.2.2.2.1 x.2.2.2.2.2.2.2.2.2.2.2.2.2.2.2.2.2.1 x.2.2.2.2.2.2.2.2.2.2.2.2.2.2.2.2.2.2.1 x.2.2.2.2.2.2.2.2.2.2.2.2.2.2.2.2.2.2.2) ((0 : Int), v30)).bind fun v52 => bif (v7.1 == v8.1) then some ((v7.2.1 == v8.2.1), v52) else some (false, v52)) else (bif (v0.2.1 == 1) then ((zdA o v0.2.2.1 v1 v4).bind fun v53 => (zaD o v0.2.2.1 v2 v3).bind fun v54 => (zbE o v0.2.2.2.2.1 v53.2.2.1 v53.2.2.2).bind fun v55 => (zbA o v0.2.2.2.2.1 v54.2.2.1 v54.2.2.2).bind fun v56 => bif (v53.2.1 == v54.2.1) then (bif (v55.2.1 == v56.2.1) then ((zdF o v53.1 v54.1).bind fun v57 => bif v57 then ((zdF o v55.1 v56.1).bind fun v58 => bif v58 then ((zaJ o v0.2.2.1 v0.2.2.2.1 v55.2.2.1 v55.2.2.2).bind fun v59 => (zaO o v0.2.2.1 v0.2.2.2.1 v56.2.2.1 v56.2.2.2).bind fun v60 => bif (v59.1 == v60.1) then ((zbD o v0.2.2.1 v59.2.1 v59.2.2).bind fun v61 => (zaP o v0.2.2.1 v60.2.1 v60.2.2).bind fun v62 => (zdN o v61.1 v62.2.2).bind fun v63 => some (v63, v61.2.1, v62.1, v62.2.1, v61.2.2)) else some (false, v59.2.1, v60.2.1, v60.2.2, v59.2.2)) else some (false, v55.2.2.1, v56.2.2.1, v56.2.2.2, v55.2.2.2)) else some (false, v55.2.2.1, v56.2.2.1, v56.2.2.2, v55.2.2.2)) else some (false, v55.2.2.1, v56.2.2.1, v56.2.2.2, v55.2.2.2)) else some (false, v55.2.2.1, v56.2.2.1, v56.2.2.2, v55.2.2.2)) else (bif (v0.2.1 == 2) then ((zeY o v0.2.2.1 v0.2.2.2.1 v1 v4).bind fun v64 => (zbL o v0.2.2.1 v0.2.2.2.1 v2 v3).bind fun v65 => some ((v64.1 == v65.1), v64.2.1, v65.2.1, v65.2.2, v64.2.2)) else (bif (v0.2.1 == 3) then ((zdS o v0.2.2.1 v1 v4).bind fun v66 => (zaY o v0.2.2.1 v2 v3).bind fun v67 => some ((v66.1 == v67.1), v66.2.1, v67.2.1, v67.2.2, v66.2.2)) else (bif (v0.2.1 == 4) then ((zeJ o v0.2.2.2.2.1 v1 v4).bind fun v68 => (zbI o v0.2.2.2.2.1 v2 v3).bind fun v69 => some ((v68.1 == v69.1), v68.2.1, v69.2.1, v69.2.2, v68.2.2)) else (bif (v0.2.1 == 5) then ((zfG o v0.2.2.1 v0.2.2.2.1 v1 v4).bind fun v70 => (zbU o v0.2.2.1 v0.2.2.2.1 v2 v3).bind fun v71 => some ((v70.1 == v71.1), v70.2.1, v71.2.1, v71.2.2, v70.2.2)) else (bif (v0.2.1 == 6) then ((zfF o v0.2.2.1 v0.2.2.2.2.1 v1 v4).bind fun v72 => (zbV o v0.2.2.1 v0.2.2.2.2.1 v2 v3).bind fun v73 => some ((v72.1 == v73.1), v72.2.1, v73.2.1, v73.2.2, v72.2.2)) else (bif (v0.2.1 == 7) then ((zaX o v0.2.2.1 v1 v4).bind fun v74 => (zaW o v0.2.2.1 v2 v3).bind fun v75 => some ((v74.1 == v75.1), v74.2.1, v75.2.2, v75.2.1, v74.2.2)) else some (true, v1, v2, v3, v4))))))))
noncomputable def zgO (o : Ops) : SC := ⟨⟨[(0, (.ptr 0 0)), (1, (.ptr 1 0)), (2, (.h zxW))], [zsQ, zbS, zkU]⟩, 1, [(none, ⟨[(0, hB)], [zsQ, zbS, yjW]⟩)], fun x => zcT o x.1 x.2.1 x.2.2.1 x.2.2.2.1 x.2.2.2.2⟩
theorem zjR : SCok Tryz.prog tabs 21 (zgO o) := zeA (o := o) (η := [(200009, .loop [] ⟨[(7, (.ptr 3 0)), (12, hI)], [zsQ, zbS, yjW, yvO, .osl .s 9, .osl .s 9]⟩ [6, 8, 9, 10, 11] [(some 1, ⟨[(7, (.ptr 3 0))], [zsQ, zbS, yjW, yvO, .osl .s 9, .osl .s 9]⟩)]),
 (200013, .loop [] ⟨[(7, (.ptr 3 0)), (13, hI)], [zsQ, zbS, yjW, yvO, .osl .s 9, .osl .s 9]⟩ [6, 8, 9, 10, 11] [(some 3, ⟨[], [zsQ, zbS, yjW]⟩)]),
 (4000022, .sch [(.pu, 0, []), (.pu, 1, []), (.pu, 2, []), (.pu, 3, []), (.pu, 4, []), (.pu, 5, []), (.pu, 6, []), (.pu, 7, []), (.pu, 8, []), (.pu, 9, []), (.pu, 10, []), (.mn, 11, []), (.pu, 12, []), (.pu, 13, []), (.pu, 14, []), (.pu, 15, []), (.mn, 16, []), (.pu, 17, []), (.pu, 18, []), (.pu, 19, []), (.pu, 20, []), (.pu, 21, []), (.pu, 22, []), (.pu, 23, []), (.pu, 25, [0, 2]), (.pu, 26, [0, 2]), (.pu, 27, [0, 2]), (.pu, 28, [0, 2]), (.pu, 29, [0, 2]), (.mn, 24, [0, 2]), (.mn, 30, [1]), (.pu, 31, []), (.pu, 32, []), (.pu, 33, []), (.pu, 34, []), (.pu, 35, []), (.pu, 36, []), (.pu, 38, [0, 2]), (.pu, 39, [0, 2]), (.pu, 40, [0, 2]), (.mn, 37, [0, 2]), (.mn, 41, [1]), (.mn, 42, []), (.pu, 43, []), (.pu, 44, [])]),
 (4000024, .sch [(.pu, 0, []), (.pu, 1, []), (.pu, 2, []), (.pu, 3, []), (.pu, 4, []), (.pu, 6, [0, 2]), (.pu, 7, [0, 2]), (.pu, 8, [0, 2]), (.pu, 9, [0, 2]), (.pu, 10, [0, 2]), (.mn, 5, [0, 2]), (.mn, 11, [1]), (.pu, 12, []), (.pu, 13, [])]),
 (4000026, .sch [(.pu, 0, []), (.pu, 1, []), (.pu, 2, []), (.pu, 4, [0, 2]), (.pu, 5, [0, 2]), (.pu, 6, [0, 2]), (.mn, 3, [0, 2]), (.mn, 7, [1]), (.pu, 8, []), (.pu, 9, [])]),
 (4000028, .sch [(.pu, 0, []), (.pu, 1, []), (.pu, 2, []), (.pu, 4, [0, 2]), (.pu, 5, [0, 2]), (.pu, 6, [0, 2]), (.mn, 3, [0, 2]), (.mn, 7, [1]), (.pu, 8, []), (.pu, 9, [])]),
 (4000030, .sch [(.pu, 0, []), (.pu, 1, []), (.pu, 2, []), (.pu, 3, []), (.pu, 4, []), (.pu, 6, [0, 2]), (.pu, 7, [0, 2]), (.pu, 8, [0, 2]), (.pu, 9, [0, 2]), (.pu, 10, [0, 2]), (.mn, 5, [0, 2]), (.mn, 11, [1]), (.pu, 12, []), (.pu, 13, [])]),
 (4000032, .sch [(.pu, 0, []), (.pu, 1, []), (.pu, 2, []), (.pu, 3, []), (.pu, 4, []), (.pu, 6, [0, 2]), (.pu, 7, [0, 2]), (.pu, 8, [0, 2]), (.pu, 9, [0, 2]), (.pu, 10, [0, 2]), (.mn, 5, [0, 2]), (.mn, 11, [1]), (.pu, 12, []), (.pu, 13, [])]),
 (4000034, .sch [(.pu, 0, []), (.pu, 1, []), (.pu, 2, []), (.pu, 4, [0, 2]), (.pu, 5, [0, 2]), (.pu, 6, [0, 2]), (.mn, 3, [0, 2]), (.mn, 7, [1]), (.pu, 8, []), (.pu, 9, [])])]) (Γ := ⟨[(41, (zlG o)), (58, (ziW o))], [(20, (zjP o)), (55, (zfQ o)), (52, (ziS o)), (56, (zaF o)), (36, (zbZ o)), (40, (zdK o)), (22, (zcG o)), (57, (zbP o)), (25, (zcA o)), (59, (zbO o)), (60, (zlE o)), (61, (zfK o)), (24, (ziI o)), (62, (zdJ o)), (26, (zkF o)), (63, (zfD o)), (64, (zmD o)), (65, (zgG o)), (66, (zmV o)), (67, (zgF o)), (31, (zbR o)), (68, (zcZ o))], false⟩) (ctok ⟨zrO, ⟨zpA, trivial⟩⟩ ⟨zqI, ⟨zlS, ⟨znB, ⟨zaL, ⟨zdB, ⟨zgE, ⟨zdI, ⟨zdD, ⟨zdC, ⟨zdH, ⟨zrL, ⟨zlW, ⟨zmF, ⟨zgH, ⟨zqD, ⟨zkT, ⟨zsE, ⟨zmN, ⟨zsR, ⟨zmG, ⟨zcW, ⟨zfX, trivial⟩⟩⟩⟩⟩⟩⟩⟩⟩⟩⟩⟩⟩⟩⟩⟩⟩⟩⟩⟩⟩⟩) Tryz.func21
noncomputable def zhN (o : Ops) (v0 : List ypT) (v3 : Int) (v4 : Int) (v5 : List zaH) (v6 : Int) (v7 : List zcX) : Option ((Int × Int × (List zaH) × Int × List zcX) ⊕ ((Int × List zcX))) :=
 bif decide (v3 < (v0.length : Int)) then ((idx v0 v3).bind fun v8 => (zcT o v8 v4 v5 v6 v7).bind fun v9 => some (.inl (w64 (v3 + 1), v9.2))) else some (.inr (v4, v7))
noncomputable def zeZ (o : Ops) (v0 : List ypT) : Option ((Int × List zcX)) :=
 (ziC o).bind fun v1 => (zdT o).bind fun v2 => (iter (fun x => zhN o v0 x.1 x.2.1 x.2.2.1 x.2.2.2.1 x.2.2.2.2) ((0 : Int), v1.1, ([] : List zaH), v2, v1.2)).bind fun v10 => some v10
noncomputable def zlO (o : Ops) : SC := ⟨⟨[(0, (.h (.sl zxW)))], []⟩, 1, [(none, ⟨[(0, (.ptr 0 0))], [zmC, zkU]⟩)], fun x => zeZ o x⟩
theorem zrD : SCok Tryz.prog tabs 17 (zlO o) := zeA (o := o) (η := [(200006, .loop [] ⟨[(3, (.ptr 0 0)), (4, (.ptr 1 0)), (5, hI)], [zsQ, zbS, zkU]⟩ [0, 2] [(some 0, ⟨[(3, (.ptr 0 0))], [zmC, zkU]⟩)])]) (Γ := ⟨[], [(27, (znP o)), (18, (zhY o)), (21, (zgO o))], false⟩) (ctok trivial ⟨zpR, ⟨zmK, ⟨zjR, trivial⟩⟩⟩) Tryz.func17
end
theorem ykH {nx : Int} {es : Es} (h : Ok nx es) (n : Nd) (now : Int) (hl : Lst n) :
  zcV zaB n.1 n.2.1 n.2.2.1 n.2.2.2.1 n.2.2.2.2.1 n.2.2.2.2.2.1 n.2.2.2.2.2.2.2.1 n.2.2.2.2.2.2.2.2.1 n.2.2.2.2.2.2.2.2.2.1 n.2.2.2.2.2.2.2.2.2.2.1 n.2.2.2.2.2.2.2.2.2.2.2.2.1 n.2.2.2.2.2.2.2.2.2.2.2.2.2.1 n.2.2.2.2.2.2.2.2.2.2.2.2.2.2 now nx (zdR n) (nact n) es =
  some ((zeR n now nx es).1, (zeR n now nx es).2.1, (zeR n now nx es).2.2.1, zdR n, nact n, (zeR n now nx es).2.2.2) := by
 unfold zcV zeR
 rw [show zeQ zaB _ = some (mayB n) from ylV n hl.1, zaA]
 cases hm : mayB n with
 | false => rfl
 | true =>
  simp only [Bool.not_true, cond_false]
  rw [ztA h, zaA]
  cases hf : zuE es n.2.2.2.2.2.2.2.2.2.2.2.2.2.1 with
  | some q => rfl
  | none =>
   simp only [Option.isSome_none, Option.getD_none, cond_false]
   have hj : zdV zaB n.1 n.2.1 n.2.2.1 n.2.2.2.1 n.2.2.2.2.1 n.2.2.2.2.2.1 n.2.2.2.2.2.2.2.1 n.2.2.2.2.2.2.2.2.1 n.2.2.2.2.2.2.2.2.2.1 n.2.2.2.2.2.2.2.2.2.2.1 n.2.2.2.2.2.2.2.2.2.2.2.2.1 n.2.2.2.2.2.2.2.2.2.2.2.2.2.1 n.2.2.2.2.2.2.2.2.2.2.2.2.2.2 (zdR n) (nact n) (zN, false, nx, es) = some (bif zuS es (npar n) then .inl (0, 133, nx, zdR n, nact n, es) else .inr (nx, zdR n, nact n, es, n.1, n.2.1, n.2.2.1, n.2.2.2.1, n.2.2.2.2.1, n.2.2.2.2.2.1, n.2.2.2.2.2.2.2.1, n.2.2.2.2.2.2.2.2.1, n.2.2.2.2.2.2.2.2.2.1, n.2.2.2.2.2.2.2.2.2.2.1, n.2.2.2.2.2.2.2.2.2.2.2.2.1, n.2.2.2.2.2.2.2.2.2.2.2.2.2.1, n.2.2.2.2.2.2.2.2.2.2.2.2.2.2)) := by
    unfold zdV zuS
    simp only []
    by_cases hp : npar n > 0
    ·rw [zkS (p := n.2.2.1 > 0) hp, decide_eq_true hp, ycF h, zaA]
     show (bif (!(mhas keqI es (npar n))) then _ else _) = _
     cases mhas keqI es (npar n) with
     | false => rfl
     | true =>
      simp only [Bool.not_true, cond_false, Bool.true_and, Bool.false_or]
      cases zpP es (npar n) <;> rfl
    ·rw [zoU (p := n.2.2.1 > 0) hp, decide_eq_false hp]
     rfl
   rw [show zdV zaB n.1 n.2.1 n.2.2.1 n.2.2.2.1 n.2.2.2.2.1 n.2.2.2.2.2.1 n.2.2.2.2.2.2.2.1 n.2.2.2.2.2.2.2.2.1 n.2.2.2.2.2.2.2.2.2.1 n.2.2.2.2.2.2.2.2.2.2.1 n.2.2.2.2.2.2.2.2.2.2.2.2.1 n.2.2.2.2.2.2.2.2.2.2.2.2.2.1 n.2.2.2.2.2.2.2.2.2.2.2.2.2.2 _ _ _ = _ from hj, zaA]
   cases zuS es (npar n) with
   | true => rfl
   | false =>
    simp only [cond_false]
    rw [zvH h, zaA]
    unfold zkG
    simp only []
    by_cases hg : (zbY es now).length ≥ 256
    ·rw [zkS (by omega), decide_eq_true hg]
     rfl
    ·rw [zoU (by omega), decide_eq_false hg]
     by_cases hx : nx ≥ 99999999
     ·rw [zkS hx, decide_eq_true hx]
      rfl
     ·rw [zoU hx, decide_eq_false hx]
      have hnx := h.next
      have h1 : n.2.2.2.2.2.2.1.length ≤ 1048576 := hl.1
      have h2 : n.2.2.2.2.2.2.2.2.2.2.2.1.length ≤ 1048576 := hl.2
      simp only [zaA, Bool.or_false, cond_false]
      unfold zrX
      simp only []
      rw [zmA (zdR n) (Nat.le_trans h1 (by decide)), zaA, zmA (nact n) (Nat.le_trans h2 (by decide)), zaA, zmP (by omega) (by omega)]
      simp only [zaA]
      rw [zyR fun p hp => ((h.pruned now).ids p hp).2.2]
theorem yfE {nx nx' : Int} {es : Es} (h : Ok nx es) (id : Int) : zdA zaB id nx' es = some (zgZ keqI es id zN, mhas keqI es id, nx', es) := by
 unfold zdA
 simp only []
 rw [own_ok, zaA]
 cases hh : mhas keqI es id with
 | false => rw [ygO hh]; exact ⟨by decide, by decide⟩
 | true =>
  obtain ⟨n, hn, hp⟩ := zlX hh
  rw [zhT hn]
  exact h.lst hp
def zwC (es : Es) (id now : Int) : Int × Es := match mget keqI es id with
 | none => (131, es)
 | some n => bif zpH n then (134, chI es id zoA) else (bif zuU es id now then (0, chI es id ylR) else (133, es))
theorem ypV {nx nx' : Int} {es : Es} (h : Ok nx es) (id now : Int) : zeY zaB id now nx' es = some ((zwC es id now).1, nx', (zwC es id now).2) := by
 unfold zeY zwC
 cases hh : mhas keqI es id with
 | false => rw [zpW hh]; rfl
 | true =>
  obtain ⟨n, hn, hp⟩ := zlX hh
  rw [hn, zhT hn]
  simp only [Bool.not_true, cond_false]
  cases hs : zpH n with
  | true =>
   rw [show n.2.2.2.2.2.2.2.2.2.2.1 = true from hs]
   simp only [cond_true]
   rw [yfH h hh, zaA]
  | false =>
   rw [show n.2.2.2.2.2.2.2.2.2.2.1 = false from hs]
   simp only [cond_false]
   rw [zwB h, zaA]
   cases zuU es id now with
   | false => rfl
   | true =>
    simp only [Bool.not_true, cond_false, cond_true]
    unfold ziF zgN
    simp only [zaA]
    rw [hh, zqU rfl, zaA, zhT hn, zaA, ← zxA h.rises ylR hn]
def ydT (es : Es) (id l : Int) : Int × Es := match mget keqI es id with
 | none => (131, es)
 | some n => bif (n.2.1 != (1 : Int)) then (131, es) else (bif inB l 1 3 then (0, chI es id (sLev l)) else (131, es))
theorem yuK {nx nx' : Int} {es : Es} (h : Ok nx es) (id l : Int) : zfG zaB id l nx' es = some ((ydT es id l).1, nx', (ydT es id l).2) := by
 unfold zfG ydT
 cases hh : mhas keqI es id with
 | false => rw [zpW hh]; rfl
 | true =>
  obtain ⟨n, hn, hp⟩ := zlX hh
  rw [hn, zhT hn]
  simp only [Bool.not_true, cond_false]
  cases (n.2.1 != (1 : Int)) with
  | true => rfl
  | false =>
   simp only [cond_false]
   rw [yzW, zaA]
   unfold inB
   cases (decide (1 ≤ l) && decide (l ≤ 3)) with
   | false => rfl
   | true =>
    simp only [Bool.not_true, cond_false, cond_true]
    unfold ziA zhJ
    simp only [zaA]
    rw [hh, zqU rfl, zaA, zhT hn, zaA, ← zxA h.rises (sLev l) hn]
def ydL (es : Es) (id : Int) (d : L8) : Int × Es := bif mhas keqI es id && !decide ((d.length : Int) > 256) then (0, chI es id (yuJ d)) else (131, es)
theorem yxF {nx nx' : Int} {es : Es} (h : Ok nx es) (id : Int) (d : L8) : zfF zaB id d nx' es = some ((ydL es id d).1, nx', (ydL es id d).2) := by
 unfold zfF ydL
 cases hh : mhas keqI es id with
 | false => rfl
 | true =>
  obtain ⟨n, hn, hp⟩ := zlX hh
  simp only [Bool.not_true, cond_false, Bool.true_and]
  cases decide ((d.length : Int) > 256) with
  | true => rfl
  | false =>
   simp only [Bool.not_false, cond_false, cond_true]
   unfold ziD zhL
   simp only [zaA]
   rw [hh, zqU rfl, zaA, zhT hn, zaA, ← zxA h.rises (yuJ d) hn]
theorem Ok.spend {nx : Int} {es : Es} (h : Ok nx es) (id now : Int) : Ok nx (zwC es id now).2 := by
 unfold zwC
 cases mget keqI es id with
 | none => exact h
 | some n =>
  simp only []
  cases zpH n with
  | true => exact h.ch (znT _)
  | false => cases zuU es id now with
   | true => exact h.ch (zzI _)
   | false => exact h
theorem Ok.lift {nx : Int} {es : Es} (h : Ok nx es) (id l : Int) : Ok nx (ydT es id l).2 := by
 unfold ydT
 cases mget keqI es id with
 | none => exact h
 | some n =>
  simp only []
  cases (n.2.1 != (1 : Int)) with
  | true => exact h
  | false =>
   cases hl : inB l 1 3 with
   | false => exact h
   | true =>
    unfold inB at hl
    simp only [Bool.and_eq_true, decide_eq_true_eq] at hl
    exact h.ch (ydX _ hl.1 hl.2)
theorem Ok.note {nx : Int} {es : Es} (h : Ok nx es) (id : Int) (d : L8) : Ok nx (ydL es id d).2 := by
 unfold ydL
 cases hc : mhas keqI es id && !decide ((d.length : Int) > 256) with
 | false => exact h
 | true =>
  simp only [Bool.and_eq_true, Bool.not_eq_true', decide_eq_false_iff_not] at hc
  exact h.ch (yaU _ (by omega))
theorem ypY {es : Es} (h : zmZ es) {q : Int × Nd} (hq : q ∈ es) {P P' : Int × Nd → Bool} (h1 : P q = false) (h2 : P' q = true) (h3 : ∀ p ∈ es, p.1 ≠ q.1 → P' p = P p) : (es.filter P').length = (es.filter P).length + 1 := by
 induction es with
 | nil => cases hq
 | cons p m ih =>
  have hc := List.pairwise_cons.1 h
  rcases List.mem_cons.1 hq with rfl | hq
  ·rw [List.filter_cons_of_pos h2, List.filter_cons_of_neg (by rw [h1]; exact Bool.false_ne_true), List.length_cons]
   rw [List.filter_congr fun p hp => h3 p (List.mem_cons_of_mem _ hp) (by have := hc.1 p hp; omega)]
  ·have e := ih hc.2 hq fun p hp => h3 p (List.mem_cons_of_mem _ hp)
   have hp := h3 p List.mem_cons_self (by have := hc.1 q hq; omega)
   simp only [List.filter_cons, hp]
   split
   ·simp only [List.length_cons, e]
   ·exact e
theorem ytB {es : Es} (h : zmZ es) {p q : Int × Nd} (hp : p ∈ es) (hq : q ∈ es) (e : p.1 = q.1) : p = q := by
 have h1 := zgP h (k := p.1) (v := p.2) hp
 rw [e, zgP h (k := q.1) (v := q.2) hq] at h1
 exact Prod.ext e (osi h1).symm
theorem yvT {es : Es} (f : Int × Nd → Nd) (i : Int) (g : Nd → Nd) : chI (chE es f) i g = chE es fun p => if p.1 = i then g (f p) else f p := by
 unfold chI chE
 rw [List.map_map]
 rfl
theorem yzF {es : Es} {f : Int × Nd → Nd} {p : Int × Nd} (h : p ∈ es) : (p.1, f p) ∈ chE es f := List.mem_map.2 ⟨p, h, rfl⟩
def cutC (s : L8) : L8 × Bool := bif (s.take 2 == ([99, 58] : L8)) then (s.drop 2, true) else (s, false)
def xaE (s : L8) (n : Nd) : Bool := n.2.2.2.1 == s || ((cutC s).2 && ((cutC s).1 != ([] : L8) && n.2.2.2.2.1 == (cutC s).1))
def hitB (s : L8) (n : Nd) : Bool := !ycI n && xaE s n
theorem yyE (s : L8) : zdZ zaB s ([99, 58] : L8) = some (cutC s) := by
 unfold zdZ zcS zcQ cutC
 simp only [List.length_cons, List.length_nil]
 by_cases h : (s.length : Int) ≥ 2
 ·rw [zkS (by exact h), yyG (n := 2) (by omega), zaA, zaA]
  cases s.take 2 == ([99, 58] : L8) with
  | false => rfl
  | true =>
   simp only [Bool.not_true, cond_false, cond_true]
   rw [ypQ (n := 2) (by omega)]
   rfl
 ·rw [zoU (by exact h), zaA]
  have e : (s.take 2 == ([99, 58] : L8)) = false := by
   cases hb : s.take 2 == ([99, 58] : L8) with
   | false => rfl
   | true =>
    have := congrArg List.length (beq_iff_eq.1 hb)
    simp at this
    omega
  rw [e]
  rfl
def zyT (es : Es) (s : L8) : Es := chE es fun p => if hitB s p.2 = true then zoA p.2 else p.2
theorem ykF {nx : Int} {es : Es} (h : Ok nx es) (s : L8) : zeJ zaB s nx es = some (((es.filter fun p => hitB s p.2).length : Int), nx, zyT es s) := by
 have hlen := h.len
 have hle : ∀ P : Int × Nd → Bool, (es.filter P).length ≤ es.length := fun P => List.length_filter_le _ _
 unfold zeJ
 rw [yyE, zaA]
 suffices hA : rngA (fun x => zkN zaB s (cutC s) x.1 x.2.1 x.2.2.1 x.2.2.2) ((0 : Int), nx, es, List.map Prod.fst es) = some (((es.filter fun p => hitB s p.2).length : Int), nx, zyT es s) by
  rw [hA, zaA]
 refine zuN (fun x => ∃ left : List Int, x = (((es.filter fun p => !left.contains p.1 && hitB s p.2).length : Int), nx, chE es fun p => if (!left.contains p.1 && hitB s p.2) = true then zoA p.2 else p.2, left)) (fun x => x.2.2.1) (fun x => x.2.2.2) (hf := fun x => rfl) ?_ ?_ ?_
 ·rintro _ ⟨left, rfl⟩ hn
  have e : ∀ p ∈ es, (!left.contains p.1 && hitB s p.2) = hitB s p.2 := fun p hp => by
   have h1 : p.1 ∉ left := by
    have hx := yzF (f := fun p => if (!left.contains p.1 && hitB s p.2) = true then zoA p.2 else p.2) hp
    have h0 := hn _ hx
    exact h0
   have h2 : left.contains p.1 = false := by simpa using h1
   rw [h2]; rfl
  show some (Sum.inr _) = _
  rw [List.filter_congr e]
  have e2 : (chE es fun p => if (!left.contains p.1 && hitB s p.2) = true then zoA p.2 else p.2) = zyT es s := zxD fun p hp => by rw [e p hp]
  simp only [e2]
 ·rintro _ p ⟨left, rfl⟩ hp hl
  simp only [] at hp hl
  have hK : zyF es fun p => if (!left.contains p.1 && hitB s p.2) = true then zoA p.2 else p.2 := znT _
  have hO := h.ch hK
  obtain ⟨q, hq, rfl⟩ := zwA hp
  simp only [] at hl
  have hc : left.contains q.1 = true := by simpa using hl
  have hg := zgP hO.rises hp
  have hb : (!left.contains q.1 && hitB s q.2) = false := by rw [hc]; rfl
  simp only [hb, Bool.false_eq_true, if_false] at hg hp ⊢
  rw [hg, zaA]
  have hj : ∀ es', zgV zaB s (cutC s) nx es' left q q.2 = some (hitB s q.2, nx, es', rngD keqI left q.1) := fun es' => by
   unfold zgV hitB xaE ycI
   cases q.2.2.2.2.2.2.2.2.2.2.1 <;> cases (q.2.2.2.2.1 == s) <;> cases (cutC s).2 <;> cases ((cutC s).1 != ([] : L8)) <;> rfl
  rw [hj, zaA]
  have hcon : ∀ p ∈ es, p.1 ≠ q.1 → (!(rngD keqI left q.1).contains p.1) = !left.contains p.1 := fun p _ hne => by
   congr 1
   rw [Bool.eq_iff_iff]
   simp only [List.contains_iff_mem, zuT]
   exact ⟨fun h => h.1, fun h => ⟨h, hne⟩⟩
  have hq2 : (rngD keqI left q.1).contains q.1 = false := by
   cases hb : (rngD keqI left q.1).contains q.1 with
   | false => rfl
   | true => exact absurd rfl (zuT.1 (List.contains_iff_mem.1 hb)).2
  cases hh : hitB s q.2 with
  | true =>
   refine .inl ⟨_, ?_, ⟨rngD keqI left q.1, rfl⟩, rfl⟩
   simp only [cond_true]
   rw [yfH hO (zhW.2 ⟨_, hp⟩), zaA]
   have hcnt := ypY h.rises hq (P := fun p => !left.contains p.1 && hitB s p.2) (P' := fun p => !(rngD keqI left q.1).contains p.1 && hitB s p.2) hb (by simp only [hq2, hh]; rfl) fun p hp hne => by simp only [hcon p hp hne]
   rw [hcnt]
   have := hle fun p => !left.contains p.1 && hitB s p.2
   rw [zmP (by omega) (by omega), yvT]
   have e3 : (chE es fun p => if p.1 = q.1 then zoA (if (!left.contains p.1 && hitB s p.2) = true then zoA p.2 else p.2) else (if (!left.contains p.1 && hitB s p.2) = true then zoA p.2 else p.2)) = chE es fun p => if (!(rngD keqI left q.1).contains p.1 && hitB s p.2) = true then zoA p.2 else p.2 := by
    refine zxD fun p hp2 => ?_
    by_cases hne : p.1 = q.1
    ·obtain rfl := ytB h.rises hp2 hq hne
     rw [if_pos rfl, hb, hq2, hh]
     rfl
    ·rw [if_neg hne, hcon p hp2 hne]
   rw [e3]
   rfl
  | false =>
   refine .inl ⟨_, ?_, ⟨rngD keqI left q.1, rfl⟩, rfl⟩
   simp only [cond_false]
   have e4 : ∀ p ∈ es, (!left.contains p.1 && hitB s p.2) = (!(rngD keqI left q.1).contains p.1 && hitB s p.2) := fun p hp2 => by
    by_cases hne : p.1 = q.1
    ·obtain rfl := ytB h.rises hp2 hq hne
     rw [hh, Bool.and_false, Bool.and_false]
    ·rw [hcon p hp2 hne]
   rw [List.filter_congr e4]
   have e5 : (chE es fun p => if (!left.contains p.1 && hitB s p.2) = true then zoA p.2 else p.2) = chE es fun p => if (!(rngD keqI left q.1).contains p.1 && hitB s p.2) = true then zoA p.2 else p.2 := zxD fun p hp2 => by rw [e4 p hp2]
   rw [e5]
 ·have e : ∀ p ∈ es, (!(List.map Prod.fst es).contains p.1 && hitB s p.2) = false := fun p hp => by
   have : (List.map Prod.fst es).contains p.1 = true := List.contains_iff_mem.2 (List.mem_map.2 ⟨p, hp, rfl⟩)
   rw [this]; rfl
  refine ⟨List.map Prod.fst es, ?_⟩
  have e1 : (es.filter fun p => !(List.map Prod.fst es).contains p.1 && hitB s p.2) = [] := List.filter_eq_nil_iff.2 fun p hp => by rw [e p hp]; exact Bool.false_ne_true
  have e2 : (chE es fun p => if (!(List.map Prod.fst es).contains p.1 && hitB s p.2) = true then zoA p.2 else p.2) = es := by
   refine Eq.trans (List.map_congr_left fun p hp => ?_) (List.map_id es)
   show (p.1, if (!(List.map Prod.fst es).contains p.1 && hitB s p.2) = true then zoA p.2 else p.2) = p
   rw [e p hp]
   rfl
  rw [e1, e2]
  rfl
theorem Ok.killed {nx : Int} {es : Es} (h : Ok nx es) (s : L8) : Ok nx (zyT es s) := h.ch (znT _)
section
theorem zbW {k : Nat} (h : k < 1099511627776) : w64 ((k : Int) + 1) = ((k + 1 : Nat) : Int) := by rw [zmP (by omega) (by omega)]; omega
theorem T.ixn {α : Type} {l : List α} {k : Nat} (h : (k : Int) < (l.length : Int)) : T (Go.Proofs.YtebbcofojchkpaaGreatDoor.idx l (k : Int)) fun x => x ∈ l := ⟨_, zmM rfl (by omega), List.getElem_mem _⟩
theorem yiL (b : UInt8) : T (zcO zaB b) fun _ => True := by
 unfold zcO
 repeat' first | exact T.ok trivial | refine T.bif (fun _ => ?_) fun _ => ?_
theorem yfM {s : L8} (h : s.length ≤ 1048576) : T (zcI zaB s) fun _ => True := by
 unfold zcI
 refine T.bind (Q := fun _ => True) (T.places s.length (by omega) _ fun k hk => ?_) fun r _ => ?_
 ·unfold zlL
  exact T.dif (fun h2 => (T.ixn h2).bind fun _ _ => (yiL _).bind fun _ _ => T.bif (fun _ => T.ok trivial) fun _ => T.ok ⟨zbW (by omega), by omega⟩) fun _ => T.ok trivial
 ·cases r
  ·exact T.ok trivial
  ·exact T.bif (fun _ => T.ok trivial) fun _ => T.ok trivial
theorem yoH {s : L8} (h : s.length ≤ 1048576) : T (zbJ zaB s) fun _ => True := by
 have hs : ∀ {n : Int} (hn : n ≤ (s.length : Int)) (h0 : 0 ≤ n), T (subL s n) fun r => r.length ≤ 1048576 := fun {n} hn h0 => by
  obtain ⟨k, rfl⟩ : ∃ k : Nat, n = k := ⟨n.toNat, by omega⟩
  refine ⟨_, ypQ (by omega), ?_⟩
  show (s.drop k).length ≤ 1048576
  rw [List.length_drop]
  omega
 unfold zbJ
 refine T.dif (fun h => (yiP (by omega) (by omega)).bind fun _ _ => T.bif (fun _ => (hs (by omega) (by omega)).bind fun _ hr => (yfM hr).bind fun _ _ => T.ok trivial) fun _ => (yiP (by omega) (by omega)).bind fun _ _ => T.bif (fun _ => (hs (by omega) (by omega)).bind fun _ hr => (yfM hr).bind fun _ _ => T.ok trivial) fun _ => T.ok trivial) fun _ => T.ok trivial
theorem yfZ {s : L8} (h : s.length ≤ 1048576) : T (zcF zaB s) fun _ => True := by
 unfold zcF
 refine T.bind (Q := fun _ => True) (T.places s.length (by omega) _ fun k hk => ?_) fun r _ => ?_
 ·unfold zlF
  exact T.dif (fun h2 => (T.ixn h2).bind fun _ _ => T.bif (fun _ => T.ok trivial) fun _ => (T.ixn h2).bind fun _ _ => T.bif (fun _ => T.ok trivial) fun _ => T.ok ⟨zbW (by omega), by omega⟩) fun _ => T.ok trivial
 ·cases r
  ·exact T.ok trivial
  ·exact T.bif (fun _ => T.ok trivial) fun _ => T.ok trivial
theorem yiG {s : L8} (h : s.length ≤ 1048576) : T (zcU zaB s) fun _ => True := by
 unfold zcU
 refine T.bind (Q := fun _ => True) (T.places s.length (by omega) _ fun k hk => ?_) fun r _ => ?_
 ·unfold zjS
  exact T.dif (fun h2 => (T.ixn h2).bind fun _ _ => (yiL _).bind fun _ _ => T.bif (fun _ => (T.ixn h2).bind fun _ _ => T.bif (fun _ => T.ok trivial) fun _ => T.ok ⟨zbW (by omega), by omega⟩) fun _ => T.ok ⟨zbW (by omega), by omega⟩) fun _ => T.ok trivial
 ·cases r
  ·exact T.ok trivial
  ·exact T.bif (fun _ => T.ok trivial) fun _ => T.ok trivial
theorem yuO {l : List L8} (h : l.length ≤ 1048576) (hs : ∀ s ∈ l, s.length ≤ 1048576) (m k : Int) : T (zeI zaB l m k) fun _ => True := by
 unfold zeI
 refine T.bind (Q := fun _ => True) (T.places l.length (by omega) _ fun i hi => ?_) fun r _ => ?_
 ·unfold zkL
  refine T.dif (fun h2 => ?_) fun _ => T.ok trivial
  have e : w64 ((i : Int) - 1) = (i : Int) - 1 := zmP (by omega) (by omega)
  rw [e]
  have hn : ∀ {P : Int ⊕ (Bool ⊕ Unit) → Prop}, P (.inl (w64 ((i : Int) + 1))) → P (.inr (.inl false)) → T (bif decide ((i : Int) > 0) then (Option.bind (idx l (i : Int)) fun v8 => Option.bind (idx l ((i : Int) - (1 : Int))) fun v9 => bif (Op.bytesLess v8 v9 || v8 == v9) then some (.inr (.inl false)) else some (.inl (w64 ((i : Int) + (1 : Int))))) else some (.inl (w64 ((i : Int) + (1 : Int))))) P := fun h3 h4 =>
   T.dif (fun h0 => (T.ixn h2).bind fun _ _ => (T.ix (by omega) (by omega)).bind fun _ _ => T.bif (fun _ => T.ok h4) fun _ => T.ok h3) fun _ => T.ok h3
  have h3 : w64 ((i : Int) + 1) = ((i + 1 : Nat) : Int) ∧ i < l.length := ⟨zbW (by omega), by omega⟩
  refine T.bif (fun _ => (T.ixn h2).bind fun _ hx => (yfZ (hs _ hx)).bind fun _ _ => T.bif (fun _ => T.ok trivial) fun _ => ?_) fun _ => ?_
  ·exact T.bif (fun _ => (T.ixn h2).bind fun _ hx => (yiG (hs _ hx)).bind fun _ _ => T.bif (fun _ => T.ok trivial) fun _ => hn h3 trivial) fun _ => hn h3 trivial
  ·exact T.bif (fun _ => (T.ixn h2).bind fun _ hx => (yiG (hs _ hx)).bind fun _ _ => T.bif (fun _ => T.ok trivial) fun _ => hn h3 trivial) fun _ => hn h3 trivial
 ·cases r <;> exact T.ok trivial
def NdOk (n : Nd) : Prop := n.2.2.2.1.length ≤ 1048576 ∧ n.2.2.2.2.1.length ≤ 1048576 ∧ n.2.2.2.2.2.1.length ≤ 1048576 ∧ n.2.2.2.2.2.2.1.length ≤ 1048576 ∧ (∀ s ∈ n.2.2.2.2.2.2.1, s.length ≤ 1048576) ∧ n.2.2.2.2.2.2.2.2.2.2.2.1.length ≤ 1048576 ∧ ∀ s ∈ n.2.2.2.2.2.2.2.2.2.2.2.1, s.length ≤ 1048576
theorem yyU {n : Nd} (h : NdOk n) : T (zfH zaB n) fun b => b = true → 0 ≤ npar n := by
 obtain ⟨h1, h2, h3, h4, h5, h6, h7⟩ := h
 unfold zfH
 refine T.bind (Q := fun r => match r with
  | .inl b => b = false
  | .inr m => m = n ∧ 0 ≤ npar n) ?_ fun r hr => ?_
 ·unfold zmT
  refine T.dif (fun _ => T.ok rfl) fun _ => T.dif (fun _ => T.ok rfl) fun _ => T.dif (fun _ => T.ok rfl) fun hp => (yoH h1).bind fun _ _ => T.bif (fun _ => T.ok rfl) fun _ => ?_
  have hp : 0 ≤ npar n := by show 0 ≤ n.2.2.1; omega
  refine T.bif (fun _ => (yfM h2).bind fun _ _ => T.bif (fun _ => T.ok rfl) fun _ => ?_) fun _ => ?_
  ·exact T.bif (fun _ => (yfZ h3).bind fun _ _ => T.bif (fun _ => T.ok rfl) fun _ => T.ok ⟨rfl, hp⟩) fun _ => T.ok ⟨rfl, hp⟩
  ·exact T.bif (fun _ => (yfZ h3).bind fun _ _ => T.bif (fun _ => T.ok rfl) fun _ => T.ok ⟨rfl, hp⟩) fun _ => T.ok ⟨rfl, hp⟩
 ·cases r with
  | inl b => exact T.ok fun e => by rw [hr] at e; cases e
  | inr m =>
   obtain ⟨rfl, hp⟩ := hr
   refine T.bind (Q := fun r => match r with
    | .inl b => True
    | .inr m' => m' = m) (T.iter (fun x => x.2 = m ∧ 0 ≤ x.1 ∧ x.1 ≤ (m.2.2.2.2.2.2.2.2.2.2.2.1.length : Int)) (fun x => m.2.2.2.2.2.2.2.2.2.2.2.1.length - x.1.toNat) _ (fun x hx => ?_) ⟨rfl, Int.le_refl _, by simp⟩ (by simp; omega)) fun r hr => ?_
   ·obtain ⟨i, v⟩ := x
    obtain ⟨rfl, h8, h9⟩ := hx
    simp only at h8 h9
    obtain ⟨k, rfl⟩ : ∃ k : Nat, i = k := ⟨i.toNat, by omega⟩
    unfold zmR
    simp only [] at h6 h7 ⊢
    refine T.dif (fun h2 => (T.ixn h2).bind fun _ hx => (yoH (h7 _ hx)).bind fun _ _ => T.bif (fun _ => T.ok trivial) fun _ => T.ok ⟨⟨rfl, ?_, ?_⟩, ?_⟩) fun _ => T.ok rfl
    ·rw [zbW (by omega)]; omega
    ·rw [zbW (by omega)]; omega
    ·rw [zbW (by omega)]; omega
   ·cases r with
    | inl b => exact T.ok fun _ => hp
    | inr m' =>
     simp only at hr
     subst hr
     refine T.bind (Q := fun r => r.2 = m') ?_ fun r hr => ?_
     ·unfold zmQ
      exact T.dif (fun _ => T.dif (fun _ => T.dif (fun _ => T.ok rfl) fun _ => T.ok rfl) fun _ => T.ok rfl) fun _ => T.ok rfl
     ·obtain ⟨b, v⟩ := r
      simp only at hr
      subst hr
      refine T.bif (fun _ => (yuO h4 h5 _ _).bind fun _ _ => T.bif (fun _ => ?_) fun _ => T.ok fun _ => hp) fun _ => T.ok fun _ => hp
      simp only []
      repeat' first | exact T.ok fun _ => hp | refine T.bif (fun _ => ?_) fun _ => ?_
structure RY (L : List Nd) (nx : Int) : Prop where
 ids : ∀ n ∈ L, n.1 < nx ∧ 0 ≤ npar n ∧ npar n < n.1
 ok : ∀ n ∈ L, NdOk n
 next : 1 ≤ nx ∧ nx ≤ 99999999
 len : L.length ≤ 256
variable {L : List Nd} {nx : Int}
theorem at_t (hl : L.length ≤ 256) (id : Int) : T (zaK zaB id L nx) fun r => r.2 = (L, nx) ∧ ((r.1 = -1 ∧ ∀ n ∈ L, n.1 ≠ id) ∨ ∃ (k : Nat) (hk : k < L.length), r.1 = (k : Int) ∧ L[k].1 = id) := by
 unfold zaK
 refine T.bind (Q := fun r => match r with
  | .inl v => v.2 = (L, nx) ∧ ∃ (k : Nat) (hk : k < L.length), v.1 = (k : Int) ∧ L[k].1 = id
  | .inr v => v = (L, nx) ∧ ∀ n ∈ L, n.1 ≠ id) (T.iter (fun x => x.2 = (L, nx) ∧ 0 ≤ x.1 ∧ x.1 ≤ (L.length : Int) ∧ ∀ n ∈ L.take x.1.toNat, n.1 ≠ id) (fun x => L.length - x.1.toNat) _ (fun x hx => ?_) ⟨rfl, Int.le_refl _, by simp, by simp⟩ (by simp; omega)) fun r hr => ?_
 ·obtain ⟨i, v⟩ := x
  obtain ⟨rfl, h8, h9, h10⟩ := hx
  simp only at h8 h9 h10
  obtain ⟨k, rfl⟩ : ∃ k : Nat, i = k := ⟨i.toNat, by omega⟩
  rw [Int.toNat_natCast] at h10
  unfold zhU
  simp only []
  refine T.dif (fun h2 => ?_) fun h2 => T.ok ⟨rfl, ?_⟩
  ·have hk : k < L.length := by omega
   rw [zmM rfl hk, zaA]
   refine T.bif (fun he => T.ok ⟨rfl, k, hk, rfl, beq_iff_eq.1 he⟩) fun he => T.ok ⟨⟨rfl, ?_, ?_, ?_⟩, ?_⟩
   ·simp only []; rw [zbW (by omega)]; omega
   ·simp only []; rw [zbW (by omega)]; omega
   ·simp only []
    rw [zbW (by omega), Int.toNat_natCast, List.take_succ_eq_append_getElem hk]
    intro n hn
    rcases List.mem_append.1 hn with hn | hn
    ·exact h10 n hn
    ·rw [List.mem_singleton] at hn
     subst hn
     intro e
     rw [beq_iff_eq.2 e] at he
     cases he
   ·simp only []; rw [zbW (by omega)]; omega
  ·rw [List.take_of_length_le (by omega)] at h10
   exact h10
 ·cases r with
  | inl v => exact T.ok ⟨hr.1, .inr hr.2⟩
  | inr v => exact T.ok ⟨hr.1, .inl ⟨rfl, hr.2⟩⟩
theorem zzF (hl : L.length ≤ 256) (id : Int) : T (zaD zaB id L nx) fun r => r.2.2 = (L, nx) ∧ ((r.2.1 = true ∧ r.1 ∈ L ∧ r.1.1 = id) ∨ (r.2.1 = false ∧ r.1 = zN)) := by
 unfold zaD
 refine (at_t hl id).bind fun r hr => ?_
 obtain ⟨i, v⟩ := r
 obtain ⟨rfl, hr⟩ := hr
 simp only []
 refine T.dif (fun _ => T.ok ⟨rfl, .inr ⟨rfl, rfl⟩⟩) fun hi => ?_
 rcases hr with ⟨h1, _⟩ | ⟨k, hk, h1, h2⟩
 ·simp only at h1; omega
 ·simp only at h1
  subst h1
  rw [zmM rfl hk, zaA]
  exact T.ok ⟨rfl, .inl ⟨rfl, List.getElem_mem hk, h2⟩⟩
theorem ygL (h : RY L nx) (id : Int) : T (zaP zaB id L nx) fun r => r.1 = L ∧ r.2.1 = nx ∧ r.2.2.length ≤ 99999999 := by
 have hl := h.len
 have hnx := h.next
 unfold zaP
 refine (at_t hl id).bind fun r hr => ?_
 obtain ⟨i, v⟩ := r
 obtain ⟨rfl, hr⟩ := hr
 simp only [] at hr ⊢
 refine T.bind (Q := fun r => r.1 = L ∧ r.2.1 = nx ∧ r.2.2.length ≤ 99999999) (T.iter (fun x => x.2.1 = L ∧ x.2.2.1 = nx ∧ (x.1 = -1 ∧ x.2.2.2.length ≤ 99999999 ∨ ∃ (k : Nat) (hk : k < L.length), x.1 = (k : Int) ∧ x.2.2.2.length + L[k].1.toNat < 99999999)) (fun x => if x.1 < 0 then 0 else (match L[x.1.toNat]? with | some n => n.1.toNat + 1 | none => 0)) _ (fun x hx => ?_) ⟨rfl, rfl, ?_⟩ ?_) fun r hr => T.ok hr
 ·obtain ⟨j, L', nx', acc⟩ := x
  obtain ⟨e1, e2, hx⟩ := hx
  simp only at e1 e2 hx
  subst e1 e2
  unfold zgD
  simp only []
  rcases hx with ⟨rfl, ha⟩ | ⟨k, hk, rfl, ha⟩
  ·rw [zoU (by omega)]
   exact T.ok ⟨rfl, rfl, ha⟩
  ·have hn := h.ids _ (List.getElem_mem hk)
   rw [zkS (by omega), zmM rfl hk, zaA, zuQ (by simp; omega), zaA, zaA]
   refine (at_t hl _).bind fun r hr => ?_
   obtain ⟨i2, v⟩ := r
   obtain ⟨rfl, hr⟩ := hr
   simp only [] at hr
   rw [show (L'[k].2.2.1) = npar L'[k] from rfl] at hr
   rcases hr with ⟨rfl, _⟩ | ⟨k2, hk2, rfl, h2⟩
   ·refine T.ok ⟨⟨rfl, rfl, .inl ⟨rfl, ?_⟩⟩, ?_⟩
    ·simp; omega
    ·simp only [Int.toNat_natCast]
     rw [if_pos (by omega), if_neg (by omega), List.getElem?_eq_getElem hk]
     simp only []
     omega
   ·refine T.ok ⟨⟨rfl, rfl, .inr ⟨k2, hk2, rfl, ?_⟩⟩, ?_⟩
    ·rw [h2]; simp; omega
    ·simp only [Int.toNat_natCast]
     rw [if_neg (by omega), if_neg (by omega), List.getElem?_eq_getElem hk2, List.getElem?_eq_getElem hk]
     simp only [h2]
     omega
 ·rcases hr with ⟨rfl, _⟩ | ⟨k, hk, rfl, h2⟩
  ·exact .inl ⟨rfl, by simp⟩
  ·have hn := h.ids _ (List.getElem_mem hk)
   exact .inr ⟨k, hk, rfl, by simp; omega⟩
 ·split
  ·omega
  ·split
   ·rename_i n hn
    have := h.ids _ (List.mem_of_getElem? hn)
    have h3 : n.1.toNat < 99999999 := by omega
    exact Nat.lt_of_lt_of_le (Nat.succ_lt_succ h3) (by decide)
   ·omega
theorem ygN (h : RY L nx) (id : Int) : T (zaT zaB id L nx) fun r => r.2 = (L, nx) := by
 unfold zaT
 refine (ygL h id).bind fun r hr => ?_
 obtain ⟨L', nx', l⟩ := r
 obtain ⟨e1, e2, hl⟩ := hr
 simp only at e1 e2 hl
 subst e1 e2
 refine T.bind (Q := fun r => match r with
  | .inl v => v.2 = (L', nx')
  | .inr v => v = (L', nx')) (T.iter (fun x => x.2 = (L', nx', l) ∧ 0 ≤ x.1 ∧ x.1 ≤ (l.length : Int)) (fun x => l.length - x.1.toNat) _ (fun x hx => ?_) ⟨rfl, Int.le_refl _, by simp⟩ (by simp; omega)) fun r hr => ?_
 ·obtain ⟨i, v⟩ := x
  obtain ⟨rfl, h8, h9⟩ := hx
  simp only at h8 h9
  obtain ⟨k, rfl⟩ : ∃ k : Nat, i = k := ⟨i.toNat, by omega⟩
  unfold zfC
  simp only []
  refine T.dif (fun h2 => ?_) fun _ => T.ok rfl
  rw [decide_eq_true (show (0 : Int) ≤ (k : Int) by omega), decide_eq_true h2, Bool.and_self, zqU rfl, zaA]
  refine (T.ixn h2).bind fun _ _ => (zzF h.len _).bind fun r hr => ?_
  obtain ⟨n, b, v⟩ := r
  obtain ⟨rfl, _⟩ := hr
  refine T.bif (fun _ => T.ok rfl) fun _ => T.ok ⟨⟨rfl, ?_, ?_⟩, ?_⟩
  ·simp only []; rw [zbW (by omega)]; omega
  ·simp only []; rw [zbW (by omega)]; omega
  ·simp only []; rw [zbW (by omega)]; omega
 ·cases r <;> exact T.ok hr
theorem ygB (h : RY L nx) (id now : Int) : T (zaO zaB id now L nx) fun r => r.2 = (L, nx) := by
 unfold zaO
 refine (zzF h.len _).bind fun r hr => ?_
 obtain ⟨n, b, v⟩ := r
 obtain ⟨rfl, _⟩ := hr
 simp only []
 exact T.bif (fun _ => T.bif (fun _ => T.bif (fun _ => (ygN h id).bind fun _ hr => T.ok hr) fun _ => T.ok rfl) fun _ => T.ok rfl) fun _ => T.ok rfl
theorem yxX (h : RY L nx) (id on : Int) : T (zbT zaB id on L nx) fun r => r.2 = (L, nx) := by
 unfold zbT
 refine (ygL h id).bind fun r hr => ?_
 obtain ⟨L', nx', l⟩ := r
 obtain ⟨e1, e2, hl⟩ := hr
 simp only at e1 e2 hl
 subst e1 e2
 refine T.bind (Q := fun r => match r with
  | .inl v => v.2 = (L', nx')
  | .inr v => v = (L', nx')) (T.iter (fun x => x.2 = (L', nx', l) ∧ 0 ≤ x.1 ∧ x.1 ≤ (l.length : Int)) (fun x => l.length - x.1.toNat) _ (fun x hx => ?_) ⟨rfl, Int.le_refl _, by simp⟩ (by simp; omega)) fun r hr => ?_
 ·obtain ⟨i, v⟩ := x
  obtain ⟨rfl, h8, h9⟩ := hx
  simp only at h8 h9
  obtain ⟨k, rfl⟩ : ∃ k : Nat, i = k := ⟨i.toNat, by omega⟩
  unfold zfZ
  simp only []
  refine T.dif (fun h2 => ?_) fun _ => T.ok rfl
  rw [decide_eq_true (show (0 : Int) ≤ (k : Int) by omega), decide_eq_true h2, Bool.and_self, zqU rfl, zaA]
  refine (T.ixn h2).bind fun _ _ => T.bif (fun _ => T.ok rfl) fun _ => T.ok ⟨⟨rfl, ?_, ?_⟩, ?_⟩
  ·simp only []; rw [zbW (by omega)]; omega
  ·simp only []; rw [zbW (by omega)]; omega
  ·simp only []; rw [zbW (by omega)]; omega
 ·cases r <;> exact T.ok hr
end
section
variable {L : List Nd} {nx : Int}
theorem ylJ (hl : L.length ≤ 256) (sec : L8) : T (zbA zaB sec L nx) fun r => r.2.2 = (L, nx) ∧ (r.1 ∈ L ∨ r.1 = zN) := by
 unfold zbA
 refine T.bind (Q := fun r => match r with
  | .inl v => v.2.1 = L ∧ v.2.2.1 = nx ∧ v.2.2.2 ∈ L
  | .inr v => v.1 = L ∧ v.2.1 = nx) (T.iter (fun x => x.2.1 = L ∧ x.2.2.1 = nx ∧ 0 ≤ x.1 ∧ x.1 ≤ (L.length : Int)) (fun x => L.length - x.1.toNat) _ (fun x hx => ?_) ⟨rfl, rfl, Int.le_refl _, by simp⟩ (by simp; omega)) fun r hr => ?_
 ·obtain ⟨i, L', nx', v⟩ := x
  obtain ⟨e1, e2, h8, h9⟩ := hx
  simp only at e1 e2 h8 h9
  subst e1 e2
  obtain ⟨k, rfl⟩ : ∃ k : Nat, i = k := ⟨i.toNat, by omega⟩
  unfold zgI
  simp only []
  refine T.dif (fun h2 => (T.ixn h2).bind fun _ _ => T.bif (fun _ => (T.ixn h2).bind fun _ hx => T.ok ⟨rfl, rfl, hx⟩) fun _ => T.ok ⟨⟨rfl, rfl, ?_, ?_⟩, ?_⟩) fun _ => T.ok ⟨rfl, rfl⟩
  ·simp only []; rw [zbW (by omega)]; omega
  ·simp only []; rw [zbW (by omega)]; omega
  ·simp only []; rw [zbW (by omega)]; omega
 ·cases r with
  | inl v =>
   obtain ⟨b, L', nx', n⟩ := v
   obtain ⟨e1, e2, h⟩ := hr
   simp only at e1 e2 h
   subst e1 e2
   exact T.ok ⟨rfl, .inl h⟩
  | inr v =>
   obtain ⟨L', nx', n⟩ := v
   obtain ⟨e1, e2⟩ := hr
   simp only at e1 e2
   subst e1 e2
   exact T.ok ⟨rfl, .inr rfl⟩
theorem yiU (h : RY L nx) (now : Int) : T (zaW zaB now L nx) fun r => r.2.1 = nx ∧ (∀ n ∈ r.2.2, n ∈ L) ∧ r.2.2.length ≤ L.length := by
 have hl := h.len
 unfold zaW
 refine T.bind (Q := fun r => r.1 = L ∧ r.2.1 = nx ∧ (∀ n ∈ r.2.2, n ∈ L) ∧ r.2.2.length ≤ L.length) (T.iter (fun x => x.2.1 = L ∧ x.2.2.1 = nx ∧ 0 ≤ x.1 ∧ x.1 ≤ (L.length : Int) ∧ (∀ n ∈ x.2.2.2, n ∈ L) ∧ (x.2.2.2.length : Int) ≤ x.1) (fun x => L.length - x.1.toNat) _ (fun x hx => ?_) ⟨rfl, rfl, Int.le_refl _, by simp, by simp, by simp⟩ (by simp; omega)) fun r hr => ?_
 ·obtain ⟨i, L', nx', out⟩ := x
  obtain ⟨e1, e2, h8, h9, h10, h11⟩ := hx
  simp only at e1 e2 h8 h9 h10 h11
  subst e1 e2
  obtain ⟨k, rfl⟩ : ∃ k : Nat, i = k := ⟨i.toNat, by omega⟩
  unfold zfU
  simp only []
  refine T.dif (fun h2 => ?_) fun h2 => T.ok ⟨rfl, rfl, h10, by simp only []; omega⟩
  have hin : T (iter (fun x => zcY zaB now (k : Int) x.1 x.2.1 x.2.2.1 x.2.2.2.1 x.2.2.2.2) (false, (k : Int), L', nx', out)) fun r => r.2 = (L', nx', out) := by
   refine T.iter (fun x => x.2.2 = (L', nx', out) ∧ 0 ≤ x.2.1 ∧ x.2.1 ≤ (L'.length : Int)) (fun x => L'.length - x.2.1.toNat) _ (fun x hx => ?_) ⟨rfl, h8, h9⟩ (by simp; omega)
   obtain ⟨b, j, v⟩ := x
   obtain ⟨rfl, h12, h13⟩ := hx
   simp only at h12 h13
   obtain ⟨j, rfl⟩ : ∃ q : Nat, j = q := ⟨j.toNat, by omega⟩
   unfold zcY
   simp only []
   refine T.bind (Q := fun r => match r with
    | .inl v => v = (L', nx', out) ∧ (j : Int) < (L'.length : Int)
    | .inr v => v = (L', nx', out)) ?_ fun r hr => ?_
   ·unfold zfR
    exact T.dif (fun h3 => T.bif (fun _ => T.ok ⟨rfl, h3⟩) fun _ => T.ok rfl) fun _ => T.ok rfl
   ·cases r with
    | inr v => exact T.ok hr
    | inl v =>
     obtain ⟨rfl, h3⟩ := hr
     simp only []
     have hw : ∀ b : Bool, (fun r : (Bool × Int × (List Nd) × Int × List Nd) ⊕ ((Bool × (List Nd) × Int × List Nd)) => match r with
       | .inl s' => (s'.2.2 = (L', nx', out) ∧ 0 ≤ s'.2.1 ∧ s'.2.1 ≤ (L'.length : Int)) ∧ L'.length - s'.2.1.toNat < L'.length - ((j : Int)).toNat
       | .inr b => b.2 = (L', nx', out)) (.inl (b, w64 ((j : Int) + 1), L', nx', out)) := fun b => by
      rw [zbW (by omega)]
      exact ⟨⟨rfl, by show (0 : Int) ≤ ((j + 1 : Nat) : Int); omega, by show ((j + 1 : Nat) : Int) ≤ (L'.length : Int); omega⟩, by show L'.length - (((j + 1 : Nat) : Int)).toNat < _; omega⟩
     refine (T.ixn h3).bind fun _ _ => (ygB h _ now).bind fun r hr => ?_
     obtain ⟨b2, v⟩ := r
     simp only at hr
     subst hr
     refine T.bif (fun _ => (T.ixn h3).bind fun _ _ => (T.ixn h2).bind fun _ _ => (yxX h _ _).bind fun r hr => ?_) fun _ => T.ok (hw false)
     obtain ⟨b3, v⟩ := r
     simp only at hr
     subst hr
     exact T.ok (hw b3)
  refine hin.bind fun r hr => ?_
  obtain ⟨b, v⟩ := r
  simp only at hr
  subst hr
  refine T.bif (fun _ => ?_) fun _ => T.ok ⟨⟨rfl, rfl, ?_, ?_, h10, ?_⟩, ?_⟩
  ·refine (T.ixn h2).bind fun n hn => ?_
   simp only []
   rw [zuQ (by simp; omega), zaA]
   refine T.ok ⟨⟨rfl, rfl, ?_, ?_, fun m hm => ?_, ?_⟩, ?_⟩
   ·simp only []; rw [zbW (by omega)]; omega
   ·simp only []; rw [zbW (by omega)]; omega
   ·rcases List.mem_append.1 hm with hm | hm
    ·exact h10 m hm
    ·rw [List.mem_singleton] at hm
     subst hm
     exact hn
   ·simp only []; rw [zbW (by omega), List.length_append, List.length_singleton]; omega
   ·simp only []; rw [zbW (by omega)]; omega
  ·simp only []; rw [zbW (by omega)]; omega
  ·simp only []; rw [zbW (by omega)]; omega
  ·simp only []; rw [zbW (by omega)]; omega
  ·simp only []; rw [zbW (by omega)]; omega
 ·obtain ⟨L', nx', out⟩ := r
  obtain ⟨e1, e2, h10, h11⟩ := hr
  exact T.ok ⟨e2, h10, h11⟩
theorem ynJ {α : Type} {l : List α} {i : Int} {x : α} (h0 : 0 ≤ i) (h : i < (l.length : Int)) : T (setL l i x) fun r => ∃ k : Nat, r = l.set k x := by
 obtain ⟨k, rfl⟩ : ∃ k : Nat, i = k := ⟨i.toNat, by omega⟩
 unfold setL
 rw [decide_eq_true (show (0 : Int) ≤ (k : Int) by omega), decide_eq_true h]
 exact ⟨_, rfl, k, by simp⟩
theorem ykU (h : RY L nx) {n m : Nd} (hm : m ∈ L) (h1 : n.1 = m.1) (h2 : npar n = npar m) (h3 : NdOk n) : T (zaI zaB n L nx) fun r => r.1 = nx ∧ RY r.2 nx ∧ r.2.length = L.length := by
 have hl := h.len
 unfold zaI
 refine (at_t hl _).bind fun r hr => ?_
 obtain ⟨i, v⟩ := r
 obtain ⟨rfl, hr⟩ := hr
 simp only [] at hr ⊢
 rw [zmA _ (by omega), zaA]
 rcases hr with ⟨_, hn⟩ | ⟨k, hk, rfl, h4⟩
 ·exact absurd h1.symm (hn m hm)
 ·rw [decide_eq_true (show (0 : Int) ≤ (k : Int) by omega), decide_eq_true (show (k : Int) < (L.length : Int) by omega), Bool.and_self, zqU rfl, zaA]
  refine (ynJ (by omega) (by omega)).bind fun r hr => ?_
  obtain ⟨j, rfl⟩ := hr
  have hmm : ∀ q ∈ L.set j n, q ∈ L ∨ q = n := fun q hq => List.mem_or_eq_of_mem_set hq
  exact T.ok ⟨rfl, {
    ids := fun q hq => by
     rcases hmm q hq with hq | rfl
     ·exact h.ids q hq
     ·have := h.ids m hm
      rw [h1, h2]
      exact this
    ok := fun q hq => by
     rcases hmm q hq with hq | rfl
     ·exact h.ok q hq
     ·exact h3
    next := h.next
    len := by rw [List.length_set]; exact hl }, List.length_set ..⟩
abbrev Rk : Int × List Nd × Int → Prop := fun r => RY r.2.1 r.2.2
theorem ymN (h : RY L nx) (id : Int) : T (zaY zaB id L nx) Rk := by
 unfold zaY
 refine (zzF h.len _).bind fun r hr => ?_
 obtain ⟨n, b, v⟩ := r
 obtain ⟨rfl, hr⟩ := hr
 simp only [] at hr ⊢
 rcases hr with ⟨rfl, hn, _⟩ | ⟨rfl, _⟩
 ·refine T.bif (fun _ => T.ok h) fun _ => (ykU h hn (by exact rfl) (by exact rfl) (by have hh := h.ok _ hn; exact hh)).bind fun r hr => ?_
  obtain ⟨q, L'⟩ := r
  obtain ⟨rfl, hr, _⟩ := hr
  exact T.ok hr
 ·exact T.ok h
theorem yqK (h : RY L nx) (id now : Int) : T (zbL zaB id now L nx) Rk := by
 unfold zbL
 refine (zzF h.len _).bind fun r hr => ?_
 obtain ⟨n, b, v⟩ := r
 obtain ⟨rfl, hr⟩ := hr
 simp only [] at hr ⊢
 rcases hr with ⟨rfl, hn, _⟩ | ⟨rfl, _⟩
 ·refine T.bif (fun _ => T.ok h) fun _ => T.bif (fun _ => (ymN h id).bind fun r hr => T.ok hr) fun _ => (ygB h id now).bind fun r hr => ?_
  obtain ⟨b, v⟩ := r
  simp only at hr
  subst hr
  refine T.bif (fun _ => T.ok h) fun _ => (ykU h hn (by exact rfl) (by exact rfl) (by have hh := h.ok _ hn; exact hh)).bind fun r hr => ?_
  obtain ⟨q, L'⟩ := r
  obtain ⟨rfl, hr, _⟩ := hr
  exact T.ok hr
 ·exact T.ok h
theorem yvJ (h : RY L nx) (id l : Int) : T (zbU zaB id l L nx) Rk := by
 unfold zbU
 refine (zzF h.len _).bind fun r hr => ?_
 obtain ⟨n, b, v⟩ := r
 obtain ⟨rfl, hr⟩ := hr
 refine T.bind (Q := fun r => match r with
  | .inl v => v.2 = (L, nx)
  | .inr v => v.1 = L ∧ v.2.1 = nx ∧ v.2.2 ∈ L) ?_ fun r hr => ?_
 ·unfold zgJ
  simp only [] at hr ⊢
  rcases hr with ⟨rfl, hn, _⟩ | ⟨rfl, _⟩
  ·exact T.bif (fun _ => T.ok rfl) fun _ => T.bif (fun _ => T.ok rfl) fun _ => T.dif (fun _ => T.ok rfl) fun _ => T.dif (fun _ => T.ok rfl) fun _ => T.ok ⟨rfl, rfl, hn⟩
  ·exact T.ok rfl
 ·cases r with
  | inl v =>
   obtain ⟨e, v⟩ := v
   simp only at hr
   subst hr
   exact T.ok h
  | inr v =>
   obtain ⟨L', nx', m⟩ := v
   obtain ⟨e1, e2, hm⟩ := hr
   simp only at e1 e2 hm
   subst e1 e2
   refine T.dif (fun _ => (ykU h hm (by exact rfl) (by exact rfl) (by have hh := h.ok _ hm; exact hh)).bind fun r hr => ?_) fun _ => T.ok h
   obtain ⟨q, L'⟩ := r
   obtain ⟨rfl, hr, _⟩ := hr
   exact T.ok hr
theorem yuA (h : RY L nx) (id : Int) (d : L8) : T (zbV zaB id d L nx) Rk := by
 unfold zbV
 refine (zzF h.len _).bind fun r hr => ?_
 obtain ⟨n, b, v⟩ := r
 obtain ⟨rfl, hr⟩ := hr
 refine T.bind (Q := fun r => match r with
  | .inl v => v.2 = (L, nx)
  | .inr v => v.1 = L ∧ v.2.1 = nx ∧ v.2.2 ∈ L) ?_ fun r hr => ?_
 ·unfold zgC
  simp only [] at hr ⊢
  rcases hr with ⟨rfl, hn, _⟩ | ⟨rfl, _⟩
  ·exact T.bif (fun _ => T.ok rfl) fun _ => T.dif (fun _ => T.ok rfl) fun _ => T.ok ⟨rfl, rfl, hn⟩
  ·exact T.ok rfl
 ·cases r with
  | inl v =>
   obtain ⟨e, v⟩ := v
   simp only at hr
   subst hr
   exact T.ok h
  | inr v =>
   obtain ⟨L', nx', m⟩ := v
   obtain ⟨e1, e2, hm⟩ := hr
   simp only at e1 e2 hm
   subst e1 e2
   refine (ykU h hm (by exact rfl) (by exact rfl) (by have hh := h.ok _ hm; exact hh)).bind fun r hr => ?_
   obtain ⟨q, L'⟩ := r
   obtain ⟨rfl, hr, _⟩ := hr
   exact T.ok hr
theorem yoF (h : RY L nx) (s : L8) : T (zbI zaB s L nx) Rk := by
 have hl := h.len
 unfold zbI
 refine T.bind (Q := Rk) (T.iter (fun x => RY x.2.2.1 x.2.2.2 ∧ x.2.2.1.length = L.length ∧ 0 ≤ x.2.1 ∧ x.2.1 ≤ (L.length : Int)) (fun x => L.length - x.2.1.toNat) _ (fun x hx => ?_) ⟨h, rfl, Int.le_refl _, by simp⟩ (by simp; omega)) fun r hr => T.ok hr
 obtain ⟨m, i, L', nx'⟩ := x
 obtain ⟨h, e1, h8, h9⟩ := hx
 simp only at h e1 h8 h9
 obtain ⟨k, rfl⟩ : ∃ k : Nat, i = k := ⟨i.toNat, by omega⟩
 unfold zfW
 simp only []
 refine T.dif (fun h2 => (T.ixn h2).bind fun n hn => ?_) fun _ => T.ok h
 refine T.bind (Q := fun r => r.2 = (L', nx', n)) ?_ fun r hr => ?_
 ·unfold zfL
  refine T.bif (fun _ => ?_) fun _ => T.ok rfl
  have := (h.ok n hn).2.1
  rw [zuQ (by simp; omega), zaA]
  exact T.ok rfl
 ·obtain ⟨b, v⟩ := r
  simp only at hr
  subst hr
  refine T.bind (Q := fun r => r.2 = (L', nx', n)) ?_ fun r hr => ?_
  ·unfold zfS
   exact T.bif (fun _ => T.bif (fun _ => T.ok rfl) fun _ => T.ok rfl) fun _ => T.ok rfl
  ·obtain ⟨b, v⟩ := r
   simp only at hr
   subst hr
   simp only []
   refine T.bif (fun _ => (ykU h hn (by exact rfl) (by exact rfl) (by have hh := h.ok _ hn; exact hh)).bind fun r hr => ?_) fun _ => T.ok ⟨⟨h, e1, ?_, ?_⟩, ?_⟩
   ·obtain ⟨q, L2⟩ := r
    obtain ⟨rfl, hr, e2⟩ := hr
    refine T.ok ⟨⟨hr, e2.trans e1, ?_, ?_⟩, ?_⟩
    ·simp only []; rw [zbW (by omega)]; omega
    ·simp only []; rw [zbW (by omega)]; omega
    ·simp only []; rw [zbW (by omega)]; omega
   ·simp only []; rw [zbW (by omega)]; omega
   ·simp only []; rw [zbW (by omega)]; omega
   ·simp only []; rw [zbW (by omega)]; omega
theorem yrQ (h : RY L nx) {n : Nd} (hn : NdOk n) (now : Int) : T (zbM zaB n now L nx) fun r => RY r.2.2.1 r.2.2.2 := by
 have hnx := h.next
 unfold zbM
 refine (yyU hn).bind fun b hb => T.bif (fun _ => T.ok h) fun hb2 => ?_
 have hp0 : 0 ≤ npar n := hb (by simpa using hb2)
 refine (ylJ h.len _).bind fun r hr => ?_
 obtain ⟨q, b2, v⟩ := r
 obtain ⟨rfl, _⟩ := hr
 simp only []
 refine T.bif (fun _ => T.ok h) fun _ => ?_
 refine T.bind (Q := fun r => match r with
  | .inl v => v.2.2 = (L, nx)
  | .inr v => v = (L, nx, n) ∧ npar n < nx) ?_ fun r hr => ?_
 ·unfold zfV
  simp only []
  refine T.dif (fun hp => (at_t h.len _).bind fun r hr => ?_) fun hp => T.ok ⟨rfl, by show n.2.2.1 < nx; omega⟩
  obtain ⟨i, v⟩ := r
  obtain ⟨rfl, hr⟩ := hr
  simp only [] at hr ⊢
  refine T.dif (fun _ => T.ok rfl) fun hi => (ygN h _).bind fun r hr2 => ?_
  obtain ⟨b, v⟩ := r
  simp only at hr2
  subst hr2
  refine T.bif (fun _ => T.ok rfl) fun _ => T.ok ⟨rfl, ?_⟩
  rcases hr with ⟨rfl, _⟩ | ⟨k, hk, _, h2⟩
  ·omega
  ·have := h.ids _ (List.getElem_mem hk)
   show n.2.2.1 < nx
   omega
 ·cases r with
  | inl v =>
   obtain ⟨a, e, v⟩ := v
   simp only at hr
   subst hr
   exact T.ok h
  | inr v =>
   obtain ⟨rfl, hp1⟩ := hr
   simp only []
   refine (yiU h now).bind fun r hr => ?_
   obtain ⟨m, nx', out⟩ := r
   obtain ⟨e1, hsub, hlen⟩ := hr
   simp only at e1 hsub hlen
   subst e1
   have hO : RY out nx' := ⟨fun q hq => h.ids q (hsub q hq), fun q hq => h.ok q (hsub q hq), h.next, Nat.le_trans hlen h.len⟩
   have hn4 : n.2.2.2.2.2.2.1.length ≤ 1048576 := hn.2.2.2.1
   have hn6 : n.2.2.2.2.2.2.2.2.2.2.2.1.length ≤ 1048576 := hn.2.2.2.2.2.1
   unfold zfT
   simp only []
   by_cases hg : out.length ≥ 256
   ·rw [zkS (by omega)]
    exact T.ok hO
   ·rw [zoU (by omega)]
    by_cases hx : nx' ≥ 99999999
    ·rw [zkS hx]
     exact T.ok hO
    ·rw [zoU hx, zaA]
     simp only []
     rw [zmA _ (by omega), zaA]
     unfold zfP
     simp only []
     rw [zmA _ (by omega), zaA, zaA]
     simp only []
     rw [zmA _ (by omega), zaA, zuQ (by simp; omega), zaA, zmP (by omega) (by omega)]
     refine T.ok {
       ids := fun q hq => ?_
       ok := fun q hq => ?_
       next := ⟨by simp only []; omega, by simp only []; omega⟩
       len := by simp only [List.length_append, List.length_singleton]; omega }
     ·rcases List.mem_append.1 hq with hq | hq
      ·have := hO.ids q hq
       exact ⟨by simp only []; omega, this.2⟩
      ·rw [List.mem_singleton] at hq
       subst hq
       exact ⟨by simp only []; omega, hp0, hp1⟩
     ·rcases List.mem_append.1 hq with hq | hq
      ·exact hO.ok q hq
      ·rw [List.mem_singleton] at hq
       subst hq
       exact hn
end
end Go.Proofs.YtebbcofojchkpaaGreatDoor.Am
