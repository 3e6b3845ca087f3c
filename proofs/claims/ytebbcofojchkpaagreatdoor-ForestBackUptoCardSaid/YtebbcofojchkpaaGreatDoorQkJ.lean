/- What some functions compute, over plain values, and that they do. Maps of numbers as rising lists: plain laws. Functions that answer whatever they are given: plain laws. Forests: find, paths, what is live: plain laws. Forests: what is live, and the list of nodes: plain laws. Forests: nodes that are changed: plain laws. Conditions: as each theorem says. -/
import Derived.KernelRfl
import Derived.Test.YtebbcofojchkpaaGreatDoorQkI
namespace Go.Proofs.YtebbcofojchkpaaGreatDoor.Am
open Go Go.RowKit
def τWkF : TE := [(3, ⟨.int .i64, 1, [.v (.i .i64) (show Int from 0)], (.i .i64), 8⟩),
 (4, ⟨.b, 1, [.v .b (show Bool from false)], .b, 1⟩),
 (9, ⟨.s, 1, [.v .s (show Bs from [])], .s, 16⟩),
 (22, ⟨.sl 24, 1, [.nils], (.sl (.pr .s .s)), 24⟩),
 (24, ⟨.st [(9, 0), (9, 1)], 2, [.v .s (show Bs from []), .v .s (show Bs from [])], (.pr .s .s), 32⟩),
 (25, ⟨.pt 75, 1, [.nilp], .un, 8⟩),
 (35, ⟨.sl 47, 1, [.nils], (.sl (.pr (.i .i64) (.pr (.i .i64) (.pr (.i .i64) (.pr .s (.pr .s (.pr .s (.pr (.sl .s) (.pr (.i .i64) (.pr (.i .i64) (.pr .b (.pr .b (.pr (.sl .s) (.pr (.i .i64) (.pr .s .s))))))))))))))), 24⟩),
 (44, ⟨.sl 3, 1, [.nils], (.sl (.i .i64)), 24⟩),
 (45, ⟨.sl 9, 1, [.nils], (.sl .s), 24⟩),
 (47, ⟨.st [(3, 0), (3, 1), (3, 2), (9, 3), (9, 4), (9, 5), (45, 6), (3, 7), (3, 8), (4, 9), (4, 10), (45, 11), (3, 12), (9, 13), (9, 14)], 15, [.v (.i .i64) (show Int from 0), .v (.i .i64) (show Int from 0), .v (.i .i64) (show Int from 0), .v .s (show Bs from []), .v .s (show Bs from []), .v .s (show Bs from []), .nils, .v (.i .i64) (show Int from 0), .v (.i .i64) (show Int from 0), .v .b (show Bool from false), .v .b (show Bool from false), .nils, .v (.i .i64) (show Int from 0), .v .s (show Bs from []), .v .s (show Bs from [])], (.pr (.i .i64) (.pr (.i .i64) (.pr (.i .i64) (.pr .s (.pr .s (.pr .s (.pr (.sl .s) (.pr (.i .i64) (.pr (.i .i64) (.pr .b (.pr .b (.pr (.sl .s) (.pr (.i .i64) (.pr .s .s)))))))))))))), 184⟩),
 (73, ⟨.map 3 81, 1, [.nilm], (.mp (.i .i64) (.pr (.i .i64) (.pr (.i .i64) (.pr (.i .i64) (.pr .s (.pr .s (.pr .s (.pr (.sl .s) (.pr (.i .i64) (.pr (.i .i64) (.pr .b (.pr .b (.pr (.sl .s) (.pr (.i .i64) (.pr .s .s))))))))))))))), 8⟩),
 (75, ⟨.st [(73, 0), (3, 1)], 2, [.nilm, .v (.i .i64) (show Int from 0)], (.pr (.mp (.i .i64) (.pr (.i .i64) (.pr (.i .i64) (.pr (.i .i64) (.pr .s (.pr .s (.pr .s (.pr (.sl .s) (.pr (.i .i64) (.pr (.i .i64) (.pr .b (.pr .b (.pr (.sl .s) (.pr (.i .i64) (.pr .s .s))))))))))))))) (.i .i64)), 16⟩),
 (81, ⟨.st [(47, 0)], 15, [.v (.i .i64) (show Int from 0), .v (.i .i64) (show Int from 0), .v (.i .i64) (show Int from 0), .v .s (show Bs from []), .v .s (show Bs from []), .v .s (show Bs from []), .nils, .v (.i .i64) (show Int from 0), .v (.i .i64) (show Int from 0), .v .b (show Bool from false), .v .b (show Bool from false), .nils, .v (.i .i64) (show Int from 0), .v .s (show Bs from []), .v .s (show Bs from [])], (.pr (.i .i64) (.pr (.i .i64) (.pr (.i .i64) (.pr .s (.pr .s (.pr .s (.pr (.sl .s) (.pr (.i .i64) (.pr (.i .i64) (.pr .b (.pr .b (.pr (.sl .s) (.pr (.i .i64) (.pr .s .s)))))))))))))), 184⟩),
 (105, ⟨.fn, 1, [.nilf], .un, 8⟩),
 (111, ⟨.map 3 112, 1, [.nilm], (.mp (.i .i64) .un), 8⟩),
 (112, ⟨.st [], 0, [], .un, 0⟩),
 (120, ⟨.ifc, 1, [.v .er (show Bool from false)], .er, 16⟩),
 (125, ⟨.st [(45, 0), (4, 1)], 2, [.nils, .v .b (show Bool from false)], (.pr (.sl .s) .b), 32⟩),
 (135, ⟨.sl 45, 1, [.nils], (.sl (.sl .s)), 24⟩),
 (148, ⟨.ar 3 105, 3, [.nilf, .nilf, .nilf], .un, 24⟩)]
theorem τ_okWkF : TEok Tryz.prog τWkF := yoH (by kernel_rfl) (by kernel_rfl)
theorem ycX : Tryz.prog.follows .mixedOrders = true := by kernel_rfl
theorem zgA {G : List (Nat × Obj)} {o : Ops} [zsN G] [zrD G o] {Γ : CT} {η : HT} {f : FuncId} {fn : Func} {c : SC} (hΓ : ∀ B, GB G B → CTok Tryz.prog Γ B) (hf : Tryz.prog.funcs[f]? = some fn) (i : (fn.name == "runtime.NumGoroutine") = false := by kernel_rfl) (j : fn.body.isNone = false := by kernel_rfl) (l : Nat.ble c.I.sl.length fn.ntmps = true := by kernel_rfl) (r : Nat.beq fn.results.toList.length c.nr = true := by kernel_rfl) (e : fnS τWkF Γ η fn c.I c.outs = c.p := by kernel_rfl) : SCok Tryz.prog G f c := witO (G := G) (o := o) <| yzH ycX τ_okWkF hΓ hf (isFn hf i j) l r e
theorem zjX {G : List (Nat × Obj)} {o : Ops} [zsN G] [zrD G o] {Γ : CT} {η : HT} {f : FuncId} {fn : Func} {c : PC} (hΓ : ∀ B, GB G B → CTok Tryz.prog Γ B) (hf : Tryz.prog.funcs[f]? = some fn) (i : (fn.name == "runtime.NumGoroutine") = false := by kernel_rfl) (j : fn.body.isNone = false := by kernel_rfl) (l : Nat.ble c.ash.length fn.ntmps = true := by kernel_rfl) (r : c.cl = false := by kernel_rfl) (e : fnP τWkF Γ η fn c.ash c.rts = c.p := by kernel_rfl) : PCok Tryz.prog G f c := witO (G := G) (o := o) <| xcW ycX τ_okWkF hΓ hf (isFn hf i j) l r e
abbrev yaV : Type := (List Bs) × Bool
abbrev zkN : Type := Int × Int × Int × Bs × Bs × Bs × (List Bs) × Int × Int × Bool × Bool × (List Bs) × Int × Bs × Bs
abbrev zwG : Ty := .pr (.i .i64) (.pr (.i .i64) (.pr (.i .i64) (.pr .s (.pr .s (.pr .s (.pr (.sl .s) (.pr (.i .i64) (.pr (.i .i64) (.pr .b (.pr .b (.pr (.sl .s) (.pr (.i .i64) (.pr .s .s)))))))))))))
abbrev zbA : Type := Int × zkN
abbrev ywD : OSh := .blk 47 [hI, hI, hI, hS, hS, hS, (.h (.sl .s)), hI, hI, hB, hB, (.h (.sl .s)), hI, hS, hS]
abbrev yvR : OSh := .blk 81 [hI, hI, hI, hS, hS, hS, (.h (.sl .s)), hI, hI, hB, hB, (.h (.sl .s)), hI, hS, hS]
abbrev ynA : OSh := .blk 47 [hI, hI, hI, hS, hS, hS, .nils, hI, hI, hB, hB, .nils, hI, hS, hS]
abbrev ycM : OSh := .blk 125 [(.h (.sl .s)), hB]
abbrev zdC : OSh := .mp true (.i .i64) zwG
abbrev zgB : OSh := .blk 75 [(.mpr 1), hI]
abbrev ycP : OSh := .blk 75 [(.mpr 2), hI]
abbrev ycG : OSh := .mp true (.i .i64) .un
abbrev yeQ : OSh := .blk 25 [(.ptr 1 0)]
abbrev ywF : OSh := .blk 111 [(.mpr 2)]
abbrev ynZ : OSh := .blk 111 [(.mpr 4)]
section
variable {tabs : List (Nat × Obj)} [zsN tabs] {o : Ops} [zrD tabs o]
def zhZ (o : Ops) : Option ((Int × List zbA)) :=
 some ((1 : Int), ([] : List zbA))
def zqT (o : Ops) : SC := ⟨⟨[], []⟩, 1, [(none, ⟨[(0, (.ptr 0 0))], [zgB, zdC]⟩)], fun _ => zhZ o⟩
theorem ztG : SCok Tryz.prog tabs 27 (zqT o) := zgA (o := o) (η := []) (Γ := ⟨[], [], false⟩) (ctok trivial trivial) Tryz.func27
def ziC (o : Ops) (v0 : Bs) (v1 : Int) (v2 : Bs) : Option (Bool) :=
 bif (v0 != ([] : Bs)) then (bif decide ((v0.length : Int) ≤ v1) then ((o.trim v0 v2).bind fun v3 => some (v3 == ([] : Bs))) else (some false)) else (some false)
def zvJ (o : Ops) : PC := ⟨[hS, hI, hS], [.b], fun x => ziC o x.1 x.2.1 x.2.2, false⟩
theorem zyS : PCok Tryz.prog tabs 152 (zvJ o) := zjX (o := o) (η := []) (Γ := ⟨[(82, (yaA o))], [], false⟩) (ctok ⟨(zrD.trim (G := tabs)), trivial⟩ trivial) Tryz.func152
def zgP (o : Ops) (v0 : Bs) : Option (Bool) :=
 (ziC o v0 (32 : Int) ([97, 98, 99, 100, 101, 102, 103, 104, 105, 106, 107, 108, 109, 110, 111, 112, 113, 114, 115, 116, 117, 118, 119, 120, 121, 122, 48, 49, 50, 51, 52, 53, 54, 55, 56, 57, 46, 95, 45, 58] : Bs)).bind fun v1 => some v1
def zvM (o : Ops) : PC := ⟨[hS], [.b], fun x => zgP o x, false⟩
theorem yaQ : PCok Tryz.prog tabs 107 (zvM o) := zjX (o := o) (η := []) (Γ := ⟨[(152, (zvJ o))], [], false⟩) (ctok ⟨zyS, trivial⟩ trivial) Tryz.func107
def zaU (o : Ops) (v0 : Int) (v1 : Int) (v2 : Int) : Option (Bool) :=
 bif decide (v0 ≥ v1) then (some (decide (v0 ≤ v2))) else (some false)
def zrY (o : Ops) : PC := ⟨[hI, hI, hI], [.b], fun x => zaU o x.1 x.2.1 x.2.2, false⟩
theorem zuY : PCok Tryz.prog tabs 34 (zrY o) := zjX (o := o) (η := []) (Γ := ⟨[], [], false⟩) (ctok trivial trivial) Tryz.func34
def zfJ (o : Ops) (v0 : Bs) : Option (Bool) :=
 (ziC o v0 (24 : Int) ([97, 98, 99, 100, 101, 102, 103, 104, 105, 106, 107, 108, 109, 110, 111, 112, 113, 114, 115, 116, 117, 118, 119, 120, 121, 122, 48, 49, 50, 51, 52, 53, 54, 55, 56, 57, 46, 95, 45] : Bs)).bind fun v1 => some v1
def zsD (o : Ops) : PC := ⟨[hS], [.b], fun x => zfJ o x, false⟩
theorem zwH : PCok Tryz.prog tabs 110 (zsD o) := zjX (o := o) (η := []) (Γ := ⟨[(152, (zvJ o))], [], false⟩) (ctok ⟨zyS, trivial⟩ trivial) Tryz.func110
def zcL (o : Ops) (v0 : Bs) : Option (Bool) :=
 bif decide ((v0.length : Int) > 2) then ((subH v0 (2 : Int)).bind fun v1 => bif (v1 == ([117, 58] : Bs)) then ((subL v0 (2 : Int)).bind fun v2 => (zfJ o v2).bind fun v3 => some v3) else ((subH v0 (2 : Int)).bind fun v4 => bif (v4 == ([99, 58] : Bs)) then ((subL v0 (2 : Int)).bind fun v5 => (zfJ o v5).bind fun v6 => some v6) else (some false))) else (some false)
def zlS (o : Ops) : PC := ⟨[hS], [.b], fun x => zcL o x, false⟩
theorem zqY : PCok Tryz.prog tabs 109 (zlS o) := zjX (o := o) (η := []) (Γ := ⟨[(110, (zsD o))], [], false⟩) (ctok ⟨zwH, trivial⟩ trivial) Tryz.func109
def zlI (o : Ops) (v0 : Bs) : Option (Bool) :=
 (zcL o v0).bind fun v1 => some (!v1)
def zuT (o : Ops) : PC := ⟨[hS], [.b], fun x => zlI o x, false⟩
theorem yaO : PCok Tryz.prog tabs 108 (zuT o) := zjX (o := o) (η := []) (Γ := ⟨[(109, (zlS o))], [], false⟩) (ctok ⟨zqY, trivial⟩ trivial) Tryz.func108
def ziG (o : Ops) (v0 : List Bs) (v1 : Int) : Option (Int ⊕ (Int ⊕ Unit)) :=
 bif decide (v1 < (v0.length : Int)) then ((idx v0 v1).bind fun v2 => (zlI o v2).bind fun v3 => bif v3 then some (.inr (.inl v1)) else some (.inl (w64 (v1 + 1)))) else some (.inr (.inr ()))
def zjV (o : Ops) (v0 : List Bs) : Option (Int) :=
 (iter (ziG o v0) (0 : Int)).bind fun v4 => match v4 with
 | .inl v5 => some v5
 | .inr v6 => some (-1 : Int)
def zrG (o : Ops) : SC := ⟨⟨[(0, (.h (.sl .s))), (1, (.fn 108 [] []))], []⟩, 1, [(none, ⟨[(0, hI)], []⟩)], fun x => zjV o x⟩
theorem zwZ : SCok Tryz.prog tabs 155 (zrG o) := zgA (o := o) (η := [(200002, .loop [] ⟨[(1, (.fn 108 [] [])), (8, hI)], []⟩ [0, 7] [(some 1000000, ⟨[(4, hI)], []⟩), (some 0, ⟨[], []⟩)])]) (Γ := ⟨[(108, (zuT o))], [], false⟩) (ctok ⟨yaO, trivial⟩ trivial) Tryz.func155
def zaP (o : Ops) (v0 : List Bs) : Option (Bool) :=
 (zjV o v0).bind fun v1 => some (decide (v1 ≥ 0))
def znY (o : Ops) : SC := ⟨⟨[(0, (.h (.sl .s))), (1, (.fn 108 [] []))], []⟩, 1, [(none, ⟨[(0, hB)], []⟩)], fun x => zaP o x⟩
theorem zuS : SCok Tryz.prog tabs 112 (znY o) := zgA (o := o) (η := []) (Γ := ⟨[], [(155, (zrG o))], false⟩) (ctok trivial ⟨zwZ, trivial⟩) Tryz.func112
def zrF (o : Ops) (v0 : Int) : Option (Bool) :=
 bif decide (v0 < 33) then (some true) else (some (decide (v0 > 126)))
def zuC (o : Ops) : PC := ⟨[(.h (.i .i32))], [.b], fun x => zrF o x, false⟩
theorem zzH : PCok Tryz.prog tabs 154 (zuC o) := zjX (o := o) (η := []) (Γ := ⟨[], [], false⟩) (ctok trivial trivial) Tryz.func154
def zqH (o : Ops) (v1 : Bool) (v2 : Bs) (v3 : Int) : Option ((Bs × Int) ⊕ (Int ⊕ Unit)) :=
 bif decide (v3.toNat < v2.length) then ((zrF o (nxR v2 v3.toNat)).bind fun v4 => bif (v4 == v1) then some (.inr (.inl (v3.toNat : Int))) else some (.inl (v2, (nxP v2 v3.toNat : Int)))) else some (.inr (.inr ()))
def zlR (o : Ops) (v0 : Bs) (v1 : Bool) : Option (Int) :=
 (iter (fun x => zqH o v1 x.1 x.2) (v0, (0 : Int))).bind fun v5 => match v5 with
 | .inl v6 => some v6
 | .inr v7 => some (-1 : Int)
def zqM (o : Ops) : SC := ⟨⟨[(0, hS), (1, (.fn 154 [] [])), (2, hB)], []⟩, 1, [(none, ⟨[(0, hI)], []⟩)], fun x => zlR o x.1 x.2⟩
theorem zwE : SCok Tryz.prog tabs 207 (zqM o) := zgA (o := o) (η := [(200002, .loop [] ⟨[(1, (.fn 154 [] [])), (10, (.ptr 0 0))], [.is]⟩ [2] [(some 1000000, ⟨[(6, hI)], []⟩), (some 0, ⟨[], []⟩)])]) (Γ := ⟨[(154, (zuC o))], [], false⟩) (ctok ⟨zzH, trivial⟩ trivial) Tryz.func207
def zlU (o : Ops) (v0 : Bs) : Option (Int) :=
 (zlR o v0 true).bind fun v1 => some v1
def zqN (o : Ops) : SC := ⟨⟨[(0, hS), (1, (.fn 154 [] []))], []⟩, 1, [(none, ⟨[(0, hI)], []⟩)], fun x => zlU o x⟩
theorem zwA : SCok Tryz.prog tabs 186 (zqN o) := zgA (o := o) (η := []) (Γ := ⟨[], [(207, (zqM o))], false⟩) (ctok trivial ⟨zwE, trivial⟩) Tryz.func186
def zjQ (o : Ops) (v0 : Bs) : Option (Bool) :=
 (zlU o v0).bind fun v1 => some (decide (v1 ≥ 0))
def zmW (o : Ops) : SC := ⟨⟨[(0, hS), (1, (.fn 154 [] []))], []⟩, 1, [(none, ⟨[(0, hB)], []⟩)], fun x => zjQ o x⟩
theorem ztL : SCok Tryz.prog tabs 153 (zmW o) := zgA (o := o) (η := []) (Γ := ⟨[], [(186, (zqN o))], false⟩) (ctok trivial ⟨zwA, trivial⟩) Tryz.func153
def zgJ (o : Ops) (v0 : Bs) : Option (Bool) :=
 bif (v0 != ([] : Bs)) then (bif decide ((v0.length : Int) ≤ 128) then ((zjQ o v0).bind fun v1 => some (!v1)) else (some false)) else (some false)
def zwM (o : Ops) : PC := ⟨[hS], [.b], fun x => zgJ o x, false⟩
theorem ycT : PCok Tryz.prog tabs 111 (zwM o) := zjX (o := o) (η := []) (Γ := ⟨[], [(153, (zmW o))], false⟩) (ctok trivial ⟨ztL, trivial⟩) Tryz.func111
def ziD (o : Ops) (v0 : zkN) (v1 : Int) (v2 : Int) (v3 : Int) (v4 : Int) (v5 : Bs) (v6 : Bs) (v7 : Bs) (v8 : List Bs) (v9 : Int) (v10 : Int) (v11 : Bool) (v12 : Bool) (v13 : List Bs) (v14 : Int) (v15 : Bs) (v16 : Bs) : Option (zbA ⊕ (Bool ⊕ zkN)) :=
 bif decide (v1 < (v0.2.2.2.2.2.2.1.length : Int)) then ((idx v0.2.2.2.2.2.2.1 v1).bind fun v17 => (zgP o v17).bind fun v18 => bif (!v18) then some (.inr (.inl false)) else (bif decide (v1 > 0) then ((idx v8 (w64 (v1 - 1))).bind fun v19 => bif (Op.bytesLess v17 v19 || v17 == v19) then some (.inr (.inl false)) else some (.inl (w64 (v1 + 1), v2, v3, v4, v5, v6, v7, v8, v9, v10, v11, v12, v13, v14, v15, v16))) else some (.inl (w64 (v1 + 1), v2, v3, v4, v5, v6, v7, v8, v9, v10, v11, v12, v13, v14, v15, v16)))) else some (.inr (.inr (v2, v3, v4, v5, v6, v7, v8, v9, v10, v11, v12, v13, v14, v15, v16)))
def zfO (o : Ops) (v0 : zkN) : Option (Bool) :=
 (iter (fun x => ziD o v0 x.1 x.2.1 x.2.2.1 x.2.2.2.1 x.2.2.2.2.1 x.2.2.2.2.2.1 x.2.2.2.2.2.2.1 x.2.2.2.2.2.2.2.1 x.2.2.2.2.2.2.2.2.1 x.2.2.2.2.2.2.2.2.2.1 x.2.2.2.2.2.2.2.2.2.2.1 x.2.2.2.2.2.2.2.2.2.2.2.1 x.2.2.2.2.2.2.2.2.2.2.2.2.1 x.2.2.2.2.2.2.2.2.2.2.2.2.2.1 x.2.2.2.2.2.2.2.2.2.2.2.2.2.2.1 x.2.2.2.2.2.2.2.2.2.2.2.2.2.2.2) ((0 : Int), v0)).bind fun v20 => match v20 with
 | .inl v21 => (some v21)
 | .inr v22 => ((zaU o v22.2.1 (1 : Int) (5 : Int)).bind fun v23 => bif v23 then (bif decide (v22.2.2.1 ≥ 0) then ((zcL o v22.2.2.2.1).bind fun v24 => bif v24 then (bif (v22.2.2.2.2.1 == ([] : Bs)) then (bif (v22.2.2.2.2.2.1 == ([] : Bs)) then (bif decide ((v22.2.2.2.2.2.2.1.length : Int) ≤ 16) then ((zaU o v22.2.2.2.2.2.2.2.1 (0 : Int) (1099511627776 : Int)).bind fun v25 => bif v25 then ((zaU o v22.2.2.2.2.2.2.2.2.1 (0 : Int) (1099511627776 : Int)).bind fun v26 => bif v26 then (let v27 : Bool := decide ((v22.2.2.2.2.2.2.2.2.2.2.2.1.length : Int) ≤ 4)
 bif v27 then ((zaP o v22.2.2.2.2.2.2.2.2.2.2.2.1).bind fun v28 => bif (!v28) then ((zaU o v22.2.2.2.2.2.2.2.2.2.2.2.2.1 (0 : Int) (3 : Int)).bind fun v29 => bif v29 then ((zaU o (v22.2.2.2.2.2.2.2.2.2.2.2.2.2.1.length : Int) (1 : Int) (64 : Int)).bind fun v30 => bif v30 then (let v31 : Bool := decide ((v22.2.2.2.2.2.2.2.2.2.2.2.2.2.2.length : Int) ≤ 256)
 some v31) else (some false)) else (some false)) else (some false)) else (some false)) else (some false)) else (some false)) else (some false)) else ((zgJ o v22.2.2.2.2.2.1).bind fun v32 => bif v32 then (bif decide ((v22.2.2.2.2.2.2.1.length : Int) ≤ 16) then ((zaU o v22.2.2.2.2.2.2.2.1 (0 : Int) (1099511627776 : Int)).bind fun v33 => bif v33 then ((zaU o v22.2.2.2.2.2.2.2.2.1 (0 : Int) (1099511627776 : Int)).bind fun v34 => bif v34 then (let v35 : Bool := decide ((v22.2.2.2.2.2.2.2.2.2.2.2.1.length : Int) ≤ 4)
 bif v35 then ((zaP o v22.2.2.2.2.2.2.2.2.2.2.2.1).bind fun v36 => bif (!v36) then ((zaU o v22.2.2.2.2.2.2.2.2.2.2.2.2.1 (0 : Int) (3 : Int)).bind fun v37 => bif v37 then ((zaU o (v22.2.2.2.2.2.2.2.2.2.2.2.2.2.1.length : Int) (1 : Int) (64 : Int)).bind fun v38 => bif v38 then (let v39 : Bool := decide ((v22.2.2.2.2.2.2.2.2.2.2.2.2.2.2.length : Int) ≤ 256)
 some v39) else (some false)) else (some false)) else (some false)) else (some false)) else (some false)) else (some false)) else (some false)) else (some false))) else ((zfJ o v22.2.2.2.2.1).bind fun v40 => bif v40 then (bif (v22.2.2.2.2.2.1 == ([] : Bs)) then (bif decide ((v22.2.2.2.2.2.2.1.length : Int) ≤ 16) then ((zaU o v22.2.2.2.2.2.2.2.1 (0 : Int) (1099511627776 : Int)).bind fun v41 => bif v41 then ((zaU o v22.2.2.2.2.2.2.2.2.1 (0 : Int) (1099511627776 : Int)).bind fun v42 => bif v42 then (let v43 : Bool := decide ((v22.2.2.2.2.2.2.2.2.2.2.2.1.length : Int) ≤ 4)
 bif v43 then ((zaP o v22.2.2.2.2.2.2.2.2.2.2.2.1).bind fun v44 => bif (!v44) then ((zaU o v22.2.2.2.2.2.2.2.2.2.2.2.2.1 (0 : Int) (3 : Int)).bind fun v45 => bif v45 then ((zaU o (v22.2.2.2.2.2.2.2.2.2.2.2.2.2.1.length : Int) (1 : Int) (64 : Int)).bind fun v46 => bif v46 then (let v47 : Bool := decide ((v22.2.2.2.2.2.2.2.2.2.2.2.2.2.2.length : Int) ≤ 256)
 some v47) else (some false)) else (some false)) else (some false)) else (some false)) else (some false)) else (some false)) else (some false)) else ((zgJ o v22.2.2.2.2.2.1).bind fun v48 => bif v48 then (bif decide ((v22.2.2.2.2.2.2.1.length : Int) ≤ 16) then ((zaU o v22.2.2.2.2.2.2.2.1 (0 : Int) (1099511627776 : Int)).bind fun v49 => bif v49 then ((zaU o v22.2.2.2.2.2.2.2.2.1 (0 : Int) (1099511627776 : Int)).bind fun v50 => bif v50 then (let v51 : Bool := decide ((v22.2.2.2.2.2.2.2.2.2.2.2.1.length : Int) ≤ 4)
 bif v51 then ((zaP o v22.2.2.2.2.2.2.2.2.2.2.2.1).bind fun v52 => bif (!v52) then ((zaU o v22.2.2.2.2.2.2.2.2.2.2.2.2.1 (0 : Int) (3 : Int)).bind fun v53 => bif v53 then ((zaU o (v22.2.2.2.2.2.2.2.2.2.2.2.2.2.1.length : Int) (1 : Int) (64 : Int)).bind fun v54 => bif v54 then (let v55 : Bool := decide ((v22.2.2.2.2.2.2.2.2.2.2.2.2.2.2.length : Int) ≤ 256)
 some v55) else (some false)) else (some false)) else (some false)) else (some false)) else (some false)) else (some false)) else (some false)) else (some false))) else (some false))) else (some false)) else (some false)) else (some false))
def znF (o : Ops) : PC := ⟨[(.h zwG)], [.b], fun x => zfO o x, false⟩
theorem zqS : PCok Tryz.prog tabs 53 (znF o) := zjX (o := o) (η := [(200002, .loop [] ⟨[(1, (.ptr 0 0)), (9, hI)], [ywD]⟩ [7, 8] [(some 1000000, ⟨[(2, hB)], []⟩), (some 0, ⟨[(1, (.ptr 0 0))], [ywD]⟩)])]) (Γ := ⟨[(107, (zvM o)), (34, (zrY o)), (109, (zlS o)), (111, (zwM o)), (110, (zsD o))], [(112, (znY o))], false⟩) (ctok ⟨yaQ, ⟨zuY, ⟨zqY, ⟨ycT, ⟨zwH, trivial⟩⟩⟩⟩⟩ ⟨zuS, trivial⟩) Tryz.func53
def ylH : SC := ⟨⟨[(0, (.h (.sl .s)))], []⟩, 1, [(none, ⟨[(0, (.own 0))], [.osl .s 9]⟩)], fun xs => app [] xs⟩
theorem ykL : SCok Tryz.prog tabs 98 ylH := wit (G := tabs) <| yuV ycX τ_okWkF Tryz.func98 (isFn Tryz.func98) rfl (by kernel_rfl) (by kernel_rfl) (by kernel_rfl) (fun _ => by kernel_rfl)
def yiY : PC := ⟨[.h (.sl .s)], [(.sl .s)], fun xs => some xs, true⟩
theorem yoC : PCok Tryz.prog tabs 81 yiY := wit (G := tabs) <| yeU ycX τ_okWkF Tryz.func81 (isFn Tryz.func81) rfl (by kernel_rfl) (fun _ => by kernel_rfl)
def zfN (o : Ops) (v0 : zkN) : Option zkN :=
 (app ([] : List Bs) v0.2.2.2.2.2.2.1).bind fun v1 => (app ([] : List Bs) v0.2.2.2.2.2.2.2.2.2.2.2.1).bind fun v2 => some (v0.1, v0.2.1, v0.2.2.1, v0.2.2.2.1, v0.2.2.2.2.1, v0.2.2.2.2.2.1, v1, v0.2.2.2.2.2.2.2.1, v0.2.2.2.2.2.2.2.2.1, v0.2.2.2.2.2.2.2.2.2.1, v0.2.2.2.2.2.2.2.2.2.2.1, v2, v0.2.2.2.2.2.2.2.2.2.2.2.2)
def ziF (o : Ops) : PC := ⟨[(.h zwG)], [zwG], fun x => zfN o x, false⟩
theorem zkW : PCok Tryz.prog tabs 44 (ziF o) := zjX (o := o) (η := [(4000001, .sch [(.pu, 0, []), (.pu, 1, []), (.pu, 4, [3]), (.pu, 5, [3]), (.mn, 2, []), (.mn, 3, [3]), (.pu, 8, [5]), (.mn, 6, []), (.mn, 7, [5]), (.mn, 9, [0]), (.pu, 10, []), (.mn, 11, [0])])]) (Γ := ⟨[(81, yiY)], [(98, ylH)], false⟩) (ctok ⟨yoC, trivial⟩ ⟨ykL, trivial⟩) Tryz.func44
noncomputable def zvB (o : Ops) (v0 : Bs) (v3 : Int) (v4 : List zbA) (v5 : Int) (v6 : Int) (v7 : Int) (v8 : Bs) (v9 : Bs) (v10 : Bs) (v11 : Int) (v12 : Int) (v13 : Bool) (v14 : Bool) (v15 : Int) (v16 : Bs) (v17 : Bs) (v18 : List Int) : List (Option ((Int × (List zbA) × Int × Int × Int × Bs × Bs × Bs × Int × Int × Bool × Bool × Int × Bs × Bs × List Int) ⊕ ((Int × (List zbA) × Int × Int × Int × Bs × Bs × Bs × Int × Int × Bool × Bool × Int × Bs × Bs) ⊕ (Bool × Int × (List zbA) × zkN)))) :=
 rngL (rngC keqI v4 v18) (some (.inr (.inl (v3, v4, v5, v6, v7, v8, v9, v10, v11, v12, v13, v14, v15, v16, v17)))) fun v19 => (mget keqI v4 v19.1).bind fun v20 => bif (v20.2.2.2.2.2.2.2.2.2.2.2.2.2.1 == v0) then ((zfN o v20).bind fun v21 => some (.inr (.inr (true, v3, v4, v21)))) else some (.inl (v3, v4, v5, v6, v7, v8, v9, v10, v11, v12, v13, v14, v15, v16, v17, rngD keqI v18 v19.1))
noncomputable def zbB (o : Ops) (v0 : Bs) (v1 : Int) (v2 : List zbA) : Option ((zkN × Bool × Int × List zbA)) :=
 (rngA (fun x => zvB o v0 x.1 x.2.1 x.2.2.1 x.2.2.2.1 x.2.2.2.2.1 x.2.2.2.2.2.1 x.2.2.2.2.2.2.1 x.2.2.2.2.2.2.2.1 x.2.2.2.2.2.2.2.2.1 x.2.2.2.2.2.2.2.2.2.1 x.2.2.2.2.2.2.2.2.2.2.1 x.2.2.2.2.2.2.2.2.2.2.2.1 x.2.2.2.2.2.2.2.2.2.2.2.2.1 x.2.2.2.2.2.2.2.2.2.2.2.2.2.1 x.2.2.2.2.2.2.2.2.2.2.2.2.2.2.1 x.2.2.2.2.2.2.2.2.2.2.2.2.2.2.2) (v1, v2, (0 : Int), (0 : Int), (0 : Int), ([] : Bs), ([] : Bs), ([] : Bs), (0 : Int), (0 : Int), false, false, (0 : Int), ([] : Bs), ([] : Bs), List.map Prod.fst v2)).bind fun v22 => match v22 with
 | .inl v23 => some (((0 : Int), (0 : Int), (0 : Int), ([] : Bs), ([] : Bs), ([] : Bs), ([] : List Bs), (0 : Int), (0 : Int), false, false, ([] : List Bs), (0 : Int), ([] : Bs), ([] : Bs)), false, v23.1, v23.2.1)
 | .inr v24 => some (v24.2.2.2, v24.1, v24.2.1, v24.2.2.1)
noncomputable def zbY (o : Ops) : SC := ⟨⟨[(0, (.ptr 0 0)), (1, hS)], [zgB, zdC]⟩, 2, [(none, ⟨[(0, (.h zwG)), (1, hB)], [zgB, zdC]⟩)], fun x => zbB o x.1 x.2.1 x.2.2⟩
theorem zdD : SCok Tryz.prog tabs 36 (zbY o) := zgA (o := o) (η := [(200002, .rng [] ⟨[(4, (.ptr 2 0)), (12, (.ptr 3 0))], [zgB, zdC, ynA, .it 1 true (.i .i64)]⟩ [1] [(some 0, ⟨[(4, (.ptr 2 0))], [zgB, zdC, ynA]⟩), (some 1000000, ⟨[(4, (.ptr 2 0)), (5, hB)], [zgB, zdC, ywD]⟩)])]) (Γ := ⟨[(44, (ziF o))], [], false⟩) (ctok ⟨zkW, trivial⟩ trivial) Tryz.func36
def ylD : PC := ⟨[.h (.sl (.i .i64))], [(.sl (.i .i64))], fun xs => some xs, true⟩
theorem yuK : PCok Tryz.prog tabs 71 ylD := wit (G := tabs) <| yeU ycX τ_okWkF Tryz.func71 (isFn Tryz.func71) rfl (by kernel_rfl) (fun _ => by kernel_rfl)
def zkG (o : Ops) (v4 : Bool) (v5 : Int) (v6 : List zbA) (v7 : List Int) (v8 : Int) (v9 : Int) (v10 : Int) (v11 : Bs) (v12 : Bs) (v13 : Bs) (v14 : List Bs) (v15 : Int) (v16 : Int) (v17 : Bool) (v18 : Bool) (v19 : List Bs) (v20 : Int) (v21 : Bs) (v22 : Bs) : Option ((Bool × Int × (List zbA) × (List Int) × zkN) ⊕ ((Int × (List zbA) × List Int))) :=
 bif v4 then ((app v7 ([v8] : List Int)).bind fun v23 => let v24 : zkN := zkA keqI v6 v10 ((0 : Int), (0 : Int), (0 : Int), ([] : Bs), ([] : Bs), ([] : Bs), ([] : List Bs), (0 : Int), (0 : Int), false, false, ([] : List Bs), (0 : Int), ([] : Bs), ([] : Bs))
 some (.inl (mhas keqI v6 v10, v5, v6, v23, v24))) else some (.inr (v5, v6, v7))
def zbL (o : Ops) (v0 : Int) (v1 : Int) (v2 : List zbA) : Option (((List Int) × Int × List zbA)) :=
 let v3 : zkN := zkA keqI v2 v0 ((0 : Int), (0 : Int), (0 : Int), ([] : Bs), ([] : Bs), ([] : Bs), ([] : List Bs), (0 : Int), (0 : Int), false, false, ([] : List Bs), (0 : Int), ([] : Bs), ([] : Bs))
 (iter (fun x => zkG o x.1 x.2.1 x.2.2.1 x.2.2.2.1 x.2.2.2.2.1 x.2.2.2.2.2.1 x.2.2.2.2.2.2.1 x.2.2.2.2.2.2.2.1 x.2.2.2.2.2.2.2.2.1 x.2.2.2.2.2.2.2.2.2.1 x.2.2.2.2.2.2.2.2.2.2.1 x.2.2.2.2.2.2.2.2.2.2.2.1 x.2.2.2.2.2.2.2.2.2.2.2.2.1 x.2.2.2.2.2.2.2.2.2.2.2.2.2.1 x.2.2.2.2.2.2.2.2.2.2.2.2.2.2.1 x.2.2.2.2.2.2.2.2.2.2.2.2.2.2.2.1 x.2.2.2.2.2.2.2.2.2.2.2.2.2.2.2.2.1 x.2.2.2.2.2.2.2.2.2.2.2.2.2.2.2.2.2.1 x.2.2.2.2.2.2.2.2.2.2.2.2.2.2.2.2.2.2) (mhas keqI v2 v0, v1, v2, ([] : List Int), v3)).bind fun v25 => some (v25.2.2, v25.1, v25.2.1)
def zdB (o : Ops) : SC := ⟨⟨[(0, (.ptr 0 0)), (1, hI)], [zgB, zdC]⟩, 1, [(none, ⟨[(0, (.hc (.i .i64)))], [zgB, zdC]⟩)], fun x => zbL o x.1 x.2.1 x.2.2⟩
theorem zeR : SCok Tryz.prog tabs 25 (zdB o) := zgA (o := o) (η := [(200003, .loop [.sl 5 (.i .i64) 3] ⟨[(0, (.ptr 0 0)), (5, (.own 2)), (6, (.ptr 3 0)), (7, hB)], [zgB, zdC, .osl (.i .i64) 3, yvR]⟩ [4] [(some 0, ⟨[(5, (.own 2))], [zgB, zdC, .osl (.i .i64) 3]⟩)]),
 (4000004, .sch [(.pu, 0, []), (.pu, 1, []), (.pu, 2, []), (.pu, 3, []), (.pu, 4, []), (.pu, 5, []), (.pu, 6, []), (.pu, 7, []), (.pu, 8, []), (.pu, 9, []), (.pu, 10, [5]), (.mn, 11, [5]), (.pu, 12, [])])]) (Γ := ⟨[(71, ylD)], [], false⟩) (ctok ⟨yuK, trivial⟩ trivial) Tryz.func25
def zjO (o : Ops) (v0 : Int) (v1 : Int) (v2 : List zbA) : Option ((Bool × Int × List zbA)) :=
 let v3 : zkN := zkA keqI v2 v0 ((0 : Int), (0 : Int), (0 : Int), ([] : Bs), ([] : Bs), ([] : Bs), ([] : List Bs), (0 : Int), (0 : Int), false, false, ([] : List Bs), (0 : Int), ([] : Bs), ([] : Bs))
 some (v3.2.2.2.2.2.2.2.2.2.1, v1, v2)
def zmN (o : Ops) : SC := ⟨⟨[(0, hI), (1, (.ptr 0 0))], [yeQ, ycP, zdC]⟩, 1, [(none, ⟨[(0, hB)], [yeQ, ycP, zdC]⟩)], fun x => zjO o x.1 x.2.1 x.2.2⟩
theorem ztV : SCok Tryz.prog tabs 114 (zmN o) := zgA (o := o) (η := []) (Γ := ⟨[], [], false⟩) (ctok trivial trivial) Tryz.func114
def zlF (o : Ops) (v0 : List Int) (v3 : Int) (v4 : Int) (v5 : List zbA) : Option ((Int × Int × List zbA) ⊕ ((Int × Int × List zbA) ⊕ (Int × List zbA))) :=
 bif decide (v3 < (v0.length : Int)) then ((idx v0 v3).bind fun v6 => (zjO o v6 v4 v5).bind fun v7 => bif v7.1 then some (.inr (.inl (v3, v7.2))) else some (.inl (w64 (v3 + 1), v7.2))) else some (.inr (.inr (v4, v5)))
def zlV (o : Ops) (v0 : List Int) (v1 : Int) (v2 : List zbA) : Option ((Int × Int × List zbA)) :=
 (iter (fun x => zlF o v0 x.1 x.2.1 x.2.2) ((0 : Int), v1, v2)).bind fun v8 => match v8 with
 | .inl v9 => some v9
 | .inr v10 => some ((-1 : Int), v10)
def zqK (o : Ops) : SC := ⟨⟨[(0, (.h (.sl (.i .i64)))), (1, (.fn 114 [] [(.ptr 0 0)]))], [yeQ, ycP, zdC]⟩, 1, [(none, ⟨[(0, hI)], [yeQ, ycP, zdC]⟩)], fun x => zlV o x.1 x.2.1 x.2.2⟩
theorem zvX : SCok Tryz.prog tabs 156 (zqK o) := zgA (o := o) (η := [(200002, .loop [] ⟨[(1, (.fn 114 [] [(.ptr 0 0)])), (8, hI)], [yeQ, ycP, zdC]⟩ [0, 7] [(some 1000000, ⟨[(4, hI)], [yeQ, ycP, zdC]⟩), (some 0, ⟨[], [yeQ, ycP, zdC]⟩)])]) (Γ := ⟨[], [(114, (zmN o))], false⟩) (ctok trivial ⟨ztV, trivial⟩) Tryz.func156
def zfX (o : Ops) (v0 : List Int) (v1 : Int) (v2 : List zbA) : Option ((Bool × Int × List zbA)) :=
 (zlV o v0 v1 v2).bind fun v3 => some (decide (v3.1 ≥ 0), v3.2)
def znB (o : Ops) : SC := ⟨⟨[(0, (.h (.sl (.i .i64)))), (1, (.fn 114 [] [(.ptr 0 0)]))], [yeQ, ycP, zdC]⟩, 1, [(none, ⟨[(0, hB)], [yeQ, ycP, zdC]⟩)], fun x => zfX o x.1 x.2.1 x.2.2⟩
theorem ztM : SCok Tryz.prog tabs 113 (znB o) := zgA (o := o) (η := []) (Γ := ⟨[], [(156, (zqK o))], false⟩) (ctok trivial ⟨zvX, trivial⟩) Tryz.func113
def zcG (o : Ops) (v0 : Int) (v1 : Int) (v2 : List zbA) : Option ((Bool × Int × List zbA)) :=
 (zbL o v0 v1 v2).bind fun v3 => (zfX o v3.1 v3.2.1 v3.2.2).bind fun v4 => some v4
def zeM (o : Ops) : SC := ⟨⟨[(0, (.ptr 0 0)), (1, hI)], [zgB, zdC]⟩, 1, [(none, ⟨[(0, hB)], [zgB, zdC]⟩)], fun x => zcG o x.1 x.2.1 x.2.2⟩
theorem zgM : SCok Tryz.prog tabs 54 (zeM o) := zgA (o := o) (η := []) (Γ := ⟨[], [(25, (zdB o)), (113, (znB o))], false⟩) (ctok trivial ⟨zeR, ⟨ztM, trivial⟩⟩) Tryz.func54
def zrC (o : Ops) (v0 : zkN) (v1 : Int) : Option (Bool) :=
 some (!v0.2.2.2.2.2.2.2.2.2.1)
def zqG (o : Ops) : PC := ⟨[(.h zwG), hI], [.b], fun x => zrC o x.1 x.2, false⟩
theorem zwD : PCok Tryz.prog tabs 123 (zqG o) := zjX (o := o) (η := []) (Γ := ⟨[], [], false⟩) (ctok trivial trivial) Tryz.func123
def zpA (o : Ops) (v0 : zkN) (v1 : Int) : Option (Bool) :=
 some (!v0.2.2.2.2.2.2.2.2.2.2.1)
def zoG (o : Ops) : PC := ⟨[(.h zwG), hI], [.b], fun x => zpA o x.1 x.2, false⟩
theorem zuK : PCok Tryz.prog tabs 124 (zoG o) := zjX (o := o) (η := []) (Γ := ⟨[], [], false⟩) (ctok trivial trivial) Tryz.func124
def ziR (o : Ops) (v0 : zkN) (v1 : Int) : Option (Bool) :=
 some (decide (v0.2.2.2.2.2.2.2.2.1 > v1))
def zqL (o : Ops) : PC := ⟨[(.h zwG), hI], [.b], fun x => ziR o x.1 x.2, false⟩
theorem zwF : PCok Tryz.prog tabs 125 (zqL o) := zjX (o := o) (η := []) (Γ := ⟨[], [], false⟩) (ctok trivial trivial) Tryz.func125
def zmQ (o : Ops) (v1 : Int) (v2 : Int) (v3 : Int) (v4 : Int) (v5 : Int) (v6 : Bs) (v7 : Bs) (v8 : Bs) (v9 : List Bs) (v10 : Int) (v11 : Int) (v12 : Bool) (v13 : Bool) (v14 : List Bs) (v15 : Int) (v16 : Bs) (v17 : Bs) : Option (zbA ⊕ (Bool ⊕ Unit)) :=
 bif decide (v2 < 3) then (bif decide (v2 = (0 : Int)) then ((zrC o (v3, v4, v5, v6, v7, v8, v9, v10, v11, v12, v13, v14, v15, v16, v17) v1).bind fun v18 => bif (!v18) then some (.inr (.inl false)) else some (.inl (w64 (v2 + 1), v3, v4, v5, v6, v7, v8, v9, v10, v11, v12, v13, v14, v15, v16, v17))) else (bif decide (v2 = (1 : Int)) then ((zpA o (v3, v4, v5, v6, v7, v8, v9, v10, v11, v12, v13, v14, v15, v16, v17) v1).bind fun v19 => bif (!v19) then some (.inr (.inl false)) else some (.inl (w64 (v2 + 1), v3, v4, v5, v6, v7, v8, v9, v10, v11, v12, v13, v14, v15, v16, v17))) else (bif decide (v2 = (2 : Int)) then ((ziR o (v3, v4, v5, v6, v7, v8, v9, v10, v11, v12, v13, v14, v15, v16, v17) v1).bind fun v20 => bif (!v20) then some (.inr (.inl false)) else some (.inl (w64 (v2 + 1), v3, v4, v5, v6, v7, v8, v9, v10, v11, v12, v13, v14, v15, v16, v17))) else none))) else some (.inr (.inr ()))
def zrP (o : Ops) (v0 : zkN) (v1 : Int) : Option (Bool) :=
 (iter (fun x => zmQ o v1 x.1 x.2.1 x.2.2.1 x.2.2.2.1 x.2.2.2.2.1 x.2.2.2.2.2.1 x.2.2.2.2.2.2.1 x.2.2.2.2.2.2.2.1 x.2.2.2.2.2.2.2.2.1 x.2.2.2.2.2.2.2.2.2.1 x.2.2.2.2.2.2.2.2.2.2.1 x.2.2.2.2.2.2.2.2.2.2.2.1 x.2.2.2.2.2.2.2.2.2.2.2.2.1 x.2.2.2.2.2.2.2.2.2.2.2.2.2.1 x.2.2.2.2.2.2.2.2.2.2.2.2.2.2.1 x.2.2.2.2.2.2.2.2.2.2.2.2.2.2.2) ((0 : Int), v0)).bind fun v21 => match v21 with
 | .inl v22 => (some v22)
 | .inr v23 => (some true)
def zxQ (o : Ops) : PC := ⟨[(.h zwG), hI], [.b], fun x => zrP o x.1 x.2, false⟩
theorem yeI : PCok Tryz.prog tabs 69 (zxQ o) := zjX (o := o) (η := [(200002, .loop [] ⟨[(2, (.ptr 0 0)), (7, (.ag [(.fn 123 [] []), (.fn 124 [] []), (.fn 125 [] [])])), (8, hI)], [yvR]⟩ [1] [(some 1000000, ⟨[(4, hB)], []⟩), (some 0, ⟨[], []⟩)])]) (Γ := ⟨[(123, (zqG o)), (124, (zoG o)), (125, (zqL o))], [], false⟩) (ctok ⟨zwD, ⟨zuK, ⟨zwF, trivial⟩⟩⟩ trivial) Tryz.func69
def zaQ (o : Ops) (v0 : Int) (v1 : Int) (v2 : Int) (v3 : List zbA) : Option ((Bool × Int × List zbA)) :=
 let v4 : zkN := zkA keqI v3 v0 ((0 : Int), (0 : Int), (0 : Int), ([] : Bs), ([] : Bs), ([] : Bs), ([] : List Bs), (0 : Int), (0 : Int), false, false, ([] : List Bs), (0 : Int), ([] : Bs), ([] : Bs))
 bif mhas keqI v3 v0 then ((zrP o v4 v1).bind fun v5 => bif v5 then ((zcG o v0 v2 v3).bind fun v6 => some ((!v6.1), v6.2)) else some (false, v2, v3)) else some (false, v2, v3)
def zdA (o : Ops) : SC := ⟨⟨[(0, (.ptr 0 0)), (1, hI), (2, hI)], [zgB, zdC]⟩, 1, [(none, ⟨[(0, hB)], [zgB, zdC]⟩)], fun x => zaQ o x.1 x.2.1 x.2.2.1 x.2.2.2⟩
theorem zeF : SCok Tryz.prog tabs 22 (zdA o) := zgA (o := o) (η := []) (Γ := ⟨[(69, (zxQ o))], [(54, (zeM o))], false⟩) (ctok ⟨yeI, trivial⟩ ⟨zgM, trivial⟩) Tryz.func22
def ziK (o : Ops) (v0 : Int) (v1 : zkN) (v2 : List (Int × Unit)) : Option ((Bool × List (Int × Unit))) :=
 let v3 : Unit := zkA keqI v2 v0 ()
 some ((!(mhas keqI v2 v0)), v2)
def zmA (o : Ops) : SC := ⟨⟨[(0, hI), (1, (.h zwG)), (2, (.ptr 0 0))], [.blk 111 [(.mpr 1)], ycG]⟩, 1, [(none, ⟨[(0, hB)], [.blk 111 [(.mpr 1)], ycG]⟩)], fun x => ziK o x.1 x.2.1 x.2.2⟩
theorem zsW : SCok Tryz.prog tabs 78 (zmA o) := zgA (o := o) (η := []) (Γ := ⟨[], [], false⟩) (ctok trivial trivial) Tryz.func78
noncomputable def zrR (o : Ops) (v2 : List zbA) (v3 : List (Int × Unit)) (v4 : List Int) : List (Option (((List zbA) × (List (Int × Unit)) × List Int) ⊕ (((List zbA) × List (Int × Unit))))) :=
 rngL (rngC keqI v2 v4) (some (.inr (v2, v3))) fun v5 => (mget keqI v2 v5.1).bind fun v6 => (ziK o v5.1 v6 v3).bind fun v7 => bif v7.1 then some (.inl (mdel keqI v2 v5.1, v7.2, rngD keqI v4 v5.1)) else some (.inl (v2, v7.2, rngD keqI v4 v5.1))
noncomputable def zkZ (o : Ops) (v0 : List zbA) (v1 : List (Int × Unit)) : Option (((List zbA) × List (Int × Unit))) :=
 (rngA (fun x => zrR o x.1 x.2.1 x.2.2) (v0, v1, List.map Prod.fst v0)).bind fun v8 => some v8
noncomputable def zrT (o : Ops) : SC := ⟨⟨[(0, (.mpr 0)), (1, (.fn 78 [] [(.ptr 1 0)]))], [zdC, ywF, ycG]⟩, 0, [(none, ⟨[], [zdC, ywF, ycG]⟩)], fun x => zkZ o x.1 x.2⟩
theorem zxL : SCok Tryz.prog tabs 77 (zrT o) := zgA (o := o) (η := [(200001, .rng [] ⟨[(0, (.mpr 0)), (1, (.fn 78 [] [(.ptr 1 0)])), (7, (.ptr 3 0))], [zdC, ywF, ycG, .it 0 true (.i .i64)]⟩ [] [(some 0, ⟨[], [zdC, ywF, ycG]⟩)])]) (Γ := ⟨[], [(78, (zmA o))], false⟩) (ctok trivial ⟨zsW, trivial⟩) Tryz.func77
noncomputable def zfV (o : Ops) (v10 : ((List Int) × Int × List zbA)) (v11 : Int) (v12 : Int) (v13 : List zbA) (v14 : List Int) (v15 : List (Int × Unit)) : Option ((Int × Int × (List zbA) × (List Int) × List (Int × Unit)) ⊕ ((Int × (List zbA) × (List Int) × List (Int × Unit)))) :=
 bif decide (v11 < (v10.1.length : Int)) then ((idx v10.1 v11).bind fun v16 => let v17 : List (Int × Unit) := mset keqI kltI v15 v16 ()
 some (.inl (w64 (v11 + 1), v12, v13, v14, v17))) else some (.inr (v12, v13, v14, v15))
noncomputable def zoI (o : Ops) (v0 : Int) (v3 : Int) (v4 : List zbA) (v5 : List Int) (v6 : List (Int × Unit)) : List (Option ((Int × (List zbA) × (List Int) × List (Int × Unit)) ⊕ ((Int × (List zbA) × List (Int × Unit))))) :=
 rngL (rngC keqI v4 v5) (some (.inr (v3, v4, v6))) fun v7 => (mget keqI v4 v7.1).bind fun v8 => (zaQ o v7.1 v0 v3 v4).bind fun v9 => bif (!v9.1) then some (.inl (v9.2.1, v9.2.2, rngD keqI v5 v7.1, v6)) else ((zbL o v7.1 v9.2.1 v9.2.2).bind fun v10 => (iter (fun x => zfV o v10 x.1 x.2.1 x.2.2.1 x.2.2.2.1 x.2.2.2.2) ((0 : Int), v10.2.1, v10.2.2, rngD keqI v5 v7.1, v6)).bind fun v18 => some (.inl v18))
noncomputable def zaY (o : Ops) (v0 : Int) (v1 : Int) (v2 : List zbA) : Option ((Int × Int × List zbA)) :=
 (rngA (fun x => zoI o v0 x.1 x.2.1 x.2.2.1 x.2.2.2) (v1, v2, List.map Prod.fst v2, ([] : List (Int × Unit)))).bind fun v19 => (zkZ o v19.2.1 v19.2.2).bind fun v20 => some (w64 ((v19.2.1.length : Int) - (v20.1.length : Int)), v19.1, v20.1)
noncomputable def zbN (o : Ops) : SC := ⟨⟨[(0, (.ptr 0 0)), (1, hI)], [zgB, zdC]⟩, 1, [(none, ⟨[(0, hI)], [zgB, zdC]⟩)], fun x => zaY o x.1 x.2.1 x.2.2⟩
theorem zcP : SCok Tryz.prog tabs 31 (zbN o) := zgA (o := o) (η := [(200007, .loop [] ⟨[(0, (.ptr 0 0)), (5, (.ptr 2 0)), (15, (.ptr 3 0)), (29, hI)], [zgB, zdC, ynZ, .it 1 true (.i .i64), ycG]⟩ [1, 4, 27, 28] [(some 2, ⟨[(0, (.ptr 0 0)), (5, (.ptr 2 0)), (15, (.ptr 3 0))], [zgB, zdC, ynZ, .it 1 true (.i .i64), ycG]⟩)]),
 (200003, .rng [] ⟨[(0, (.ptr 0 0)), (5, (.ptr 2 0)), (15, (.ptr 3 0))], [zgB, zdC, ynZ, .it 1 true (.i .i64), ycG]⟩ [1, 4] [(some 0, ⟨[(0, (.ptr 0 0)), (5, (.ptr 2 0))], [zgB, zdC, .blk 111 [(.mpr 3)], ycG]⟩)])]) (Γ := ⟨[], [(22, (zdA o)), (25, (zdB o)), (77, (zrT o))], false⟩) (ctok trivial ⟨zeF, ⟨zeR, ⟨zxL, trivial⟩⟩⟩) Tryz.func31
noncomputable def zjP (o : Ops) (v0 : Int) (v1 : Int) (v2 : Int) (v3 : Bs) (v4 : Bs) (v5 : Bs) (v6 : Int) (v7 : Int) (v8 : Bool) (v9 : Bool) (v10 : Int) (v11 : Bs) (v12 : Bs) (v17 : (zkN × Bool × Int × List zbA)) : Option ((Int × Int × Int × List zbA) ⊕ (Int × (List zbA) × Int × Int × Int × Bs × Bs × Bs × Int × Int × Bool × Bool × Int × Bs × Bs)) :=
 let v18 : zkN := zkA keqI v17.2.2.2 v2 ((0 : Int), (0 : Int), (0 : Int), ([] : Bs), ([] : Bs), ([] : Bs), ([] : List Bs), (0 : Int), (0 : Int), false, false, ([] : List Bs), (0 : Int), ([] : Bs), ([] : Bs))
 bif decide (v2 > 0) then (bif (!(mhas keqI v17.2.2.2 v2)) then some (.inl ((0 : Int), (133 : Int), v17.2.2)) else ((zcG o v2 v17.2.2.1 v17.2.2.2).bind fun v19 => bif v19.1 then some (.inl ((0 : Int), (133 : Int), v19.2)) else some (.inr (v19.2.1, v19.2.2, v0, v1, v2, v3, v4, v5, v6, v7, v8, v9, v10, v11, v12)))) else some (.inr (v17.2.2.1, v17.2.2.2, v0, v1, v2, v3, v4, v5, v6, v7, v8, v9, v10, v11, v12))
noncomputable def zoA (o : Ops) (v22 : Int × (List zbA) × Int × Int × Int × Bs × Bs × Bs × Int × Int × Bool × Bool × Int × Bs × Bs) (v23 : (Int × Int × List zbA)) : Option ((Int × Int × Int × List zbA) ⊕ (Int × (List zbA) × Int × Int × Int × Bs × Bs × Bs × Int × Int × Bool × Bool × Int × Bs × Bs)) :=
 bif decide ((v23.2.2.length : Int) ≥ 256) then some (.inl ((0 : Int), (130 : Int), v23.2)) else (bif decide (v23.2.1 ≥ 99999999) then some (.inl ((0 : Int), (130 : Int), v23.2)) else some (.inr (v23.2.1, v23.2.2, v22.2.2)))
noncomputable def zdH (o : Ops) (v0 : Int) (v1 : Int) (v2 : Int) (v3 : Bs) (v4 : Bs) (v5 : Bs) (v6 : Int) (v7 : Int) (v8 : Bool) (v9 : Bool) (v10 : Int) (v11 : Bs) (v12 : Bs) (v13 : Int) (v14 : Int) (v15 : List zbA) : Option ((Int × Int × Int × List zbA)) :=
 (zfO o (v0, v1, v2, v3, v4, v5, ([] : List Bs), v6, v7, v8, v9, ([] : List Bs), v10, v11, v12)).bind fun v16 => bif (!v16) then some ((0 : Int), (131 : Int), v14, v15) else ((zbB o v11 v14 v15).bind fun v17 => bif v17.2.1 then some ((0 : Int), (132 : Int), v17.2.2) else ((zjP o v0 v1 v2 v3 v4 v5 v6 v7 v8 v9 v10 v11 v12 v17).bind fun v20 => match v20 with
 | .inl v21 => some v21
 | .inr v22 => ((zaY o v13 v22.1 v22.2.1).bind fun v23 => (zoA o v22 v23).bind fun v24 => match v24 with
 | .inl v25 => some v25
 | .inr v26 => ((zfN o (v26.2.2.1, v26.2.2.2.1, v26.2.2.2.2.1, v26.2.2.2.2.2.1, v26.2.2.2.2.2.2.1, v26.2.2.2.2.2.2.2.1, ([] : List Bs), v26.2.2.2.2.2.2.2.2.1, v26.2.2.2.2.2.2.2.2.2.1, v26.2.2.2.2.2.2.2.2.2.2.1, v26.2.2.2.2.2.2.2.2.2.2.2.1, ([] : List Bs), v26.2.2.2.2.2.2.2.2.2.2.2.2)).bind fun v27 => let v28 : List zbA := mset keqI kltI v26.2.1 v26.1 (v26.1, v27.2.1, v27.2.2.1, v27.2.2.2.1, v27.2.2.2.2.1, v27.2.2.2.2.2.1, v27.2.2.2.2.2.2.1, v27.2.2.2.2.2.2.2.1, v27.2.2.2.2.2.2.2.2.1, false, false, v27.2.2.2.2.2.2.2.2.2.2.2)
 some (v26.1, (0 : Int), w64 (v26.1 + 1), v28)))))
noncomputable def zoE (o : Ops) : SC := ⟨⟨[(0, (.ptr 0 0)), (1, (.ag [hI, hI, hI, hS, hS, hS, .nils, hI, hI, hB, hB, .nils, hI, hS, hS])), (2, hI)], [zgB, zdC]⟩, 2, [(none, ⟨[(0, hI), (1, hI)], [zgB, .mp false (.i .i64) zwG]⟩)], fun x => zdH o x.1 x.2.1 x.2.2.1 x.2.2.2.1 x.2.2.2.2.1 x.2.2.2.2.2.1 x.2.2.2.2.2.2.1 x.2.2.2.2.2.2.2.1 x.2.2.2.2.2.2.2.2.1 x.2.2.2.2.2.2.2.2.2.1 x.2.2.2.2.2.2.2.2.2.2.1 x.2.2.2.2.2.2.2.2.2.2.2.1 x.2.2.2.2.2.2.2.2.2.2.2.2.1 x.2.2.2.2.2.2.2.2.2.2.2.2.2.1 x.2.2.2.2.2.2.2.2.2.2.2.2.2.2.1 x.2.2.2.2.2.2.2.2.2.2.2.2.2.2.2⟩
theorem zuR : SCok Tryz.prog tabs 20 (zoE o) := zgA (o := o) (η := [(2000009, .join [] [2] [(some 1000000, ⟨[(6, hI), (7, hI)], [zgB, zdC]⟩), (none, ⟨[(0, (.ptr 0 0)), (4, (.ptr 2 0))], [zgB, zdC, ynA]⟩)]),
 (2000012, .join [] [] [(some 1000000, ⟨[(6, hI), (7, hI)], [zgB, zdC]⟩), (none, ⟨[(0, (.ptr 0 0)), (4, (.ptr 2 0))], [zgB, zdC, ynA]⟩)]),
 (4000006, .sch [(.pu, 0, []), (.pu, 1, []), (.pu, 2, []), (.pu, 3, []), (.pu, 4, []), (.pu, 5, []), (.pu, 6, []), (.pu, 7, []), (.pu, 8, []), (.pu, 9, [5]), (.mn, 10, []), (.mn, 11, [5]), (.pu, 12, [])]),
 (4000014, .sch [(.pu, 0, []), (.pu, 1, []), (.pu, 2, []), (.pu, 3, []), (.pu, 4, []), (.pu, 5, []), (.pu, 6, []), (.pu, 7, []), (.mn, 8, [0, 1, 2, 3])])]) (Γ := ⟨[(53, (znF o)), (44, (ziF o))], [(36, (zbY o)), (54, (zeM o)), (31, (zbN o))], false⟩) (ctok ⟨zqS, ⟨zkW, trivial⟩⟩ ⟨zdD, ⟨zgM, ⟨zcP, trivial⟩⟩⟩) Tryz.func20
def zjF (o : Ops) (v0 : Int) (v1 : Int) (v2 : Int) (v3 : Bs) (v4 : Bs) (v5 : Bs) (v6 : List Bs) (v7 : Int) (v8 : Int) (v9 : Bool) (v10 : Bool) (v11 : List Bs) (v12 : Int) (v13 : Bs) (v14 : Bs) : Option (zkN) :=
 some (v0, v1, v2, v3, v4, v5, v6, v7, v8, true, v10, v11, v12, v13, v14)
def zmY (o : Ops) : SC := ⟨⟨[(0, (.ptr 0 0))], [yvR]⟩, 0, [(none, ⟨[], [yvR]⟩)], fun x => zjF o x.1 x.2.1 x.2.2.1 x.2.2.2.1 x.2.2.2.2.1 x.2.2.2.2.2.1 x.2.2.2.2.2.2.1 x.2.2.2.2.2.2.2.1 x.2.2.2.2.2.2.2.2.1 x.2.2.2.2.2.2.2.2.2.1 x.2.2.2.2.2.2.2.2.2.2.1 x.2.2.2.2.2.2.2.2.2.2.2.1 x.2.2.2.2.2.2.2.2.2.2.2.2.1 x.2.2.2.2.2.2.2.2.2.2.2.2.2.1 x.2.2.2.2.2.2.2.2.2.2.2.2.2.2⟩
theorem ztQ : SCok Tryz.prog tabs 126 (zmY o) := zgA (o := o) (η := []) (Γ := ⟨[], [], false⟩) (ctok trivial trivial) Tryz.func126
def zlE (o : Ops) (v0 : Int) (v1 : Int) (v2 : List zbA) : Option ((Int × List zbA)) :=
 let v3 : zkN := zkA keqI v2 v0 ((0 : Int), (0 : Int), (0 : Int), ([] : Bs), ([] : Bs), ([] : Bs), ([] : List Bs), (0 : Int), (0 : Int), false, false, ([] : List Bs), (0 : Int), ([] : Bs), ([] : Bs))
 (zjF o v3.1 v3.2.1 v3.2.2.1 v3.2.2.2.1 v3.2.2.2.2.1 v3.2.2.2.2.2.1 v3.2.2.2.2.2.2.1 v3.2.2.2.2.2.2.2.1 v3.2.2.2.2.2.2.2.2.1 v3.2.2.2.2.2.2.2.2.2.1 v3.2.2.2.2.2.2.2.2.2.2.1 v3.2.2.2.2.2.2.2.2.2.2.2.1 v3.2.2.2.2.2.2.2.2.2.2.2.2.1 v3.2.2.2.2.2.2.2.2.2.2.2.2.2.1 v3.2.2.2.2.2.2.2.2.2.2.2.2.2.2).bind fun v4 => (chk (mhas keqI v2 v0)).bind fun _ => let v5 : List zbA := mrep keqI v2 v0 v4
 some (v1, v5)
def zpP (o : Ops) : SC := ⟨⟨[(0, (.ptr 0 0)), (1, hI), (2, (.fn 126 [] []))], [zgB, zdC]⟩, 0, [(none, ⟨[], [zgB, zdC]⟩)], fun x => zlE o x.1 x.2.1 x.2.2⟩
theorem zvO : SCok Tryz.prog tabs 117 (zpP o) := zgA (o := o) (η := [(4000002, .sch [(.pu, 0, []), (.pu, 1, []), (.pu, 2, []), (.pu, 3, []), (.pu, 4, []), (.pu, 5, []), (.mn, 6, [0, 1, 2, 3])])]) (Γ := ⟨[], [(126, (zmY o))], true⟩) (ctok trivial ⟨ztQ, trivial⟩) Tryz.func117
def zdT (o : Ops) (v0 : Int) (v1 : Int) (v2 : List zbA) : Option ((Int × List zbA)) :=
 (zlE o v0 v1 v2).bind fun v3 => some v3
def zgK (o : Ops) : SC := ⟨⟨[(0, (.ptr 0 0)), (1, hI)], [zgB, zdC]⟩, 0, [(none, ⟨[], [zgB, zdC]⟩)], fun x => zdT o x.1 x.2.1 x.2.2⟩
theorem zkP : SCok Tryz.prog tabs 70 (zgK o) := zgA (o := o) (η := []) (Γ := ⟨[], [(117, (zpP o))], false⟩) (ctok trivial ⟨zvO, trivial⟩) Tryz.func70
def zdU (o : Ops) (v0 : Int) (v1 : Int) (v2 : List zbA) : Option ((Int × Int × List zbA)) :=
 let v3 : zkN := zkA keqI v2 v0 ((0 : Int), (0 : Int), (0 : Int), ([] : Bs), ([] : Bs), ([] : Bs), ([] : List Bs), (0 : Int), (0 : Int), false, false, ([] : List Bs), (0 : Int), ([] : Bs), ([] : Bs))
 bif (!(mhas keqI v2 v0)) then some ((131 : Int), v1, v2) else ((zdT o v0 v1 v2).bind fun v4 => some ((0 : Int), v4))
def zgL (o : Ops) : SC := ⟨⟨[(0, (.ptr 0 0)), (1, hI)], [zgB, zdC]⟩, 1, [(none, ⟨[(0, hI)], [zgB, zdC]⟩)], fun x => zdU o x.1 x.2.1 x.2.2⟩
theorem zkL : SCok Tryz.prog tabs 24 (zgL o) := zgA (o := o) (η := []) (Γ := ⟨[], [(70, (zgK o))], false⟩) (ctok trivial ⟨zkP, trivial⟩) Tryz.func24
def zwR (o : Ops) (v0 : List zbA) : Option ((List zbA)) :=
 some v0
def zyT (o : Ops) : SC := ⟨⟨[(0, (.mpr 0))], [zdC]⟩, 1, [(none, ⟨[(0, (.fn 97 [] [(.ptr 1 0)]))], [zdC, .blk 73 [(.mpr 0)]]⟩)], fun x => zwR o x⟩
theorem yfY : SCok Tryz.prog tabs 43 (zyT o) := zgA (o := o) (η := []) (Γ := ⟨[], [], false⟩) (ctok trivial trivial) Tryz.func43
def ygV : SC := ⟨⟨[(0, (.fn 97 [] [(.ptr 0 0)]))], [.blk 73 [(.mpr 1)], zdC]⟩, 1, [(none, ⟨[(0, (.h (.sl (.i .i64))))], [.blk 73 [(.mpr 1)], zdC]⟩)], fun es => zzL es⟩
theorem ysQ : SCok Tryz.prog tabs 42 ygV := wit (G := tabs) <| ynO (kT := 3) (isFn Tryz.func42) (by kernel_rfl) YtebbcofojchkpaaGreatDoor.sortedIK
def zjR (o : Ops) (v4 : ((List Int) × List zbA)) (v5 : Int) (v6 : Int) (v7 : List zbA) (v8 : List zkN) : Option ((Int × Int × (List zbA) × List zkN) ⊕ ((Int × (List zbA) × List zkN))) :=
 bif decide (v5 < (v4.1.length : Int)) then ((idx v4.1 v5).bind fun v9 => let v10 : zkN := zkA keqI v7 v9 ((0 : Int), (0 : Int), (0 : Int), ([] : Bs), ([] : Bs), ([] : Bs), ([] : List Bs), (0 : Int), (0 : Int), false, false, ([] : List Bs), (0 : Int), ([] : Bs), ([] : Bs))
 (zfN o v10).bind fun v11 => (app v8 ([v11] : List zkN)).bind fun v12 => some (.inl (w64 (v5 + 1), v6, v7, v12))) else some (.inr (v6, v7, v8))
def zeT (o : Ops) (v0 : Int) (v1 : List zbA) : Option ((Int × (List zbA) × List zkN)) :=
 (chk (decide ((0 : Int) ≤ (v1.length : Int)) && decide ((v1.length : Int) ≤ (LIM : Int)))).bind fun _ => (mkL (0 : Int) ((0 : Int), (0 : Int), (0 : Int), ([] : Bs), ([] : Bs), ([] : Bs), ([] : List Bs), (0 : Int), (0 : Int), false, false, ([] : List Bs), (0 : Int), ([] : Bs), ([] : Bs))).bind fun v2 => (zwR o v1).bind fun v3 => (zzL v3).bind fun v4 => (iter (fun x => zjR o v4 x.1 x.2.1 x.2.2.1 x.2.2.2) ((0 : Int), v0, v4.2, v2)).bind fun v13 => some v13
def zjN (o : Ops) : SC := ⟨⟨[(0, (.ptr 0 0))], [zgB, zdC]⟩, 1, [(none, ⟨[(0, (.own 2))], [zgB, zdC, .osl zwG 47]⟩)], fun x => zeT o x.1 x.2⟩
theorem znQ : SCok Tryz.prog tabs 15 (zjN o) := zgA (o := o) (η := [(200003, .loop [] ⟨[(0, (.ptr 0 0)), (3, (.own 2)), (19, hI)], [zgB, zdC, .osl zwG 47]⟩ [2, 17, 18] [(some 0, ⟨[(3, (.own 2))], [zgB, zdC, .osl zwG 47]⟩)])]) (Γ := ⟨[(44, (ziF o))], [(43, (zyT o)), (42, ygV)], false⟩) (ctok ⟨zkW, trivial⟩ ⟨yfY, ⟨ysQ, trivial⟩⟩) Tryz.func15
def zkE (o : Ops) (v0 : List Bs) : Option (List Bs) :=
 (o.itoa (v0.length : Int)).bind fun v1 => (app ([v1] : List Bs) v0).bind fun v2 => some v2
def zuE (o : Ops) : PC := ⟨[(.h (.sl .s))], [(.sl .s)], fun x => zkE o x, false⟩
theorem zzA : PCok Tryz.prog tabs 48 (zuE o) := zjX (o := o) (η := []) (Γ := ⟨[(46, (yiO o))], [], false⟩) (ctok ⟨(zrD.itoa (G := tabs)), trivial⟩ trivial) Tryz.func48
def zqO (o : Ops) (v0 : Bool) : Option Bs :=
 bif v0 then (some ([49] : Bs)) else (some ([48] : Bs))
def zwK (o : Ops) : PC := ⟨[hB], [.s], fun x => zqO o x, false⟩
theorem ycK : PCok Tryz.prog tabs 49 (zwK o) := zjX (o := o) (η := []) (Γ := ⟨[], [], false⟩) (ctok trivial trivial) Tryz.func49
def yoN : SC := ⟨⟨[(0, .nils), (1, hI)], []⟩, 1, [(none, ⟨[(0, (.own 0))], [.osl .s 9]⟩)], fun n => ymP .s n⟩
theorem yzE : SCok Tryz.prog tabs 102 yoN := wit (G := tabs) <| yvZ (isFn Tryz.func102) growK
def zlO (o : Ops) (v0 : List (List Bs)) (v1 : Int) (v2 : Int) : Option ((Int × Int) ⊕ Int) :=
 bif decide (v2 < (v0.length : Int)) then ((idx v0 v2).bind fun v3 => bif decide ((w64 (v1 + (v3.length : Int))) < 0) then none else some (.inl (w64 (v1 + (v3.length : Int)), w64 (v2 + 1)))) else some (.inr v1)
def zlN (o : Ops) (v0 : List (List Bs)) (v6 : Int) (v7 : List Bs) : Option ((Int × List Bs) ⊕ List Bs) :=
 bif decide (v6 < (v0.length : Int)) then ((idx v0 v6).bind fun v8 => (app v7 v8).bind fun v9 => some (.inl (w64 (v6 + 1), v9))) else some (.inr v7)
def znJ (o : Ops) (v0 : List (List Bs)) : Option (List Bs) :=
 (iter (fun x => zlO o v0 x.1 x.2) ((0 : Int), (0 : Int))).bind fun v4 => (ymP .s v4).bind fun v5 => (iter (fun x => zlN o v0 x.1 x.2) ((0 : Int), v5)).bind fun v10 => some v10
def zuF (o : Ops) : PC := ⟨[(.h (.sl (.sl .s)))], [(.sl .s)], fun x => znJ o x, false⟩
theorem zyX : PCok Tryz.prog tabs 47 (zuF o) := zjX (o := o) (η := [(200003, .loop [] ⟨[(3, hI), (11, hI)], []⟩ [0, 2, 9, 10] [(some 0, ⟨[(3, hI)], []⟩)]),
 (200011, .loop [] ⟨[(6, (.own 0)), (27, hI)], [.osl .s 9]⟩ [2, 25, 26] [(some 2, ⟨[(6, (.own 0))], [.osl .s 9]⟩)])]) (Γ := ⟨[], [(102, yoN)], false⟩) (ctok trivial ⟨yzE, trivial⟩) Tryz.func47
def ylM : PC := ⟨[.h (.sl (.pr .s .s))], [(.sl (.pr .s .s))], fun xs => some xs, true⟩
theorem ytW : PCok Tryz.prog tabs 51 ylM := wit (G := tabs) <| yeU ycX τ_okWkF Tryz.func51 (isFn Tryz.func51) rfl (by kernel_rfl) (fun _ => by kernel_rfl)
def zgD (o : Ops) (v4 : (Int × (List zbA) × List zkN)) (v5 : Int) (v6 : Int) (v7 : List zbA) (v8 : List (Bs × Bs)) (v9 : List zkN) : Option ((Int × Int × (List zbA) × (List (Bs × Bs)) × List zkN) ⊕ ((Int × (List zbA) × List (Bs × Bs)))) :=
 bif decide (v5 < (v4.2.2.length : Int)) then ((chk (decide ((0 : Int) ≤ v5) && decide (v5 < (v9.length : Int)))).bind fun _ => (idx v9 v5).bind fun v10 => (o.itoa v10.1).bind fun v11 => (o.itoa v10.2.1).bind fun v12 => (o.itoa v10.2.2.1).bind fun v13 => (zkE o v10.2.2.2.2.2.2.1).bind fun v14 => (o.itoa v10.2.2.2.2.2.2.2.1).bind fun v15 => (o.itoa v10.2.2.2.2.2.2.2.2.1).bind fun v16 => (zqO o v10.2.2.2.2.2.2.2.2.2.1).bind fun v17 => (zqO o v10.2.2.2.2.2.2.2.2.2.2.1).bind fun v18 => (zkE o v10.2.2.2.2.2.2.2.2.2.2.2.1).bind fun v19 => (o.itoa v10.2.2.2.2.2.2.2.2.2.2.2.2.1).bind fun v20 => (znJ o ([([v12, v13, v10.2.2.2.1, v10.2.2.2.2.1, v10.2.2.2.2.2.1] : List Bs), v14, ([v15, v16, v17, v18] : List Bs), v19, ([v20, v10.2.2.2.2.2.2.2.2.2.2.2.2.2.1, v10.2.2.2.2.2.2.2.2.2.2.2.2.2.2] : List Bs)] : List (List Bs))).bind fun v21 => let v22 : Int := (bif decide ((0 : Int) ≤ w64 ((8 : Int) - (v11.length : Int))) then w64 ((8 : Int) - (v11.length : Int)) else (0 : Int))
 (o.rep ([48] : Bs) v22).bind fun v23 => (app ([110, 111, 100, 101, 47] : Bs) v23).bind fun v24 => (app v24 v11).bind fun v25 => (o.form v21).bind fun v26 => (app v8 ([(v25, v26)] : List (Bs × Bs))).bind fun v27 => some (.inl (w64 (v5 + 1), v6, v7, v27, v9))) else some (.inr (v6, v7, v8))
def zaS (o : Ops) (v0 : Int) (v1 : List zbA) : Option (((List (Bs × Bs)) × Int × List zbA)) :=
 (o.itoa v0).bind fun v2 => (o.form ([v2] : List Bs)).bind fun v3 => (zeT o v0 v1).bind fun v4 => (iter (fun x => zgD o v4 x.1 x.2.1 x.2.2.1 x.2.2.2.1 x.2.2.2.2) ((0 : Int), v4.1, v4.2.1, ([(([102, 111, 114, 101, 115, 116] : Bs), v3)] : List (Bs × Bs)), v4.2.2)).bind fun v28 => some (v28.2.2, v28.1, v28.2.1)
def zkM (o : Ops) : SC := ⟨⟨[(0, (.ptr 0 0))], [zgB, zdC]⟩, 1, [(none, ⟨[(0, (.hc (.pr .s .s)))], [zgB, zdC]⟩)], fun x => zaS o x.1 x.2⟩
theorem zpL : SCok Tryz.prog tabs 16 (zkM o) := zgA (o := o) (η := [(200003, .loop [] ⟨[(3, (.own 2)), (18, (.own 3)), (20, hI)], [zgB, zdC, .osl (.pr .s .s) 24, .osl zwG 47]⟩ [2, 19] [(some 0, ⟨[(3, (.own 2))], [zgB, zdC, .osl (.pr .s .s) 24]⟩)]),
 (4000006, .sch [(.pu, 0, []), (.pu, 1, []), (.pu, 3, []), (.pu, 4, []), (.pu, 6, []), (.pu, 7, []), (.pu, 8, []), (.pu, 9, []), (.pu, 10, []), (.pu, 11, []), (.pu, 13, []), (.pu, 14, []), (.pu, 16, []), (.pu, 17, []), (.pu, 19, []), (.pu, 20, []), (.pu, 22, []), (.pu, 23, []), (.pu, 25, []), (.pu, 26, []), (.pu, 29, []), (.pu, 30, []), (.pu, 32, []), (.pu, 33, []), (.pu, 35, []), (.pu, 36, []), (.pu, 37, []), (.pu, 38, []), (.mn, 2, []), (.mn, 5, []), (.la, 12, []), (.mn, 15, []), (.mn, 18, []), (.mn, 21, []), (.mn, 24, []), (.mn, 27, []), (.la, 28, []), (.mn, 31, []), (.mn, 34, []), (.mn, 39, []), (.rv, 12, []), (.rv, 28, []), (.mn, 40, [0, 1, 2, 3, 4, 5, 6, 7]), (.mn, 41, [8]), (.pu, 42, [])])]) (Γ := ⟨[(46, (yiO o)), (45, (yrV o)), (48, (zuE o)), (49, (zwK o)), (47, (zuF o)), (50, (yxG o)), (51, ylM)], [(15, (zjN o))], false⟩) (ctok ⟨(zrD.itoa (G := tabs)), ⟨(zrD.form (G := tabs)), ⟨zzA, ⟨ycK, ⟨zyX, ⟨(zrD.rep (G := tabs)), ⟨ytW, trivial⟩⟩⟩⟩⟩⟩⟩ ⟨znQ, trivial⟩) Tryz.func16
def zpW (o : Ops) (v0 : Bs) : Option ((Int × Bool) ⊕ Unit) :=
 bif (v0 == ([] : Bs)) then some (.inl ((0 : Int), false)) else (bif decide ((v0.length : Int) > 15) then some (.inl ((0 : Int), false)) else ((idx v0 (0 : Int)).bind fun v1 => bif ((v1.toNat : Int) == ((48 : UInt8).toNat : Int)) then (bif (v0 != ([48] : Bs)) then some (.inl ((0 : Int), false)) else ((o.trim v0 ([48, 49, 50, 51, 52, 53, 54, 55, 56, 57] : Bs)).bind fun v2 => bif (v2 != ([] : Bs)) then some (.inl ((0 : Int), false)) else some (.inr ()))) else ((o.trim v0 ([48, 49, 50, 51, 52, 53, 54, 55, 56, 57] : Bs)).bind fun v3 => bif (v3 != ([] : Bs)) then some (.inl ((0 : Int), false)) else some (.inr ()))))
def zmV (o : Ops) (v0 : Bs) : Option (Int × Bool) :=
 (zpW o v0).bind fun v4 => match v4 with
 | .inl v5 => (some v5)
 | .inr v6 => ((o.atoi v0).bind fun v7 => some (v7.1, (!v7.2)))
def zuB (o : Ops) : PC := ⟨[hS], [(.i .i64), .b], fun x => zmV o x, false⟩
theorem zzD : PCok Tryz.prog tabs 80 (zuB o) := zjX (o := o) (η := [(2000003, .join [] [0] [(some 1000000, ⟨[(2, hI), (3, hB)], []⟩), (none, ⟨[], []⟩)]),
 (4000004, .sch [(.pu, 0, []), (.pu, 1, []), (.pu, 2, []), (.pu, 3, []), (.pu, 4, [])])]) (Γ := ⟨[(82, (yaA o)), (83, (yfM o))], [], false⟩) (ctok ⟨(zrD.trim (G := tabs)), ⟨(zrD.atoi (G := tabs)), trivial⟩⟩ trivial) Tryz.func80
def zqB (o : Ops) (v2 : List Bs) (v3 : Bs × Bs × Bool) (v4 : Int × Bool) : Option (Bool ⊕ List Bs) :=
 bif (!v3.2.2) then some (.inl false) else (bif (!v4.2) then some (.inl false) else (bif decide (v4.1 > (v3.2.1.length : Int)) then some (.inl false) else some (.inr v2)))
def zpY (o : Ops) (v1 : Bs) (v2 : List Bs) : Option ((Bs × List Bs) ⊕ (Bool ⊕ List Bs)) :=
 bif (v1 != ([] : Bs)) then ((o.cut v1 ([58] : Bs)).bind fun v3 => (zmV o v3.1).bind fun v4 => (zqB o v2 v3 v4).bind fun v5 => match v5 with
 | .inl v6 => some (.inr (.inl v6))
 | .inr v7 => ((subH v3.2.1 v4.1).bind fun v8 => (app v7 ([v8] : List Bs)).bind fun v9 => (subL v3.2.1 v4.1).bind fun v10 => some (.inl (v10, v9)))) else some (.inr (.inr v2))
def zjC (o : Ops) (v0 : Bs) : Option (yaV) :=
 (iter (fun x => zpY o x.1 x.2) (v0, ([] : List Bs))).bind fun v11 => match v11 with
 | .inl v12 => some (([] : List Bs), v12)
 | .inr v13 => some (v13, true)
def zrA (o : Ops) : SC := ⟨⟨[(0, hS)], []⟩, 2, [(none, ⟨[(0, (.h (.sl .s))), (1, hB)], []⟩)], fun x => zjC o x⟩
theorem zuX : SCok Tryz.prog tabs 32 (zrA o) := zgA (o := o) (η := [(2000007, .join [] [6, 8] [(some 1000000, ⟨[(2, .nils), (3, hB)], []⟩), (none, ⟨[(4, (.own 0))], [.osl .s 9]⟩)]),
 (200002, .loop [.sl 4 .s 9] ⟨[(0, hS), (4, (.own 0))], [.osl .s 9]⟩ [] [(some 1000000, ⟨[(2, .nils), (3, hB)], []⟩), (some 0, ⟨[(4, (.own 0))], [.osl .s 9]⟩)])]) (Γ := ⟨[(79, (ywZ o)), (80, (zuB o)), (81, yiY)], [], false⟩) (ctok ⟨(zrD.cut (G := tabs)), ⟨zzD, ⟨yoC, trivial⟩⟩⟩ trivial) Tryz.func32
def zpT (o : Ops) (v0 : Bs) : Option ((Int × Bool) ⊕ Unit) :=
 bif (v0 == ([] : Bs)) then some (.inl ((0 : Int), false)) else (bif decide ((v0.length : Int) > 15) then some (.inl ((0 : Int), false)) else ((idx v0 (0 : Int)).bind fun v1 => bif ((v1.toNat : Int) == ((48 : UInt8).toNat : Int)) then (bif (v0 != ([48] : Bs)) then some (.inl ((0 : Int), false)) else ((o.trim v0 ([48, 49, 50, 51, 52, 53, 54, 55, 56, 57] : Bs)).bind fun v2 => bif (v2 != ([] : Bs)) then some (.inl ((0 : Int), false)) else some (.inr ()))) else ((o.trim v0 ([48, 49, 50, 51, 52, 53, 54, 55, 56, 57] : Bs)).bind fun v3 => bif (v3 != ([] : Bs)) then some (.inl ((0 : Int), false)) else some (.inr ()))))
def zkU (o : Ops) (v0 : Bs) : Option (Int × Bool) :=
 (zpT o v0).bind fun v4 => match v4 with
 | .inl v5 => (some v5)
 | .inr v6 => ((o.atoi v0).bind fun v7 => some (v7.1, (!v7.2)))
def zpX (o : Ops) : PC := ⟨[hS], [(.i .i64), .b], fun x => zkU o x, false⟩
theorem zuI : PCok Tryz.prog tabs 33 (zpX o) := zjX (o := o) (η := [(2000003, .join [] [0] [(some 1000000, ⟨[(2, hI), (3, hB)], []⟩), (none, ⟨[], []⟩)]),
 (4000004, .sch [(.pu, 0, []), (.pu, 1, []), (.pu, 2, []), (.pu, 3, []), (.pu, 4, [])])]) (Γ := ⟨[(82, (yaA o)), (83, (yfM o))], [], false⟩) (ctok ⟨(zrD.trim (G := tabs)), ⟨(zrD.atoi (G := tabs)), trivial⟩⟩ trivial) Tryz.func33
def zbX (o : Ops) (v0 : Bs) (v1 : Bs) : Option (Bool) :=
 bif decide ((v0.length : Int) ≥ (v1.length : Int)) then ((subH v0 (v1.length : Int)).bind fun v2 => some (v2 == v1)) else (some false)
def zgC (o : Ops) : PC := ⟨[hS, hS], [.b], fun x => zbX o x.1 x.2, false⟩
theorem znC : PCok Tryz.prog tabs 150 (zgC o) := zjX (o := o) (η := []) (Γ := ⟨[], [], false⟩) (ctok trivial trivial) Tryz.func150
def zbW (o : Ops) (v0 : Bs) (v1 : Bs) : Option (Bs × Bool) :=
 (zbX o v0 v1).bind fun v2 => bif (!v2) then (some (v0, false)) else ((subL v0 (v1.length : Int)).bind fun v3 => some (v3, true))
def zgH (o : Ops) : PC := ⟨[hS, hS], [.s, .b], fun x => zbW o x.1 x.2, false⟩
theorem znM : PCok Tryz.prog tabs 127 (zgH o) := zjX (o := o) (η := []) (Γ := ⟨[(150, (zgC o))], [], false⟩) (ctok ⟨znC, trivial⟩ trivial) Tryz.func127
def zcY (o : Ops) (v0 : Bs) (v1 : Bs) : Option (Bs × Bool) :=
 (zbW o v0 v1).bind fun v2 => some v2
def zlD (o : Ops) : PC := ⟨[hS, hS], [.s, .b], fun x => zcY o x.1 x.2, false⟩
theorem zqJ : PCok Tryz.prog tabs 72 (zlD o) := zjX (o := o) (η := []) (Γ := ⟨[(127, (zgH o))], [], false⟩) (ctok ⟨znM, trivial⟩ trivial) Tryz.func72
def zaR (o : Ops) (v0 : List Bs) (v1 : Bool) : Option ((Bs × yaV)) :=
 bif ((v0.length : Int) == 0) then some (([] : Bs), v0, true) else ((idx v0 (0 : Int)).bind fun v2 => (subL v0 (1 : Int)).bind fun v3 => some (v2, v3, v1))
def zgI (o : Ops) : SC := ⟨⟨[(0, (.ptr 0 0))], [ycM]⟩, 1, [(none, ⟨[(0, hS)], [ycM]⟩)], fun x => zaR o x.1 x.2⟩
theorem zkO : SCok Tryz.prog tabs 85 (zgI o) := zgA (o := o) (η := []) (Γ := ⟨[], [], false⟩) (ctok trivial trivial) Tryz.func85
def zaM (o : Ops) (v0 : List Bs) (v1 : Bool) : Option ((Int × yaV)) :=
 (zaR o v0 v1).bind fun v2 => (zkU o v2.1).bind fun v3 => bif v2.2.2 then some (v3.1, v2.2.1, true) else some (v3.1, v2.2.1, (!v3.2))
def ziN (o : Ops) : SC := ⟨⟨[(0, (.ptr 0 0))], [ycM]⟩, 1, [(none, ⟨[(0, hI)], [ycM]⟩)], fun x => zaM o x.1 x.2⟩
theorem znE : SCok Tryz.prog tabs 84 (ziN o) := zgA (o := o) (η := []) (Γ := ⟨[(33, (zpX o))], [(85, (zgI o))], false⟩) (ctok ⟨zuI, trivial⟩ ⟨zkO, trivial⟩) Tryz.func84
def zkT (o : Ops) (v2 : (Int × yaV)) : Option (yaV ⊕ yaV) :=
 bif v2.2.2 then some (.inl (v2.2.1, true)) else (bif decide (v2.1 > (v2.2.1.length : Int)) then some (.inl (v2.2.1, true)) else some (.inr v2.2))
def zfC (o : Ops) (v0 : List Bs) (v1 : Bool) : Option (((List Bs) × yaV)) :=
 (zaM o v0 v1).bind fun v2 => (zkT o v2).bind fun v3 => match v3 with
 | .inl v4 => some (([] : List Bs), v4)
 | .inr v5 => ((chk (decide (v2.1 = v2.1))).bind fun _ => (subH v5.1 v2.1).bind fun v6 => (subL v5.1 v2.1).bind fun v7 => some (v6, v7, v5.2))
def zpM (o : Ops) : SC := ⟨⟨[(0, (.ptr 0 0))], [ycM]⟩, 1, [(none, ⟨[(0, (.h (.sl .s)))], [ycM]⟩)], fun x => zfC o x.1 x.2⟩
theorem zvA : SCok Tryz.prog tabs 86 (zpM o) := zgA (o := o) (η := [(2000005, .join [] [3] [(some 1000000, ⟨[(2, .nils)], [ycM]⟩), (none, ⟨[(0, (.ptr 0 0))], [ycM]⟩)])]) (Γ := ⟨[], [(84, (ziN o))], false⟩) (ctok trivial ⟨znE, trivial⟩) Tryz.func86
def zfF (o : Ops) (v0 : List Bs) (v1 : Bool) : Option ((Bool × yaV)) :=
 (zaR o v0 v1).bind fun v2 => bif v2.2.2 then some ((v2.1 == ([49] : Bs)), v2.2.1, true) else (bif (v2.1 != ([48] : Bs)) then some ((v2.1 == ([49] : Bs)), v2.2.1, (v2.1 != ([49] : Bs))) else some ((v2.1 == ([49] : Bs)), v2.2.1, false))
def zoU (o : Ops) : SC := ⟨⟨[(0, (.ptr 0 0))], [ycM]⟩, 1, [(none, ⟨[(0, hB)], [ycM]⟩)], fun x => zfF o x.1 x.2⟩
theorem zvC : SCok Tryz.prog tabs 87 (zoU o) := zgA (o := o) (η := []) (Γ := ⟨[], [(85, (zgI o))], false⟩) (ctok trivial ⟨zkO, trivial⟩) Tryz.func87
def zsE (o : Ops) (v1 : Bs × Bool) (v2 : yaV) : Option ((Bool × Int × Int × Int × Bs × Bs × Bs × Int × Int × Bool × Bool × Int × Bs × Bs) ⊕ (Int × Int × Int × Bs × Bs × Bs × Int × Int × Bool × Bool × Int × Bs × Bs)) :=
 bif (!v1.2) then some (.inl (false, (0 : Int), (0 : Int), (0 : Int), ([] : Bs), ([] : Bs), ([] : Bs), (0 : Int), (0 : Int), false, false, (0 : Int), ([] : Bs), ([] : Bs))) else (bif (!v2.2) then some (.inl (false, (0 : Int), (0 : Int), (0 : Int), ([] : Bs), ([] : Bs), ([] : Bs), (0 : Int), (0 : Int), false, false, (0 : Int), ([] : Bs), ([] : Bs))) else (bif ((v1.1.length : Int) != 8) then some (.inl (false, (0 : Int), (0 : Int), (0 : Int), ([] : Bs), ([] : Bs), ([] : Bs), (0 : Int), (0 : Int), false, false, (0 : Int), ([] : Bs), ([] : Bs))) else ((o.trim v1.1 ([48, 49, 50, 51, 52, 53, 54, 55, 56, 57] : Bs)).bind fun v3 => bif (v3 != ([] : Bs)) then some (.inl (false, (0 : Int), (0 : Int), (0 : Int), ([] : Bs), ([] : Bs), ([] : Bs), (0 : Int), (0 : Int), false, false, (0 : Int), ([] : Bs), ([] : Bs))) else some (.inr ((0 : Int), (0 : Int), (0 : Int), ([] : Bs), ([] : Bs), ([] : Bs), (0 : Int), (0 : Int), false, false, (0 : Int), ([] : Bs), ([] : Bs))))))
def zlA (o : Ops) (v0 : Bs × Bs) : Option (zkN × Bool) :=
 (zcY o v0.1 ([110, 111, 100, 101, 47] : Bs)).bind fun v1 => (zjC o v0.2).bind fun v2 => (zsE o v1 v2).bind fun v4 => match v4 with
 | .inl v5 => (some ((v5.2.1, v5.2.2.1, v5.2.2.2.1, v5.2.2.2.2.1, v5.2.2.2.2.2.1, v5.2.2.2.2.2.2.1, ([] : List Bs), v5.2.2.2.2.2.2.2.1, v5.2.2.2.2.2.2.2.2.1, v5.2.2.2.2.2.2.2.2.2.1, v5.2.2.2.2.2.2.2.2.2.2.1, ([] : List Bs), v5.2.2.2.2.2.2.2.2.2.2.2), v5.1))
 | .inr v6 => ((zaM o v2.1 false).bind fun v7 => (zaM o v7.2.1 v7.2.2).bind fun v8 => (zaR o v8.2.1 v8.2.2).bind fun v9 => (zaR o v9.2.1 v9.2.2).bind fun v10 => (zaR o v10.2.1 v10.2.2).bind fun v11 => (zfC o v11.2.1 v11.2.2).bind fun v12 => (zaM o v12.2.1 v12.2.2).bind fun v13 => (zaM o v13.2.1 v13.2.2).bind fun v14 => (zfF o v14.2.1 v14.2.2).bind fun v15 => (zfF o v15.2.1 v15.2.2).bind fun v16 => (zfC o v16.2.1 v16.2.2).bind fun v17 => (zaM o v17.2.1 v17.2.2).bind fun v18 => (zaR o v18.2.1 v18.2.2).bind fun v19 => (zaR o v19.2.1 v19.2.2).bind fun v20 => (o.atoi v1.1).bind fun v21 => (zfN o (v21.1, v7.1, v8.1, v9.1, v10.1, v11.1, v12.1, v13.1, v14.1, v15.1, v16.1, v17.1, v18.1, v19.1, v20.1)).bind fun v22 => bif (!v20.2.2) then (bif ((v20.2.1.length : Int) == 0) then ((zfO o (v21.1, v7.1, v8.1, v9.1, v10.1, v11.1, v12.1, v13.1, v14.1, v15.1, v16.1, v17.1, v18.1, v19.1, v20.1)).bind fun v23 => some (v22, v23)) else (some (v22, false))) else (some (v22, false)))
def zwN (o : Ops) : PC := ⟨[(.h (.pr .s .s))], [zwG, .b], fun x => zlA o x, false⟩
theorem ycJ : PCok Tryz.prog tabs 35 (zwN o) := zjX (o := o) (η := [(2000005, .join [] [4, 6] [(some 1000000, ⟨[(2, (.ptr 0 0)), (3, hB)], [ynA]⟩), (none, ⟨[(2, (.ptr 0 0))], [ynA]⟩)]),
 (4000008, .sch [(.pu, 0, []), (.pu, 2, []), (.pu, 3, []), (.pu, 4, []), (.pu, 5, []), (.pu, 6, []), (.mn, 1, []), (.pu, 7, []), (.pu, 8, []), (.pu, 9, []), (.pu, 10, []), (.pu, 11, []), (.pu, 12, []), (.pu, 13, []), (.pu, 14, []), (.pu, 15, []), (.pu, 16, []), (.mn, 17, []), (.pu, 18, [0]), (.mn, 19, [0]), (.pu, 20, [])])]) (Γ := ⟨[(72, (zlD o)), (82, (yaA o)), (83, (yfM o)), (44, (ziF o)), (53, (znF o))], [(32, (zrA o)), (84, (ziN o)), (85, (zgI o)), (86, (zpM o)), (87, (zoU o))], false⟩) (ctok ⟨zqJ, ⟨(zrD.trim (G := tabs)), ⟨(zrD.atoi (G := tabs)), ⟨zkW, ⟨zqS, trivial⟩⟩⟩⟩⟩ ⟨zuX, ⟨znE, ⟨zkO, ⟨zvA, ⟨zvC, trivial⟩⟩⟩⟩⟩) Tryz.func35
noncomputable def zoS (o : Ops) (v0 : List (Bs × Bs)) : Option (Int ⊕ Unit) :=
 bif ((v0.length : Int) == 0) then some (.inl (135 : Int)) else ((idx v0 (0 : Int)).bind fun v1 => bif (v1.1 != ([102, 111, 114, 101, 115, 116] : Bs)) then some (.inl (135 : Int)) else (bif decide ((v0.length : Int) > 257) then some (.inl (135 : Int)) else some (.inr ())))
noncomputable def zsF (o : Ops) (v6 : yaV) : Option (Int ⊕ Unit) :=
 bif (!v6.2) then some (.inl (135 : Int)) else (bif ((v6.1.length : Int) != 1) then some (.inl (135 : Int)) else some (.inr ()))
noncomputable def zoT (o : Ops) (v6 : yaV) (v10 : (Int × List zbA)) : Option (Int ⊕ (Int × List zbA)) :=
 (idx v6.1 (0 : Int)).bind fun v11 => (zkU o v11).bind fun v12 => bif (!v12.2) then some (.inl (135 : Int)) else ((zaU o v12.1 (1 : Int) (99999999 : Int)).bind fun v13 => bif (!v13) then some (.inl (135 : Int)) else some (.inr (v12.1, v10.2)))
noncomputable def zwO (o : Ops) (v18 : Int) (v23 : zkN × Bool) (v24 : (zkN × Bool × Int × List zbA)) : Option (Int ⊕ (Int × Int × Int × Int × Bs × Bs × Bs × (List Bs) × Int × Int × Bool × Bool × (List Bs) × Int × Bs × Bs × List zbA)) :=
 bif (!v23.2) then some (.inl (135 : Int)) else (bif v24.2.1 then some (.inl (135 : Int)) else (bif decide (v23.1.1 ≤ v18) then some (.inl (135 : Int)) else (bif decide (v23.1.1 ≥ v24.2.2.1) then some (.inl (135 : Int)) else (bif decide (v23.1.2.2.1 ≥ v23.1.1) then some (.inl (135 : Int)) else some (.inr (v24.2.2.1, v23.1.1, v23.1.2.1, v23.1.2.2.1, v23.1.2.2.2.1, v23.1.2.2.2.2.1, v23.1.2.2.2.2.2.1, v23.1.2.2.2.2.2.2.1, v23.1.2.2.2.2.2.2.2.1, v23.1.2.2.2.2.2.2.2.2.1, v23.1.2.2.2.2.2.2.2.2.2.1, v23.1.2.2.2.2.2.2.2.2.2.2.1, v23.1.2.2.2.2.2.2.2.2.2.2.2.1, v23.1.2.2.2.2.2.2.2.2.2.2.2.2.1, v23.1.2.2.2.2.2.2.2.2.2.2.2.2.2.1, v23.1.2.2.2.2.2.2.2.2.2.2.2.2.2.2, v24.2.2.2))))))
noncomputable def zfL (o : Ops) (v17 : List (Bs × Bs)) (v18 : Int) (v19 : Int) (v20 : Int) (v21 : List zbA) : Option ((Int × Int × Int × List zbA) ⊕ (Int ⊕ (Int × List zbA))) :=
 bif decide (v19 < (v17.length : Int)) then ((idx v17 v19).bind fun v22 => (zlA o v22).bind fun v23 => (zbB o v23.1.2.2.2.2.2.2.2.2.2.2.2.2.2.1 v20 v21).bind fun v24 => (zwO o v18 v23 v24).bind fun v25 => match v25 with
 | .inl v26 => some (.inr (.inl v26))
 | .inr v27 => (let v28 : List zbA := mset keqI kltI v27.2.2.2.2.2.2.2.2.2.2.2.2.2.2.2.2 v27.2.1 (v27.2.1, v27.2.2.1, v27.2.2.2.1, v27.2.2.2.2.1, v27.2.2.2.2.2.1, v27.2.2.2.2.2.2.1, v27.2.2.2.2.2.2.2.1, v27.2.2.2.2.2.2.2.2.1, v27.2.2.2.2.2.2.2.2.2.1, v27.2.2.2.2.2.2.2.2.2.2.1, v27.2.2.2.2.2.2.2.2.2.2.2.1, v27.2.2.2.2.2.2.2.2.2.2.2.2.1, v27.2.2.2.2.2.2.2.2.2.2.2.2.2.1, v27.2.2.2.2.2.2.2.2.2.2.2.2.2.2.1, v27.2.2.2.2.2.2.2.2.2.2.2.2.2.2.2.1)
 some (.inl (v27.2.1, w64 (v19 + 1), v27.1, v28)))) else some (.inr (.inr (v20, v21)))
noncomputable def ziM (o : Ops) (v0 : List (Bs × Bs)) : Option (Int ⊕ (Int × Int × List zbA)) :=
 (zoS o v0).bind fun v2 => match v2 with
 | .inl v3 => some (.inl v3)
 | .inr v4 => ((idx v0 (0 : Int)).bind fun v5 => (zjC o v5.2).bind fun v6 => (zsF o v6).bind fun v7 => match v7 with
 | .inl v8 => some (.inl v8)
 | .inr v9 => ((zhZ o).bind fun v10 => (zoT o v6 v10).bind fun v14 => match v14 with
 | .inl v15 => some (.inl v15)
 | .inr v16 => ((subL v0 (1 : Int)).bind fun v17 => (iter (fun x => zfL o v17 x.1 x.2.1 x.2.2.1 x.2.2.2) ((0 : Int), (0 : Int), v16)).bind fun v29 => match v29 with
 | .inl v30 => some (.inl v30)
 | .inr v31 => some (.inr ((0 : Int), v31)))))
noncomputable def zsC (o : Ops) : SC := ⟨⟨[(0, (.h (.sl (.pr .s .s))))], []⟩, 2, [(none, ⟨[(0, .nilp), (1, hI)], []⟩), (none, ⟨[(0, (.ptr 0 0)), (1, hI)], [zgB, zdC]⟩)], fun x => ziM o x⟩
theorem zwJ : SCok Tryz.prog tabs 10 (zsC o) := zgA (o := o) (η := [(2000003, .join [] [0] [(some 1000000, ⟨[(2, .nilp), (3, hI)], []⟩), (none, ⟨[], []⟩)]),
 (2000006, .join [] [0, 4] [(some 1000000, ⟨[(2, .nilp), (3, hI)], []⟩), (none, ⟨[], []⟩)]),
 (2000010, .join [] [0] [(some 1000000, ⟨[(2, .nilp), (3, hI)], []⟩), (none, ⟨[(6, (.ptr 0 0))], [zgB, zdC]⟩)]),
 (2000018, .join [] [66, 67, 68] [(some 1000000, ⟨[(2, .nilp), (3, hI)], []⟩), (none, ⟨[(6, (.ptr 0 0)), (10, (.ptr 1 0))], [ycP, ywD, zdC]⟩)]),
 (200012, .loop [] ⟨[(6, (.ptr 0 0)), (7, hI), (68, hI)], [zgB, zdC]⟩ [66, 67] [(some 1000000, ⟨[(2, .nilp), (3, hI)], []⟩), (some 0, ⟨[(6, (.ptr 0 0))], [zgB, zdC]⟩)]),
 (4000016, .sch [(.pu, 0, []), (.pu, 1, []), (.pu, 2, []), (.pu, 3, []), (.pu, 4, []), (.pu, 5, []), (.pu, 6, []), (.pu, 7, []), (.pu, 8, []), (.pu, 9, []), (.pu, 10, []), (.pu, 11, []), (.pu, 12, []), (.pu, 13, []), (.pu, 14, []), (.pu, 15, []), (.pu, 16, []), (.pu, 17, []), (.pu, 18, []), (.pu, 19, []), (.pu, 20, []), (.pu, 21, []), (.pu, 22, []), (.pu, 23, []), (.pu, 24, []), (.pu, 25, []), (.pu, 26, [])]),
 (4000018, .sch [(.pu, 0, []), (.pu, 1, []), (.pu, 2, []), (.pu, 3, []), (.pu, 4, []), (.pu, 5, []), (.pu, 6, []), (.pu, 7, []), (.mn, 8, [0, 1, 2])])]) (Γ := ⟨[(33, (zpX o)), (34, (zrY o)), (35, (zwN o))], [(32, (zrA o)), (27, (zqT o)), (36, (zbY o))], false⟩) (ctok ⟨zuI, ⟨zuY, ⟨ycJ, trivial⟩⟩⟩ ⟨zuX, ⟨ztG, ⟨zdD, trivial⟩⟩⟩) Tryz.func10
noncomputable def znG (o : Ops) (v1 : (Int × Int × Int × List zbA)) (v2 : (Int × Int × Int × List zbA)) (v3 : (Int × Int × Int × List zbA)) : Option (Bool ⊕ (Int × List zbA)) :=
 bif (v1.1 != 1) then some (.inl false) else (bif (v1.2.1 != 0) then some (.inl false) else (bif (v2.2.1 != 132) then some (.inl false) else (bif (v3.1 != 2) then some (.inl false) else (bif (v3.2.1 != 0) then some (.inl false) else ((zaQ o (2 : Int) (8 : Int) v3.2.2.1 v3.2.2.2).bind fun v4 => bif (!v4.1) then some (.inl false) else ((zaQ o (2 : Int) (9 : Int) v4.2.1 v4.2.2).bind fun v5 => bif v5.1 then some (.inl false) else ((zbL o (2 : Int) v5.2.1 v5.2.2).bind fun v6 => bif ((v6.1.length : Int) != 2) then some (.inl false) else ((zdU o (1 : Int) v6.2.1 v6.2.2).bind fun v7 => bif (v7.1 != 0) then some (.inl false) else ((zaQ o (2 : Int) (0 : Int) v7.2.1 v7.2.2).bind fun v8 => bif v8.1 then some (.inl false) else some (.inr v8.2))))))))))
noncomputable def zjH (o : Ops) : Option (Bool) :=
 (zhZ o).bind fun v0 => (zdH o (0 : Int) (1 : Int) (0 : Int) ([117, 58, 97, 110, 110] : Bs) ([] : Bs) ([] : Bs) (0 : Int) (9 : Int) false false (0 : Int) ([115] : Bs) ([] : Bs) (0 : Int) v0.1 v0.2).bind fun v1 => (zdH o (0 : Int) (1 : Int) (0 : Int) ([117, 58, 97, 110, 110] : Bs) ([] : Bs) ([] : Bs) (0 : Int) (9 : Int) false false (0 : Int) ([115] : Bs) ([] : Bs) (0 : Int) v1.2.2.1 v1.2.2.2).bind fun v2 => (zdH o (0 : Int) (1 : Int) (1 : Int) ([117, 58, 97, 110, 110] : Bs) ([] : Bs) ([] : Bs) (0 : Int) (9 : Int) false false (0 : Int) ([116] : Bs) ([] : Bs) (0 : Int) v2.2.2.1 v2.2.2.2).bind fun v3 => (znG o v1 v2 v3).bind fun v9 => match v9 with
 | .inl v10 => (some v10)
 | .inr v11 => ((zaS o v11.1 v11.2).bind fun v12 => (ziM o v12.1).bind fun v13 => match v13 with
 | .inl v14 => (some false)
 | .inr v15 => (bif (v15.1 == 0) then ((zeT o v15.2.1 v15.2.2).bind fun v16 => bif ((v16.2.2.length : Int) == 2) then ((zaY o (0 : Int) v12.2.1 v12.2.2).bind fun v17 => some (v17.1 == 2)) else (some false)) else (some false)))
noncomputable def zmT (o : Ops) : PC := ⟨[], [.b], fun _ => zjH o, false⟩
theorem ztC : PCok Tryz.prog tabs 13 (zmT o) := zjX (o := o) (η := [(2000012, .join [] [] [(some 1000000, ⟨[(0, hB)], []⟩), (none, ⟨[(1, (.ptr 0 0))], [zgB, zdC]⟩)])]) (Γ := ⟨[], [(20, (zoE o)), (27, (zqT o)), (22, (zdA o)), (25, (zdB o)), (24, (zgL o)), (16, (zkM o)), (10, (zsC o)), (15, (zjN o)), (31, (zbN o))], false⟩) (ctok trivial ⟨zuR, ⟨ztG, ⟨zeF, ⟨zeR, ⟨zkL, ⟨zpL, ⟨zwJ, ⟨znQ, ⟨zcP, trivial⟩⟩⟩⟩⟩⟩⟩⟩⟩) Tryz.func13
end
section
variable {γ : Type}
def zpZ (es : List (Int × γ)) : Prop := es.Pairwise fun x y => x.1 < y.1
theorem zdO {a b : Int} : keqI a b = true ↔ a = b := by unfold keqI; exact decide_eq_true_iff
theorem ymD {a b : Int} (h : a ≠ b) : keqI a b = false := by
 cases hb : keqI a b with
 | false => rfl
 | true => exact absurd (zdO.1 hb) h
theorem yjK {a b : Int} : kltI a b = true ↔ a < b := by unfold kltI; exact decide_eq_true_iff
theorem zlP : ∀ {es : List (Int × γ)}, zpZ es → ∀ {k v}, (k, v) ∈ es → mget keqI es k = some v
 | (k', v') :: m, h, k, v, hm => by
  unfold mget
  rcases List.mem_cons.1 hm with e | hm
  ·cases e
   rw [zdO.2 rfl]; rfl
  ·have hlt := (List.pairwise_cons.1 h).1 _ hm
   have : k' ≠ k := fun e => by subst e; exact absurd hlt (Int.lt_irrefl _)
   rw [ymD this]
   exact zlP (List.pairwise_cons.1 h).2 hm
theorem zxE : ∀ {es : List (Int × γ)} {k v}, mget keqI es k = some v → (k, v) ∈ es
 | (k', v') :: m, k, v, h => by
  unfold mget at h
  cases hk : keqI k' k with
  | true =>
   rw [hk] at h
   cases h
   rw [zdO.1 hk]; exact List.mem_cons_self
  | false => rw [hk] at h; exact List.mem_cons_of_mem _ (zxE h)
theorem zkX : ∀ {es : List (Int × γ)} {k}, mhas keqI es k = true ↔ ∃ v, (k, v) ∈ es
 | [], k => by simp [mhas]
 | (k', v') :: m, k => by
  unfold mhas
  rw [Bool.or_eq_true, zdO, zkX (es := m)]
  constructor
  ·rintro (rfl | ⟨v, hv⟩)
   ·exact ⟨v', List.mem_cons_self⟩
   ·exact ⟨v, List.mem_cons_of_mem _ hv⟩
  ·rintro ⟨v, hv⟩
   rcases List.mem_cons.1 hv with e | hv
   ·cases e; exact .inl rfl
   ·exact .inr ⟨v, hv⟩
theorem ybA : ∀ (es : List (Int × γ)) (k : Int) (v : γ), (mrep keqI es k v).map (·.1) = es.map (·.1)
 | [], _, _ => rfl
 | (k', v') :: m, k, v => by
  unfold mrep
  cases hk : keqI k' k with
  | true => rw [zdO.1 hk]; rfl
  | false => simp only [cond_false, List.map_cons, ybA m k v]
theorem ydD {es fs : List (Int × γ)} (h : es.map (·.1) = fs.map (·.1)) (hf : zpZ fs) : zpZ es := by
 have : (fs.map (·.1)).Pairwise (· < ·) := List.pairwise_map.2 hf
 rw [← h] at this
 exact List.pairwise_map.1 this
theorem ykA : ∀ {es : List (Int × γ)} {k : Int} {v : γ} {p}, p ∈ mins kltI es k v → p = (k, v) ∨ p ∈ es
 | [], k, v, p, h => .inl (List.mem_singleton.1 h)
 | (k', v') :: m, k, v, p, h => by
  unfold mins at h
  cases hk : kltI k' k with
  | true =>
   rw [hk] at h
   rcases List.mem_cons.1 h with rfl | h
   ·exact .inr List.mem_cons_self
   ·exact (ykA h).imp id (List.mem_cons_of_mem _)
  | false =>
   rw [hk] at h
   rcases List.mem_cons.1 h with rfl | h
   ·exact .inl rfl
   ·exact .inr h
theorem xeP {a b : Int} (h : ¬ a < b) (hn : a ≠ b) : b < a := by omega
theorem yeA : ∀ {es : List (Int × γ)} {k : Int} {v : γ}, zpZ es → (∀ v', (k, v') ∉ es) → zpZ (mins kltI es k v)
 | [], _, _, _, _ => List.pairwise_singleton _ _
 | (k', v') :: m, k, v, h, hn => by
  have hc := List.pairwise_cons.1 h
  have hne : k' ≠ k := fun e => hn v' (by rw [e]; exact List.mem_cons_self)
  unfold mins
  cases hk : kltI k' k with
  | true =>
   simp only [cond_true]
   refine List.pairwise_cons.2 ⟨fun p hp => ?_, yeA hc.2 fun v2 h2 => hn v2 (List.mem_cons_of_mem _ h2)⟩
   rcases ykA hp with rfl | hp
   ·exact yjK.1 hk
   ·exact hc.1 p hp
  | false =>
   simp only [cond_false]
   have hlt : k < k' := xeP (fun h2 => by rw [yjK.2 h2] at hk; cases hk) hne
   refine List.pairwise_cons.2 ⟨fun p hp => ?_, h⟩
   rcases List.mem_cons.1 hp with rfl | hp
   ·exact hlt
   ·exact Int.lt_trans hlt (hc.1 p hp)
theorem ymT {es : List (Int × γ)} {k : Int} {v : γ} (h : zpZ es) : zpZ (mset keqI kltI es k v) := by
 unfold mset
 cases hk : mhas keqI es k with
 | true => exact ydD (ybA es k v) h
 | false =>
  refine yeA h fun v' hv => ?_
  rw [zkX.2 ⟨v', hv⟩] at hk; cases hk
theorem zxO {es : List (Int × γ)} {k : Int} {v : γ} (h : ∀ p ∈ es, p.1 < k) : mset keqI kltI es k v = es ++ [(k, v)] := by
 have hn : mhas keqI es k = false := by
  cases hk : mhas keqI es k with
  | false => rfl
  | true =>
   obtain ⟨v', hv⟩ := zkX.1 hk
   exact absurd (h _ hv) (Int.lt_irrefl _)
 unfold mset
 rw [hn]
 simp only [cond_false]
 clear hn
 induction es with
 | nil => rfl
 | cons p m ih =>
  obtain ⟨k', v'⟩ := p
  have h1 : kltI k' k = true := yjK.2 (h _ List.mem_cons_self)
  unfold mins
  rw [h1]
  simp only [cond_true, List.cons_append, ih fun p hp => h p (List.mem_cons_of_mem _ hp)]
theorem zxY {es : List (Int × γ)} {k : Int} (h : mhas keqI es k = false) : mget keqI es k = none := by
 cases hg : mget keqI es k with
 | none => rfl
 | some v => rw [zkX.2 ⟨v, zxE hg⟩] at h; cases h
theorem zrV {es : List (Int × γ)} {k : Int} (h : mhas keqI es k = true) : ∃ v, mget keqI es k = some v ∧ (k, v) ∈ es := by
 induction es with
 | nil => cases h
 | cons p m ih =>
  obtain ⟨k', v'⟩ := p
  unfold mget
  cases hk : keqI k' k with
  | true => exact ⟨v', rfl, by rw [zdO.1 hk]; exact List.mem_cons_self⟩
  | false =>
   unfold mhas at h
   rw [hk, Bool.false_or] at h
   obtain ⟨v, h1, h2⟩ := ih h
   exact ⟨v, h1, List.mem_cons_of_mem _ h2⟩
theorem zmF {es : List (Int × γ)} {k : Int} {v z : γ} (h : mget keqI es k = some v) : zkA keqI es k z = v := by unfold zkA; rw [h]
theorem ymF {es : List (Int × γ)} {k : Int} {z : γ} (h : mhas keqI es k = false) : zkA keqI es k z = z := by unfold zkA; rw [zxY h]
theorem yyT {es : List (Int × γ)} {k : Int} {v : γ} (h : mget keqI es k = some v) : mhas keqI es k = true := zkX.2 ⟨v, zxE h⟩
theorem yoT {es fs : List (Int × γ)} (h : es.map (·.1) = fs.map (·.1)) (k : Int) : mhas keqI es k = mhas keqI fs k := by
 have g : ∀ (es : List (Int × γ)), mhas keqI es k = (es.map (·.1)).any fun q => keqI q k := by
  intro es
  induction es with
  | nil => rfl
  | cons p m ih => obtain ⟨a, b⟩ := p; simp only [mhas, ih, List.map_cons, List.any_cons]
 rw [g, g, h]
end
section
variable {α β γ σ : Type}
def T (o : Option α) (P : α → Prop) : Prop := ∃ r, o = some r ∧ P r
theorem T.ok {a : α} {P : α → Prop} (h : P a) : T (some a) P := ⟨a, rfl, h⟩
theorem T.bind {o : Option α} {f : α → Option β} {Q : α → Prop} {P : β → Prop} (h : T o Q) (g : ∀ a, Q a → T (f a) P) : T (o.bind f) P := by
 obtain ⟨a, rfl, h⟩ := h
 exact g a h
theorem T.bif {c : Bool} {a b : Option α} {P : α → Prop} (h : c = true → T a P) (g : c = false → T b P) : T (bif c then a else b) P := by
 cases c
 ·exact g rfl
 ·exact h rfl
theorem T.dif {p : Prop} [Decidable p] {a b : Option α} {P : α → Prop} (h : p → T a P) (g : ¬ p → T b P) : T (bif decide p then a else b) P :=
 T.bif (fun e => h (of_decide_eq_true e)) fun e => g (of_decide_eq_false e)
theorem T.mono {o : Option α} {P Q : α → Prop} (h : T o P) (g : ∀ a, P a → Q a) : T o Q := by
 obtain ⟨a, h1, h2⟩ := h
 exact ⟨a, h1, g a h2⟩
theorem T.get {o : Option Bool} {P : Bool → Prop} (h : T o P) : o = some (o.getD false) := by
 obtain ⟨a, rfl, _⟩ := h
 rfl
theorem T.at {o : Option α} {P : α → Prop} {a : α} (h : T o P) (e : o = some a) : P a := by
 obtain ⟨b, e2, h2⟩ := h
 rw [e] at e2
 cases e2
 exact h2
theorem T.idx {l : List α} {i : Int} {P : α → Prop} (h0 : 0 ≤ i) (h : i < (l.length : Int)) (g : ∀ (k : Nat) (hk : k < l.length), i = (k : Int) → P l[k]) : T (idx l i) P := by
 obtain ⟨k, rfl⟩ : ∃ k : Nat, i = k := ⟨i.toNat, by omega⟩
 exact ⟨_, zlL rfl (by omega), g k (by omega) rfl⟩
theorem T.ix {l : List α} {i : Int} (h0 : 0 ≤ i) (h : i < (l.length : Int)) : T (Go.Proofs.YtebbcofojchkpaaGreatDoor.idx l i) fun _ => True := T.idx h0 h fun _ _ _ => trivial
theorem T.iter {body : σ → Option (σ ⊕ β)} (I : σ → Prop) (m : σ → Nat) (G : β → Prop) (hr : ∀ s, I s → T (body s) fun r => match r with
  | .inl s' => I s' ∧ m s' < m s
  | .inr b => G b) {s : σ} (hs : I s) (hm : m s < 1099511627776) : T (iter body s) G :=
 ygO I m G (fun s hs => by
  obtain ⟨r, h1, h2⟩ := hr s hs
  cases r with
  | inl s' => exact .inl ⟨s', h1, h2⟩
  | inr b => exact .inr ⟨b, h1, h2⟩) FU s hs (by unfold FU; exact hm)
theorem zrX {a b : List α} (h : a.length + b.length ≤ 68719476736) : app a b = some (a ++ b) := by
 unfold app
 rw [zmD (by unfold LIM; omega)]
theorem ziJ (xs : List α) (h : xs.length ≤ 68719476736) : app ([] : List α) xs = some xs := by
 rw [zrX (by simpa using h)]; rfl
theorem T.app {a b : List α} {P : List α → Prop} (h : a.length + b.length ≤ 68719476736) (g : P (a ++ b)) : T (app a b) P := ⟨_, zrX h, g⟩
theorem T.places {body : Int → Option (Int ⊕ β)} (n : Nat) (hn : n < 1099511627776) (G : β → Prop) (hr : ∀ k : Nat, k ≤ n → T (body (k : Int)) fun r => match r with
  | .inl s' => s' = ((k + 1 : Nat) : Int) ∧ k < n
  | .inr b => G b) : T (Go.Proofs.YtebbcofojchkpaaGreatDoor.iter body 0) G := by
 refine T.iter (fun i => 0 ≤ i ∧ i ≤ (n : Int)) (fun i => (n - i).toNat) G (fun i hi => ?_) ⟨by omega, by omega⟩ (by omega)
 obtain ⟨k, rfl⟩ : ∃ k : Nat, i = k := ⟨i.toNat, by omega⟩
 refine (hr k (by omega)).mono fun r h => ?_
 cases r with
 | inl s => obtain ⟨rfl, h⟩ := h; exact ⟨⟨by omega, by omega⟩, by omega⟩
 | inr b => exact h
end
theorem xbY (s : ByteArray) (pos : Nat) : 1 ≤ (Utf8.decode s pos).2 := by
 unfold Utf8.decode
 simp only []
 repeat' split
 all_goals simp
theorem xeL {l : Bs} {p : Nat} (h : p < l.length) : p < nxP l p := by
 unfold nxP dec
 rw [zmD h]
 have := xbY ⟨l.toArray⟩ p
 omega
theorem xeH (s cs : Bs) (h : s.length ≤ 1048576) (h2 : cs.length < 4294967281) (h3 : cs.all (fun b => decide (b.toNat < 128)) = true) : T (zaB.trim s cs) fun _ => True := by
 refine ⟨Lib.trimS s cs, ?_, trivial⟩
 show ycS s cs = _
 unfold ycS
 rw [decide_eq_true (show s.length ≤ 9223372036854775807 by omega), decide_eq_true h2, h3]
 rfl
theorem of_t (v : Bs) (n : Int) (cs : Bs) (hn : n ≤ 1048576) (h2 : cs.length < 4294967281) (h3 : cs.all (fun b => decide (b.toNat < 128)) = true) : T (ziC zaB v n cs) fun _ => True := by
 unfold ziC
 refine T.bif (fun _ => T.dif (fun h => ?_) fun _ => T.ok trivial) fun _ => T.ok trivial
 exact (xeH v cs (by omega) h2 h3).bind fun _ _ => T.ok trivial
theorem xbW (s : Bs) : T (zgP zaB s) fun _ => True := by
 unfold zgP
 exact (of_t s _ _ (by decide) (by decide) (by decide)).bind fun _ _ => T.ok trivial
theorem yrI (s : Bs) : T (zfJ zaB s) fun _ => True := by
 unfold zfJ
 exact (of_t s _ _ (by decide) (by decide) (by decide)).bind fun _ _ => T.ok trivial
theorem yjR {α : Type} {s : List α} {n : Int} (h0 : 0 ≤ n) (h : n ≤ (s.length : Int)) : T (subH s n) fun _ => True := by
 obtain ⟨k, rfl⟩ : ∃ k : Nat, n = k := ⟨n.toNat, by omega⟩
 unfold subH
 rw [decide_eq_true (show (0 : Int) ≤ (k : Int) by omega), decide_eq_true h]
 exact ⟨_, rfl, trivial⟩
theorem yxW {α : Type} {s : List α} {n : Int} (h0 : 0 ≤ n) (h : n ≤ (s.length : Int)) : T (subL s n) fun _ => True := by
 obtain ⟨k, rfl⟩ : ∃ k : Nat, n = k := ⟨n.toNat, by omega⟩
 unfold subL
 rw [decide_eq_true (show (0 : Int) ≤ (k : Int) by omega), decide_eq_true h]
 exact ⟨_, rfl, trivial⟩
theorem yxE (s : Bs) : T (zcL zaB s) fun _ => True := by
 unfold zcL
 refine T.dif (fun h => (yjR (by omega) (by omega)).bind fun _ _ => T.bif (fun _ => (yxW (by omega) (by omega)).bind fun _ _ => (yrI _).bind fun _ _ => T.ok trivial) fun _ => (yjR (by omega) (by omega)).bind fun _ _ => T.bif (fun _ => (yxW (by omega) (by omega)).bind fun _ _ => (yrI _).bind fun _ _ => T.ok trivial) fun _ => T.ok trivial) fun _ => T.ok trivial
theorem xdW (s : Bs) : T (zlI zaB s) fun _ => True := by
 unfold zlI
 exact (yxE s).bind fun _ _ => T.ok trivial
theorem xfJ (l : List Bs) (h : l.length ≤ 1048576) : T (zaP zaB l) fun _ => True := by
 unfold zaP zjV
 refine T.bind (Q := fun _ => True) (T.bind (Q := fun _ => True) (T.places l.length (by omega) (fun _ => True) fun k hk => ?_) fun r _ => ?_) fun _ _ => T.ok trivial
 ·unfold ziG
  refine T.dif (fun h2 => ?_) fun _ => T.ok trivial
  refine (T.ix (by omega) h2).bind fun _ _ => (xdW _).bind fun _ _ => T.bif (fun _ => T.ok trivial) fun _ => T.ok ⟨?_, by omega⟩
  rw [zlK (by omega) (by omega)]; omega
 ·cases r <;> exact T.ok trivial
theorem xeQ (s : Bs) : T (zgJ zaB s) fun _ => True := by
 unfold zgJ
 refine T.bif (fun _ => T.dif (fun h => ?_) fun _ => T.ok trivial) fun _ => T.ok trivial
 refine T.bind (Q := fun _ => True) ?_ fun _ _ => T.ok trivial
 unfold zjQ zlU zlR
 refine T.bind (Q := fun _ => True) (T.bind (Q := fun _ => True) (T.bind (Q := fun _ => True) (T.iter (fun x => x.1 = s ∧ 0 ≤ x.2) (fun x => s.length - x.2.toNat) (fun _ => True) (fun x hx => ?_) ⟨rfl, Int.le_refl _⟩ (by simp; omega)) fun r _ => ?_) fun _ _ => T.ok trivial) fun _ _ => T.ok trivial
 ·obtain ⟨v, i⟩ := x
  obtain ⟨rfl, h0⟩ := hx
  unfold zqH
  simp only at h0 ⊢
  refine T.dif (fun h2 => ?_) fun _ => T.ok trivial
  refine T.bind (Q := fun _ => True) ?_ fun _ _ => T.bif (fun _ => T.ok trivial) fun _ => T.ok ⟨⟨rfl, by simp⟩, ?_⟩
  ·unfold zrF
   exact T.dif (fun _ => T.ok trivial) fun _ => T.ok trivial
  ·have := xeL h2
   simp only [Int.toNat_natCast]
   omega
 ·cases r <;> exact T.ok trivial
theorem xaZ (n a b : Int) : zaU zaB n a b = some (decide (a ≤ n) && decide (n ≤ b)) := by
 unfold zaU
 by_cases h : n ≥ a
 ·rw [zmD h]; simp [show a ≤ n from h]
 ·rw [zkB h]; simp [show ¬ a ≤ n from h]
theorem ylN {c a b : Bool} : (bif c then some a else some b) = some (bif c then a else b) := by cases c <;> rfl
theorem xcG {c a : Bool} : (bif c then a else false) = (c && a) := by cases c <;> rfl
abbrev L8 : Type := Bs
abbrev Nd : Type := Int × Int × Int × L8 × L8 × L8 × List L8 × Int × Int × Bool × Bool × List L8 × Int × L8 × L8
abbrev Es : Type := List (Int × Nd)
abbrev npar (n : Nd) : Int := n.2.2.1
abbrev zdR (n : Nd) : List L8 := n.2.2.2.2.2.2.1
abbrev nexp (n : Nd) : Int := n.2.2.2.2.2.2.2.2.1
abbrev yiS (n : Nd) : Bool := n.2.2.2.2.2.2.2.2.2.1
abbrev yaZ (n : Nd) : Bool := n.2.2.2.2.2.2.2.2.2.2.1
abbrev nact (n : Nd) : List L8 := n.2.2.2.2.2.2.2.2.2.2.2.1
abbrev nsec (n : Nd) : L8 := n.2.2.2.2.2.2.2.2.2.2.2.2.2.1
abbrev yuZ (n : Nd) : L8 := n.2.2.2.2.2.2.2.2.2.2.2.2.2.2
def scB (s : L8) : Bool := (zgP zaB s).getD false
def nmB (s : L8) : Bool := (zfJ zaB s).getD false
def prB (s : L8) : Bool := (zcL zaB s).getD false
def txB (s : L8) : Bool := (zgJ zaB s).getD false
def axB (l : List L8) : Bool := (zaP zaB l).getD false
theorem yvH (s : L8) : zgP zaB s = some (scB s) := (xbW s).get
theorem yzJ (s : L8) : zfJ zaB s = some (nmB s) := (yrI s).get
theorem yzI (s : L8) : zcL zaB s = some (prB s) := (yxE s).get
theorem tx_ok (s : L8) : zgJ zaB s = some (txB s) := (xeQ s).get
theorem xfI {l : List L8} (h : l.length ≤ 1048576) : zaP zaB l = some (axB l) := (xfJ l h).get
def scpF (l : List L8) : Nat → Nat → Bool
 | 0, _ => true
 | f + 1, i => match l[i]? with
  | none => true
  | some s => scB s && (decide (i = 0) || !(match l[i - 1]? with | none => true | some q => Op.bytesLess s q || s == q)) && scpF l f (i + 1)
theorem yoV (n : Nd) (h : (zdR n).length ≤ 1048576) : ∀ (f i k : Nat), f + i = (zdR n).length → f < k →
  ztZ (fun x : Int × Nd => ziD zaB n x.1 x.2.1 x.2.2.1 x.2.2.2.1 x.2.2.2.2.1 x.2.2.2.2.2.1 x.2.2.2.2.2.2.1 x.2.2.2.2.2.2.2.1 x.2.2.2.2.2.2.2.2.1 x.2.2.2.2.2.2.2.2.2.1 x.2.2.2.2.2.2.2.2.2.2.1 x.2.2.2.2.2.2.2.2.2.2.2.1 x.2.2.2.2.2.2.2.2.2.2.2.2.1 x.2.2.2.2.2.2.2.2.2.2.2.2.2.1 x.2.2.2.2.2.2.2.2.2.2.2.2.2.2.1 x.2.2.2.2.2.2.2.2.2.2.2.2.2.2.2) k ((i : Int), n) = some (bif scpF (zdR n) f i then Sum.inr n else Sum.inl false)
 | 0, i, k + 1, hf, _ => by
  rw [zeS (b := Sum.inr n)]
  ·rfl
  ·unfold ziD
   rw [zkB (show ¬ (i : Int) < ((zdR n).length : Int) by omega)]
 | f + 1, i, k + 1, hf, hk => by
  have hi : i < (zdR n).length := by omega
  unfold scpF
  rw [List.getElem?_eq_getElem hi]
  simp only []
  cases hs : scB (zdR n)[i] with
  | false =>
   simp only [Bool.false_and, cond_false]
   refine zeS ?_
   unfold ziD
   simp only []
   rw [zmD (show (i : Int) < ((zdR n).length : Int) by omega), zlL rfl hi, zaA, yvH, hs, zaA]
   rfl
  | true =>
   simp only [Bool.true_and]
   by_cases h0 : i = 0
   ·subst h0
    simp only [decide_true, Bool.true_or, Bool.true_and]
    rw [zfP (s' := (((1 : Nat) : Int), n))]
    ·exact yoV n h f 1 k (by omega) (by omega)
    ·unfold ziD
     simp only []
     rw [zmD (show ((0 : Nat) : Int) < ((zdR n).length : Int) by omega), zlL rfl hi, zaA, yvH, hs, zaA]
     rfl
   ·have hp : i - 1 < (zdR n).length := by omega
    rw [List.getElem?_eq_getElem hp]
    simp only [decide_eq_false h0, Bool.false_or]
    have e1 : w64 ((i : Int) - 1) = ((i - 1 : Nat) : Int) := by rw [zlK (by omega) (by omega)]; omega
    have e2 : w64 ((i : Int) + 1) = ((i + 1 : Nat) : Int) := by rw [zlK (by omega) (by omega)]; omega
    have hb : ziD zaB n (i : Int) n.1 n.2.1 n.2.2.1 n.2.2.2.1 n.2.2.2.2.1 n.2.2.2.2.2.1 n.2.2.2.2.2.2.1 n.2.2.2.2.2.2.2.1 n.2.2.2.2.2.2.2.2.1 n.2.2.2.2.2.2.2.2.2.1 n.2.2.2.2.2.2.2.2.2.2.1 n.2.2.2.2.2.2.2.2.2.2.2.1 n.2.2.2.2.2.2.2.2.2.2.2.2.1 n.2.2.2.2.2.2.2.2.2.2.2.2.2.1 n.2.2.2.2.2.2.2.2.2.2.2.2.2.2 = bif (Op.bytesLess (zdR n)[i] (zdR n)[i - 1] || (zdR n)[i] == (zdR n)[i - 1]) then some (.inr (.inl false)) else some (.inl (((i + 1 : Nat) : Int), n)) := by
     unfold ziD
     rw [zmD (show (i : Int) < ((zdR n).length : Int) by omega), zlL rfl hi, zaA, yvH, hs, zaA]
     simp only [Bool.not_true, cond_false]
     rw [zmD (show (i : Int) > 0 by omega), e1, zlL rfl hp, zaA, e2]
    cases hq : (Op.bytesLess (zdR n)[i] (zdR n)[i - 1] || (zdR n)[i] == (zdR n)[i - 1]) with
    | true =>
     rw [hq] at hb
     simp only [Bool.not_true, Bool.false_and, cond_false]
     exact zeS hb
    | false =>
     rw [hq] at hb
     simp only [Bool.not_false, Bool.true_and]
     rw [zfP (s' := (((i + 1 : Nat) : Int), n)) hb]
     exact yoV n h f (i + 1) k (by omega) (by omega)
def inB (n a b : Int) : Bool := decide (a ≤ n) && decide (n ≤ b)
def mayB (n : Nd) : Bool := scpF (zdR n) (zdR n).length 0 && inB n.2.1 1 5 && decide (n.2.2.1 ≥ 0) && prB n.2.2.2.1 && (n.2.2.2.2.1 == ([] : L8) || nmB n.2.2.2.2.1) && (n.2.2.2.2.2.1 == ([] : L8) || txB n.2.2.2.2.2.1) && decide (((zdR n).length : Int) ≤ 16) && inB n.2.2.2.2.2.2.2.1 0 1099511627776 && inB (nexp n) 0 1099511627776 && decide (((nact n).length : Int) ≤ 4) && !axB (nact n) && inB n.2.2.2.2.2.2.2.2.2.2.2.2.1 0 3 && inB ((nsec n).length : Int) 1 64 && decide (((yuZ n).length : Int) ≤ 256)
theorem ymE (n : Nd) (h : (zdR n).length ≤ 1048576) : zfO zaB n = some (mayB n) := by
 unfold zfO
 rw [show iter _ ((0 : Int), n) = _ from yoV n h (zdR n).length 0 FU (by omega) (by unfold FU; omega), zaA]
 unfold mayB
 cases scpF (zdR n) (zdR n).length 0 with
 | false => simp only [cond_false, Bool.false_and]
 | true =>
  simp only [cond_true, Bool.true_and, xaZ, yzI, yzJ, tx_ok, zaA]
  by_cases h4 : ((nact n).length : Int) ≤ 4
  ·rw [xfI (l := n.2.2.2.2.2.2.2.2.2.2.2.1) (by have : ((n.2.2.2.2.2.2.2.2.2.2.2.1).length : Int) ≤ 4 := h4; omega)]
   simp only [zaA, ylN]
   simp only [xcG]
   unfold inB
   congr 1
   cases (n.2.2.2.2.1 == ([] : L8)) <;> cases nmB n.2.2.2.2.1 <;> cases (n.2.2.2.2.2.1 == ([] : L8)) <;> cases txB n.2.2.2.2.2.1 <;> simp only [cond_true, cond_false, Bool.false_and, Bool.true_and, Bool.and_false, Bool.or_true, Bool.or_false, Bool.true_or, Bool.false_or, Bool.and_assoc]
  ·have h5 : decide (((n.2.2.2.2.2.2.2.2.2.2.2.1).length : Int) ≤ 4) = false := decide_eq_false h4
   simp only [h5, cond_false, zaA, ylN, Bool.and_false, Bool.false_and, Bool.cond_self]
section
variable {S R : Type}
theorem yjY {f : S → List (Option (S ⊕ R))} (hne : ∀ s, f s ≠ []) : ∀ (n : Nat) {s : S} {r r' : R} {m : Nat}, Rng f n s r → Rng f m s r' → r = r'
 | 0, _, _, _, _, h, _ => h.elim
 | _ + 1, _, _, _, 0, _, h => h.elim
 | n + 1, s, r, r', m + 1, h, h' => by
  obtain ⟨o, ho⟩ := List.exists_mem_of_ne_nil _ (hne s)
  have h1 := h o ho
  have h2 := h' o ho
  match o, h1, h2 with
  | some (.inl s'), h1, h2 => exact yjY hne n h1 h2
  | some (.inr r0), h1, h2 => exact h1.symm.trans h2
theorem yyR {f : S → List (Option (S ⊕ R))} (hne : ∀ s, f s ≠ []) {n : Nat} {s : S} {r : R} (h : Rng f n s r) : rngA f s = some r := by
 unfold rngA
 have hx : ∃ r n, Rng f n s r := ⟨r, n, h⟩
 rw [dif_pos hx]
 obtain ⟨m, hm⟩ := hx.choose_spec
 rw [yjY hne m hm h]
theorem xcR {α γ : Type} (l : List α) (d : γ) (F : α → γ) : rngL l d F ≠ [] := by
 unfold rngL
 cases l <;> simp
theorem rngLm {α γ : Type} {l : List α} {d : γ} {F : α → γ} {o : γ} (h : o ∈ rngL l d F) : (l = [] ∧ o = d) ∨ ∃ p ∈ l, o = F p := by
 unfold rngL at h
 cases l with
 | nil => exact .inl ⟨rfl, List.mem_singleton.1 h⟩
 | cons x l =>
  obtain ⟨p, hp, rfl⟩ := List.mem_map.1 h
  exact .inr ⟨p, hp, rfl⟩
theorem ylL {γ : Type} {es : List (Int × γ)} {left : List Int} {p : Int × γ} : p ∈ rngC keqI es left ↔ p ∈ es ∧ p.1 ∈ left := by
 unfold rngC
 rw [List.mem_filter, List.any_eq_true]
 constructor
 ·rintro ⟨h, k, hk, e⟩
  rw [zdO.1 e]; exact ⟨h, hk⟩
 ·rintro ⟨h, hk⟩
  exact ⟨h, _, hk, zdO.2 rfl⟩
theorem zxK {left : List Int} {k j : Int} : j ∈ rngD keqI left k ↔ j ∈ left ∧ j ≠ k := by
 unfold rngD
 rw [List.mem_filter, Bool.not_eq_true', ← Bool.not_eq_true, zdO]
theorem yuB {left : List Int} {k : Int} (h : k ∈ left) : (rngD keqI left k).length < left.length := by
 unfold rngD
 refine List.length_filter_lt_length_iff_exists.2 ⟨k, h, ?_⟩
 rw [zdO.2 rfl]; simp
theorem zxH {γ : Type} {f : S → List (Option (S ⊕ R))} (I : S → Prop) (es : S → List (Int × γ)) (left : S → List Int) {d : S → Option (S ⊕ R)} {F : S → Int × γ → Option (S ⊕ R)} {r : R}
  (hf : ∀ s, f s = rngL (rngC keqI (es s) (left s)) (d s) (F s))
  (h1 : ∀ s, I s → (∀ p ∈ es s, p.1 ∉ left s) → d s = some (.inr r))
  (h2 : ∀ s p, I s → p ∈ es s → p.1 ∈ left s → (∃ s', F s p = some (.inl s') ∧ I s' ∧ left s' = rngD keqI (left s) p.1) ∨ F s p = some (.inr r)) {s : S} (hs : I s) : rngA f s = some r := by
 have key : ∀ n s, I s → (left s).length < n → Rng f n s r := by
  intro n
  induction n with
  | zero => intro s _ h; omega
  | succ n ih =>
   intro s hs hn o ho
   rw [hf] at ho
   rcases rngLm ho with ⟨h3, rfl⟩ | ⟨p, hp, rfl⟩
   ·rw [h1 s hs fun p hp hl => by have := ylL.2 ⟨hp, hl⟩; rw [h3] at this; cases this]
    rfl
   ·obtain ⟨hp, hl⟩ := ylL.1 hp
    rcases h2 s p hs hp hl with ⟨s', e, hI, hle⟩ | e
    ·rw [e]
     refine ih s' hI ?_
     rw [hle]
     have := yuB hl
     omega
    ·rw [e]; rfl
 exact yyR (fun s => by rw [hf]; exact xcR _ _ _) (key _ s hs (Nat.lt_succ_self _))
end
abbrev zN : Nd := ((0 : Int), (0 : Int), (0 : Int), ([] : L8), ([] : L8), ([] : L8), ([] : List L8), (0 : Int), (0 : Int), false, false, ([] : List L8), (0 : Int), ([] : L8), ([] : L8))
def Lst (n : Nd) : Prop := (zdR n).length ≤ 1048576 ∧ (nact n).length ≤ 1048576
theorem own_ok {n : Nd} (h : Lst n) : zfN zaB n = some n := by
 have h1 : n.2.2.2.2.2.2.1.length ≤ 1048576 := h.1
 have h2 : n.2.2.2.2.2.2.2.2.2.2.2.1.length ≤ 1048576 := h.2
 unfold zfN
 rw [ziJ _ (by omega), zaA, ziJ _ (by omega), zaA]
structure Ok (nx : Int) (es : Es) : Prop where
 rises : zpZ es
 ids : ∀ p ∈ es, p.2.1 = p.1 ∧ 1 ≤ p.1 ∧ p.1 < nx
 par : ∀ p ∈ es, 0 ≤ npar p.2 ∧ npar p.2 < p.1
 may : ∀ p ∈ es, mayB p.2 = true
 uniq : ∀ p ∈ es, ∀ q ∈ es, nsec p.2 = nsec q.2 → p = q
 next : 1 ≤ nx ∧ nx ≤ 99999999
 len : es.length ≤ 256
theorem zbD {a b : Bool} (h : (a && b) = true) : a = true := by cases a <;> simp_all
theorem zwT {n : Nd} (h : mayB n = true) : (zdR n).length ≤ 16 ∧ (nact n).length ≤ 4 ∧ 1 ≤ (nsec n).length ∧ (nsec n).length ≤ 64 ∧ (yuZ n).length ≤ 256 ∧ 0 ≤ npar n := by
 unfold mayB inB at h
 simp only [Bool.and_eq_true, decide_eq_true_eq] at h
 exact ⟨by omega, by omega, by omega, by omega, by omega, show 0 ≤ n.2.2.1 by omega⟩
theorem Ok.lst {nx : Int} {es : Es} (h : Ok nx es) {p : Int × Nd} (hp : p ∈ es) : Lst p.2 := by
 have := zwT (h.may p hp)
 exact ⟨by omega, by omega⟩
def zvQ (es : Es) (sec : L8) : Option Nd := (es.find? fun p => nsec p.2 == sec).map (·.2)
theorem zrS {nx : Int} {es : Es} (h : Ok nx es) (sec : L8) : zbB zaB sec nx es = some ((zvQ es sec).getD zN, (zvQ es sec).isSome, nx, es) := by
 unfold zbB zvQ
 cases hf : es.find? (fun p => nsec p.2 == sec) with
 | none =>
  have hn : ∀ p ∈ es, (nsec p.2 == sec) = false := fun p hp => by
   have := List.find?_eq_none.1 hf p hp
   simpa using this
  refine Eq.trans (bind_ok (a := Sum.inl (nx, es, 0, 0, 0, [], [], [], 0, 0, false, false, 0, [], [])) ?_) rfl
  refine zxH (fun s => ∃ left, s = (nx, es, 0, 0, 0, [], [], [], 0, 0, false, false, 0, [], [], left)) (fun s => s.2.1) (fun s => s.2.2.2.2.2.2.2.2.2.2.2.2.2.2.2) (hf := fun s => rfl) ?_ ?_ ⟨_, rfl⟩
  ·rintro s ⟨left, rfl⟩ _
   rfl
  ·rintro s p ⟨left, rfl⟩ hp hl
   refine .inl ⟨_, ?_, ⟨_, rfl⟩, rfl⟩
   simp only []
   rw [zlP h.rises (k := p.1) (v := p.2) hp, zaA]
   have := hn p hp
   simp only [nsec] at this
   rw [this]
   rfl
 | some q =>
  have hq := List.mem_of_find?_eq_some hf
  have hs : (nsec q.2 == sec) = true := List.find?_some (p := fun p : Int × Nd => nsec p.2 == sec) hf
  refine Eq.trans (bind_ok (a := Sum.inr (true, nx, es, q.2)) ?_) rfl
  refine zxH (fun s => ∃ left, s = (nx, es, 0, 0, 0, [], [], [], 0, 0, false, false, 0, [], [], left) ∧ q.1 ∈ left) (fun s => s.2.1) (fun s => s.2.2.2.2.2.2.2.2.2.2.2.2.2.2.2) (hf := fun s => rfl) ?_ ?_ ⟨_, rfl, List.mem_map.2 ⟨q, hq, rfl⟩⟩
  ·rintro s ⟨left, rfl, hl⟩ hn
   exact absurd hl (hn q hq)
  ·rintro s p ⟨left, rfl, hl⟩ hp hpl
   simp only []
   rw [zlP h.rises (k := p.1) (v := p.2) hp, zaA]
   cases he : p.2.2.2.2.2.2.2.2.2.2.2.2.2.2.1 == sec with
   | true =>
    have e : p = q := h.uniq p hp q hq (by
     have h1 : nsec p.2 = sec := beq_iff_eq.1 he
     have h2 : nsec q.2 = sec := beq_iff_eq.1 hs
     rw [h1, h2])
    subst e
    rw [own_ok (h.lst hp)]
    exact .inr rfl
   | false =>
    refine .inl ⟨_, rfl, ⟨_, rfl, zxK.2 ⟨hl, fun e => ?_⟩⟩, rfl⟩
    have e2 : p = q := by
     have := zlP h.rises (k := p.1) (v := p.2) hp
     rw [← e, zlP h.rises (k := q.1) (v := q.2) hq] at this
     exact Prod.ext e.symm (osi this).symm
    subst e2
    rw [show (p.2.2.2.2.2.2.2.2.2.2.2.2.2.2.1 == sec) = true from hs] at he
    cases he
def pth (es : Es) : Nat → Int → List Int
 | 0, _ => []
 | f + 1, id => match mget keqI es id with
  | none => []
  | some n => id :: pth es f (npar n)
theorem pth_s (es : Es) (f : Nat) (id : Int) : pth es (f + 1) id = match mget keqI es id with
  | none => []
  | some n => id :: pth es f (npar n) := rfl
def zwB (es : Es) (id : Int) : List Int := pth es id.toNat id
theorem yrB (es : Es) : ∀ f id, (pth es f id).length ≤ f
 | 0, _ => Nat.le_refl _
 | f + 1, id => by
  unfold pth
  split
  ·simp
  ·simp only [List.length_cons]
   have := yrB es f (npar ‹_›)
   omega
theorem ydJ {es : Es} {id : Int} (hm : mget keqI es id = none) : zwB es id = [] := by
 unfold zwB
 cases id.toNat with
 | zero => rfl
 | succ f => unfold pth; rw [hm]
theorem ysS {nx nx' : Int} {es : Es} (h : Ok nx es) : ∀ (f : Nat) (id : Int) (acc : List Int) (k : Nat), id.toNat ≤ f → f < k → acc.length + f ≤ 68719476736 →
  ztZ (fun x : Bool × Int × Es × List Int × Nd => zkG zaB x.1 x.2.1 x.2.2.1 x.2.2.2.1 x.2.2.2.2.1 x.2.2.2.2.2.1 x.2.2.2.2.2.2.1 x.2.2.2.2.2.2.2.1 x.2.2.2.2.2.2.2.2.1 x.2.2.2.2.2.2.2.2.2.1 x.2.2.2.2.2.2.2.2.2.2.1 x.2.2.2.2.2.2.2.2.2.2.2.1 x.2.2.2.2.2.2.2.2.2.2.2.2.1 x.2.2.2.2.2.2.2.2.2.2.2.2.2.1 x.2.2.2.2.2.2.2.2.2.2.2.2.2.2.1 x.2.2.2.2.2.2.2.2.2.2.2.2.2.2.2.1 x.2.2.2.2.2.2.2.2.2.2.2.2.2.2.2.2.1 x.2.2.2.2.2.2.2.2.2.2.2.2.2.2.2.2.2.1 x.2.2.2.2.2.2.2.2.2.2.2.2.2.2.2.2.2.2) k (mhas keqI es id, nx', es, acc, zkA keqI es id zN) = some (nx', es, acc ++ pth es f id)
 | f, id, acc, k + 1, hf, hk, ha => by
  cases hh : mhas keqI es id with
  | false =>
   have e : pth es f id = [] := by
    cases f with
    | zero => rfl
    | succ f => unfold pth; rw [zxY hh]
   rw [e, List.append_nil]
   exact zeS rfl
  | true =>
   obtain ⟨n, hn, hp⟩ := zrV hh
   have h1 := (h.par _ hp).2
   have h2 := h.ids _ hp
   simp only at h1 h2
   rw [zmF hn]
   obtain ⟨f, rfl⟩ : ∃ g, f = g + 1 := ⟨f - 1, by omega⟩
   rw [zfP (s' := (mhas keqI es (npar n), nx', es, acc ++ [id], zkA keqI es (npar n) zN))]
   ·rw [ysS h f (npar n) (acc ++ [id]) k (by omega) (by omega) (by simp; omega)]
    rw [pth_s, hn]
    simp
   ·unfold zkG
    simp only [cond_true]
    rw [zrX (by simp; omega), zaA, h2.1]
theorem yeN {nx nx' : Int} {es : Es} (h : Ok nx es) (id : Int) : zbL zaB id nx' es = some (zwB es id, nx', es) := by
 unfold zbL
 simp only []
 cases hh : mhas keqI es id with
 | false =>
  rw [ydJ (zxY hh), show iter _ (false, nx', es, ([] : List Int), zkA keqI es id zN) = some (nx', es, []) from zeS rfl, zaA]
 | true =>
 have hi : id ≤ 68719476736 := by
  obtain ⟨v, hv⟩ := zkX.1 hh
  have h1 := h.ids _ hv
  have h2 := h.next
  simp only at h1
  omega
 rw [← hh]
 rw [show iter _ (mhas keqI es id, nx', es, ([] : List Int), zkA keqI es id zN) = _ from ysS h id.toNat id [] FU (Nat.le_refl _) (by unfold FU; omega) (by simp; omega), zaA]
 rfl
theorem zxD {nx : Int} {es : Es} (h : Ok nx es) (id : Int) : (zwB es id).length ≤ 99999999 := by
 cases hm : mget keqI es id with
 | none => rw [ydJ hm]; simp
 | some n =>
  have h1 := h.ids _ (zxE hm)
  have h2 := h.next
  simp only at h1
  have := yrB es id.toNat id
  unfold zwB
  omega
def ygW (es : Es) (k : Int) : Bool := yiS (zkA keqI es k zN)
theorem yyM {α : Type} {l : List α} {p : α → Bool} {k : Nat} (hk : k < l.length) (h : p l[k] = true) : l.any p = true := List.any_eq_true.2 ⟨_, List.getElem_mem hk, h⟩
theorem ylG {α : Type} {l : List α} {p : α → Bool} {k : Nat} (hk : k < l.length) (h : (l.take k).any p = false) (h2 : p l[k] = false) : (l.take (k + 1)).any p = false := by
 rw [List.take_succ_eq_append_getElem hk, List.any_append, h, List.any_cons, h2]; rfl
theorem xaQ {nx : Int} {es : Es} {l : List Int} (hl : l.length ≤ 99999999) : zfX zaB l nx es = some (l.any (ygW es), nx, es) := by
 have h : T (iter (fun x : Int × Int × Es => zlF zaB l x.1 x.2.1 x.2.2) ((0 : Int), nx, es)) fun r => match r with
   | .inl v => v.2 = (nx, es) ∧ 0 ≤ v.1 ∧ l.any (ygW es) = true
   | .inr v => v = (nx, es) ∧ l.any (ygW es) = false := by
  refine T.iter (fun x => x.2 = (nx, es) ∧ 0 ≤ x.1 ∧ x.1 ≤ (l.length : Int) ∧ (l.take x.1.toNat).any (ygW es) = false) (fun x => l.length - x.1.toNat) _ (fun x hx => ?_) ⟨rfl, Int.le_refl _, by simp, rfl⟩ (by simp; omega)
  obtain ⟨i, v⟩ := x
  obtain ⟨h1, h2, h3, h4⟩ := hx
  simp only at h1 h2 h3 h4
  subst h1
  obtain ⟨k, rfl⟩ : ∃ k : Nat, i = k := ⟨i.toNat, by omega⟩
  rw [Int.toNat_natCast] at h4
  unfold zlF
  simp only []
  refine T.dif (fun h5 => ?_) fun h5 => T.ok ⟨rfl, ?_⟩
  ·have hk : k < l.length := by omega
   rw [zlL rfl hk, zaA]
   unfold zjO
   simp only [zaA]
   refine T.bif (fun h6 => T.ok ⟨rfl, by simp, yyM hk h6⟩) fun h6 => T.ok ⟨⟨rfl, ?_, ?_, ?_⟩, ?_⟩
   ·simp only []; rw [zlK (by omega) (by omega)]; omega
   ·simp only []; rw [zlK (by omega) (by omega)]; omega
   ·simp only []
    rw [zlK (by omega) (by omega), show ((k : Int) + 1).toNat = k + 1 by omega]
    exact ylG hk h4 h6
   ·simp only []; rw [zlK (by omega) (by omega)]; omega
  ·rw [List.take_of_length_le (by omega)] at h4
   exact h4
 unfold zfX zlV
 obtain ⟨r, h1, h2⟩ := h
 rw [h1, zaA]
 cases r with
 | inl v =>
  obtain ⟨i, v⟩ := v
  obtain ⟨h3, h4, h5⟩ := h2
  simp only at h3 h4 h5
  subst h3
  rw [h5]
  simp only [zaA]
  rw [decide_eq_true (show i ≥ 0 by omega)]
 | inr v =>
  obtain ⟨h3, h5⟩ := h2
  subst h3
  rw [h5]
  rfl
def ynF (es : Es) (id : Int) : Bool := (zwB es id).any (ygW es)
theorem yeJ {nx nx' : Int} {es : Es} (h : Ok nx es) (id : Int) : zcG zaB id nx' es = some (ynF es id, nx', es) := by
 unfold zcG
 rw [yeN h, zaA, xaQ (zxD h id), zaA]
 rfl
def canB (n : Nd) (now : Int) : Bool := !yiS n && !yaZ n && decide (nexp n > now)
theorem xeC (n : Nd) (now : Int) : zrP zaB n now = some (canB n now) := by
 obtain ⟨a0, a1, a2, a3, a4, a5, a6, a7, a8, a9, a10, a11, a12, a13, a14⟩ := n
 unfold zrP canB
 simp only [yiS, yaZ, nexp]
 cases a9 with
 | true => exact bind_ok (a := Sum.inl false) (zeS rfl)
 | false =>
  cases a10 with
  | true =>
   refine bind_ok (a := Sum.inl false) ?_
   show ztZ _ (1099511627774 + 1 + 1) _ = _
   rw [zfP rfl]
   exact zeS rfl
  | false =>
   by_cases h : a8 > now
   ·have e : decide (a8 > now) = true := decide_eq_true h
    refine Eq.trans (bind_ok (a := Sum.inr ()) ?_) (by rw [e]; rfl)
    show ztZ _ (1099511627772 + 1 + 1 + 1 + 1) _ = _
    rw [zfP rfl, zfP rfl, zfP (s' := ((3 : Int), a0, a1, a2, a3, a4, a5, a6, a7, a8, false, false, a11, a12, a13, a14))]
    ·exact zeS rfl
    ·show zmQ zaB now 2 a0 a1 a2 a3 a4 a5 a6 a7 a8 false false a11 a12 a13 a14 = _
     unfold zmQ ziR
     simp only [e, zaA]
     rfl
   ·have e : decide (a8 > now) = false := decide_eq_false h
    refine Eq.trans (bind_ok (a := Sum.inl false) ?_) (by rw [e]; rfl)
    show ztZ _ (1099511627773 + 1 + 1 + 1) _ = _
    rw [zfP rfl, zfP rfl]
    refine zeS ?_
    show zmQ zaB now 2 a0 a1 a2 a3 a4 a5 a6 a7 a8 false false a11 a12 a13 a14 = _
    unfold zmQ ziR
    simp only [e, zaA]
    rfl
def yaY (es : Es) (id now : Int) : Bool := match mget keqI es id with
 | none => false
 | some n => canB n now && !ynF es id
theorem yfP {nx nx' : Int} {es : Es} (h : Ok nx es) (id now : Int) : zaQ zaB id now nx' es = some (yaY es id now, nx', es) := by
 unfold zaQ yaY
 simp only []
 cases hh : mhas keqI es id with
 | false => rw [zxY hh]; rfl
 | true =>
  obtain ⟨n, hn, hp⟩ := zrV hh
  rw [hn, zmF hn]
  simp only [cond_true]
  rw [xeC, zaA]
  cases canB n now with
  | false => rfl
  | true =>
   simp only [cond_true, Bool.true_and]
   rw [yeJ h, zaA]
theorem yfX : ∀ {l : List Int}, l.Pairwise (fun x y => x < y) → zyW l = true
 | [], _ => rfl
 | [x], _ => rfl
 | x :: y :: l, h => by
  have hc := List.pairwise_cons.1 h
  unfold zyW
  rw [decide_eq_true (hc.1 y List.mem_cons_self), yfX hc.2]
  rfl
theorem ylR {nx nx' : Int} {es : Es} (h : Ok nx es) : zeT zaB nx' es = some (nx', es, es.map (·.2)) := by
 have hl := h.len
 have hr : (es.map (·.1)).Pairwise (fun x y => x < y) := List.pairwise_map.2 h.rises
 have hk : zvF es = true := by
  unfold zvF
  rw [decide_eq_true (show es.length ≤ 1048576 by omega), yfX hr, Bool.and_true, Bool.true_and, List.all_eq_true]
  intro p hp
  have h1 := h.ids p hp
  have h2 := h.next
  rw [decide_eq_true (show -9223372036854775808 ≤ p.1 by omega), decide_eq_true (show p.1 ≤ 9223372036854775807 by omega)]
  rfl
 unfold zeT zwR zzL
 rw [decide_eq_true (show (0 : Int) ≤ (es.length : Int) by omega), decide_eq_true (show (es.length : Int) ≤ (LIM : Int) by unfold LIM; omega), Bool.and_self, zrH rfl, zaA, show mkL (0 : Int) _ = some ([] : List Nd) from xfR (n := 0) (by omega), zaA, zaA, hk]
 simp only [cond_true, zaA]
 rw [show iter _ ((0 : Int), nx', es, ([] : List Nd)) = some (nx', es, es.map (·.2)) from ?_, zaA]
 refine zrZ (fun k => ((k : Int), nx', es, (es.take k).map (·.2))) es.length (by omega) _ (fun k hk => ?_) ?_
 ·unfold zjR
  simp only []
  have hm : (k : Int) < ((es.map (·.1)).length : Int) := by rw [List.length_map]; omega
  rw [zmD hm, zlL (i := k) rfl (by rw [List.length_map]; exact hk), zaA, List.getElem_map, zmF (zlP h.rises (k := es[k].1) (v := es[k].2) (List.getElem_mem hk)), own_ok (h.lst (List.getElem_mem hk)), zaA, zrX (by simp; omega), zaA, zlK (by omega) (by omega), List.take_succ_eq_append_getElem hk, List.map_append]
  rfl
 ·unfold zjR
  simp only []
  rw [zkB (by simp), List.take_of_length_le (Nat.le_refl _)]
def chE (es : Es) (f : Int × Nd → Nd) : Es := es.map fun p => (p.1, f p)
theorem ywR (es : Es) (f : Int × Nd → Nd) : (chE es f).map (·.1) = es.map (·.1) := by
 unfold chE
 rw [List.map_map]
 rfl
theorem zxZ {es : Es} {f : Int × Nd → Nd} {p : Int × Nd} (h : p ∈ chE es f) : ∃ q ∈ es, p = (q.1, f q) := by
 obtain ⟨q, h1, h2⟩ := List.mem_map.1 h
 exact ⟨q, h1, h2.symm⟩
theorem xbC (es : Es) (f : Int × Nd → Nd) : (chE es f).length = es.length := List.length_map ..
structure yjB (es : Es) (f : Int × Nd → Nd) : Prop where
 id : ∀ p ∈ es, (f p).1 = p.2.1
 par : ∀ p ∈ es, npar (f p) = npar p.2
 sec : ∀ p ∈ es, nsec (f p) = nsec p.2
 may : ∀ p ∈ es, mayB p.2 = true → mayB (f p) = true
theorem Ok.ch {nx : Int} {es : Es} (h : Ok nx es) {f : Int × Nd → Nd} (k : yjB es f) : Ok nx (chE es f) where
 rises := ydD (ywR es f) h.rises
 ids p hp := by
  obtain ⟨q, hq, rfl⟩ := zxZ hp
  have := h.ids q hq
  simp only [k.id q hq]
  exact this
 par p hp := by
  obtain ⟨q, hq, rfl⟩ := zxZ hp
  have := h.par q hq
  simp only [k.par q hq]
  exact this
 may p hp := by
  obtain ⟨q, hq, rfl⟩ := zxZ hp
  exact k.may q hq (h.may q hq)
 uniq p hp q hq e := by
  obtain ⟨p', hp', rfl⟩ := zxZ hp
  obtain ⟨q', hq', rfl⟩ := zxZ hq
  simp only [k.sec p' hp', k.sec q' hq'] at e
  rw [h.uniq p' hp' q' hq' e]
 next := h.next
 len := by rw [xbC]; exact h.len
theorem yzL {es : Es} (h : zpZ es) {i : Int} {n v : Nd} (hm : mget keqI es i = some n) : mrep keqI es i v = chE es fun p => if p.1 = i then v else p.2 := by
 induction es with
 | nil => cases hm
 | cons p m ih =>
  obtain ⟨k', n'⟩ := p
  have hc := List.pairwise_cons.1 h
  show (bif keqI k' i then (i, v) :: m else (k', n') :: mrep keqI m i v) = (k', if k' = i then v else n') :: chE m _
  unfold mget at hm
  cases hk : keqI k' i with
  | true =>
   have e := zdO.1 hk
   rw [if_pos e, e]
   simp only [cond_true]
   congr 1
   refine (List.map_id m).symm.trans (List.map_congr_left fun p hp => ?_)
   have := hc.1 p hp
   simp only at this
   have e' : ¬ p.1 = i := by omega
   show p = (p.1, if p.1 = i then v else p.2)
   rw [if_neg e']
  | false =>
   rw [hk] at hm
   have e : ¬ k' = i := fun e => by rw [zdO.2 e] at hk; cases hk
   rw [if_neg e]
   simp only [cond_false]
   rw [ih hc.2 hm]
theorem zzU {es : Es} {f g : Int × Nd → Nd} (h : ∀ p ∈ es, f p = g p) : chE es f = chE es g :=
 List.map_congr_left fun p hp => by rw [h p hp]
def chI (es : Es) (id : Int) (g : Nd → Nd) : Es := chE es fun p => if p.1 = id then g p.2 else p.2
theorem zzW {es : Es} (h : zpZ es) {id : Int} {n : Nd} (g : Nd → Nd) (hm : mget keqI es id = some n) : mrep keqI es id (g n) = chI es id g := by
 rw [yzL h hm]
 refine zzU fun p hp => ?_
 by_cases e : p.1 = id
 ·rw [if_pos e, if_pos e]
  have := zlP h (k := p.1) (v := p.2) hp
  rw [e, hm] at this
  rw [osi this]
 ·rw [if_neg e, if_neg e]
abbrev zsA (n : Nd) : Nd := (n.1, n.2.1, n.2.2.1, n.2.2.2.1, n.2.2.2.2.1, n.2.2.2.2.2.1, n.2.2.2.2.2.2.1, n.2.2.2.2.2.2.2.1, n.2.2.2.2.2.2.2.2.1, true, n.2.2.2.2.2.2.2.2.2.2.1, n.2.2.2.2.2.2.2.2.2.2.2.1, n.2.2.2.2.2.2.2.2.2.2.2.2.1, n.2.2.2.2.2.2.2.2.2.2.2.2.2.1, n.2.2.2.2.2.2.2.2.2.2.2.2.2.2)
abbrev ysE (n : Nd) : Nd := (n.1, n.2.1, n.2.2.1, n.2.2.2.1, n.2.2.2.2.1, n.2.2.2.2.2.1, n.2.2.2.2.2.2.1, n.2.2.2.2.2.2.2.1, n.2.2.2.2.2.2.2.2.1, n.2.2.2.2.2.2.2.2.2.1, true, n.2.2.2.2.2.2.2.2.2.2.2.1, n.2.2.2.2.2.2.2.2.2.2.2.2.1, n.2.2.2.2.2.2.2.2.2.2.2.2.2.1, n.2.2.2.2.2.2.2.2.2.2.2.2.2.2)
abbrev nlev (n : Nd) : Int := n.2.2.2.2.2.2.2.2.2.2.2.2.1
abbrev sLev (l : Int) (n : Nd) : Nd := (n.1, n.2.1, n.2.2.1, n.2.2.2.1, n.2.2.2.2.1, n.2.2.2.2.2.1, n.2.2.2.2.2.2.1, n.2.2.2.2.2.2.2.1, n.2.2.2.2.2.2.2.2.1, n.2.2.2.2.2.2.2.2.2.1, n.2.2.2.2.2.2.2.2.2.2.1, n.2.2.2.2.2.2.2.2.2.2.2.1, (bif decide (n.2.2.2.2.2.2.2.2.2.2.2.2.1 ≤ l) then l else n.2.2.2.2.2.2.2.2.2.2.2.2.1), n.2.2.2.2.2.2.2.2.2.2.2.2.2.1, n.2.2.2.2.2.2.2.2.2.2.2.2.2.2)
abbrev xcY (d : L8) (n : Nd) : Nd := (n.1, n.2.1, n.2.2.1, n.2.2.2.1, n.2.2.2.2.1, n.2.2.2.2.2.1, n.2.2.2.2.2.2.1, n.2.2.2.2.2.2.2.1, n.2.2.2.2.2.2.2.2.1, n.2.2.2.2.2.2.2.2.2.1, n.2.2.2.2.2.2.2.2.2.2.1, n.2.2.2.2.2.2.2.2.2.2.2.1, n.2.2.2.2.2.2.2.2.2.2.2.2.1, n.2.2.2.2.2.2.2.2.2.2.2.2.2.1, d)
theorem zzR {es : Es} {q : Int × Nd → Prop} [DecidablePred q] {g : Nd → Nd} (h1 : ∀ n, (g n).1 = n.1) (h2 : ∀ n, npar (g n) = npar n) (h3 : ∀ n, nsec (g n) = nsec n) (h4 : ∀ n, mayB n = true → mayB (g n) = true) : yjB es fun p => if q p then g p.2 else p.2 where
 id p _ := by split <;> simp only [h1]
 par p _ := by split <;> simp only [h2]
 sec p _ := by split <;> simp only [h3]
 may p _ h := by split; exact h4 _ h; exact h
theorem zsP {es : Es} (q : Int × Nd → Prop) [DecidablePred q] : yjB es fun p => if q p then zsA p.2 else p.2 := zzR (fun _ => rfl) (fun _ => rfl) (fun _ => rfl) fun _ h => h
theorem yjA {es : Es} (q : Int × Nd → Prop) [DecidablePred q] : yjB es fun p => if q p then ysE p.2 else p.2 := zzR (fun _ => rfl) (fun _ => rfl) (fun _ => rfl) fun _ h => h
theorem ynP {es : Es} (q : Int × Nd → Prop) [DecidablePred q] {d : L8} (hd : d.length ≤ 256) : yjB es fun p => if q p then xcY d p.2 else p.2 := zzR (fun _ => rfl) (fun _ => rfl) (fun _ => rfl) fun n h => by
 unfold mayB at h ⊢
 simp only [Bool.and_eq_true] at h ⊢
 exact ⟨h.1, decide_eq_true (by show (d.length : Int) ≤ 256; omega)⟩
theorem yoF {es : Es} (q : Int × Nd → Prop) [DecidablePred q] {l : Int} (h1 : 1 ≤ l) (h3 : l ≤ 3) : yjB es fun p => if q p then sLev l p.2 else p.2 := zzR (fun _ => rfl) (fun _ => rfl) (fun _ => rfl) fun n h => by
 unfold mayB at h ⊢
 simp only [Bool.and_eq_true] at h ⊢
 refine ⟨⟨⟨h.1.1.1, ?_⟩, h.1.2⟩, h.2⟩
 have h2 := h.1.1.2
 unfold inB at h2 ⊢
 simp only [Bool.and_eq_true, decide_eq_true_eq] at h2 ⊢
 by_cases hl : n.2.2.2.2.2.2.2.2.2.2.2.2.1 ≤ l
 ·simp only [decide_eq_true hl, cond_true]; omega
 ·simp only [decide_eq_false hl, cond_false]; exact h2
theorem yiL {nx nx' : Int} {es : Es} (h : Ok nx es) {id : Int} (hh : mhas keqI es id = true) : zdT zaB id nx' es = some (nx', chI es id zsA) := by
 obtain ⟨n, hn, hp⟩ := zrV hh
 unfold zdT zlE zjF
 simp only [zaA]
 rw [hh, zrH rfl, zaA, zmF hn, zaA, ← zzW h.rises zsA hn]
theorem yqJ {nx nx' : Int} {es : Es} (h : Ok nx es) (id : Int) : zdU zaB id nx' es = some (bif mhas keqI es id then (0, nx', chI es id zsA) else (131, nx', es)) := by
 unfold zdU
 cases hh : mhas keqI es id with
 | false => rfl
 | true =>
  simp only [Bool.not_true, cond_false, cond_true]
  rw [yiL h hh, zaA]
end Go.Proofs.YtebbcofojchkpaaGreatDoor.Am
