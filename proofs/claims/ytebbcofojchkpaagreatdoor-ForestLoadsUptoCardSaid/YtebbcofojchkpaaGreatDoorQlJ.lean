/- What some functions compute, over plain values, and that they do. Maps of numbers as rising lists: plain laws. Functions that answer whatever they are given: plain laws. Forests: find, paths, what is live: plain laws. Forests: what is live, and the list of nodes: plain laws. Forests: nodes that are changed: plain laws. Forests: what is pruned: plain laws. Conditions: as each theorem says. -/
import Derived.KernelRfl
import Derived.Test.YtebbcofojchkpaaGreatDoorQlI
namespace Go.Proofs.YtebbcofojchkpaaGreatDoor.Am
open Go Go.RowKit
def τWkF : TE := [(3, ⟨.int .i64, 1, [.v (.i .i64) (show Int from 0)], (.i .i64), 8⟩),
 (4, ⟨.b, 1, [.v .b (show Bool from false)], .b, 1⟩),
 (9, ⟨.s, 1, [.v .s (show Bs from [])], .s, 16⟩),
 (22, ⟨.sl 24, 1, [.nils], (.sl (.pr .s .s)), 24⟩),
 (24, ⟨.st [(9, 0), (9, 1)], 2, [.v .s (show Bs from []), .v .s (show Bs from [])], (.pr .s .s), 32⟩),
 (25, ⟨.pt 75, 1, [.nilp], .un, 8⟩),
 (35, ⟨.sl 47, 1, [.nils], (.sl (.pr (.i .i64) (.pr (.i .i64) (.pr (.i .i64) (.pr .s (.pr .s (.pr .s (.pr (.sl .s) (.pr (.i .i64) (.pr (.i .i64) (.pr .b (.pr .b (.pr (.sl .s) (.pr (.i .i64) (.pr .s .s))))))))))))))), 24⟩),
 (44, ⟨.sl 3, 1, [.nils], (.sl (.i .i64)), 24⟩),
 (45, ⟨.sl 9, 1, [.nils], (.sl .s), 24⟩),
 (47, ⟨.st [(3, 0), (3, 1), (3, 2), (9, 3), (9, 4), (9, 5), (45, 6), (3, 7), (3, 8), (4, 9), (4, 10), (45, 11), (3, 12), (9, 13), (9, 14)], 15, [.v (.i .i64) (show Int from 0), .v (.i .i64) (show Int from 0), .v (.i .i64) (show Int from 0), .v .s (show Bs from []), .v .s (show Bs from []), .v .s (show Bs from []), .nils, .v (.i .i64) (show Int from 0), .v (.i .i64) (show Int from 0), .v .b (show Bool from false), .v .b (show Bool from false), .nils, .v (.i .i64) (show Int from 0), .v .s (show Bs from []), .v .s (show Bs from [])], (.pr (.i .i64) (.pr (.i .i64) (.pr (.i .i64) (.pr .s (.pr .s (.pr .s (.pr (.sl .s) (.pr (.i .i64) (.pr (.i .i64) (.pr .b (.pr .b (.pr (.sl .s) (.pr (.i .i64) (.pr .s .s)))))))))))))), 184⟩),
 (73, ⟨.map 3 81, 1, [.nilm], (.mp (.i .i64) (.pr (.i .i64) (.pr (.i .i64) (.pr (.i .i64) (.pr .s (.pr .s (.pr .s (.pr (.sl .s) (.pr (.i .i64) (.pr (.i .i64) (.pr .b (.pr .b (.pr (.sl .s) (.pr (.i .i64) (.pr .s .s))))))))))))))), 8⟩),
 (75, ⟨.st [(73, 0), (3, 1)], 2, [.nilm, .v (.i .i64) (show Int from 0)], (.pr (.mp (.i .i64) (.pr (.i .i64) (.pr (.i .i64) (.pr (.i .i64) (.pr .s (.pr .s (.pr .s (.pr (.sl .s) (.pr (.i .i64) (.pr (.i .i64) (.pr .b (.pr .b (.pr (.sl .s) (.pr (.i .i64) (.pr .s .s))))))))))))))) (.i .i64)), 16⟩),
 (81, ⟨.st [(47, 0)], 15, [.v (.i .i64) (show Int from 0), .v (.i .i64) (show Int from 0), .v (.i .i64) (show Int from 0), .v .s (show Bs from []), .v .s (show Bs from []), .v .s (show Bs from []), .nils, .v (.i .i64) (show Int from 0), .v (.i .i64) (show Int from 0), .v .b (show Bool from false), .v .b (show Bool from false), .nils, .v (.i .i64) (show Int from 0), .v .s (show Bs from []), .v .s (show Bs from [])], (.pr (.i .i64) (.pr (.i .i64) (.pr (.i .i64) (.pr .s (.pr .s (.pr .s (.pr (.sl .s) (.pr (.i .i64) (.pr (.i .i64) (.pr .b (.pr .b (.pr (.sl .s) (.pr (.i .i64) (.pr .s .s)))))))))))))), 184⟩),
 (105, ⟨.fn, 1, [.nilf], .un, 8⟩),
 (111, ⟨.map 3 112, 1, [.nilm], (.mp (.i .i64) .un), 8⟩),
 (112, ⟨.st [], 0, [], .un, 0⟩),
 (120, ⟨.ifc, 1, [.v .er (show Bool from false)], .er, 16⟩),
 (125, ⟨.st [(45, 0), (4, 1)], 2, [.nils, .v .b (show Bool from false)], (.pr (.sl .s) .b), 32⟩),
 (135, ⟨.sl 45, 1, [.nils], (.sl (.sl .s)), 24⟩),
 (148, ⟨.ar 3 105, 3, [.nilf, .nilf, .nilf], .un, 24⟩)]
theorem τ_okWkF : TEok Tryz.prog τWkF := yhY (by kernel_rfl) (by kernel_rfl)
theorem zxZ : Tryz.prog.follows .mixedOrders = true := by kernel_rfl
theorem zdX {G : List (Nat × Obj)} {o : Ops} [zlS G] [zkE G o] {Γ : CT} {η : HT} {f : FuncId} {fn : Func} {c : SC} (hΓ : ∀ B, GB G B → CTok Tryz.prog Γ B) (hf : Tryz.prog.funcs[f]? = some fn) (i : (fn.name == "runtime.NumGoroutine") = false := by kernel_rfl) (j : fn.body.isNone = false := by kernel_rfl) (l : Nat.ble c.I.sl.length fn.ntmps = true := by kernel_rfl) (r : Nat.beq fn.results.toList.length c.nr = true := by kernel_rfl) (e : fnS τWkF Γ η fn c.I c.outs = c.p := by kernel_rfl) : SCok Tryz.prog G f c := witO (G := G) (o := o) <| yoP zxZ τ_okWkF hΓ hf (isFn hf i j) l r e
theorem zgI {G : List (Nat × Obj)} {o : Ops} [zlS G] [zkE G o] {Γ : CT} {η : HT} {f : FuncId} {fn : Func} {c : PC} (hΓ : ∀ B, GB G B → CTok Tryz.prog Γ B) (hf : Tryz.prog.funcs[f]? = some fn) (i : (fn.name == "runtime.NumGoroutine") = false := by kernel_rfl) (j : fn.body.isNone = false := by kernel_rfl) (l : Nat.ble c.ash.length fn.ntmps = true := by kernel_rfl) (r : c.cl = false := by kernel_rfl) (e : fnP τWkF Γ η fn c.ash c.rts = c.p := by kernel_rfl) : PCok Tryz.prog G f c := witO (G := G) (o := o) <| yrE zxZ τ_okWkF hΓ hf (isFn hf i j) l r e
abbrev zvO : Type := (List Bs) × Bool
abbrev zgL : Type := Int × Int × Int × Bs × Bs × Bs × (List Bs) × Int × Int × Bool × Bool × (List Bs) × Int × Bs × Bs
abbrev zqQ : Ty := .pr (.i .i64) (.pr (.i .i64) (.pr (.i .i64) (.pr .s (.pr .s (.pr .s (.pr (.sl .s) (.pr (.i .i64) (.pr (.i .i64) (.pr .b (.pr .b (.pr (.sl .s) (.pr (.i .i64) (.pr .s .s)))))))))))))
abbrev zaO : Type := Int × zgL
abbrev ypW : OSh := .blk 47 [hI, hI, hI, hS, hS, hS, (.h (.sl .s)), hI, hI, hB, hB, (.h (.sl .s)), hI, hS, hS]
abbrev ypY : OSh := .blk 81 [hI, hI, hI, hS, hS, hS, (.h (.sl .s)), hI, hI, hB, hB, (.h (.sl .s)), hI, hS, hS]
abbrev yhA : OSh := .blk 47 [hI, hI, hI, hS, hS, hS, .nils, hI, hI, hB, hB, .nils, hI, hS, hS]
abbrev zwO : OSh := .blk 125 [(.h (.sl .s)), hB]
abbrev zbO : OSh := .mp true (.i .i64) zqQ
abbrev zdZ : OSh := .blk 75 [(.mpr 1), hI]
abbrev zxA : OSh := .blk 75 [(.mpr 2), hI]
abbrev zwR : OSh := .mp true (.i .i64) .un
abbrev zzE : OSh := .blk 25 [(.ptr 1 0)]
abbrev ypS : OSh := .blk 111 [(.mpr 2)]
abbrev yiH : OSh := .blk 111 [(.mpr 4)]
section
variable {tabs : List (Nat × Obj)} [zlS tabs] {o : Ops} [zkE tabs o]
def zgX (o : Ops) : Option ((Int × List zaO)) :=
 some ((1 : Int), ([] : List zaO))
def znN (o : Ops) : SC := ⟨⟨[], []⟩, 1, [(none, ⟨[(0, (.ptr 0 0))], [zdZ, zbO]⟩)], fun _ => zgX o⟩
theorem zrT : SCok Tryz.prog tabs 27 (znN o) := zdX (o := o) (η := []) (Γ := ⟨[], [], false⟩) (ctok trivial trivial) Tryz.func27
def zdL (o : Ops) (v0 : Bs) (v1 : Int) (v2 : Bs) : Option (Bool) :=
 bif (v0 != ([] : Bs)) then (bif decide ((v0.length : Int) ≤ v1) then ((o.trim v0 v2).bind fun v3 => some (v3 == ([] : Bs))) else (some false)) else (some false)
def zpH (o : Ops) : PC := ⟨[hS, hI, hS], [.b], fun x => zdL o x.1 x.2.1 x.2.2, false⟩
theorem zsV : PCok Tryz.prog tabs 152 (zpH o) := zgI (o := o) (η := []) (Γ := ⟨[(82, (zvU o))], [], false⟩) (ctok ⟨(zkE.trim (G := tabs)), trivial⟩ trivial) Tryz.func152
def zdH (o : Ops) (v0 : Bs) : Option (Bool) :=
 (zdL o v0 (32 : Int) ([97, 98, 99, 100, 101, 102, 103, 104, 105, 106, 107, 108, 109, 110, 111, 112, 113, 114, 115, 116, 117, 118, 119, 120, 121, 122, 48, 49, 50, 51, 52, 53, 54, 55, 56, 57, 46, 95, 45, 58] : Bs)).bind fun v1 => some v1
def zpG (o : Ops) : PC := ⟨[hS], [.b], fun x => zdH o x, false⟩
theorem zvA : PCok Tryz.prog tabs 107 (zpG o) := zgI (o := o) (η := []) (Γ := ⟨[(152, (zpH o))], [], false⟩) (ctok ⟨zsV, trivial⟩ trivial) Tryz.func107
def zaP (o : Ops) (v0 : Int) (v1 : Int) (v2 : Int) : Option (Bool) :=
 bif decide (v0 ≥ v1) then (some (decide (v0 ≤ v2))) else (some false)
def zoX (o : Ops) : PC := ⟨[hI, hI, hI], [.b], fun x => zaP o x.1 x.2.1 x.2.2, false⟩
theorem zsW : PCok Tryz.prog tabs 34 (zoX o) := zgI (o := o) (η := []) (Γ := ⟨[], [], false⟩) (ctok trivial trivial) Tryz.func34
def zcL (o : Ops) (v0 : Bs) : Option (Bool) :=
 (zdL o v0 (24 : Int) ([97, 98, 99, 100, 101, 102, 103, 104, 105, 106, 107, 108, 109, 110, 111, 112, 113, 114, 115, 116, 117, 118, 119, 120, 121, 122, 48, 49, 50, 51, 52, 53, 54, 55, 56, 57, 46, 95, 45] : Bs)).bind fun v1 => some v1
def zmP (o : Ops) : PC := ⟨[hS], [.b], fun x => zcL o x, false⟩
theorem zqX : PCok Tryz.prog tabs 110 (zmP o) := zgI (o := o) (η := []) (Γ := ⟨[(152, (zpH o))], [], false⟩) (ctok ⟨zsV, trivial⟩ trivial) Tryz.func110
def zbA (o : Ops) (v0 : Bs) : Option (Bool) :=
 bif decide ((v0.length : Int) > 2) then ((subH v0 (2 : Int)).bind fun v1 => bif (v1 == ([117, 58] : Bs)) then ((subL v0 (2 : Int)).bind fun v2 => (zcL o v2).bind fun v3 => some v3) else ((subH v0 (2 : Int)).bind fun v4 => bif (v4 == ([99, 58] : Bs)) then ((subL v0 (2 : Int)).bind fun v5 => (zcL o v5).bind fun v6 => some v6) else (some false))) else (some false)
def zhQ (o : Ops) : PC := ⟨[hS], [.b], fun x => zbA o x, false⟩
theorem zlU : PCok Tryz.prog tabs 109 (zhQ o) := zgI (o := o) (η := []) (Γ := ⟨[(110, (zmP o))], [], false⟩) (ctok ⟨zqX, trivial⟩ trivial) Tryz.func109
def zhJ (o : Ops) (v0 : Bs) : Option (Bool) :=
 (zbA o v0).bind fun v1 => some (!v1)
def zpJ (o : Ops) : PC := ⟨[hS], [.b], fun x => zhJ o x, false⟩
theorem zvK : PCok Tryz.prog tabs 108 (zpJ o) := zgI (o := o) (η := []) (Γ := ⟨[(109, (zhQ o))], [], false⟩) (ctok ⟨zlU, trivial⟩ trivial) Tryz.func108
def zfI (o : Ops) (v0 : List Bs) (v1 : Int) : Option (Int ⊕ (Int ⊕ Unit)) :=
 bif decide (v1 < (v0.length : Int)) then ((idx v0 v1).bind fun v2 => (zhJ o v2).bind fun v3 => bif v3 then some (.inr (.inl v1)) else some (.inl (w64 (v1 + 1)))) else some (.inr (.inr ()))
def zgK (o : Ops) (v0 : List Bs) : Option (Int) :=
 (iter (zfI o v0) (0 : Int)).bind fun v4 => match v4 with
 | .inl v5 => some v5
 | .inr v6 => some (-1 : Int)
def zlR (o : Ops) : SC := ⟨⟨[(0, (.h (.sl .s))), (1, (.fn 108 [] []))], []⟩, 1, [(none, ⟨[(0, hI)], []⟩)], fun x => zgK o x⟩
theorem zqZ : SCok Tryz.prog tabs 155 (zlR o) := zdX (o := o) (η := [(200002, .loop [] ⟨[(1, (.fn 108 [] [])), (8, hI)], []⟩ [0, 7] [(some 1000000, ⟨[(4, hI)], []⟩), (some 0, ⟨[], []⟩)])]) (Γ := ⟨[(108, (zpJ o))], [], false⟩) (ctok ⟨zvK, trivial⟩ trivial) Tryz.func155
def zaM (o : Ops) (v0 : List Bs) : Option (Bool) :=
 (zgK o v0).bind fun v1 => some (decide (v1 ≥ 0))
def zjM (o : Ops) : SC := ⟨⟨[(0, (.h (.sl .s))), (1, (.fn 108 [] []))], []⟩, 1, [(none, ⟨[(0, hB)], []⟩)], fun x => zaM o x⟩
theorem zoS : SCok Tryz.prog tabs 112 (zjM o) := zdX (o := o) (η := []) (Γ := ⟨[], [(155, (zlR o))], false⟩) (ctok trivial ⟨zqZ, trivial⟩) Tryz.func112
def zgS (o : Ops) (v0 : Int) : Option (Bool) :=
 bif decide (v0 < 33) then (some true) else (some (decide (v0 > 126)))
def zoK (o : Ops) : PC := ⟨[(.h (.i .i32))], [.b], fun x => zgS o x, false⟩
theorem ztP : PCok Tryz.prog tabs 154 (zoK o) := zgI (o := o) (η := []) (Γ := ⟨[], [], false⟩) (ctok trivial trivial) Tryz.func154
def zeN (o : Ops) (v1 : Bool) (v2 : Bs) (v3 : Int) : Option ((Bs × Int) ⊕ (Int ⊕ Unit)) :=
 bif decide (v3.toNat < v2.length) then ((zgS o (nxR v2 v3.toNat)).bind fun v4 => bif (v4 == v1) then some (.inr (.inl (v3.toNat : Int))) else some (.inl (v2, (nxP v2 v3.toNat : Int)))) else some (.inr (.inr ()))
def zfH (o : Ops) (v0 : Bs) (v1 : Bool) : Option (Int) :=
 (iter (fun x => zeN o v1 x.1 x.2) (v0, (0 : Int))).bind fun v5 => match v5 with
 | .inl v6 => some v6
 | .inr v7 => some (-1 : Int)
def zlD (o : Ops) : SC := ⟨⟨[(0, hS), (1, (.fn 154 [] [])), (2, hB)], []⟩, 1, [(none, ⟨[(0, hI)], []⟩)], fun x => zfH o x.1 x.2⟩
theorem zqH : SCok Tryz.prog tabs 207 (zlD o) := zdX (o := o) (η := [(200002, .loop [] ⟨[(1, (.fn 154 [] [])), (10, (.ptr 0 0))], [.is]⟩ [2] [(some 1000000, ⟨[(6, hI)], []⟩), (some 0, ⟨[], []⟩)])]) (Γ := ⟨[(154, (zoK o))], [], false⟩) (ctok ⟨ztP, trivial⟩ trivial) Tryz.func207
def zfB (o : Ops) (v0 : Bs) : Option (Int) :=
 (zfH o v0 true).bind fun v1 => some v1
def zkZ (o : Ops) : SC := ⟨⟨[(0, hS), (1, (.fn 154 [] []))], []⟩, 1, [(none, ⟨[(0, hI)], []⟩)], fun x => zfB o x⟩
theorem zqL : SCok Tryz.prog tabs 186 (zkZ o) := zdX (o := o) (η := []) (Γ := ⟨[], [(207, (zlD o))], false⟩) (ctok trivial ⟨zqH, trivial⟩) Tryz.func186
def zcI (o : Ops) (v0 : Bs) : Option (Bool) :=
 (zfB o v0).bind fun v1 => some (decide (v1 ≥ 0))
def ziI (o : Ops) : SC := ⟨⟨[(0, hS), (1, (.fn 154 [] []))], []⟩, 1, [(none, ⟨[(0, hB)], []⟩)], fun x => zcI o x⟩
theorem znQ : SCok Tryz.prog tabs 153 (ziI o) := zdX (o := o) (η := []) (Γ := ⟨[], [(186, (zkZ o))], false⟩) (ctok trivial ⟨zqL, trivial⟩) Tryz.func153
def zdB (o : Ops) (v0 : Bs) : Option (Bool) :=
 bif (v0 != ([] : Bs)) then (bif decide ((v0.length : Int) ≤ 128) then ((zcI o v0).bind fun v1 => some (!v1)) else (some false)) else (some false)
def zqV (o : Ops) : PC := ⟨[hS], [.b], fun x => zdB o x, false⟩
theorem zwX : PCok Tryz.prog tabs 111 (zqV o) := zgI (o := o) (η := []) (Γ := ⟨[], [(153, (ziI o))], false⟩) (ctok trivial ⟨znQ, trivial⟩) Tryz.func111
def zfF (o : Ops) (v0 : zgL) (v1 : Int) (v2 : Int) (v3 : Int) (v4 : Int) (v5 : Bs) (v6 : Bs) (v7 : Bs) (v8 : List Bs) (v9 : Int) (v10 : Int) (v11 : Bool) (v12 : Bool) (v13 : List Bs) (v14 : Int) (v15 : Bs) (v16 : Bs) : Option (zaO ⊕ (Bool ⊕ zgL)) :=
 bif decide (v1 < (v0.2.2.2.2.2.2.1.length : Int)) then ((idx v0.2.2.2.2.2.2.1 v1).bind fun v17 => (zdH o v17).bind fun v18 => bif (!v18) then some (.inr (.inl false)) else (bif decide (v1 > 0) then ((idx v8 (w64 (v1 - 1))).bind fun v19 => bif (Op.bytesLess v17 v19 || v17 == v19) then some (.inr (.inl false)) else some (.inl (w64 (v1 + 1), v2, v3, v4, v5, v6, v7, v8, v9, v10, v11, v12, v13, v14, v15, v16))) else some (.inl (w64 (v1 + 1), v2, v3, v4, v5, v6, v7, v8, v9, v10, v11, v12, v13, v14, v15, v16)))) else some (.inr (.inr (v2, v3, v4, v5, v6, v7, v8, v9, v10, v11, v12, v13, v14, v15, v16)))
def ziA (o : Ops) (v0 : zgL) : Option (Bool) :=
 (iter (fun x => zfF o v0 x.1 x.2.1 x.2.2.1 x.2.2.2.1 x.2.2.2.2.1 x.2.2.2.2.2.1 x.2.2.2.2.2.2.1 x.2.2.2.2.2.2.2.1 x.2.2.2.2.2.2.2.2.1 x.2.2.2.2.2.2.2.2.2.1 x.2.2.2.2.2.2.2.2.2.2.1 x.2.2.2.2.2.2.2.2.2.2.2.1 x.2.2.2.2.2.2.2.2.2.2.2.2.1 x.2.2.2.2.2.2.2.2.2.2.2.2.2.1 x.2.2.2.2.2.2.2.2.2.2.2.2.2.2.1 x.2.2.2.2.2.2.2.2.2.2.2.2.2.2.2) ((0 : Int), v0)).bind fun v20 => match v20 with
 | .inl v21 => (some v21)
 | .inr v22 => ((zaP o v22.2.1 (1 : Int) (5 : Int)).bind fun v23 => bif v23 then (bif decide (v22.2.2.1 ≥ 0) then ((zbA o v22.2.2.2.1).bind fun v24 => bif v24 then (bif (v22.2.2.2.2.1 == ([] : Bs)) then (bif (v22.2.2.2.2.2.1 == ([] : Bs)) then (bif decide ((v22.2.2.2.2.2.2.1.length : Int) ≤ 16) then ((zaP o v22.2.2.2.2.2.2.2.1 (0 : Int) (1099511627776 : Int)).bind fun v25 => bif v25 then ((zaP o v22.2.2.2.2.2.2.2.2.1 (0 : Int) (1099511627776 : Int)).bind fun v26 => bif v26 then (let v27 : Bool := decide ((v22.2.2.2.2.2.2.2.2.2.2.2.1.length : Int) ≤ 4)
 bif v27 then ((zaM o v22.2.2.2.2.2.2.2.2.2.2.2.1).bind fun v28 => bif (!v28) then ((zaP o v22.2.2.2.2.2.2.2.2.2.2.2.2.1 (0 : Int) (3 : Int)).bind fun v29 => bif v29 then ((zaP o (v22.2.2.2.2.2.2.2.2.2.2.2.2.2.1.length : Int) (1 : Int) (64 : Int)).bind fun v30 => bif v30 then (let v31 : Bool := decide ((v22.2.2.2.2.2.2.2.2.2.2.2.2.2.2.length : Int) ≤ 256)
 some v31) else (some false)) else (some false)) else (some false)) else (some false)) else (some false)) else (some false)) else (some false)) else ((zdB o v22.2.2.2.2.2.1).bind fun v32 => bif v32 then (bif decide ((v22.2.2.2.2.2.2.1.length : Int) ≤ 16) then ((zaP o v22.2.2.2.2.2.2.2.1 (0 : Int) (1099511627776 : Int)).bind fun v33 => bif v33 then ((zaP o v22.2.2.2.2.2.2.2.2.1 (0 : Int) (1099511627776 : Int)).bind fun v34 => bif v34 then (let v35 : Bool := decide ((v22.2.2.2.2.2.2.2.2.2.2.2.1.length : Int) ≤ 4)
 bif v35 then ((zaM o v22.2.2.2.2.2.2.2.2.2.2.2.1).bind fun v36 => bif (!v36) then ((zaP o v22.2.2.2.2.2.2.2.2.2.2.2.2.1 (0 : Int) (3 : Int)).bind fun v37 => bif v37 then ((zaP o (v22.2.2.2.2.2.2.2.2.2.2.2.2.2.1.length : Int) (1 : Int) (64 : Int)).bind fun v38 => bif v38 then (let v39 : Bool := decide ((v22.2.2.2.2.2.2.2.2.2.2.2.2.2.2.length : Int) ≤ 256)
 some v39) else (some false)) else (some false)) else (some false)) else (some false)) else (some false)) else (some false)) else (some false)) else (some false))) else ((zcL o v22.2.2.2.2.1).bind fun v40 => bif v40 then (bif (v22.2.2.2.2.2.1 == ([] : Bs)) then (bif decide ((v22.2.2.2.2.2.2.1.length : Int) ≤ 16) then ((zaP o v22.2.2.2.2.2.2.2.1 (0 : Int) (1099511627776 : Int)).bind fun v41 => bif v41 then ((zaP o v22.2.2.2.2.2.2.2.2.1 (0 : Int) (1099511627776 : Int)).bind fun v42 => bif v42 then (let v43 : Bool := decide ((v22.2.2.2.2.2.2.2.2.2.2.2.1.length : Int) ≤ 4)
 bif v43 then ((zaM o v22.2.2.2.2.2.2.2.2.2.2.2.1).bind fun v44 => bif (!v44) then ((zaP o v22.2.2.2.2.2.2.2.2.2.2.2.2.1 (0 : Int) (3 : Int)).bind fun v45 => bif v45 then ((zaP o (v22.2.2.2.2.2.2.2.2.2.2.2.2.2.1.length : Int) (1 : Int) (64 : Int)).bind fun v46 => bif v46 then (let v47 : Bool := decide ((v22.2.2.2.2.2.2.2.2.2.2.2.2.2.2.length : Int) ≤ 256)
 some v47) else (some false)) else (some false)) else (some false)) else (some false)) else (some false)) else (some false)) else (some false)) else ((zdB o v22.2.2.2.2.2.1).bind fun v48 => bif v48 then (bif decide ((v22.2.2.2.2.2.2.1.length : Int) ≤ 16) then ((zaP o v22.2.2.2.2.2.2.2.1 (0 : Int) (1099511627776 : Int)).bind fun v49 => bif v49 then ((zaP o v22.2.2.2.2.2.2.2.2.1 (0 : Int) (1099511627776 : Int)).bind fun v50 => bif v50 then (let v51 : Bool := decide ((v22.2.2.2.2.2.2.2.2.2.2.2.1.length : Int) ≤ 4)
 bif v51 then ((zaM o v22.2.2.2.2.2.2.2.2.2.2.2.1).bind fun v52 => bif (!v52) then ((zaP o v22.2.2.2.2.2.2.2.2.2.2.2.2.1 (0 : Int) (3 : Int)).bind fun v53 => bif v53 then ((zaP o (v22.2.2.2.2.2.2.2.2.2.2.2.2.2.1.length : Int) (1 : Int) (64 : Int)).bind fun v54 => bif v54 then (let v55 : Bool := decide ((v22.2.2.2.2.2.2.2.2.2.2.2.2.2.2.length : Int) ≤ 256)
 some v55) else (some false)) else (some false)) else (some false)) else (some false)) else (some false)) else (some false)) else (some false)) else (some false))) else (some false))) else (some false)) else (some false)) else (some false))
def znV (o : Ops) : PC := ⟨[(.h zqQ)], [.b], fun x => ziA o x, false⟩
theorem zrX : PCok Tryz.prog tabs 53 (znV o) := zgI (o := o) (η := [(200002, .loop [] ⟨[(1, (.ptr 0 0)), (9, hI)], [ypW]⟩ [7, 8] [(some 1000000, ⟨[(2, hB)], []⟩), (some 0, ⟨[(1, (.ptr 0 0))], [ypW]⟩)])]) (Γ := ⟨[(107, (zpG o)), (34, (zoX o)), (109, (zhQ o)), (111, (zqV o)), (110, (zmP o))], [(112, (zjM o))], false⟩) (ctok ⟨zvA, ⟨zsW, ⟨zlU, ⟨zwX, ⟨zqX, trivial⟩⟩⟩⟩⟩ ⟨zoS, trivial⟩) Tryz.func53
def ygK : SC := ⟨⟨[(0, (.h (.sl .s)))], []⟩, 1, [(none, ⟨[(0, (.own 0))], [.osl .s 9]⟩)], fun xs => app [] xs⟩
theorem ypU : SCok Tryz.prog tabs 98 ygK := wit (G := tabs) <| yoJ zxZ τ_okWkF Tryz.func98 (isFn Tryz.func98) rfl (by kernel_rfl) (by kernel_rfl) (by kernel_rfl) (fun _ => by kernel_rfl)
def ydV : PC := ⟨[.h (.sl .s)], [(.sl .s)], fun xs => some xs, true⟩
theorem yjL : PCok Tryz.prog tabs 81 ydV := wit (G := tabs) <| ydZ zxZ τ_okWkF Tryz.func81 (isFn Tryz.func81) rfl (by kernel_rfl) (fun _ => by kernel_rfl)
def zhB (o : Ops) (v0 : zgL) : Option zgL :=
 (app ([] : List Bs) v0.2.2.2.2.2.2.1).bind fun v1 => (app ([] : List Bs) v0.2.2.2.2.2.2.2.2.2.2.2.1).bind fun v2 => some (v0.1, v0.2.1, v0.2.2.1, v0.2.2.2.1, v0.2.2.2.2.1, v0.2.2.2.2.2.1, v1, v0.2.2.2.2.2.2.2.1, v0.2.2.2.2.2.2.2.2.1, v0.2.2.2.2.2.2.2.2.2.1, v0.2.2.2.2.2.2.2.2.2.2.1, v2, v0.2.2.2.2.2.2.2.2.2.2.2.2)
def ziL (o : Ops) : PC := ⟨[(.h zqQ)], [zqQ], fun x => zhB o x, false⟩
theorem zlG : PCok Tryz.prog tabs 44 (ziL o) := zgI (o := o) (η := [(4000001, .sch [(.pu, 0, []), (.pu, 1, []), (.pu, 4, [3]), (.pu, 5, [3]), (.mn, 2, []), (.mn, 3, [3]), (.pu, 8, [5]), (.mn, 6, []), (.mn, 7, [5]), (.mn, 9, [0]), (.pu, 10, []), (.mn, 11, [0])])]) (Γ := ⟨[(81, ydV)], [(98, ygK)], false⟩) (ctok ⟨yjL, trivial⟩ ⟨ypU, trivial⟩) Tryz.func44
noncomputable def zoZ (o : Ops) (v0 : Bs) (v3 : Int) (v4 : List zaO) (v5 : Int) (v6 : Int) (v7 : Int) (v8 : Bs) (v9 : Bs) (v10 : Bs) (v11 : Int) (v12 : Int) (v13 : Bool) (v14 : Bool) (v15 : Int) (v16 : Bs) (v17 : Bs) (v18 : List Int) : List (Option ((Int × (List zaO) × Int × Int × Int × Bs × Bs × Bs × Int × Int × Bool × Bool × Int × Bs × Bs × List Int) ⊕ ((Int × (List zaO) × Int × Int × Int × Bs × Bs × Bs × Int × Int × Bool × Bool × Int × Bs × Bs) ⊕ (Bool × Int × (List zaO) × zgL)))) :=
 rngL (rngC keqI v4 v18) (some (.inr (.inl (v3, v4, v5, v6, v7, v8, v9, v10, v11, v12, v13, v14, v15, v16, v17)))) fun v19 => (mget keqI v4 v19.1).bind fun v20 => bif (v20.2.2.2.2.2.2.2.2.2.2.2.2.2.1 == v0) then ((zhB o v20).bind fun v21 => some (.inr (.inr (true, v3, v4, v21)))) else some (.inl (v3, v4, v5, v6, v7, v8, v9, v10, v11, v12, v13, v14, v15, v16, v17, rngD keqI v18 v19.1))
noncomputable def zcZ (o : Ops) (v0 : Bs) (v1 : Int) (v2 : List zaO) : Option ((zgL × Bool × Int × List zaO)) :=
 (rngA (fun x => zoZ o v0 x.1 x.2.1 x.2.2.1 x.2.2.2.1 x.2.2.2.2.1 x.2.2.2.2.2.1 x.2.2.2.2.2.2.1 x.2.2.2.2.2.2.2.1 x.2.2.2.2.2.2.2.2.1 x.2.2.2.2.2.2.2.2.2.1 x.2.2.2.2.2.2.2.2.2.2.1 x.2.2.2.2.2.2.2.2.2.2.2.1 x.2.2.2.2.2.2.2.2.2.2.2.2.1 x.2.2.2.2.2.2.2.2.2.2.2.2.2.1 x.2.2.2.2.2.2.2.2.2.2.2.2.2.2.1 x.2.2.2.2.2.2.2.2.2.2.2.2.2.2.2) (v1, v2, (0 : Int), (0 : Int), (0 : Int), ([] : Bs), ([] : Bs), ([] : Bs), (0 : Int), (0 : Int), false, false, (0 : Int), ([] : Bs), ([] : Bs), List.map Prod.fst v2)).bind fun v22 => match v22 with
 | .inl v23 => some (((0 : Int), (0 : Int), (0 : Int), ([] : Bs), ([] : Bs), ([] : Bs), ([] : List Bs), (0 : Int), (0 : Int), false, false, ([] : List Bs), (0 : Int), ([] : Bs), ([] : Bs)), false, v23.1, v23.2.1)
 | .inr v24 => some (v24.2.2.2, v24.1, v24.2.1, v24.2.2.1)
noncomputable def zgM (o : Ops) : SC := ⟨⟨[(0, (.ptr 0 0)), (1, hS)], [zdZ, zbO]⟩, 2, [(none, ⟨[(0, (.h zqQ)), (1, hB)], [zdZ, zbO]⟩)], fun x => zcZ o x.1 x.2.1 x.2.2⟩
theorem zkJ : SCok Tryz.prog tabs 36 (zgM o) := zdX (o := o) (η := [(200002, .rng [] ⟨[(4, (.ptr 2 0)), (12, (.ptr 3 0))], [zdZ, zbO, yhA, .it 1 true (.i .i64)]⟩ [1] [(some 0, ⟨[(4, (.ptr 2 0))], [zdZ, zbO, yhA]⟩), (some 1000000, ⟨[(4, (.ptr 2 0)), (5, hB)], [zdZ, zbO, ypW]⟩)])]) (Γ := ⟨[(44, (ziL o))], [], false⟩) (ctok ⟨zlG, trivial⟩ trivial) Tryz.func36
def ygH : PC := ⟨[.h (.sl (.i .i64))], [(.sl (.i .i64))], fun xs => some xs, true⟩
theorem yqM : PCok Tryz.prog tabs 71 ygH := wit (G := tabs) <| ydZ zxZ τ_okWkF Tryz.func71 (isFn Tryz.func71) rfl (by kernel_rfl) (fun _ => by kernel_rfl)
def zhC (o : Ops) (v4 : Bool) (v5 : Int) (v6 : List zaO) (v7 : List Int) (v8 : Int) (v9 : Int) (v10 : Int) (v11 : Bs) (v12 : Bs) (v13 : Bs) (v14 : List Bs) (v15 : Int) (v16 : Int) (v17 : Bool) (v18 : Bool) (v19 : List Bs) (v20 : Int) (v21 : Bs) (v22 : Bs) : Option ((Bool × Int × (List zaO) × (List Int) × zgL) ⊕ ((Int × (List zaO) × List Int))) :=
 bif v4 then ((app v7 ([v8] : List Int)).bind fun v23 => let v24 : zgL := zlQ keqI v6 v10 ((0 : Int), (0 : Int), (0 : Int), ([] : Bs), ([] : Bs), ([] : Bs), ([] : List Bs), (0 : Int), (0 : Int), false, false, ([] : List Bs), (0 : Int), ([] : Bs), ([] : Bs))
 some (.inl (mhas keqI v6 v10, v5, v6, v23, v24))) else some (.inr (v5, v6, v7))
def zcB (o : Ops) (v0 : Int) (v1 : Int) (v2 : List zaO) : Option (((List Int) × Int × List zaO)) :=
 let v3 : zgL := zlQ keqI v2 v0 ((0 : Int), (0 : Int), (0 : Int), ([] : Bs), ([] : Bs), ([] : Bs), ([] : List Bs), (0 : Int), (0 : Int), false, false, ([] : List Bs), (0 : Int), ([] : Bs), ([] : Bs))
 (iter (fun x => zhC o x.1 x.2.1 x.2.2.1 x.2.2.2.1 x.2.2.2.2.1 x.2.2.2.2.2.1 x.2.2.2.2.2.2.1 x.2.2.2.2.2.2.2.1 x.2.2.2.2.2.2.2.2.1 x.2.2.2.2.2.2.2.2.2.1 x.2.2.2.2.2.2.2.2.2.2.1 x.2.2.2.2.2.2.2.2.2.2.2.1 x.2.2.2.2.2.2.2.2.2.2.2.2.1 x.2.2.2.2.2.2.2.2.2.2.2.2.2.1 x.2.2.2.2.2.2.2.2.2.2.2.2.2.2.1 x.2.2.2.2.2.2.2.2.2.2.2.2.2.2.2.1 x.2.2.2.2.2.2.2.2.2.2.2.2.2.2.2.2.1 x.2.2.2.2.2.2.2.2.2.2.2.2.2.2.2.2.2.1 x.2.2.2.2.2.2.2.2.2.2.2.2.2.2.2.2.2.2) (mhas keqI v2 v0, v1, v2, ([] : List Int), v3)).bind fun v25 => some (v25.2.2, v25.1, v25.2.1)
def zeF (o : Ops) : SC := ⟨⟨[(0, (.ptr 0 0)), (1, hI)], [zdZ, zbO]⟩, 1, [(none, ⟨[(0, (.hc (.i .i64)))], [zdZ, zbO]⟩)], fun x => zcB o x.1 x.2.1 x.2.2⟩
theorem zgO : SCok Tryz.prog tabs 25 (zeF o) := zdX (o := o) (η := [(200003, .loop [.sl 5 (.i .i64) 3] ⟨[(0, (.ptr 0 0)), (5, (.own 2)), (6, (.ptr 3 0)), (7, hB)], [zdZ, zbO, .osl (.i .i64) 3, ypY]⟩ [4] [(some 0, ⟨[(5, (.own 2))], [zdZ, zbO, .osl (.i .i64) 3]⟩)]),
 (4000004, .sch [(.pu, 0, []), (.pu, 1, []), (.pu, 2, []), (.pu, 3, []), (.pu, 4, []), (.pu, 5, []), (.pu, 6, []), (.pu, 7, []), (.pu, 8, []), (.pu, 9, []), (.pu, 10, [5]), (.mn, 11, [5]), (.pu, 12, [])])]) (Γ := ⟨[(71, ygH)], [], false⟩) (ctok ⟨yqM, trivial⟩ trivial) Tryz.func25
def zgC (o : Ops) (v0 : Int) (v1 : Int) (v2 : List zaO) : Option ((Bool × Int × List zaO)) :=
 let v3 : zgL := zlQ keqI v2 v0 ((0 : Int), (0 : Int), (0 : Int), ([] : Bs), ([] : Bs), ([] : Bs), ([] : List Bs), (0 : Int), (0 : Int), false, false, ([] : List Bs), (0 : Int), ([] : Bs), ([] : Bs))
 some (v3.2.2.2.2.2.2.2.2.2.1, v1, v2)
def ziH (o : Ops) : SC := ⟨⟨[(0, hI), (1, (.ptr 0 0))], [zzE, zxA, zbO]⟩, 1, [(none, ⟨[(0, hB)], [zzE, zxA, zbO]⟩)], fun x => zgC o x.1 x.2.1 x.2.2⟩
theorem znS : SCok Tryz.prog tabs 114 (ziH o) := zdX (o := o) (η := []) (Γ := ⟨[], [], false⟩) (ctok trivial trivial) Tryz.func114
def zhI (o : Ops) (v0 : List Int) (v3 : Int) (v4 : Int) (v5 : List zaO) : Option ((Int × Int × List zaO) ⊕ ((Int × Int × List zaO) ⊕ (Int × List zaO))) :=
 bif decide (v3 < (v0.length : Int)) then ((idx v0 v3).bind fun v6 => (zgC o v6 v4 v5).bind fun v7 => bif v7.1 then some (.inr (.inl (v3, v7.2))) else some (.inl (w64 (v3 + 1), v7.2))) else some (.inr (.inr (v4, v5)))
def zhR (o : Ops) (v0 : List Int) (v1 : Int) (v2 : List zaO) : Option ((Int × Int × List zaO)) :=
 (iter (fun x => zhI o v0 x.1 x.2.1 x.2.2) ((0 : Int), v1, v2)).bind fun v8 => match v8 with
 | .inl v9 => some v9
 | .inr v10 => some ((-1 : Int), v10)
def zkY (o : Ops) : SC := ⟨⟨[(0, (.h (.sl (.i .i64)))), (1, (.fn 114 [] [(.ptr 0 0)]))], [zzE, zxA, zbO]⟩, 1, [(none, ⟨[(0, hI)], [zzE, zxA, zbO]⟩)], fun x => zhR o x.1 x.2.1 x.2.2⟩
theorem zqE : SCok Tryz.prog tabs 156 (zkY o) := zdX (o := o) (η := [(200002, .loop [] ⟨[(1, (.fn 114 [] [(.ptr 0 0)])), (8, hI)], [zzE, zxA, zbO]⟩ [0, 7] [(some 1000000, ⟨[(4, hI)], [zzE, zxA, zbO]⟩), (some 0, ⟨[], [zzE, zxA, zbO]⟩)])]) (Γ := ⟨[], [(114, (ziH o))], false⟩) (ctok trivial ⟨znS, trivial⟩) Tryz.func156
def zdR (o : Ops) (v0 : List Int) (v1 : Int) (v2 : List zaO) : Option ((Bool × Int × List zaO)) :=
 (zhR o v0 v1 v2).bind fun v3 => some (decide (v3.1 ≥ 0), v3.2)
def zjB (o : Ops) : SC := ⟨⟨[(0, (.h (.sl (.i .i64)))), (1, (.fn 114 [] [(.ptr 0 0)]))], [zzE, zxA, zbO]⟩, 1, [(none, ⟨[(0, hB)], [zzE, zxA, zbO]⟩)], fun x => zdR o x.1 x.2.1 x.2.2⟩
theorem zoD : SCok Tryz.prog tabs 113 (zjB o) := zdX (o := o) (η := []) (Γ := ⟨[], [(156, (zkY o))], false⟩) (ctok trivial ⟨zqE, trivial⟩) Tryz.func113
def zcY (o : Ops) (v0 : Int) (v1 : Int) (v2 : List zaO) : Option ((Bool × Int × List zaO)) :=
 (zcB o v0 v1 v2).bind fun v3 => (zdR o v3.1 v3.2.1 v3.2.2).bind fun v4 => some v4
def zgP (o : Ops) : SC := ⟨⟨[(0, (.ptr 0 0)), (1, hI)], [zdZ, zbO]⟩, 1, [(none, ⟨[(0, hB)], [zdZ, zbO]⟩)], fun x => zcY o x.1 x.2.1 x.2.2⟩
theorem zkH : SCok Tryz.prog tabs 54 (zgP o) := zdX (o := o) (η := []) (Γ := ⟨[], [(25, (zeF o)), (113, (zjB o))], false⟩) (ctok trivial ⟨zgO, ⟨zoD, trivial⟩⟩) Tryz.func54
def zlK (o : Ops) (v0 : zgL) (v1 : Int) : Option (Bool) :=
 some (!v0.2.2.2.2.2.2.2.2.2.1)
def zlB (o : Ops) : PC := ⟨[(.h zqQ), hI], [.b], fun x => zlK o x.1 x.2, false⟩
theorem zqG : PCok Tryz.prog tabs 123 (zlB o) := zgI (o := o) (η := []) (Γ := ⟨[], [], false⟩) (ctok trivial trivial) Tryz.func123
def zkL (o : Ops) (v0 : zgL) (v1 : Int) : Option (Bool) :=
 some (!v0.2.2.2.2.2.2.2.2.2.2.1)
def zjI (o : Ops) : PC := ⟨[(.h zqQ), hI], [.b], fun x => zkL o x.1 x.2, false⟩
theorem zoR : PCok Tryz.prog tabs 124 (zjI o) := zgI (o := o) (η := []) (Γ := ⟨[], [], false⟩) (ctok trivial trivial) Tryz.func124
def zfD (o : Ops) (v0 : zgL) (v1 : Int) : Option (Bool) :=
 some (decide (v0.2.2.2.2.2.2.2.2.1 > v1))
def zkV (o : Ops) : PC := ⟨[(.h zqQ), hI], [.b], fun x => zfD o x.1 x.2, false⟩
theorem zqC : PCok Tryz.prog tabs 125 (zkV o) := zgI (o := o) (η := []) (Γ := ⟨[], [], false⟩) (ctok trivial trivial) Tryz.func125
def ziN (o : Ops) (v1 : Int) (v2 : Int) (v3 : Int) (v4 : Int) (v5 : Int) (v6 : Bs) (v7 : Bs) (v8 : Bs) (v9 : List Bs) (v10 : Int) (v11 : Int) (v12 : Bool) (v13 : Bool) (v14 : List Bs) (v15 : Int) (v16 : Bs) (v17 : Bs) : Option (zaO ⊕ (Bool ⊕ Unit)) :=
 bif decide (v2 < 3) then (bif decide (v2 = (0 : Int)) then ((zlK o (v3, v4, v5, v6, v7, v8, v9, v10, v11, v12, v13, v14, v15, v16, v17) v1).bind fun v18 => bif (!v18) then some (.inr (.inl false)) else some (.inl (w64 (v2 + 1), v3, v4, v5, v6, v7, v8, v9, v10, v11, v12, v13, v14, v15, v16, v17))) else (bif decide (v2 = (1 : Int)) then ((zkL o (v3, v4, v5, v6, v7, v8, v9, v10, v11, v12, v13, v14, v15, v16, v17) v1).bind fun v19 => bif (!v19) then some (.inr (.inl false)) else some (.inl (w64 (v2 + 1), v3, v4, v5, v6, v7, v8, v9, v10, v11, v12, v13, v14, v15, v16, v17))) else (bif decide (v2 = (2 : Int)) then ((zfD o (v3, v4, v5, v6, v7, v8, v9, v10, v11, v12, v13, v14, v15, v16, v17) v1).bind fun v20 => bif (!v20) then some (.inr (.inl false)) else some (.inl (w64 (v2 + 1), v3, v4, v5, v6, v7, v8, v9, v10, v11, v12, v13, v14, v15, v16, v17))) else none))) else some (.inr (.inr ()))
def zmH (o : Ops) (v0 : zgL) (v1 : Int) : Option (Bool) :=
 (iter (fun x => ziN o v1 x.1 x.2.1 x.2.2.1 x.2.2.2.1 x.2.2.2.2.1 x.2.2.2.2.2.1 x.2.2.2.2.2.2.1 x.2.2.2.2.2.2.2.1 x.2.2.2.2.2.2.2.2.1 x.2.2.2.2.2.2.2.2.2.1 x.2.2.2.2.2.2.2.2.2.2.1 x.2.2.2.2.2.2.2.2.2.2.2.1 x.2.2.2.2.2.2.2.2.2.2.2.2.1 x.2.2.2.2.2.2.2.2.2.2.2.2.2.1 x.2.2.2.2.2.2.2.2.2.2.2.2.2.2.1 x.2.2.2.2.2.2.2.2.2.2.2.2.2.2.2) ((0 : Int), v0)).bind fun v21 => match v21 with
 | .inl v22 => (some v22)
 | .inr v23 => (some true)
def zrG (o : Ops) : PC := ⟨[(.h zqQ), hI], [.b], fun x => zmH o x.1 x.2, false⟩
theorem zzS : PCok Tryz.prog tabs 69 (zrG o) := zgI (o := o) (η := [(200002, .loop [] ⟨[(2, (.ptr 0 0)), (7, (.ag [(.fn 123 [] []), (.fn 124 [] []), (.fn 125 [] [])])), (8, hI)], [ypY]⟩ [1] [(some 1000000, ⟨[(4, hB)], []⟩), (some 0, ⟨[], []⟩)])]) (Γ := ⟨[(123, (zlB o)), (124, (zjI o)), (125, (zkV o))], [], false⟩) (ctok ⟨zqG, ⟨zoR, ⟨zqC, trivial⟩⟩⟩ trivial) Tryz.func69
def zbI (o : Ops) (v0 : Int) (v1 : Int) (v2 : Int) (v3 : List zaO) : Option ((Bool × Int × List zaO)) :=
 let v4 : zgL := zlQ keqI v3 v0 ((0 : Int), (0 : Int), (0 : Int), ([] : Bs), ([] : Bs), ([] : Bs), ([] : List Bs), (0 : Int), (0 : Int), false, false, ([] : List Bs), (0 : Int), ([] : Bs), ([] : Bs))
 bif mhas keqI v3 v0 then ((zmH o v4 v1).bind fun v5 => bif v5 then ((zcY o v0 v2 v3).bind fun v6 => some ((!v6.1), v6.2)) else some (false, v2, v3)) else some (false, v2, v3)
def zgR (o : Ops) : SC := ⟨⟨[(0, (.ptr 0 0)), (1, hI), (2, hI)], [zdZ, zbO]⟩, 1, [(none, ⟨[(0, hB)], [zdZ, zbO]⟩)], fun x => zbI o x.1 x.2.1 x.2.2.1 x.2.2.2⟩
theorem zkM : SCok Tryz.prog tabs 22 (zgR o) := zdX (o := o) (η := []) (Γ := ⟨[(69, (zrG o))], [(54, (zgP o))], false⟩) (ctok ⟨zzS, trivial⟩ ⟨zkH, trivial⟩) Tryz.func22
def zfG (o : Ops) (v0 : Int) (v1 : zgL) (v2 : List (Int × Unit)) : Option ((Bool × List (Int × Unit))) :=
 let v3 : Unit := zlQ keqI v2 v0 ()
 some ((!(mhas keqI v2 v0)), v2)
def zhX (o : Ops) : SC := ⟨⟨[(0, hI), (1, (.h zqQ)), (2, (.ptr 0 0))], [.blk 111 [(.mpr 1)], zwR]⟩, 1, [(none, ⟨[(0, hB)], [.blk 111 [(.mpr 1)], zwR]⟩)], fun x => zfG o x.1 x.2.1 x.2.2⟩
theorem zmT : SCok Tryz.prog tabs 78 (zhX o) := zdX (o := o) (η := []) (Γ := ⟨[], [], false⟩) (ctok trivial trivial) Tryz.func78
noncomputable def zmE (o : Ops) (v2 : List zaO) (v3 : List (Int × Unit)) (v4 : List Int) : List (Option (((List zaO) × (List (Int × Unit)) × List Int) ⊕ (((List zaO) × List (Int × Unit))))) :=
 rngL (rngC keqI v2 v4) (some (.inr (v2, v3))) fun v5 => (mget keqI v2 v5.1).bind fun v6 => (zfG o v5.1 v6 v3).bind fun v7 => bif v7.1 then some (.inl (mdel keqI v2 v5.1, v7.2, rngD keqI v4 v5.1)) else some (.inl (v2, v7.2, rngD keqI v4 v5.1))
noncomputable def zhE (o : Ops) (v0 : List zaO) (v1 : List (Int × Unit)) : Option (((List zaO) × List (Int × Unit))) :=
 (rngA (fun x => zmE o x.1 x.2.1 x.2.2) (v0, v1, List.map Prod.fst v0)).bind fun v8 => some v8
noncomputable def zmD (o : Ops) : SC := ⟨⟨[(0, (.mpr 0)), (1, (.fn 78 [] [(.ptr 1 0)]))], [zbO, ypS, zwR]⟩, 0, [(none, ⟨[], [zbO, ypS, zwR]⟩)], fun x => zhE o x.1 x.2⟩
theorem zrJ : SCok Tryz.prog tabs 77 (zmD o) := zdX (o := o) (η := [(200001, .rng [] ⟨[(0, (.mpr 0)), (1, (.fn 78 [] [(.ptr 1 0)])), (7, (.ptr 3 0))], [zbO, ypS, zwR, .it 0 true (.i .i64)]⟩ [] [(some 0, ⟨[], [zbO, ypS, zwR]⟩)])]) (Γ := ⟨[], [(78, (zhX o))], false⟩) (ctok trivial ⟨zmT, trivial⟩) Tryz.func77
noncomputable def zdP (o : Ops) (v10 : ((List Int) × Int × List zaO)) (v11 : Int) (v12 : Int) (v13 : List zaO) (v14 : List Int) (v15 : List (Int × Unit)) : Option ((Int × Int × (List zaO) × (List Int) × List (Int × Unit)) ⊕ ((Int × (List zaO) × (List Int) × List (Int × Unit)))) :=
 bif decide (v11 < (v10.1.length : Int)) then ((idx v10.1 v11).bind fun v16 => let v17 : List (Int × Unit) := mset keqI kltI v15 v16 ()
 some (.inl (w64 (v11 + 1), v12, v13, v14, v17))) else some (.inr (v12, v13, v14, v15))
noncomputable def zjK (o : Ops) (v0 : Int) (v3 : Int) (v4 : List zaO) (v5 : List Int) (v6 : List (Int × Unit)) : List (Option ((Int × (List zaO) × (List Int) × List (Int × Unit)) ⊕ ((Int × (List zaO) × List (Int × Unit))))) :=
 rngL (rngC keqI v4 v5) (some (.inr (v3, v4, v6))) fun v7 => (mget keqI v4 v7.1).bind fun v8 => (zbI o v7.1 v0 v3 v4).bind fun v9 => bif (!v9.1) then some (.inl (v9.2.1, v9.2.2, rngD keqI v5 v7.1, v6)) else ((zcB o v7.1 v9.2.1 v9.2.2).bind fun v10 => (iter (fun x => zdP o v10 x.1 x.2.1 x.2.2.1 x.2.2.2.1 x.2.2.2.2) ((0 : Int), v10.2.1, v10.2.2, rngD keqI v5 v7.1, v6)).bind fun v18 => some (.inl v18))
noncomputable def zcM (o : Ops) (v0 : Int) (v1 : Int) (v2 : List zaO) : Option ((Int × Int × List zaO)) :=
 (rngA (fun x => zjK o v0 x.1 x.2.1 x.2.2.1 x.2.2.2) (v1, v2, List.map Prod.fst v2, ([] : List (Int × Unit)))).bind fun v19 => (zhE o v19.2.1 v19.2.2).bind fun v20 => some (w64 ((v19.2.1.length : Int) - (v20.1.length : Int)), v19.1, v20.1)
noncomputable def zgG (o : Ops) : SC := ⟨⟨[(0, (.ptr 0 0)), (1, hI)], [zdZ, zbO]⟩, 1, [(none, ⟨[(0, hI)], [zdZ, zbO]⟩)], fun x => zcM o x.1 x.2.1 x.2.2⟩
theorem zjJ : SCok Tryz.prog tabs 31 (zgG o) := zdX (o := o) (η := [(200007, .loop [] ⟨[(0, (.ptr 0 0)), (5, (.ptr 2 0)), (15, (.ptr 3 0)), (29, hI)], [zdZ, zbO, yiH, .it 1 true (.i .i64), zwR]⟩ [1, 4, 27, 28] [(some 2, ⟨[(0, (.ptr 0 0)), (5, (.ptr 2 0)), (15, (.ptr 3 0))], [zdZ, zbO, yiH, .it 1 true (.i .i64), zwR]⟩)]),
 (200003, .rng [] ⟨[(0, (.ptr 0 0)), (5, (.ptr 2 0)), (15, (.ptr 3 0))], [zdZ, zbO, yiH, .it 1 true (.i .i64), zwR]⟩ [1, 4] [(some 0, ⟨[(0, (.ptr 0 0)), (5, (.ptr 2 0))], [zdZ, zbO, .blk 111 [(.mpr 3)], zwR]⟩)])]) (Γ := ⟨[], [(22, (zgR o)), (25, (zeF o)), (77, (zmD o))], false⟩) (ctok trivial ⟨zkM, ⟨zgO, ⟨zrJ, trivial⟩⟩⟩) Tryz.func31
noncomputable def zfT (o : Ops) (v0 : Int) (v1 : Int) (v2 : Int) (v3 : Bs) (v4 : Bs) (v5 : Bs) (v6 : Int) (v7 : Int) (v8 : Bool) (v9 : Bool) (v10 : Int) (v11 : Bs) (v12 : Bs) (v17 : (zgL × Bool × Int × List zaO)) : Option ((Int × Int × Int × List zaO) ⊕ (Int × (List zaO) × Int × Int × Int × Bs × Bs × Bs × Int × Int × Bool × Bool × Int × Bs × Bs)) :=
 let v18 : zgL := zlQ keqI v17.2.2.2 v2 ((0 : Int), (0 : Int), (0 : Int), ([] : Bs), ([] : Bs), ([] : Bs), ([] : List Bs), (0 : Int), (0 : Int), false, false, ([] : List Bs), (0 : Int), ([] : Bs), ([] : Bs))
 bif decide (v2 > 0) then (bif (!(mhas keqI v17.2.2.2 v2)) then some (.inl ((0 : Int), (133 : Int), v17.2.2)) else ((zcY o v2 v17.2.2.1 v17.2.2.2).bind fun v19 => bif v19.1 then some (.inl ((0 : Int), (133 : Int), v19.2)) else some (.inr (v19.2.1, v19.2.2, v0, v1, v2, v3, v4, v5, v6, v7, v8, v9, v10, v11, v12)))) else some (.inr (v17.2.2.1, v17.2.2.2, v0, v1, v2, v3, v4, v5, v6, v7, v8, v9, v10, v11, v12))
noncomputable def zjQ (o : Ops) (v22 : Int × (List zaO) × Int × Int × Int × Bs × Bs × Bs × Int × Int × Bool × Bool × Int × Bs × Bs) (v23 : (Int × Int × List zaO)) : Option ((Int × Int × Int × List zaO) ⊕ (Int × (List zaO) × Int × Int × Int × Bs × Bs × Bs × Int × Int × Bool × Bool × Int × Bs × Bs)) :=
 bif decide ((v23.2.2.length : Int) ≥ 256) then some (.inl ((0 : Int), (130 : Int), v23.2)) else (bif decide (v23.2.1 ≥ 99999999) then some (.inl ((0 : Int), (130 : Int), v23.2)) else some (.inr (v23.2.1, v23.2.2, v22.2.2)))
noncomputable def zbN (o : Ops) (v0 : Int) (v1 : Int) (v2 : Int) (v3 : Bs) (v4 : Bs) (v5 : Bs) (v6 : Int) (v7 : Int) (v8 : Bool) (v9 : Bool) (v10 : Int) (v11 : Bs) (v12 : Bs) (v13 : Int) (v14 : Int) (v15 : List zaO) : Option ((Int × Int × Int × List zaO)) :=
 (ziA o (v0, v1, v2, v3, v4, v5, ([] : List Bs), v6, v7, v8, v9, ([] : List Bs), v10, v11, v12)).bind fun v16 => bif (!v16) then some ((0 : Int), (131 : Int), v14, v15) else ((zcZ o v11 v14 v15).bind fun v17 => bif v17.2.1 then some ((0 : Int), (132 : Int), v17.2.2) else ((zfT o v0 v1 v2 v3 v4 v5 v6 v7 v8 v9 v10 v11 v12 v17).bind fun v20 => match v20 with
 | .inl v21 => some v21
 | .inr v22 => ((zcM o v13 v22.1 v22.2.1).bind fun v23 => (zjQ o v22 v23).bind fun v24 => match v24 with
 | .inl v25 => some v25
 | .inr v26 => ((zhB o (v26.2.2.1, v26.2.2.2.1, v26.2.2.2.2.1, v26.2.2.2.2.2.1, v26.2.2.2.2.2.2.1, v26.2.2.2.2.2.2.2.1, ([] : List Bs), v26.2.2.2.2.2.2.2.2.1, v26.2.2.2.2.2.2.2.2.2.1, v26.2.2.2.2.2.2.2.2.2.2.1, v26.2.2.2.2.2.2.2.2.2.2.2.1, ([] : List Bs), v26.2.2.2.2.2.2.2.2.2.2.2.2)).bind fun v27 => let v28 : List zaO := mset keqI kltI v26.2.1 v26.1 (v26.1, v27.2.1, v27.2.2.1, v27.2.2.2.1, v27.2.2.2.2.1, v27.2.2.2.2.2.1, v27.2.2.2.2.2.2.1, v27.2.2.2.2.2.2.2.1, v27.2.2.2.2.2.2.2.2.1, false, false, v27.2.2.2.2.2.2.2.2.2.2.2)
 some (v26.1, (0 : Int), w64 (v26.1 + 1), v28)))))
noncomputable def zjP (o : Ops) : SC := ⟨⟨[(0, (.ptr 0 0)), (1, (.ag [hI, hI, hI, hS, hS, hS, .nils, hI, hI, hB, hB, .nils, hI, hS, hS])), (2, hI)], [zdZ, zbO]⟩, 2, [(none, ⟨[(0, hI), (1, hI)], [zdZ, .mp false (.i .i64) zqQ]⟩)], fun x => zbN o x.1 x.2.1 x.2.2.1 x.2.2.2.1 x.2.2.2.2.1 x.2.2.2.2.2.1 x.2.2.2.2.2.2.1 x.2.2.2.2.2.2.2.1 x.2.2.2.2.2.2.2.2.1 x.2.2.2.2.2.2.2.2.2.1 x.2.2.2.2.2.2.2.2.2.2.1 x.2.2.2.2.2.2.2.2.2.2.2.1 x.2.2.2.2.2.2.2.2.2.2.2.2.1 x.2.2.2.2.2.2.2.2.2.2.2.2.2.1 x.2.2.2.2.2.2.2.2.2.2.2.2.2.2.1 x.2.2.2.2.2.2.2.2.2.2.2.2.2.2.2⟩
theorem zoT : SCok Tryz.prog tabs 20 (zjP o) := zdX (o := o) (η := [(2000009, .join [] [2] [(some 1000000, ⟨[(6, hI), (7, hI)], [zdZ, zbO]⟩), (none, ⟨[(0, (.ptr 0 0)), (4, (.ptr 2 0))], [zdZ, zbO, yhA]⟩)]),
 (2000012, .join [] [] [(some 1000000, ⟨[(6, hI), (7, hI)], [zdZ, zbO]⟩), (none, ⟨[(0, (.ptr 0 0)), (4, (.ptr 2 0))], [zdZ, zbO, yhA]⟩)]),
 (4000006, .sch [(.pu, 0, []), (.pu, 1, []), (.pu, 2, []), (.pu, 3, []), (.pu, 4, []), (.pu, 5, []), (.pu, 6, []), (.pu, 7, []), (.pu, 8, []), (.pu, 9, [5]), (.mn, 10, []), (.mn, 11, [5]), (.pu, 12, [])]),
 (4000014, .sch [(.pu, 0, []), (.pu, 1, []), (.pu, 2, []), (.pu, 3, []), (.pu, 4, []), (.pu, 5, []), (.pu, 6, []), (.pu, 7, []), (.mn, 8, [0, 1, 2, 3])])]) (Γ := ⟨[(53, (znV o)), (44, (ziL o))], [(36, (zgM o)), (54, (zgP o)), (31, (zgG o))], false⟩) (ctok ⟨zrX, ⟨zlG, trivial⟩⟩ ⟨zkJ, ⟨zkH, ⟨zjJ, trivial⟩⟩⟩) Tryz.func20
def zjS (o : Ops) (v0 : Int) (v1 : Int) (v2 : Int) (v3 : Bs) (v4 : Bs) (v5 : Bs) (v6 : List Bs) (v7 : Int) (v8 : Int) (v9 : Bool) (v10 : Bool) (v11 : List Bs) (v12 : Int) (v13 : Bs) (v14 : Bs) : Option (zgL) :=
 some (v0, v1, v2, v3, v4, v5, v6, v7, v8, true, v10, v11, v12, v13, v14)
def ziJ (o : Ops) : SC := ⟨⟨[(0, (.ptr 0 0))], [ypY]⟩, 0, [(none, ⟨[], [ypY]⟩)], fun x => zjS o x.1 x.2.1 x.2.2.1 x.2.2.2.1 x.2.2.2.2.1 x.2.2.2.2.2.1 x.2.2.2.2.2.2.1 x.2.2.2.2.2.2.2.1 x.2.2.2.2.2.2.2.2.1 x.2.2.2.2.2.2.2.2.2.1 x.2.2.2.2.2.2.2.2.2.2.1 x.2.2.2.2.2.2.2.2.2.2.2.1 x.2.2.2.2.2.2.2.2.2.2.2.2.1 x.2.2.2.2.2.2.2.2.2.2.2.2.2.1 x.2.2.2.2.2.2.2.2.2.2.2.2.2.2⟩
theorem znY : SCok Tryz.prog tabs 126 (ziJ o) := zdX (o := o) (η := []) (Γ := ⟨[], [], false⟩) (ctok trivial trivial) Tryz.func126
def zlC (o : Ops) (v0 : Int) (v1 : Int) (v2 : List zaO) : Option ((Int × List zaO)) :=
 let v3 : zgL := zlQ keqI v2 v0 ((0 : Int), (0 : Int), (0 : Int), ([] : Bs), ([] : Bs), ([] : Bs), ([] : List Bs), (0 : Int), (0 : Int), false, false, ([] : List Bs), (0 : Int), ([] : Bs), ([] : Bs))
 (zjS o v3.1 v3.2.1 v3.2.2.1 v3.2.2.2.1 v3.2.2.2.2.1 v3.2.2.2.2.2.1 v3.2.2.2.2.2.2.1 v3.2.2.2.2.2.2.2.1 v3.2.2.2.2.2.2.2.2.1 v3.2.2.2.2.2.2.2.2.2.1 v3.2.2.2.2.2.2.2.2.2.2.1 v3.2.2.2.2.2.2.2.2.2.2.2.1 v3.2.2.2.2.2.2.2.2.2.2.2.2.1 v3.2.2.2.2.2.2.2.2.2.2.2.2.2.1 v3.2.2.2.2.2.2.2.2.2.2.2.2.2.2).bind fun v4 => (chk (mhas keqI v2 v0)).bind fun _ => let v5 : List zaO := mrep keqI v2 v0 v4
 some (v1, v5)
def zkB (o : Ops) : SC := ⟨⟨[(0, (.ptr 0 0)), (1, hI), (2, (.fn 126 [] []))], [zdZ, zbO]⟩, 0, [(none, ⟨[], [zdZ, zbO]⟩)], fun x => zlC o x.1 x.2.1 x.2.2⟩
theorem zpF : SCok Tryz.prog tabs 117 (zkB o) := zdX (o := o) (η := [(4000002, .sch [(.pu, 0, []), (.pu, 1, []), (.pu, 2, []), (.pu, 3, []), (.pu, 4, []), (.pu, 5, []), (.mn, 6, [0, 1, 2, 3])])]) (Γ := ⟨[], [(126, (ziJ o))], true⟩) (ctok trivial ⟨znY, trivial⟩) Tryz.func117
def zkX (o : Ops) (v0 : Int) (v1 : Int) (v2 : List zaO) : Option ((Int × List zaO)) :=
 (zlC o v0 v1 v2).bind fun v3 => some v3
def zjZ (o : Ops) : SC := ⟨⟨[(0, (.ptr 0 0)), (1, hI)], [zdZ, zbO]⟩, 0, [(none, ⟨[], [zdZ, zbO]⟩)], fun x => zkX o x.1 x.2.1 x.2.2⟩
theorem zoV : SCok Tryz.prog tabs 70 (zjZ o) := zdX (o := o) (η := []) (Γ := ⟨[], [(117, (zkB o))], false⟩) (ctok trivial ⟨zpF, trivial⟩) Tryz.func70
def zlA (o : Ops) (v0 : Int) (v1 : Int) (v2 : List zaO) : Option ((Int × Int × List zaO)) :=
 let v3 : zgL := zlQ keqI v2 v0 ((0 : Int), (0 : Int), (0 : Int), ([] : Bs), ([] : Bs), ([] : Bs), ([] : List Bs), (0 : Int), (0 : Int), false, false, ([] : List Bs), (0 : Int), ([] : Bs), ([] : Bs))
 bif (!(mhas keqI v2 v0)) then some ((131 : Int), v1, v2) else ((zkX o v0 v1 v2).bind fun v4 => some ((0 : Int), v4))
def zkI (o : Ops) : SC := ⟨⟨[(0, (.ptr 0 0)), (1, hI)], [zdZ, zbO]⟩, 1, [(none, ⟨[(0, hI)], [zdZ, zbO]⟩)], fun x => zlA o x.1 x.2.1 x.2.2⟩
theorem zpQ : SCok Tryz.prog tabs 24 (zkI o) := zdX (o := o) (η := []) (Γ := ⟨[], [(70, (zjZ o))], false⟩) (ctok trivial ⟨zoV, trivial⟩) Tryz.func24
def zrB (o : Ops) (v0 : List zaO) : Option ((List zaO)) :=
 some v0
def ztA (o : Ops) : SC := ⟨⟨[(0, (.mpr 0))], [zbO]⟩, 1, [(none, ⟨[(0, (.fn 97 [] [(.ptr 1 0)]))], [zbO, .blk 73 [(.mpr 0)]]⟩)], fun x => zrB o x⟩
theorem ybJ : SCok Tryz.prog tabs 43 (ztA o) := zdX (o := o) (η := []) (Γ := ⟨[], [], false⟩) (ctok trivial trivial) Tryz.func43
def yaQ : SC := ⟨⟨[(0, (.fn 97 [] [(.ptr 0 0)]))], [.blk 73 [(.mpr 1)], zbO]⟩, 1, [(none, ⟨[(0, (.h (.sl (.i .i64))))], [.blk 73 [(.mpr 1)], zbO]⟩)], fun es => zuD es⟩
theorem ynV : SCok Tryz.prog tabs 42 yaQ := wit (G := tabs) <| yhK (kT := 3) (isFn Tryz.func42) (by kernel_rfl) YtebbcofojchkpaaGreatDoor.sortedIK
def zfU (o : Ops) (v4 : ((List Int) × List zaO)) (v5 : Int) (v6 : Int) (v7 : List zaO) (v8 : List zgL) : Option ((Int × Int × (List zaO) × List zgL) ⊕ ((Int × (List zaO) × List zgL))) :=
 bif decide (v5 < (v4.1.length : Int)) then ((idx v4.1 v5).bind fun v9 => let v10 : zgL := zlQ keqI v7 v9 ((0 : Int), (0 : Int), (0 : Int), ([] : Bs), ([] : Bs), ([] : Bs), ([] : List Bs), (0 : Int), (0 : Int), false, false, ([] : List Bs), (0 : Int), ([] : Bs), ([] : Bs))
 (zhB o v10).bind fun v11 => (app v8 ([v11] : List zgL)).bind fun v12 => some (.inl (w64 (v5 + 1), v6, v7, v12))) else some (.inr (v6, v7, v8))
def zbP (o : Ops) (v0 : Int) (v1 : List zaO) : Option ((Int × (List zaO) × List zgL)) :=
 (chk (decide ((0 : Int) ≤ (v1.length : Int)) && decide ((v1.length : Int) ≤ (LIM : Int)))).bind fun _ => (mkL (0 : Int) ((0 : Int), (0 : Int), (0 : Int), ([] : Bs), ([] : Bs), ([] : Bs), ([] : List Bs), (0 : Int), (0 : Int), false, false, ([] : List Bs), (0 : Int), ([] : Bs), ([] : Bs))).bind fun v2 => (zrB o v1).bind fun v3 => (zuD v3).bind fun v4 => (iter (fun x => zfU o v4 x.1 x.2.1 x.2.2.1 x.2.2.2) ((0 : Int), v0, v4.2, v2)).bind fun v13 => some v13
def zdS (o : Ops) : SC := ⟨⟨[(0, (.ptr 0 0))], [zdZ, zbO]⟩, 1, [(none, ⟨[(0, (.own 2))], [zdZ, zbO, .osl zqQ 47]⟩)], fun x => zbP o x.1 x.2⟩
theorem zgF : SCok Tryz.prog tabs 15 (zdS o) := zdX (o := o) (η := [(200003, .loop [] ⟨[(0, (.ptr 0 0)), (3, (.own 2)), (19, hI)], [zdZ, zbO, .osl zqQ 47]⟩ [2, 17, 18] [(some 0, ⟨[(3, (.own 2))], [zdZ, zbO, .osl zqQ 47]⟩)])]) (Γ := ⟨[(44, (ziL o))], [(43, (ztA o)), (42, yaQ)], false⟩) (ctok ⟨zlG, trivial⟩ ⟨ybJ, ⟨ynV, trivial⟩⟩) Tryz.func15
def zgQ (o : Ops) (v0 : List Bs) : Option (List Bs) :=
 (o.itoa (v0.length : Int)).bind fun v1 => (app ([v1] : List Bs) v0).bind fun v2 => some v2
def zoJ (o : Ops) : PC := ⟨[(.h (.sl .s))], [(.sl .s)], fun x => zgQ o x, false⟩
theorem ztL : PCok Tryz.prog tabs 48 (zoJ o) := zgI (o := o) (η := []) (Γ := ⟨[(46, (ydI o))], [], false⟩) (ctok ⟨(zkE.itoa (G := tabs)), trivial⟩ trivial) Tryz.func48
def zlH (o : Ops) (v0 : Bool) : Option Bs :=
 bif v0 then (some ([49] : Bs)) else (some ([48] : Bs))
def zqT (o : Ops) : PC := ⟨[hB], [.s], fun x => zlH o x, false⟩
theorem zwZ : PCok Tryz.prog tabs 49 (zqT o) := zgI (o := o) (η := []) (Γ := ⟨[], [], false⟩) (ctok trivial trivial) Tryz.func49
def ynM : SC := ⟨⟨[(0, .nils), (1, hI)], []⟩, 1, [(none, ⟨[(0, (.own 0))], [.osl .s 9]⟩)], fun n => ygV .s n⟩
theorem yuD : SCok Tryz.prog tabs 102 ynM := wit (G := tabs) <| yrH (isFn Tryz.func102) xbV
def zhL (o : Ops) (v0 : List (List Bs)) (v1 : Int) (v2 : Int) : Option ((Int × Int) ⊕ Int) :=
 bif decide (v2 < (v0.length : Int)) then ((idx v0 v2).bind fun v3 => bif decide ((w64 (v1 + (v3.length : Int))) < 0) then none else some (.inl (w64 (v1 + (v3.length : Int)), w64 (v2 + 1)))) else some (.inr v1)
def zhP (o : Ops) (v0 : List (List Bs)) (v6 : Int) (v7 : List Bs) : Option ((Int × List Bs) ⊕ List Bs) :=
 bif decide (v6 < (v0.length : Int)) then ((idx v0 v6).bind fun v8 => (app v7 v8).bind fun v9 => some (.inl (w64 (v6 + 1), v9))) else some (.inr v7)
def ziW (o : Ops) (v0 : List (List Bs)) : Option (List Bs) :=
 (iter (fun x => zhL o v0 x.1 x.2) ((0 : Int), (0 : Int))).bind fun v4 => (ygV .s v4).bind fun v5 => (iter (fun x => zhP o v0 x.1 x.2) ((0 : Int), v5)).bind fun v10 => some v10
def zoG (o : Ops) : PC := ⟨[(.h (.sl (.sl .s)))], [(.sl .s)], fun x => ziW o x, false⟩
theorem ztF : PCok Tryz.prog tabs 47 (zoG o) := zgI (o := o) (η := [(200003, .loop [] ⟨[(3, hI), (11, hI)], []⟩ [0, 2, 9, 10] [(some 0, ⟨[(3, hI)], []⟩)]),
 (200011, .loop [] ⟨[(6, (.own 0)), (27, hI)], [.osl .s 9]⟩ [2, 25, 26] [(some 2, ⟨[(6, (.own 0))], [.osl .s 9]⟩)])]) (Γ := ⟨[], [(102, ynM)], false⟩) (ctok trivial ⟨yuD, trivial⟩) Tryz.func47
def yeH : PC := ⟨[.h (.sl (.pr .s .s))], [(.sl (.pr .s .s))], fun xs => some xs, true⟩
theorem yqK : PCok Tryz.prog tabs 51 yeH := wit (G := tabs) <| ydZ zxZ τ_okWkF Tryz.func51 (isFn Tryz.func51) rfl (by kernel_rfl) (fun _ => by kernel_rfl)
def zeH (o : Ops) (v4 : (Int × (List zaO) × List zgL)) (v5 : Int) (v6 : Int) (v7 : List zaO) (v8 : List (Bs × Bs)) (v9 : List zgL) : Option ((Int × Int × (List zaO) × (List (Bs × Bs)) × List zgL) ⊕ ((Int × (List zaO) × List (Bs × Bs)))) :=
 bif decide (v5 < (v4.2.2.length : Int)) then ((chk (decide ((0 : Int) ≤ v5) && decide (v5 < (v9.length : Int)))).bind fun _ => (idx v9 v5).bind fun v10 => (o.itoa v10.1).bind fun v11 => (o.itoa v10.2.1).bind fun v12 => (o.itoa v10.2.2.1).bind fun v13 => (zgQ o v10.2.2.2.2.2.2.1).bind fun v14 => (o.itoa v10.2.2.2.2.2.2.2.1).bind fun v15 => (o.itoa v10.2.2.2.2.2.2.2.2.1).bind fun v16 => (zlH o v10.2.2.2.2.2.2.2.2.2.1).bind fun v17 => (zlH o v10.2.2.2.2.2.2.2.2.2.2.1).bind fun v18 => (zgQ o v10.2.2.2.2.2.2.2.2.2.2.2.1).bind fun v19 => (o.itoa v10.2.2.2.2.2.2.2.2.2.2.2.2.1).bind fun v20 => (ziW o ([([v12, v13, v10.2.2.2.1, v10.2.2.2.2.1, v10.2.2.2.2.2.1] : List Bs), v14, ([v15, v16, v17, v18] : List Bs), v19, ([v20, v10.2.2.2.2.2.2.2.2.2.2.2.2.2.1, v10.2.2.2.2.2.2.2.2.2.2.2.2.2.2] : List Bs)] : List (List Bs))).bind fun v21 => let v22 : Int := (bif decide ((0 : Int) ≤ w64 ((8 : Int) - (v11.length : Int))) then w64 ((8 : Int) - (v11.length : Int)) else (0 : Int))
 (o.rep ([48] : Bs) v22).bind fun v23 => (app ([110, 111, 100, 101, 47] : Bs) v23).bind fun v24 => (app v24 v11).bind fun v25 => (o.form v21).bind fun v26 => (app v8 ([(v25, v26)] : List (Bs × Bs))).bind fun v27 => some (.inl (w64 (v5 + 1), v6, v7, v27, v9))) else some (.inr (v6, v7, v8))
def zcC (o : Ops) (v0 : Int) (v1 : List zaO) : Option (((List (Bs × Bs)) × Int × List zaO)) :=
 (o.itoa v0).bind fun v2 => (o.form ([v2] : List Bs)).bind fun v3 => (zbP o v0 v1).bind fun v4 => (iter (fun x => zeH o v4 x.1 x.2.1 x.2.2.1 x.2.2.2.1 x.2.2.2.2) ((0 : Int), v4.1, v4.2.1, ([(([102, 111, 114, 101, 115, 116] : Bs), v3)] : List (Bs × Bs)), v4.2.2)).bind fun v28 => some (v28.2.2, v28.1, v28.2.1)
def zgN (o : Ops) : SC := ⟨⟨[(0, (.ptr 0 0))], [zdZ, zbO]⟩, 1, [(none, ⟨[(0, (.hc (.pr .s .s)))], [zdZ, zbO]⟩)], fun x => zcC o x.1 x.2⟩
theorem zkF : SCok Tryz.prog tabs 16 (zgN o) := zdX (o := o) (η := [(200003, .loop [] ⟨[(3, (.own 2)), (18, (.own 3)), (20, hI)], [zdZ, zbO, .osl (.pr .s .s) 24, .osl zqQ 47]⟩ [2, 19] [(some 0, ⟨[(3, (.own 2))], [zdZ, zbO, .osl (.pr .s .s) 24]⟩)]),
 (4000006, .sch [(.pu, 0, []), (.pu, 1, []), (.pu, 3, []), (.pu, 4, []), (.pu, 6, []), (.pu, 7, []), (.pu, 8, []), (.pu, 9, []), (.pu, 10, []), (.pu, 11, []), (.pu, 13, []), (.pu, 14, []), (.pu, 16, []), (.pu, 17, []), (.pu, 19, []), (.pu, 20, []), (.pu, 22, []), (.pu, 23, []), (.pu, 25, []), (.pu, 26, []), (.pu, 29, []), (.pu, 30, []), (.pu, 32, []), (.pu, 33, []), (.pu, 35, []), (.pu, 36, []), (.pu, 37, []), (.pu, 38, []), (.mn, 2, []), (.mn, 5, []), (.la, 12, []), (.mn, 15, []), (.mn, 18, []), (.mn, 21, []), (.mn, 24, []), (.mn, 27, []), (.la, 28, []), (.mn, 31, []), (.mn, 34, []), (.mn, 39, []), (.rv, 12, []), (.rv, 28, []), (.mn, 40, [0, 1, 2, 3, 4, 5, 6, 7]), (.mn, 41, [8]), (.pu, 42, [])])]) (Γ := ⟨[(46, (ydI o)), (45, (yoH o)), (48, (zoJ o)), (49, (zqT o)), (47, (zoG o)), (50, (yrM o)), (51, yeH)], [(15, (zdS o))], false⟩) (ctok ⟨(zkE.itoa (G := tabs)), ⟨(zkE.form (G := tabs)), ⟨ztL, ⟨zwZ, ⟨ztF, ⟨(zkE.rep (G := tabs)), ⟨yqK, trivial⟩⟩⟩⟩⟩⟩⟩ ⟨zgF, trivial⟩) Tryz.func16
def zfN (o : Ops) (v0 : Bs) : Option ((Int × Bool) ⊕ Unit) :=
 bif (v0 == ([] : Bs)) then some (.inl ((0 : Int), false)) else (bif decide ((v0.length : Int) > 15) then some (.inl ((0 : Int), false)) else ((idx v0 (0 : Int)).bind fun v1 => bif ((v1.toNat : Int) == ((48 : UInt8).toNat : Int)) then (bif (v0 != ([48] : Bs)) then some (.inl ((0 : Int), false)) else ((o.trim v0 ([48, 49, 50, 51, 52, 53, 54, 55, 56, 57] : Bs)).bind fun v2 => bif (v2 != ([] : Bs)) then some (.inl ((0 : Int), false)) else some (.inr ()))) else ((o.trim v0 ([48, 49, 50, 51, 52, 53, 54, 55, 56, 57] : Bs)).bind fun v3 => bif (v3 != ([] : Bs)) then some (.inl ((0 : Int), false)) else some (.inr ()))))
def zeS (o : Ops) (v0 : Bs) : Option (Int × Bool) :=
 (zfN o v0).bind fun v4 => match v4 with
 | .inl v5 => (some v5)
 | .inr v6 => ((o.atoi v0).bind fun v7 => some (v7.1, (!v7.2)))
def zoI (o : Ops) : PC := ⟨[hS], [(.i .i64), .b], fun x => zeS o x, false⟩
theorem ztK : PCok Tryz.prog tabs 80 (zoI o) := zgI (o := o) (η := [(2000003, .join [] [0] [(some 1000000, ⟨[(2, hI), (3, hB)], []⟩), (none, ⟨[], []⟩)]),
 (4000004, .sch [(.pu, 0, []), (.pu, 1, []), (.pu, 2, []), (.pu, 3, []), (.pu, 4, [])])]) (Γ := ⟨[(82, (zvU o)), (83, (zyO o))], [], false⟩) (ctok ⟨(zkE.trim (G := tabs)), ⟨(zkE.atoi (G := tabs)), trivial⟩⟩ trivial) Tryz.func80
def zoM (o : Ops) (v2 : List Bs) (v3 : Bs × Bs × Bool) (v4 : Int × Bool) : Option (Bool ⊕ List Bs) :=
 bif (!v3.2.2) then some (.inl false) else (bif (!v4.2) then some (.inl false) else (bif decide (v4.1 > (v3.2.1.length : Int)) then some (.inl false) else some (.inr v2)))
def zhO (o : Ops) (v1 : Bs) (v2 : List Bs) : Option ((Bs × List Bs) ⊕ (Bool ⊕ List Bs)) :=
 bif (v1 != ([] : Bs)) then ((o.cut v1 ([58] : Bs)).bind fun v3 => (zeS o v3.1).bind fun v4 => (zoM o v2 v3 v4).bind fun v5 => match v5 with
 | .inl v6 => some (.inr (.inl v6))
 | .inr v7 => ((subH v3.2.1 v4.1).bind fun v8 => (app v7 ([v8] : List Bs)).bind fun v9 => (subL v3.2.1 v4.1).bind fun v10 => some (.inl (v10, v9)))) else some (.inr (.inr v2))
def zfR (o : Ops) (v0 : Bs) : Option (zvO) :=
 (iter (fun x => zhO o x.1 x.2) (v0, ([] : List Bs))).bind fun v11 => match v11 with
 | .inl v12 => some (([] : List Bs), v12)
 | .inr v13 => some (v13, true)
def zlY (o : Ops) : SC := ⟨⟨[(0, hS)], []⟩, 2, [(none, ⟨[(0, (.h (.sl .s))), (1, hB)], []⟩)], fun x => zfR o x⟩
theorem zpM : SCok Tryz.prog tabs 32 (zlY o) := zdX (o := o) (η := [(2000007, .join [] [6, 8] [(some 1000000, ⟨[(2, .nils), (3, hB)], []⟩), (none, ⟨[(4, (.own 0))], [.osl .s 9]⟩)]),
 (200002, .loop [.sl 4 .s 9] ⟨[(0, hS), (4, (.own 0))], [.osl .s 9]⟩ [] [(some 1000000, ⟨[(2, .nils), (3, hB)], []⟩), (some 0, ⟨[(4, (.own 0))], [.osl .s 9]⟩)])]) (Γ := ⟨[(79, (ysW o)), (80, (zoI o)), (81, ydV)], [], false⟩) (ctok ⟨(zkE.cut (G := tabs)), ⟨ztK, ⟨yjL, trivial⟩⟩⟩ trivial) Tryz.func32
def ztO (o : Ops) (v0 : Bs) : Option ((Int × Bool) ⊕ Unit) :=
 bif (v0 == ([] : Bs)) then some (.inl ((0 : Int), false)) else (bif decide ((v0.length : Int) > 15) then some (.inl ((0 : Int), false)) else ((idx v0 (0 : Int)).bind fun v1 => bif ((v1.toNat : Int) == ((48 : UInt8).toNat : Int)) then (bif (v0 != ([48] : Bs)) then some (.inl ((0 : Int), false)) else ((o.trim v0 ([48, 49, 50, 51, 52, 53, 54, 55, 56, 57] : Bs)).bind fun v2 => bif (v2 != ([] : Bs)) then some (.inl ((0 : Int), false)) else some (.inr ()))) else ((o.trim v0 ([48, 49, 50, 51, 52, 53, 54, 55, 56, 57] : Bs)).bind fun v3 => bif (v3 != ([] : Bs)) then some (.inl ((0 : Int), false)) else some (.inr ()))))
def ziG (o : Ops) (v0 : Bs) : Option (Int × Bool) :=
 (ztO o v0).bind fun v4 => match v4 with
 | .inl v5 => (some v5)
 | .inr v6 => ((o.atoi v0).bind fun v7 => some (v7.1, (!v7.2)))
def zkP (o : Ops) : PC := ⟨[hS], [(.i .i64), .b], fun x => ziG o x, false⟩
theorem zoL : PCok Tryz.prog tabs 33 (zkP o) := zgI (o := o) (η := [(2000003, .join [] [0] [(some 1000000, ⟨[(2, hI), (3, hB)], []⟩), (none, ⟨[], []⟩)]),
 (4000004, .sch [(.pu, 0, []), (.pu, 1, []), (.pu, 2, []), (.pu, 3, []), (.pu, 4, [])])]) (Γ := ⟨[(82, (zvU o)), (83, (zyO o))], [], false⟩) (ctok ⟨(zkE.trim (G := tabs)), ⟨(zkE.atoi (G := tabs)), trivial⟩⟩ trivial) Tryz.func33
def zcE (o : Ops) (v0 : Bs) (v1 : Bs) : Option (Bool) :=
 bif decide ((v0.length : Int) ≥ (v1.length : Int)) then ((subH v0 (v1.length : Int)).bind fun v2 => some (v2 == v1)) else (some false)
def zeC (o : Ops) : PC := ⟨[hS, hS], [.b], fun x => zcE o x.1 x.2, false⟩
theorem ziZ : PCok Tryz.prog tabs 150 (zeC o) := zgI (o := o) (η := []) (Γ := ⟨[], [], false⟩) (ctok trivial trivial) Tryz.func150
def zcD (o : Ops) (v0 : Bs) (v1 : Bs) : Option (Bs × Bool) :=
 (zcE o v0 v1).bind fun v2 => bif (!v2) then (some (v0, false)) else ((subL v0 (v1.length : Int)).bind fun v3 => some (v3, true))
def zeE (o : Ops) : PC := ⟨[hS, hS], [.s, .b], fun x => zcD o x.1 x.2, false⟩
theorem ziU : PCok Tryz.prog tabs 127 (zeE o) := zgI (o := o) (η := []) (Γ := ⟨[(150, (zeC o))], [], false⟩) (ctok ⟨ziZ, trivial⟩ trivial) Tryz.func127
def zdN (o : Ops) (v0 : Bs) (v1 : Bs) : Option (Bs × Bool) :=
 (zcD o v0 v1).bind fun v2 => some v2
def zkW (o : Ops) : PC := ⟨[hS, hS], [.s, .b], fun x => zdN o x.1 x.2, false⟩
theorem zqJ : PCok Tryz.prog tabs 72 (zkW o) := zgI (o := o) (η := []) (Γ := ⟨[(127, (zeE o))], [], false⟩) (ctok ⟨ziU, trivial⟩ trivial) Tryz.func72
def zaG (o : Ops) (v0 : List Bs) (v1 : Bool) : Option ((Bs × zvO)) :=
 bif ((v0.length : Int) == 0) then some (([] : Bs), v0, true) else ((idx v0 (0 : Int)).bind fun v2 => (subL v0 (1 : Int)).bind fun v3 => some (v2, v3, v1))
def zeD (o : Ops) : SC := ⟨⟨[(0, (.ptr 0 0))], [zwO]⟩, 1, [(none, ⟨[(0, hS)], [zwO]⟩)], fun x => zaG o x.1 x.2⟩
theorem zhA : SCok Tryz.prog tabs 85 (zeD o) := zdX (o := o) (η := []) (Γ := ⟨[], [], false⟩) (ctok trivial trivial) Tryz.func85
def zaE (o : Ops) (v0 : List Bs) (v1 : Bool) : Option ((Int × zvO)) :=
 (zaG o v0 v1).bind fun v2 => (ziG o v2.1).bind fun v3 => bif v2.2.2 then some (v3.1, v2.2.1, true) else some (v3.1, v2.2.1, (!v3.2))
def zfA (o : Ops) : SC := ⟨⟨[(0, (.ptr 0 0))], [zwO]⟩, 1, [(none, ⟨[(0, hI)], [zwO]⟩)], fun x => zaE o x.1 x.2⟩
theorem ziT : SCok Tryz.prog tabs 84 (zfA o) := zdX (o := o) (η := []) (Γ := ⟨[(33, (zkP o))], [(85, (zeD o))], false⟩) (ctok ⟨zoL, trivial⟩ ⟨zhA, trivial⟩) Tryz.func84
def zhD (o : Ops) (v2 : (Int × zvO)) : Option (zvO ⊕ zvO) :=
 bif v2.2.2 then some (.inl (v2.2.1, true)) else (bif decide (v2.1 > (v2.2.1.length : Int)) then some (.inl (v2.2.1, true)) else some (.inr v2.2))
def zbG (o : Ops) (v0 : List Bs) (v1 : Bool) : Option (((List Bs) × zvO)) :=
 (zaE o v0 v1).bind fun v2 => (zhD o v2).bind fun v3 => match v3 with
 | .inl v4 => some (([] : List Bs), v4)
 | .inr v5 => ((chk (decide (v2.1 = v2.1))).bind fun _ => (subH v5.1 v2.1).bind fun v6 => (subL v5.1 v2.1).bind fun v7 => some (v6, v7, v5.2))
def zjY (o : Ops) : SC := ⟨⟨[(0, (.ptr 0 0))], [zwO]⟩, 1, [(none, ⟨[(0, (.h (.sl .s)))], [zwO]⟩)], fun x => zbG o x.1 x.2⟩
theorem zpK : SCok Tryz.prog tabs 86 (zjY o) := zdX (o := o) (η := [(2000005, .join [] [3] [(some 1000000, ⟨[(2, .nils)], [zwO]⟩), (none, ⟨[(0, (.ptr 0 0))], [zwO]⟩)])]) (Γ := ⟨[], [(84, (zfA o))], false⟩) (ctok trivial ⟨ziT, trivial⟩) Tryz.func86
def zbH (o : Ops) (v0 : List Bs) (v1 : Bool) : Option ((Bool × zvO)) :=
 (zaG o v0 v1).bind fun v2 => bif v2.2.2 then some ((v2.1 == ([49] : Bs)), v2.2.1, true) else (bif (v2.1 != ([48] : Bs)) then some ((v2.1 == ([49] : Bs)), v2.2.1, (v2.1 != ([49] : Bs))) else some ((v2.1 == ([49] : Bs)), v2.2.1, false))
def zkD (o : Ops) : SC := ⟨⟨[(0, (.ptr 0 0))], [zwO]⟩, 1, [(none, ⟨[(0, hB)], [zwO]⟩)], fun x => zbH o x.1 x.2⟩
theorem zpC : SCok Tryz.prog tabs 87 (zkD o) := zdX (o := o) (η := []) (Γ := ⟨[], [(85, (zeD o))], false⟩) (ctok trivial ⟨zhA, trivial⟩) Tryz.func87
def zmN (o : Ops) (v1 : Bs × Bool) (v2 : zvO) : Option ((Bool × Int × Int × Int × Bs × Bs × Bs × Int × Int × Bool × Bool × Int × Bs × Bs) ⊕ (Int × Int × Int × Bs × Bs × Bs × Int × Int × Bool × Bool × Int × Bs × Bs)) :=
 bif (!v1.2) then some (.inl (false, (0 : Int), (0 : Int), (0 : Int), ([] : Bs), ([] : Bs), ([] : Bs), (0 : Int), (0 : Int), false, false, (0 : Int), ([] : Bs), ([] : Bs))) else (bif (!v2.2) then some (.inl (false, (0 : Int), (0 : Int), (0 : Int), ([] : Bs), ([] : Bs), ([] : Bs), (0 : Int), (0 : Int), false, false, (0 : Int), ([] : Bs), ([] : Bs))) else (bif ((v1.1.length : Int) != 8) then some (.inl (false, (0 : Int), (0 : Int), (0 : Int), ([] : Bs), ([] : Bs), ([] : Bs), (0 : Int), (0 : Int), false, false, (0 : Int), ([] : Bs), ([] : Bs))) else ((o.trim v1.1 ([48, 49, 50, 51, 52, 53, 54, 55, 56, 57] : Bs)).bind fun v3 => bif (v3 != ([] : Bs)) then some (.inl (false, (0 : Int), (0 : Int), (0 : Int), ([] : Bs), ([] : Bs), ([] : Bs), (0 : Int), (0 : Int), false, false, (0 : Int), ([] : Bs), ([] : Bs))) else some (.inr ((0 : Int), (0 : Int), (0 : Int), ([] : Bs), ([] : Bs), ([] : Bs), (0 : Int), (0 : Int), false, false, (0 : Int), ([] : Bs), ([] : Bs))))))
def zfE (o : Ops) (v0 : Bs × Bs) : Option (zgL × Bool) :=
 (zdN o v0.1 ([110, 111, 100, 101, 47] : Bs)).bind fun v1 => (zfR o v0.2).bind fun v2 => (zmN o v1 v2).bind fun v4 => match v4 with
 | .inl v5 => (some ((v5.2.1, v5.2.2.1, v5.2.2.2.1, v5.2.2.2.2.1, v5.2.2.2.2.2.1, v5.2.2.2.2.2.2.1, ([] : List Bs), v5.2.2.2.2.2.2.2.1, v5.2.2.2.2.2.2.2.2.1, v5.2.2.2.2.2.2.2.2.2.1, v5.2.2.2.2.2.2.2.2.2.2.1, ([] : List Bs), v5.2.2.2.2.2.2.2.2.2.2.2), v5.1))
 | .inr v6 => ((zaE o v2.1 false).bind fun v7 => (zaE o v7.2.1 v7.2.2).bind fun v8 => (zaG o v8.2.1 v8.2.2).bind fun v9 => (zaG o v9.2.1 v9.2.2).bind fun v10 => (zaG o v10.2.1 v10.2.2).bind fun v11 => (zbG o v11.2.1 v11.2.2).bind fun v12 => (zaE o v12.2.1 v12.2.2).bind fun v13 => (zaE o v13.2.1 v13.2.2).bind fun v14 => (zbH o v14.2.1 v14.2.2).bind fun v15 => (zbH o v15.2.1 v15.2.2).bind fun v16 => (zbG o v16.2.1 v16.2.2).bind fun v17 => (zaE o v17.2.1 v17.2.2).bind fun v18 => (zaG o v18.2.1 v18.2.2).bind fun v19 => (zaG o v19.2.1 v19.2.2).bind fun v20 => (o.atoi v1.1).bind fun v21 => (zhB o (v21.1, v7.1, v8.1, v9.1, v10.1, v11.1, v12.1, v13.1, v14.1, v15.1, v16.1, v17.1, v18.1, v19.1, v20.1)).bind fun v22 => bif (!v20.2.2) then (bif ((v20.2.1.length : Int) == 0) then ((ziA o (v21.1, v7.1, v8.1, v9.1, v10.1, v11.1, v12.1, v13.1, v14.1, v15.1, v16.1, v17.1, v18.1, v19.1, v20.1)).bind fun v23 => some (v22, v23)) else (some (v22, false))) else (some (v22, false)))
def zqW (o : Ops) : PC := ⟨[(.h (.pr .s .s))], [zqQ, .b], fun x => zfE o x, false⟩
theorem zwP : PCok Tryz.prog tabs 35 (zqW o) := zgI (o := o) (η := [(2000005, .join [] [4, 6] [(some 1000000, ⟨[(2, (.ptr 0 0)), (3, hB)], [yhA]⟩), (none, ⟨[(2, (.ptr 0 0))], [yhA]⟩)]),
 (4000008, .sch [(.pu, 0, []), (.pu, 2, []), (.pu, 3, []), (.pu, 4, []), (.pu, 5, []), (.pu, 6, []), (.mn, 1, []), (.pu, 7, []), (.pu, 8, []), (.pu, 9, []), (.pu, 10, []), (.pu, 11, []), (.pu, 12, []), (.pu, 13, []), (.pu, 14, []), (.pu, 15, []), (.pu, 16, []), (.mn, 17, []), (.pu, 18, [0]), (.mn, 19, [0]), (.pu, 20, [])])]) (Γ := ⟨[(72, (zkW o)), (82, (zvU o)), (83, (zyO o)), (44, (ziL o)), (53, (znV o))], [(32, (zlY o)), (84, (zfA o)), (85, (zeD o)), (86, (zjY o)), (87, (zkD o))], false⟩) (ctok ⟨zqJ, ⟨(zkE.trim (G := tabs)), ⟨(zkE.atoi (G := tabs)), ⟨zlG, ⟨zrX, trivial⟩⟩⟩⟩⟩ ⟨zpM, ⟨ziT, ⟨zhA, ⟨zpK, ⟨zpC, trivial⟩⟩⟩⟩⟩) Tryz.func35
noncomputable def zdI (o : Ops) (v0 : List (Bs × Bs)) : Option (Int ⊕ Unit) :=
 bif ((v0.length : Int) == 0) then some (.inl (135 : Int)) else ((idx v0 (0 : Int)).bind fun v1 => bif (v1.1 != ([102, 111, 114, 101, 115, 116] : Bs)) then some (.inl (135 : Int)) else (bif decide ((v0.length : Int) > 257) then some (.inl (135 : Int)) else some (.inr ())))
noncomputable def zfP (o : Ops) (v6 : zvO) : Option (Int ⊕ Unit) :=
 bif (!v6.2) then some (.inl (135 : Int)) else (bif ((v6.1.length : Int) != 1) then some (.inl (135 : Int)) else some (.inr ()))
noncomputable def zeL (o : Ops) (v6 : zvO) (v10 : (Int × List zaO)) : Option (Int ⊕ (Int × List zaO)) :=
 (idx v6.1 (0 : Int)).bind fun v11 => (ziG o v11).bind fun v12 => bif (!v12.2) then some (.inl (135 : Int)) else ((zaP o v12.1 (1 : Int) (99999999 : Int)).bind fun v13 => bif (!v13) then some (.inl (135 : Int)) else some (.inr (v12.1, v10.2)))
noncomputable def zfQ (o : Ops) (v18 : Int) (v23 : zgL × Bool) (v24 : (zgL × Bool × Int × List zaO)) : Option (Int ⊕ (Int × Int × Int × Int × Bs × Bs × Bs × (List Bs) × Int × Int × Bool × Bool × (List Bs) × Int × Bs × Bs × List zaO)) :=
 bif (!v23.2) then some (.inl (135 : Int)) else (bif v24.2.1 then some (.inl (135 : Int)) else (bif decide (v23.1.1 ≤ v18) then some (.inl (135 : Int)) else (bif decide (v23.1.1 ≥ v24.2.2.1) then some (.inl (135 : Int)) else (bif decide (v23.1.2.2.1 ≥ v23.1.1) then some (.inl (135 : Int)) else some (.inr (v24.2.2.1, v23.1.1, v23.1.2.1, v23.1.2.2.1, v23.1.2.2.2.1, v23.1.2.2.2.2.1, v23.1.2.2.2.2.2.1, v23.1.2.2.2.2.2.2.1, v23.1.2.2.2.2.2.2.2.1, v23.1.2.2.2.2.2.2.2.2.1, v23.1.2.2.2.2.2.2.2.2.2.1, v23.1.2.2.2.2.2.2.2.2.2.2.1, v23.1.2.2.2.2.2.2.2.2.2.2.2.1, v23.1.2.2.2.2.2.2.2.2.2.2.2.2.1, v23.1.2.2.2.2.2.2.2.2.2.2.2.2.2.1, v23.1.2.2.2.2.2.2.2.2.2.2.2.2.2.2, v24.2.2.2))))))
noncomputable def zbD (o : Ops) (v17 : List (Bs × Bs)) (v18 : Int) (v19 : Int) (v20 : Int) (v21 : List zaO) : Option ((Int × Int × Int × List zaO) ⊕ (Int ⊕ (Int × List zaO))) :=
 bif decide (v19 < (v17.length : Int)) then ((idx v17 v19).bind fun v22 => (zfE o v22).bind fun v23 => (zcZ o v23.1.2.2.2.2.2.2.2.2.2.2.2.2.2.1 v20 v21).bind fun v24 => (zfQ o v18 v23 v24).bind fun v25 => match v25 with
 | .inl v26 => some (.inr (.inl v26))
 | .inr v27 => (let v28 : List zaO := mset keqI kltI v27.2.2.2.2.2.2.2.2.2.2.2.2.2.2.2.2 v27.2.1 (v27.2.1, v27.2.2.1, v27.2.2.2.1, v27.2.2.2.2.1, v27.2.2.2.2.2.1, v27.2.2.2.2.2.2.1, v27.2.2.2.2.2.2.2.1, v27.2.2.2.2.2.2.2.2.1, v27.2.2.2.2.2.2.2.2.2.1, v27.2.2.2.2.2.2.2.2.2.2.1, v27.2.2.2.2.2.2.2.2.2.2.2.1, v27.2.2.2.2.2.2.2.2.2.2.2.2.1, v27.2.2.2.2.2.2.2.2.2.2.2.2.2.1, v27.2.2.2.2.2.2.2.2.2.2.2.2.2.2.1, v27.2.2.2.2.2.2.2.2.2.2.2.2.2.2.2.1)
 some (.inl (v27.2.1, w64 (v19 + 1), v27.1, v28)))) else some (.inr (.inr (v20, v21)))
noncomputable def zeJ (o : Ops) (v0 : List (Bs × Bs)) : Option (Int ⊕ (Int × Int × List zaO)) :=
 (zdI o v0).bind fun v2 => match v2 with
 | .inl v3 => some (.inl v3)
 | .inr v4 => ((idx v0 (0 : Int)).bind fun v5 => (zfR o v5.2).bind fun v6 => (zfP o v6).bind fun v7 => match v7 with
 | .inl v8 => some (.inl v8)
 | .inr v9 => ((zgX o).bind fun v10 => (zeL o v6 v10).bind fun v14 => match v14 with
 | .inl v15 => some (.inl v15)
 | .inr v16 => ((subL v0 (1 : Int)).bind fun v17 => (iter (fun x => zbD o v17 x.1 x.2.1 x.2.2.1 x.2.2.2) ((0 : Int), (0 : Int), v16)).bind fun v29 => match v29 with
 | .inl v30 => some (.inl v30)
 | .inr v31 => some (.inr ((0 : Int), v31)))))
noncomputable def zmK (o : Ops) : SC := ⟨⟨[(0, (.h (.sl (.pr .s .s))))], []⟩, 2, [(none, ⟨[(0, .nilp), (1, hI)], []⟩), (none, ⟨[(0, (.ptr 0 0)), (1, hI)], [zdZ, zbO]⟩)], fun x => zeJ o x⟩
theorem zqR : SCok Tryz.prog tabs 10 (zmK o) := zdX (o := o) (η := [(2000003, .join [] [0] [(some 1000000, ⟨[(2, .nilp), (3, hI)], []⟩), (none, ⟨[], []⟩)]),
 (2000006, .join [] [0, 4] [(some 1000000, ⟨[(2, .nilp), (3, hI)], []⟩), (none, ⟨[], []⟩)]),
 (2000010, .join [] [0] [(some 1000000, ⟨[(2, .nilp), (3, hI)], []⟩), (none, ⟨[(6, (.ptr 0 0))], [zdZ, zbO]⟩)]),
 (2000018, .join [] [66, 67, 68] [(some 1000000, ⟨[(2, .nilp), (3, hI)], []⟩), (none, ⟨[(6, (.ptr 0 0)), (10, (.ptr 1 0))], [zxA, ypW, zbO]⟩)]),
 (200012, .loop [] ⟨[(6, (.ptr 0 0)), (7, hI), (68, hI)], [zdZ, zbO]⟩ [66, 67] [(some 1000000, ⟨[(2, .nilp), (3, hI)], []⟩), (some 0, ⟨[(6, (.ptr 0 0))], [zdZ, zbO]⟩)]),
 (4000016, .sch [(.pu, 0, []), (.pu, 1, []), (.pu, 2, []), (.pu, 3, []), (.pu, 4, []), (.pu, 5, []), (.pu, 6, []), (.pu, 7, []), (.pu, 8, []), (.pu, 9, []), (.pu, 10, []), (.pu, 11, []), (.pu, 12, []), (.pu, 13, []), (.pu, 14, []), (.pu, 15, []), (.pu, 16, []), (.pu, 17, []), (.pu, 18, []), (.pu, 19, []), (.pu, 20, []), (.pu, 21, []), (.pu, 22, []), (.pu, 23, []), (.pu, 24, []), (.pu, 25, []), (.pu, 26, [])]),
 (4000018, .sch [(.pu, 0, []), (.pu, 1, []), (.pu, 2, []), (.pu, 3, []), (.pu, 4, []), (.pu, 5, []), (.pu, 6, []), (.pu, 7, []), (.mn, 8, [0, 1, 2])])]) (Γ := ⟨[(33, (zkP o)), (34, (zoX o)), (35, (zqW o))], [(32, (zlY o)), (27, (znN o)), (36, (zgM o))], false⟩) (ctok ⟨zoL, ⟨zsW, ⟨zwP, trivial⟩⟩⟩ ⟨zpM, ⟨zrT, ⟨zkJ, trivial⟩⟩⟩) Tryz.func10
noncomputable def ziE (o : Ops) (v1 : (Int × Int × Int × List zaO)) (v2 : (Int × Int × Int × List zaO)) (v3 : (Int × Int × Int × List zaO)) : Option (Bool ⊕ (Int × List zaO)) :=
 bif (v1.1 != 1) then some (.inl false) else (bif (v1.2.1 != 0) then some (.inl false) else (bif (v2.2.1 != 132) then some (.inl false) else (bif (v3.1 != 2) then some (.inl false) else (bif (v3.2.1 != 0) then some (.inl false) else ((zbI o (2 : Int) (8 : Int) v3.2.2.1 v3.2.2.2).bind fun v4 => bif (!v4.1) then some (.inl false) else ((zbI o (2 : Int) (9 : Int) v4.2.1 v4.2.2).bind fun v5 => bif v5.1 then some (.inl false) else ((zcB o (2 : Int) v5.2.1 v5.2.2).bind fun v6 => bif ((v6.1.length : Int) != 2) then some (.inl false) else ((zlA o (1 : Int) v6.2.1 v6.2.2).bind fun v7 => bif (v7.1 != 0) then some (.inl false) else ((zbI o (2 : Int) (0 : Int) v7.2.1 v7.2.2).bind fun v8 => bif v8.1 then some (.inl false) else some (.inr v8.2))))))))))
noncomputable def zgD (o : Ops) : Option (Bool) :=
 (zgX o).bind fun v0 => (zbN o (0 : Int) (1 : Int) (0 : Int) ([117, 58, 97, 110, 110] : Bs) ([] : Bs) ([] : Bs) (0 : Int) (9 : Int) false false (0 : Int) ([115] : Bs) ([] : Bs) (0 : Int) v0.1 v0.2).bind fun v1 => (zbN o (0 : Int) (1 : Int) (0 : Int) ([117, 58, 97, 110, 110] : Bs) ([] : Bs) ([] : Bs) (0 : Int) (9 : Int) false false (0 : Int) ([115] : Bs) ([] : Bs) (0 : Int) v1.2.2.1 v1.2.2.2).bind fun v2 => (zbN o (0 : Int) (1 : Int) (1 : Int) ([117, 58, 97, 110, 110] : Bs) ([] : Bs) ([] : Bs) (0 : Int) (9 : Int) false false (0 : Int) ([116] : Bs) ([] : Bs) (0 : Int) v2.2.2.1 v2.2.2.2).bind fun v3 => (ziE o v1 v2 v3).bind fun v9 => match v9 with
 | .inl v10 => (some v10)
 | .inr v11 => ((zcC o v11.1 v11.2).bind fun v12 => (zeJ o v12.1).bind fun v13 => match v13 with
 | .inl v14 => (some false)
 | .inr v15 => (bif (v15.1 == 0) then ((zbP o v15.2.1 v15.2.2).bind fun v16 => bif ((v16.2.2.length : Int) == 2) then ((zcM o (0 : Int) v12.2.1 v12.2.2).bind fun v17 => some (v17.1 == 2)) else (some false)) else (some false)))
noncomputable def ziV (o : Ops) : PC := ⟨[], [.b], fun _ => zgD o, false⟩
theorem znP : PCok Tryz.prog tabs 13 (ziV o) := zgI (o := o) (η := [(2000012, .join [] [] [(some 1000000, ⟨[(0, hB)], []⟩), (none, ⟨[(1, (.ptr 0 0))], [zdZ, zbO]⟩)])]) (Γ := ⟨[], [(20, (zjP o)), (27, (znN o)), (22, (zgR o)), (25, (zeF o)), (24, (zkI o)), (16, (zgN o)), (10, (zmK o)), (15, (zdS o)), (31, (zgG o))], false⟩) (ctok trivial ⟨zoT, ⟨zrT, ⟨zkM, ⟨zgO, ⟨zpQ, ⟨zkF, ⟨zqR, ⟨zgF, ⟨zjJ, trivial⟩⟩⟩⟩⟩⟩⟩⟩⟩) Tryz.func13
end
section
variable {γ : Type}
def zmM (es : List (Int × γ)) : Prop := es.Pairwise fun x y => x.1 < y.1
theorem zcK {a b : Int} : keqI a b = true ↔ a = b := by unfold keqI; exact decide_eq_true_iff
theorem yfX {a b : Int} (h : a ≠ b) : keqI a b = false := by
 cases hb : keqI a b with
 | false => rfl
 | true => exact absurd (zcK.1 hb) h
theorem ycV {a b : Int} : kltI a b = true ↔ a < b := by unfold kltI; exact decide_eq_true_iff
theorem zmA : ∀ {es : List (Int × γ)}, zmM es → ∀ {k v}, (k, v) ∈ es → mget keqI es k = some v
 | (k', v') :: m, h, k, v, hm => by
  unfold mget
  rcases List.mem_cons.1 hm with e | hm
  ·cases e
   rw [zcK.2 rfl]; rfl
  ·have hlt := (List.pairwise_cons.1 h).1 _ hm
   have : k' ≠ k := fun e => by subst e; exact absurd hlt (Int.lt_irrefl _)
   rw [yfX this]
   exact zmA (List.pairwise_cons.1 h).2 hm
theorem zrL : ∀ {es : List (Int × γ)} {k v}, mget keqI es k = some v → (k, v) ∈ es
 | (k', v') :: m, k, v, h => by
  unfold mget at h
  cases hk : keqI k' k with
  | true =>
   rw [hk] at h
   cases h
   rw [zcK.1 hk]; exact List.mem_cons_self
  | false => rw [hk] at h; exact List.mem_cons_of_mem _ (zrL h)
theorem zhM : ∀ {es : List (Int × γ)} {k}, mhas keqI es k = true ↔ ∃ v, (k, v) ∈ es
 | [], k => by simp [mhas]
 | (k', v') :: m, k => by
  unfold mhas
  rw [Bool.or_eq_true, zcK, zhM (es := m)]
  constructor
  ·rintro (rfl | ⟨v, hv⟩)
   ·exact ⟨v', List.mem_cons_self⟩
   ·exact ⟨v, List.mem_cons_of_mem _ hv⟩
  ·rintro ⟨v, hv⟩
   rcases List.mem_cons.1 hv with e | hv
   ·cases e; exact .inl rfl
   ·exact .inr ⟨v, hv⟩
theorem zvE : ∀ (es : List (Int × γ)) (k : Int) (v : γ), (mrep keqI es k v).map (·.1) = es.map (·.1)
 | [], _, _ => rfl
 | (k', v') :: m, k, v => by
  unfold mrep
  cases hk : keqI k' k with
  | true => rw [zcK.1 hk]; rfl
  | false => simp only [cond_false, List.map_cons, zvE m k v]
theorem zxV {es fs : List (Int × γ)} (h : es.map (·.1) = fs.map (·.1)) (hf : zmM fs) : zmM es := by
 have : (fs.map (·.1)).Pairwise (· < ·) := List.pairwise_map.2 hf
 rw [← h] at this
 exact List.pairwise_map.1 this
theorem yfH : ∀ {es : List (Int × γ)} {k : Int} {v : γ} {p}, p ∈ mins kltI es k v → p = (k, v) ∨ p ∈ es
 | [], k, v, p, h => .inl (List.mem_singleton.1 h)
 | (k', v') :: m, k, v, p, h => by
  unfold mins at h
  cases hk : kltI k' k with
  | true =>
   rw [hk] at h
   rcases List.mem_cons.1 h with rfl | h
   ·exact .inr List.mem_cons_self
   ·exact (yfH h).imp id (List.mem_cons_of_mem _)
  | false =>
   rw [hk] at h
   rcases List.mem_cons.1 h with rfl | h
   ·exact .inl rfl
   ·exact .inr h
theorem yxR {a b : Int} (h : ¬ a < b) (hn : a ≠ b) : b < a := by omega
theorem zxL : ∀ {es : List (Int × γ)} {k : Int} {v : γ}, zmM es → (∀ v', (k, v') ∉ es) → zmM (mins kltI es k v)
 | [], _, _, _, _ => List.pairwise_singleton _ _
 | (k', v') :: m, k, v, h, hn => by
  have hc := List.pairwise_cons.1 h
  have hne : k' ≠ k := fun e => hn v' (by rw [e]; exact List.mem_cons_self)
  unfold mins
  cases hk : kltI k' k with
  | true =>
   simp only [cond_true]
   refine List.pairwise_cons.2 ⟨fun p hp => ?_, zxL hc.2 fun v2 h2 => hn v2 (List.mem_cons_of_mem _ h2)⟩
   rcases yfH hp with rfl | hp
   ·exact ycV.1 hk
   ·exact hc.1 p hp
  | false =>
   simp only [cond_false]
   have hlt : k < k' := yxR (fun h2 => by rw [ycV.2 h2] at hk; cases hk) hne
   refine List.pairwise_cons.2 ⟨fun p hp => ?_, h⟩
   rcases List.mem_cons.1 hp with rfl | hp
   ·exact hlt
   ·exact Int.lt_trans hlt (hc.1 p hp)
theorem yhH {es : List (Int × γ)} {k : Int} {v : γ} (h : zmM es) : zmM (mset keqI kltI es k v) := by
 unfold mset
 cases hk : mhas keqI es k with
 | true => exact zxV (zvE es k v) h
 | false =>
  refine zxL h fun v' hv => ?_
  rw [zhM.2 ⟨v', hv⟩] at hk; cases hk
theorem yaX {es : List (Int × γ)} {k : Int} {v : γ} (h : ∀ p ∈ es, p.1 < k) : mset keqI kltI es k v = es ++ [(k, v)] := by
 have hn : mhas keqI es k = false := by
  cases hk : mhas keqI es k with
  | false => rfl
  | true =>
   obtain ⟨v', hv⟩ := zhM.1 hk
   exact absurd (h _ hv) (Int.lt_irrefl _)
 unfold mset
 rw [hn]
 simp only [cond_false]
 clear hn
 induction es with
 | nil => rfl
 | cons p m ih =>
  obtain ⟨k', v'⟩ := p
  have h1 : kltI k' k = true := ycV.2 (h _ List.mem_cons_self)
  unfold mins
  rw [h1]
  simp only [cond_true, List.cons_append, ih fun p hp => h p (List.mem_cons_of_mem _ hp)]
theorem ycN {es : List (Int × γ)} {k : Int} (h : mhas keqI es k = false) : mget keqI es k = none := by
 cases hg : mget keqI es k with
 | none => rfl
 | some v => rw [zhM.2 ⟨v, zrL hg⟩] at h; cases h
theorem yeQ {es : List (Int × γ)} {k : Int} (h : mhas keqI es k = true) : ∃ v, mget keqI es k = some v ∧ (k, v) ∈ es := by
 induction es with
 | nil => cases h
 | cons p m ih =>
  obtain ⟨k', v'⟩ := p
  unfold mget
  cases hk : keqI k' k with
  | true => exact ⟨v', rfl, by rw [zcK.1 hk]; exact List.mem_cons_self⟩
  | false =>
   unfold mhas at h
   rw [hk, Bool.false_or] at h
   obtain ⟨v, h1, h2⟩ := ih h
   exact ⟨v, h1, List.mem_cons_of_mem _ h2⟩
theorem zzM {es : List (Int × γ)} {k : Int} {v z : γ} (h : mget keqI es k = some v) : zlQ keqI es k z = v := by unfold zlQ; rw [h]
theorem yuB {es : List (Int × γ)} {k : Int} {v : γ} (h : mget keqI es k = some v) : mhas keqI es k = true := zhM.2 ⟨v, zrL h⟩
theorem yjZ {es fs : List (Int × γ)} (h : es.map (·.1) = fs.map (·.1)) (k : Int) : mhas keqI es k = mhas keqI fs k := by
 have g : ∀ (es : List (Int × γ)), mhas keqI es k = (es.map (·.1)).any fun q => keqI q k := by
  intro es
  induction es with
  | nil => rfl
  | cons p m ih => obtain ⟨a, b⟩ := p; simp only [mhas, ih, List.map_cons, List.any_cons]
 rw [g, g, h]
end
section
variable {α β γ σ : Type}
def T (o : Option α) (P : α → Prop) : Prop := ∃ r, o = some r ∧ P r
theorem T.ok {a : α} {P : α → Prop} (h : P a) : T (some a) P := ⟨a, rfl, h⟩
theorem T.bind {o : Option α} {f : α → Option β} {Q : α → Prop} {P : β → Prop} (h : T o Q) (g : ∀ a, Q a → T (f a) P) : T (o.bind f) P := by
 obtain ⟨a, rfl, h⟩ := h
 exact g a h
theorem T.bif {c : Bool} {a b : Option α} {P : α → Prop} (h : c = true → T a P) (g : c = false → T b P) : T (bif c then a else b) P := by
 cases c
 ·exact g rfl
 ·exact h rfl
theorem T.dif {p : Prop} [Decidable p] {a b : Option α} {P : α → Prop} (h : p → T a P) (g : ¬ p → T b P) : T (bif decide p then a else b) P :=
 T.bif (fun e => h (of_decide_eq_true e)) fun e => g (of_decide_eq_false e)
theorem T.mono {o : Option α} {P Q : α → Prop} (h : T o P) (g : ∀ a, P a → Q a) : T o Q := by
 obtain ⟨a, h1, h2⟩ := h
 exact ⟨a, h1, g a h2⟩
theorem T.get {o : Option Bool} {P : Bool → Prop} (h : T o P) : o = some (o.getD false) := by
 obtain ⟨a, rfl, _⟩ := h
 rfl
theorem T.at {o : Option α} {P : α → Prop} {a : α} (h : T o P) (e : o = some a) : P a := by
 obtain ⟨b, e2, h2⟩ := h
 rw [e] at e2
 cases e2
 exact h2
theorem T.idx {l : List α} {i : Int} {P : α → Prop} (h0 : 0 ≤ i) (h : i < (l.length : Int)) (g : ∀ (k : Nat) (hk : k < l.length), i = (k : Int) → P l[k]) : T (idx l i) P := by
 obtain ⟨k, rfl⟩ : ∃ k : Nat, i = k := ⟨i.toNat, by omega⟩
 exact ⟨_, zdW rfl (by omega), g k (by omega) rfl⟩
theorem T.ix {l : List α} {i : Int} (h0 : 0 ≤ i) (h : i < (l.length : Int)) : T (Go.Proofs.YtebbcofojchkpaaGreatDoor.idx l i) fun _ => True := T.idx h0 h fun _ _ _ => trivial
theorem T.iter {body : σ → Option (σ ⊕ β)} (I : σ → Prop) (m : σ → Nat) (G : β → Prop) (hr : ∀ s, I s → T (body s) fun r => match r with
  | .inl s' => I s' ∧ m s' < m s
  | .inr b => G b) {s : σ} (hs : I s) (hm : m s < 1099511627776) : T (iter body s) G :=
 yaW I m G (fun s hs => by
  obtain ⟨r, h1, h2⟩ := hr s hs
  cases r with
  | inl s' => exact .inl ⟨s', h1, h2⟩
  | inr b => exact .inr ⟨b, h1, h2⟩) FU s hs (by unfold FU; exact hm)
theorem zmX {a b : List α} (h : a.length + b.length ≤ 68719476736) : app a b = some (a ++ b) := by
 unfold app
 rw [zbC (by unfold LIM; omega)]
theorem zuH (xs : List α) (h : xs.length ≤ 68719476736) : app ([] : List α) xs = some xs := by
 rw [zmX (by simpa using h)]; rfl
theorem T.app {a b : List α} {P : List α → Prop} (h : a.length + b.length ≤ 68719476736) (g : P (a ++ b)) : T (app a b) P := ⟨_, zmX h, g⟩
theorem T.places {body : Int → Option (Int ⊕ β)} (n : Nat) (hn : n < 1099511627776) (G : β → Prop) (hr : ∀ k : Nat, k ≤ n → T (body (k : Int)) fun r => match r with
  | .inl s' => s' = ((k + 1 : Nat) : Int) ∧ k < n
  | .inr b => G b) : T (Go.Proofs.YtebbcofojchkpaaGreatDoor.iter body 0) G := by
 refine T.iter (fun i => 0 ≤ i ∧ i ≤ (n : Int)) (fun i => (n - i).toNat) G (fun i hi => ?_) ⟨by omega, by omega⟩ (by omega)
 obtain ⟨k, rfl⟩ : ∃ k : Nat, i = k := ⟨i.toNat, by omega⟩
 refine (hr k (by omega)).mono fun r h => ?_
 cases r with
 | inl s => obtain ⟨rfl, h⟩ := h; exact ⟨⟨by omega, by omega⟩, by omega⟩
 | inr b => exact h
end
theorem ywF (s : ByteArray) (pos : Nat) : 1 ≤ (Utf8.decode s pos).2 := by
 unfold Utf8.decode
 simp only []
 repeat' split
 all_goals simp
theorem xaT {l : Bs} {p : Nat} (h : p < l.length) : p < nxP l p := by
 unfold nxP dec
 rw [zbC h]
 have := ywF ⟨l.toArray⟩ p
 omega
theorem yzK (s cs : Bs) (h : s.length ≤ 1048576) (h2 : cs.length < 4294967281) (h3 : cs.all (fun b => decide (b.toNat < 128)) = true) : T (zaB.trim s cs) fun _ => True := by
 refine ⟨Lib.trimS s cs, ?_, trivial⟩
 show ztN s cs = _
 unfold ztN
 rw [decide_eq_true (show s.length ≤ 9223372036854775807 by omega), decide_eq_true h2, h3]
 rfl
theorem of_t (v : Bs) (n : Int) (cs : Bs) (hn : n ≤ 1048576) (h2 : cs.length < 4294967281) (h3 : cs.all (fun b => decide (b.toNat < 128)) = true) : T (zdL zaB v n cs) fun _ => True := by
 unfold zdL
 refine T.bif (fun _ => T.dif (fun h => ?_) fun _ => T.ok trivial) fun _ => T.ok trivial
 exact (yzK v cs (by omega) h2 h3).bind fun _ _ => T.ok trivial
theorem ywM (s : Bs) : T (zdH zaB s) fun _ => True := by
 unfold zdH
 exact (of_t s _ _ (by decide) (by decide) (by decide)).bind fun _ _ => T.ok trivial
theorem ylY (s : Bs) : T (zcL zaB s) fun _ => True := by
 unfold zcL
 exact (of_t s _ _ (by decide) (by decide) (by decide)).bind fun _ _ => T.ok trivial
theorem yrW {α : Type} {s : List α} {n : Int} (h0 : 0 ≤ n) (h : n ≤ (s.length : Int)) : T (subH s n) fun _ => True := by
 obtain ⟨k, rfl⟩ : ∃ k : Nat, n = k := ⟨n.toNat, by omega⟩
 unfold subH
 rw [decide_eq_true (show (0 : Int) ≤ (k : Int) by omega), decide_eq_true h]
 exact ⟨_, rfl, trivial⟩
theorem yrY {α : Type} {s : List α} {n : Int} (h0 : 0 ≤ n) (h : n ≤ (s.length : Int)) : T (subL s n) fun _ => True := by
 obtain ⟨k, rfl⟩ : ∃ k : Nat, n = k := ⟨n.toNat, by omega⟩
 unfold subL
 rw [decide_eq_true (show (0 : Int) ≤ (k : Int) by omega), decide_eq_true h]
 exact ⟨_, rfl, trivial⟩
theorem yrX (s : Bs) : T (zbA zaB s) fun _ => True := by
 unfold zbA
 refine T.dif (fun h => (yrW (by omega) (by omega)).bind fun _ _ => T.bif (fun _ => (yrY (by omega) (by omega)).bind fun _ _ => (ylY _).bind fun _ _ => T.ok trivial) fun _ => (yrW (by omega) (by omega)).bind fun _ _ => T.bif (fun _ => (yrY (by omega) (by omega)).bind fun _ _ => (ylY _).bind fun _ _ => T.ok trivial) fun _ => T.ok trivial) fun _ => T.ok trivial
theorem yyU (s : Bs) : T (zhJ zaB s) fun _ => True := by
 unfold zhJ
 exact (yrX s).bind fun _ _ => T.ok trivial
theorem xaG (l : List Bs) (h : l.length ≤ 1048576) : T (zaM zaB l) fun _ => True := by
 unfold zaM zgK
 refine T.bind (Q := fun _ => True) (T.bind (Q := fun _ => True) (T.places l.length (by omega) (fun _ => True) fun k hk => ?_) fun r _ => ?_) fun _ _ => T.ok trivial
 ·unfold zfI
  refine T.dif (fun h2 => ?_) fun _ => T.ok trivial
  refine (T.ix (by omega) h2).bind fun _ _ => (yyU _).bind fun _ _ => T.bif (fun _ => T.ok trivial) fun _ => T.ok ⟨?_, by omega⟩
  rw [ziX (by omega) (by omega)]; omega
 ·cases r <;> exact T.ok trivial
theorem yyM (s : Bs) : T (zdB zaB s) fun _ => True := by
 unfold zdB
 refine T.bif (fun _ => T.dif (fun h => ?_) fun _ => T.ok trivial) fun _ => T.ok trivial
 refine T.bind (Q := fun _ => True) ?_ fun _ _ => T.ok trivial
 unfold zcI zfB zfH
 refine T.bind (Q := fun _ => True) (T.bind (Q := fun _ => True) (T.bind (Q := fun _ => True) (T.iter (fun x => x.1 = s ∧ 0 ≤ x.2) (fun x => s.length - x.2.toNat) (fun _ => True) (fun x hx => ?_) ⟨rfl, Int.le_refl _⟩ (by simp; omega)) fun r _ => ?_) fun _ _ => T.ok trivial) fun _ _ => T.ok trivial
 ·obtain ⟨v, i⟩ := x
  obtain ⟨rfl, h0⟩ := hx
  unfold zeN
  simp only at h0 ⊢
  refine T.dif (fun h2 => ?_) fun _ => T.ok trivial
  refine T.bind (Q := fun _ => True) ?_ fun _ _ => T.bif (fun _ => T.ok trivial) fun _ => T.ok ⟨⟨rfl, by simp⟩, ?_⟩
  ·unfold zgS
   exact T.dif (fun _ => T.ok trivial) fun _ => T.ok trivial
  ·have := xaT h2
   simp only [Int.toNat_natCast]
   omega
 ·cases r <;> exact T.ok trivial
theorem yuR (n a b : Int) : zaP zaB n a b = some (decide (a ≤ n) && decide (n ≤ b)) := by
 unfold zaP
 by_cases h : n ≥ a
 ·rw [zbC h]; simp [show a ≤ n from h]
 ·rw [zaR h]; simp [show ¬ a ≤ n from h]
theorem yfB {c a b : Bool} : (bif c then some a else some b) = some (bif c then a else b) := by cases c <;> rfl
theorem ytT {c a : Bool} : (bif c then a else false) = (c && a) := by cases c <;> rfl
abbrev L8 : Type := Bs
abbrev Nd : Type := Int × Int × Int × L8 × L8 × L8 × List L8 × Int × Int × Bool × Bool × List L8 × Int × L8 × L8
abbrev Es : Type := List (Int × Nd)
abbrev npar (n : Nd) : Int := n.2.2.1
abbrev zdA (n : Nd) : List L8 := n.2.2.2.2.2.2.1
abbrev nexp (n : Nd) : Int := n.2.2.2.2.2.2.2.2.1
abbrev ygU (n : Nd) : Bool := n.2.2.2.2.2.2.2.2.2.1
abbrev zxR (n : Nd) : Bool := n.2.2.2.2.2.2.2.2.2.2.1
abbrev nact (n : Nd) : List L8 := n.2.2.2.2.2.2.2.2.2.2.2.1
abbrev nsec (n : Nd) : L8 := n.2.2.2.2.2.2.2.2.2.2.2.2.2.1
abbrev ypI (n : Nd) : L8 := n.2.2.2.2.2.2.2.2.2.2.2.2.2.2
def scB (s : L8) : Bool := (zdH zaB s).getD false
def nmB (s : L8) : Bool := (zcL zaB s).getD false
def prB (s : L8) : Bool := (zbA zaB s).getD false
def txB (s : L8) : Bool := (zdB zaB s).getD false
def axB (l : List L8) : Bool := (zaM zaB l).getD false
theorem ylV (s : L8) : zdH zaB s = some (scB s) := (ywM s).get
theorem ykT (s : L8) : zcL zaB s = some (nmB s) := (ylY s).get
theorem yqF (s : L8) : zbA zaB s = some (prB s) := (yrX s).get
theorem ywQ (s : L8) : zdB zaB s = some (txB s) := (yyM s).get
theorem yzC {l : List L8} (h : l.length ≤ 1048576) : zaM zaB l = some (axB l) := (xaG l h).get
def scpF (l : List L8) : Nat → Nat → Bool
 | 0, _ => true
 | f + 1, i => match l[i]? with
  | none => true
  | some s => scB s && (decide (i = 0) || !(match l[i - 1]? with | none => true | some q => Op.bytesLess s q || s == q)) && scpF l f (i + 1)
theorem ymM (n : Nd) (h : (zdA n).length ≤ 1048576) : ∀ (f i k : Nat), f + i = (zdA n).length → f < k →
  zkC (fun x : Int × Nd => zfF zaB n x.1 x.2.1 x.2.2.1 x.2.2.2.1 x.2.2.2.2.1 x.2.2.2.2.2.1 x.2.2.2.2.2.2.1 x.2.2.2.2.2.2.2.1 x.2.2.2.2.2.2.2.2.1 x.2.2.2.2.2.2.2.2.2.1 x.2.2.2.2.2.2.2.2.2.2.1 x.2.2.2.2.2.2.2.2.2.2.2.1 x.2.2.2.2.2.2.2.2.2.2.2.2.1 x.2.2.2.2.2.2.2.2.2.2.2.2.2.1 x.2.2.2.2.2.2.2.2.2.2.2.2.2.2.1 x.2.2.2.2.2.2.2.2.2.2.2.2.2.2.2) k ((i : Int), n) = some (bif scpF (zdA n) f i then Sum.inr n else Sum.inl false)
 | 0, i, k + 1, hf, _ => by
  rw [zaL (b := Sum.inr n)]
  ·rfl
  ·unfold zfF
   rw [zaR (show ¬ (i : Int) < ((zdA n).length : Int) by omega)]
 | f + 1, i, k + 1, hf, hk => by
  have hi : i < (zdA n).length := by omega
  unfold scpF
  rw [List.getElem?_eq_getElem hi]
  simp only []
  cases hs : scB (zdA n)[i] with
  | false =>
   simp only [Bool.false_and, cond_false]
   refine zaL ?_
   unfold zfF
   simp only []
   rw [zbC (show (i : Int) < ((zdA n).length : Int) by omega), zdW rfl hi, zaA, ylV, hs, zaA]
   rfl
  | true =>
   simp only [Bool.true_and]
   by_cases h0 : i = 0
   ·subst h0
    simp only [decide_true, Bool.true_or, Bool.true_and]
    rw [zbB (s' := (((1 : Nat) : Int), n))]
    ·exact ymM n h f 1 k (by omega) (by omega)
    ·unfold zfF
     simp only []
     rw [zbC (show ((0 : Nat) : Int) < ((zdA n).length : Int) by omega), zdW rfl hi, zaA, ylV, hs, zaA]
     rfl
   ·have hp : i - 1 < (zdA n).length := by omega
    rw [List.getElem?_eq_getElem hp]
    simp only [decide_eq_false h0, Bool.false_or]
    have e1 : w64 ((i : Int) - 1) = ((i - 1 : Nat) : Int) := by rw [ziX (by omega) (by omega)]; omega
    have e2 : w64 ((i : Int) + 1) = ((i + 1 : Nat) : Int) := by rw [ziX (by omega) (by omega)]; omega
    have hb : zfF zaB n (i : Int) n.1 n.2.1 n.2.2.1 n.2.2.2.1 n.2.2.2.2.1 n.2.2.2.2.2.1 n.2.2.2.2.2.2.1 n.2.2.2.2.2.2.2.1 n.2.2.2.2.2.2.2.2.1 n.2.2.2.2.2.2.2.2.2.1 n.2.2.2.2.2.2.2.2.2.2.1 n.2.2.2.2.2.2.2.2.2.2.2.1 n.2.2.2.2.2.2.2.2.2.2.2.2.1 n.2.2.2.2.2.2.2.2.2.2.2.2.2.1 n.2.2.2.2.2.2.2.2.2.2.2.2.2.2 = bif (Op.bytesLess (zdA n)[i] (zdA n)[i - 1] || (zdA n)[i] == (zdA n)[i - 1]) then some (.inr (.inl false)) else some (.inl (((i + 1 : Nat) : Int), n)) := by
     unfold zfF
     rw [zbC (show (i : Int) < ((zdA n).length : Int) by omega), zdW rfl hi, zaA, ylV, hs, zaA]
     simp only [Bool.not_true, cond_false]
     rw [zbC (show (i : Int) > 0 by omega), e1, zdW rfl hp, zaA, e2]
    cases hq : (Op.bytesLess (zdA n)[i] (zdA n)[i - 1] || (zdA n)[i] == (zdA n)[i - 1]) with
    | true =>
     rw [hq] at hb
     simp only [Bool.not_true, Bool.false_and, cond_false]
     exact zaL hb
    | false =>
     rw [hq] at hb
     simp only [Bool.not_false, Bool.true_and]
     rw [zbB (s' := (((i + 1 : Nat) : Int), n)) hb]
     exact ymM n h f (i + 1) k (by omega) (by omega)
def inB (n a b : Int) : Bool := decide (a ≤ n) && decide (n ≤ b)
def mayB (n : Nd) : Bool := scpF (zdA n) (zdA n).length 0 && inB n.2.1 1 5 && decide (n.2.2.1 ≥ 0) && prB n.2.2.2.1 && (n.2.2.2.2.1 == ([] : L8) || nmB n.2.2.2.2.1) && (n.2.2.2.2.2.1 == ([] : L8) || txB n.2.2.2.2.2.1) && decide (((zdA n).length : Int) ≤ 16) && inB n.2.2.2.2.2.2.2.1 0 1099511627776 && inB (nexp n) 0 1099511627776 && decide (((nact n).length : Int) ≤ 4) && !axB (nact n) && inB n.2.2.2.2.2.2.2.2.2.2.2.2.1 0 3 && inB ((nsec n).length : Int) 1 64 && decide (((ypI n).length : Int) ≤ 256)
theorem ysQ (n : Nd) (h : (zdA n).length ≤ 1048576) : ziA zaB n = some (mayB n) := by
 unfold ziA
 rw [show iter _ ((0 : Int), n) = _ from ymM n h (zdA n).length 0 FU (by omega) (by unfold FU; omega), zaA]
 unfold mayB
 cases scpF (zdA n) (zdA n).length 0 with
 | false => simp only [cond_false, Bool.false_and]
 | true =>
  simp only [cond_true, Bool.true_and, yuR, yqF, ykT, ywQ, zaA]
  by_cases h4 : ((nact n).length : Int) ≤ 4
  ·rw [yzC (l := n.2.2.2.2.2.2.2.2.2.2.2.1) (by have : ((n.2.2.2.2.2.2.2.2.2.2.2.1).length : Int) ≤ 4 := h4; omega)]
   simp only [zaA, yfB]
   simp only [ytT]
   unfold inB
   congr 1
   cases (n.2.2.2.2.1 == ([] : L8)) <;> cases nmB n.2.2.2.2.1 <;> cases (n.2.2.2.2.2.1 == ([] : L8)) <;> cases txB n.2.2.2.2.2.1 <;> simp only [cond_true, cond_false, Bool.false_and, Bool.true_and, Bool.and_false, Bool.or_true, Bool.or_false, Bool.true_or, Bool.false_or, Bool.and_assoc]
  ·have h5 : decide (((n.2.2.2.2.2.2.2.2.2.2.2.1).length : Int) ≤ 4) = false := decide_eq_false h4
   simp only [h5, cond_false, zaA, yfB, Bool.and_false, Bool.false_and, Bool.cond_self]
section
variable {S R : Type}
theorem yeR {f : S → List (Option (S ⊕ R))} (hne : ∀ s, f s ≠ []) : ∀ (n : Nat) {s : S} {r r' : R} {m : Nat}, Rng f n s r → Rng f m s r' → r = r'
 | 0, _, _, _, _, h, _ => h.elim
 | _ + 1, _, _, _, 0, _, h => h.elim
 | n + 1, s, r, r', m + 1, h, h' => by
  obtain ⟨o, ho⟩ := List.exists_mem_of_ne_nil _ (hne s)
  have h1 := h o ho
  have h2 := h' o ho
  match o, h1, h2 with
  | some (.inl s'), h1, h2 => exact yeR hne n h1 h2
  | some (.inr r0), h1, h2 => exact h1.symm.trans h2
theorem yuL {f : S → List (Option (S ⊕ R))} (hne : ∀ s, f s ≠ []) {n : Nat} {s : S} {r : R} (h : Rng f n s r) : rngA f s = some r := by
 unfold rngA
 have hx : ∃ r n, Rng f n s r := ⟨r, n, h⟩
 rw [dif_pos hx]
 obtain ⟨m, hm⟩ := hx.choose_spec
 rw [yeR hne m hm h]
theorem ytK {α γ : Type} (l : List α) (d : γ) (F : α → γ) : rngL l d F ≠ [] := by
 unfold rngL
 cases l <;> simp
theorem xbW {α γ : Type} {l : List α} {d : γ} {F : α → γ} {o : γ} (h : o ∈ rngL l d F) : (l = [] ∧ o = d) ∨ ∃ p ∈ l, o = F p := by
 unfold rngL at h
 cases l with
 | nil => exact .inl ⟨rfl, List.mem_singleton.1 h⟩
 | cons x l =>
  obtain ⟨p, hp, rfl⟩ := List.mem_map.1 h
  exact .inr ⟨p, hp, rfl⟩
theorem ygA {γ : Type} {es : List (Int × γ)} {left : List Int} {p : Int × γ} : p ∈ rngC keqI es left ↔ p ∈ es ∧ p.1 ∈ left := by
 unfold rngC
 rw [List.mem_filter, List.any_eq_true]
 constructor
 ·rintro ⟨h, k, hk, e⟩
  rw [zcK.1 e]; exact ⟨h, hk⟩
 ·rintro ⟨h, hk⟩
  exact ⟨h, _, hk, zcK.2 rfl⟩
theorem yaB {left : List Int} {k j : Int} : j ∈ rngD keqI left k ↔ j ∈ left ∧ j ≠ k := by
 unfold rngD
 rw [List.mem_filter, Bool.not_eq_true', ← Bool.not_eq_true, zcK]
theorem ypX {left : List Int} {k : Int} (h : k ∈ left) : (rngD keqI left k).length < left.length := by
 unfold rngD
 refine List.length_filter_lt_length_iff_exists.2 ⟨k, h, ?_⟩
 rw [zcK.2 rfl]; simp
theorem ztR {γ : Type} {f : S → List (Option (S ⊕ R))} (I : S → Prop) (es : S → List (Int × γ)) (left : S → List Int) {d : S → Option (S ⊕ R)} {F : S → Int × γ → Option (S ⊕ R)} {r : R}
  (hf : ∀ s, f s = rngL (rngC keqI (es s) (left s)) (d s) (F s))
  (h1 : ∀ s, I s → (∀ p ∈ es s, p.1 ∉ left s) → d s = some (.inr r))
  (h2 : ∀ s p, I s → p ∈ es s → p.1 ∈ left s → (∃ s', F s p = some (.inl s') ∧ I s' ∧ left s' = rngD keqI (left s) p.1) ∨ F s p = some (.inr r)) {s : S} (hs : I s) : rngA f s = some r := by
 have key : ∀ n s, I s → (left s).length < n → Rng f n s r := by
  intro n
  induction n with
  | zero => intro s _ h; omega
  | succ n ih =>
   intro s hs hn o ho
   rw [hf] at ho
   rcases xbW ho with ⟨h3, rfl⟩ | ⟨p, hp, rfl⟩
   ·rw [h1 s hs fun p hp hl => by have := ygA.2 ⟨hp, hl⟩; rw [h3] at this; cases this]
    rfl
   ·obtain ⟨hp, hl⟩ := ygA.1 hp
    rcases h2 s p hs hp hl with ⟨s', e, hI, hle⟩ | e
    ·rw [e]
     refine ih s' hI ?_
     rw [hle]
     have := ypX hl
     omega
    ·rw [e]; rfl
 exact yuL (fun s => by rw [hf]; exact ytK _ _ _) (key _ s hs (Nat.lt_succ_self _))
end
abbrev zN : Nd := ((0 : Int), (0 : Int), (0 : Int), ([] : L8), ([] : L8), ([] : L8), ([] : List L8), (0 : Int), (0 : Int), false, false, ([] : List L8), (0 : Int), ([] : L8), ([] : L8))
def Lst (n : Nd) : Prop := (zdA n).length ≤ 1048576 ∧ (nact n).length ≤ 1048576
theorem own_ok {n : Nd} (h : Lst n) : zhB zaB n = some n := by
 have h1 : n.2.2.2.2.2.2.1.length ≤ 1048576 := h.1
 have h2 : n.2.2.2.2.2.2.2.2.2.2.2.1.length ≤ 1048576 := h.2
 unfold zhB
 rw [zuH _ (by omega), zaA, zuH _ (by omega), zaA]
structure Ok (nx : Int) (es : Es) : Prop where
 rises : zmM es
 ids : ∀ p ∈ es, p.2.1 = p.1 ∧ 1 ≤ p.1 ∧ p.1 < nx
 par : ∀ p ∈ es, 0 ≤ npar p.2 ∧ npar p.2 < p.1
 may : ∀ p ∈ es, mayB p.2 = true
 uniq : ∀ p ∈ es, ∀ q ∈ es, nsec p.2 = nsec q.2 → p = q
 next : 1 ≤ nx ∧ nx ≤ 99999999
 len : es.length ≤ 256
theorem zaQ {a b : Bool} (h : (a && b) = true) : a = true := by cases a <;> simp_all
theorem zpP {n : Nd} (h : mayB n = true) : (zdA n).length ≤ 16 ∧ (nact n).length ≤ 4 ∧ 1 ≤ (nsec n).length ∧ (nsec n).length ≤ 64 ∧ (ypI n).length ≤ 256 ∧ 0 ≤ npar n := by
 unfold mayB inB at h
 simp only [Bool.and_eq_true, decide_eq_true_eq] at h
 exact ⟨by omega, by omega, by omega, by omega, by omega, show 0 ≤ n.2.2.1 by omega⟩
theorem Ok.lst {nx : Int} {es : Es} (h : Ok nx es) {p : Int × Nd} (hp : p ∈ es) : Lst p.2 := by
 have := zpP (h.may p hp)
 exact ⟨by omega, by omega⟩
def zqI (es : Es) (sec : L8) : Option Nd := (es.find? fun p => nsec p.2 == sec).map (·.2)
theorem ztT {nx : Int} {es : Es} (h : Ok nx es) (sec : L8) : zcZ zaB sec nx es = some ((zqI es sec).getD zN, (zqI es sec).isSome, nx, es) := by
 unfold zcZ zqI
 cases hf : es.find? (fun p => nsec p.2 == sec) with
 | none =>
  have hn : ∀ p ∈ es, (nsec p.2 == sec) = false := fun p hp => by
   have := List.find?_eq_none.1 hf p hp
   simpa using this
  refine Eq.trans (bind_ok (a := Sum.inl (nx, es, 0, 0, 0, [], [], [], 0, 0, false, false, 0, [], [])) ?_) rfl
  refine ztR (fun s => ∃ left, s = (nx, es, 0, 0, 0, [], [], [], 0, 0, false, false, 0, [], [], left)) (fun s => s.2.1) (fun s => s.2.2.2.2.2.2.2.2.2.2.2.2.2.2.2) (hf := fun s => rfl) ?_ ?_ ⟨_, rfl⟩
  ·rintro s ⟨left, rfl⟩ _
   rfl
  ·rintro s p ⟨left, rfl⟩ hp hl
   refine .inl ⟨_, ?_, ⟨_, rfl⟩, rfl⟩
   simp only []
   rw [zmA h.rises (k := p.1) (v := p.2) hp, zaA]
   have := hn p hp
   simp only [nsec] at this
   rw [this]
   rfl
 | some q =>
  have hq := List.mem_of_find?_eq_some hf
  have hs : (nsec q.2 == sec) = true := List.find?_some (p := fun p : Int × Nd => nsec p.2 == sec) hf
  refine Eq.trans (bind_ok (a := Sum.inr (true, nx, es, q.2)) ?_) rfl
  refine ztR (fun s => ∃ left, s = (nx, es, 0, 0, 0, [], [], [], 0, 0, false, false, 0, [], [], left) ∧ q.1 ∈ left) (fun s => s.2.1) (fun s => s.2.2.2.2.2.2.2.2.2.2.2.2.2.2.2) (hf := fun s => rfl) ?_ ?_ ⟨_, rfl, List.mem_map.2 ⟨q, hq, rfl⟩⟩
  ·rintro s ⟨left, rfl, hl⟩ hn
   exact absurd hl (hn q hq)
  ·rintro s p ⟨left, rfl, hl⟩ hp hpl
   simp only []
   rw [zmA h.rises (k := p.1) (v := p.2) hp, zaA]
   cases he : p.2.2.2.2.2.2.2.2.2.2.2.2.2.2.1 == sec with
   | true =>
    have e : p = q := h.uniq p hp q hq (by
     have h1 : nsec p.2 = sec := beq_iff_eq.1 he
     have h2 : nsec q.2 = sec := beq_iff_eq.1 hs
     rw [h1, h2])
    subst e
    rw [own_ok (h.lst hp)]
    exact .inr rfl
   | false =>
    refine .inl ⟨_, rfl, ⟨_, rfl, yaB.2 ⟨hl, fun e => ?_⟩⟩, rfl⟩
    have e2 : p = q := by
     have := zmA h.rises (k := p.1) (v := p.2) hp
     rw [← e, zmA h.rises (k := q.1) (v := q.2) hq] at this
     exact Prod.ext e.symm (osi this).symm
    subst e2
    rw [show (p.2.2.2.2.2.2.2.2.2.2.2.2.2.2.1 == sec) = true from hs] at he
    cases he
def pth (es : Es) : Nat → Int → List Int
 | 0, _ => []
 | f + 1, id => match mget keqI es id with
  | none => []
  | some n => id :: pth es f (npar n)
theorem xaD (es : Es) (f : Nat) (id : Int) : pth es (f + 1) id = match mget keqI es id with
  | none => []
  | some n => id :: pth es f (npar n) := rfl
def zqF (es : Es) (id : Int) : List Int := pth es id.toNat id
theorem ymF (es : Es) : ∀ f id, (pth es f id).length ≤ f
 | 0, _ => Nat.le_refl _
 | f + 1, id => by
  unfold pth
  split
  ·simp
  ·simp only [List.length_cons]
   have := ymF es f (npar ‹_›)
   omega
theorem zxM {es : Es} {id : Int} (hm : mget keqI es id = none) : zqF es id = [] := by
 unfold zqF
 cases id.toNat with
 | zero => rfl
 | succ f => unfold pth; rw [hm]
theorem ymH {nx nx' : Int} {es : Es} (h : Ok nx es) : ∀ (f : Nat) (id : Int) (acc : List Int) (k : Nat), id.toNat ≤ f → f < k → acc.length + f ≤ 68719476736 →
  zkC (fun x : Bool × Int × Es × List Int × Nd => zhC zaB x.1 x.2.1 x.2.2.1 x.2.2.2.1 x.2.2.2.2.1 x.2.2.2.2.2.1 x.2.2.2.2.2.2.1 x.2.2.2.2.2.2.2.1 x.2.2.2.2.2.2.2.2.1 x.2.2.2.2.2.2.2.2.2.1 x.2.2.2.2.2.2.2.2.2.2.1 x.2.2.2.2.2.2.2.2.2.2.2.1 x.2.2.2.2.2.2.2.2.2.2.2.2.1 x.2.2.2.2.2.2.2.2.2.2.2.2.2.1 x.2.2.2.2.2.2.2.2.2.2.2.2.2.2.1 x.2.2.2.2.2.2.2.2.2.2.2.2.2.2.2.1 x.2.2.2.2.2.2.2.2.2.2.2.2.2.2.2.2.1 x.2.2.2.2.2.2.2.2.2.2.2.2.2.2.2.2.2.1 x.2.2.2.2.2.2.2.2.2.2.2.2.2.2.2.2.2.2) k (mhas keqI es id, nx', es, acc, zlQ keqI es id zN) = some (nx', es, acc ++ pth es f id)
 | f, id, acc, k + 1, hf, hk, ha => by
  cases hh : mhas keqI es id with
  | false =>
   have e : pth es f id = [] := by
    cases f with
    | zero => rfl
    | succ f => unfold pth; rw [ycN hh]
   rw [e, List.append_nil]
   exact zaL rfl
  | true =>
   obtain ⟨n, hn, hp⟩ := yeQ hh
   have h1 := (h.par _ hp).2
   have h2 := h.ids _ hp
   simp only at h1 h2
   rw [zzM hn]
   obtain ⟨f, rfl⟩ : ∃ g, f = g + 1 := ⟨f - 1, by omega⟩
   rw [zbB (s' := (mhas keqI es (npar n), nx', es, acc ++ [id], zlQ keqI es (npar n) zN))]
   ·rw [ymH h f (npar n) (acc ++ [id]) k (by omega) (by omega) (by simp; omega)]
    rw [xaD, hn]
    simp
   ·unfold zhC
    simp only [cond_true]
    rw [zmX (by simp; omega), zaA, h2.1]
theorem ylG {nx nx' : Int} {es : Es} (h : Ok nx es) (id : Int) : zcB zaB id nx' es = some (zqF es id, nx', es) := by
 unfold zcB
 simp only []
 cases hh : mhas keqI es id with
 | false =>
  rw [zxM (ycN hh), show iter _ (false, nx', es, ([] : List Int), zlQ keqI es id zN) = some (nx', es, []) from zaL rfl, zaA]
 | true =>
 have hi : id ≤ 68719476736 := by
  obtain ⟨v, hv⟩ := zhM.1 hh
  have h1 := h.ids _ hv
  have h2 := h.next
  simp only at h1
  omega
 rw [← hh]
 rw [show iter _ (mhas keqI es id, nx', es, ([] : List Int), zlQ keqI es id zN) = _ from ymH h id.toNat id [] FU (Nat.le_refl _) (by unfold FU; omega) (by simp; omega), zaA]
 rfl
theorem ybV {nx : Int} {es : Es} (h : Ok nx es) (id : Int) : (zqF es id).length ≤ 99999999 := by
 cases hm : mget keqI es id with
 | none => rw [zxM hm]; simp
 | some n =>
  have h1 := h.ids _ (zrL hm)
  have h2 := h.next
  simp only at h1
  have := ymF es id.toNat id
  unfold zqF
  omega
def yaZ (es : Es) (k : Int) : Bool := ygU (zlQ keqI es k zN)
theorem ykH {α : Type} {l : List α} {p : α → Bool} {k : Nat} (hk : k < l.length) (h : p l[k] = true) : l.any p = true := List.any_eq_true.2 ⟨_, List.getElem_mem hk, h⟩
theorem zzQ {α : Type} {l : List α} {p : α → Bool} {k : Nat} (hk : k < l.length) (h : (l.take k).any p = false) (h2 : p l[k] = false) : (l.take (k + 1)).any p = false := by
 rw [List.take_succ_eq_append_getElem hk, List.any_append, h, List.any_cons, h2]; rfl
theorem ytP {nx : Int} {es : Es} {l : List Int} (hl : l.length ≤ 99999999) : zdR zaB l nx es = some (l.any (yaZ es), nx, es) := by
 have h : T (iter (fun x : Int × Int × Es => zhI zaB l x.1 x.2.1 x.2.2) ((0 : Int), nx, es)) fun r => match r with
   | .inl v => v.2 = (nx, es) ∧ 0 ≤ v.1 ∧ l.any (yaZ es) = true
   | .inr v => v = (nx, es) ∧ l.any (yaZ es) = false := by
  refine T.iter (fun x => x.2 = (nx, es) ∧ 0 ≤ x.1 ∧ x.1 ≤ (l.length : Int) ∧ (l.take x.1.toNat).any (yaZ es) = false) (fun x => l.length - x.1.toNat) _ (fun x hx => ?_) ⟨rfl, Int.le_refl _, by simp, rfl⟩ (by simp; omega)
  obtain ⟨i, v⟩ := x
  obtain ⟨h1, h2, h3, h4⟩ := hx
  simp only at h1 h2 h3 h4
  subst h1
  obtain ⟨k, rfl⟩ : ∃ k : Nat, i = k := ⟨i.toNat, by omega⟩
  rw [Int.toNat_natCast] at h4
  unfold zhI
  simp only []
  refine T.dif (fun h5 => ?_) fun h5 => T.ok ⟨rfl, ?_⟩
  ·have hk : k < l.length := by omega
   rw [zdW rfl hk, zaA]
   unfold zgC
   simp only [zaA]
   refine T.bif (fun h6 => T.ok ⟨rfl, by simp, ykH hk h6⟩) fun h6 => T.ok ⟨⟨rfl, ?_, ?_, ?_⟩, ?_⟩
   ·simp only []; rw [ziX (by omega) (by omega)]; omega
   ·simp only []; rw [ziX (by omega) (by omega)]; omega
   ·simp only []
    rw [ziX (by omega) (by omega), show ((k : Int) + 1).toNat = k + 1 by omega]
    exact zzQ hk h4 h6
   ·simp only []; rw [ziX (by omega) (by omega)]; omega
  ·rw [List.take_of_length_le (by omega)] at h4
   exact h4
 unfold zdR zhR
 obtain ⟨r, h1, h2⟩ := h
 rw [h1, zaA]
 cases r with
 | inl v =>
  obtain ⟨i, v⟩ := v
  obtain ⟨h3, h4, h5⟩ := h2
  simp only at h3 h4 h5
  subst h3
  rw [h5]
  simp only [zaA]
  rw [decide_eq_true (show i ≥ 0 by omega)]
 | inr v =>
  obtain ⟨h3, h5⟩ := h2
  subst h3
  rw [h5]
  rfl
def ypF (es : Es) (id : Int) : Bool := (zqF es id).any (yaZ es)
theorem ymJ {nx nx' : Int} {es : Es} (h : Ok nx es) (id : Int) : zcY zaB id nx' es = some (ypF es id, nx', es) := by
 unfold zcY
 rw [ylG h, zaA, ytP (ybV h id), zaA]
 rfl
def canB (n : Nd) (now : Int) : Bool := !ygU n && !zxR n && decide (nexp n > now)
theorem yxT (n : Nd) (now : Int) : zmH zaB n now = some (canB n now) := by
 obtain ⟨a0, a1, a2, a3, a4, a5, a6, a7, a8, a9, a10, a11, a12, a13, a14⟩ := n
 unfold zmH canB
 simp only [ygU, zxR, nexp]
 cases a9 with
 | true => exact bind_ok (a := Sum.inl false) (zaL rfl)
 | false =>
  cases a10 with
  | true =>
   refine bind_ok (a := Sum.inl false) ?_
   show zkC _ (1099511627774 + 1 + 1) _ = _
   rw [zbB rfl]
   exact zaL rfl
  | false =>
   by_cases h : a8 > now
   ·have e : decide (a8 > now) = true := decide_eq_true h
    refine Eq.trans (bind_ok (a := Sum.inr ()) ?_) (by rw [e]; rfl)
    show zkC _ (1099511627772 + 1 + 1 + 1 + 1) _ = _
    rw [zbB rfl, zbB rfl, zbB (s' := ((3 : Int), a0, a1, a2, a3, a4, a5, a6, a7, a8, false, false, a11, a12, a13, a14))]
    ·exact zaL rfl
    ·show ziN zaB now 2 a0 a1 a2 a3 a4 a5 a6 a7 a8 false false a11 a12 a13 a14 = _
     unfold ziN zfD
     simp only [e, zaA]
     rfl
   ·have e : decide (a8 > now) = false := decide_eq_false h
    refine Eq.trans (bind_ok (a := Sum.inl false) ?_) (by rw [e]; rfl)
    show zkC _ (1099511627773 + 1 + 1 + 1) _ = _
    rw [zbB rfl, zbB rfl]
    refine zaL ?_
    show ziN zaB now 2 a0 a1 a2 a3 a4 a5 a6 a7 a8 false false a11 a12 a13 a14 = _
    unfold ziN zfD
    simp only [e, zaA]
    rfl
def zxE (es : Es) (id now : Int) : Bool := match mget keqI es id with
 | none => false
 | some n => canB n now && !ypF es id
theorem ytH {nx nx' : Int} {es : Es} (h : Ok nx es) (id now : Int) : zbI zaB id now nx' es = some (zxE es id now, nx', es) := by
 unfold zbI zxE
 simp only []
 cases hh : mhas keqI es id with
 | false => rw [ycN hh]; rfl
 | true =>
  obtain ⟨n, hn, hp⟩ := yeQ hh
  rw [hn, zzM hn]
  simp only [cond_true]
  rw [yxT, zaA]
  cases canB n now with
  | false => rfl
  | true =>
   simp only [cond_true, Bool.true_and]
   rw [ymJ h, zaA]
theorem yaE : ∀ {l : List Int}, l.Pairwise (fun x y => x < y) → zsU l = true
 | [], _ => rfl
 | [x], _ => rfl
 | x :: y :: l, h => by
  have hc := List.pairwise_cons.1 h
  unfold zsU
  rw [decide_eq_true (hc.1 y List.mem_cons_self), yaE hc.2]
  rfl
theorem zyX {nx nx' : Int} {es : Es} (h : Ok nx es) : zbP zaB nx' es = some (nx', es, es.map (·.2)) := by
 have hl := h.len
 have hr : (es.map (·.1)).Pairwise (fun x y => x < y) := List.pairwise_map.2 h.rises
 have hk : zpT es = true := by
  unfold zpT
  rw [decide_eq_true (show es.length ≤ 1048576 by omega), yaE hr, Bool.and_true, Bool.true_and, List.all_eq_true]
  intro p hp
  have h1 := h.ids p hp
  have h2 := h.next
  rw [decide_eq_true (show -9223372036854775808 ≤ p.1 by omega), decide_eq_true (show p.1 ≤ 9223372036854775807 by omega)]
  rfl
 unfold zbP zrB zuD
 rw [decide_eq_true (show (0 : Int) ≤ (es.length : Int) by omega), decide_eq_true (show (es.length : Int) ≤ (LIM : Int) by unfold LIM; omega), Bool.and_self, ycJ rfl, zaA, show mkL (0 : Int) _ = some ([] : List Nd) from xaA (n := 0) (by omega), zaA, zaA, hk]
 simp only [cond_true, zaA]
 rw [show iter _ ((0 : Int), nx', es, ([] : List Nd)) = some (nx', es, es.map (·.2)) from ?_, zaA]
 refine zmC (fun k => ((k : Int), nx', es, (es.take k).map (·.2))) es.length (by omega) _ (fun k hk => ?_) ?_
 ·unfold zfU
  simp only []
  have hm : (k : Int) < ((es.map (·.1)).length : Int) := by rw [List.length_map]; omega
  rw [zbC hm, zdW (i := k) rfl (by rw [List.length_map]; exact hk), zaA, List.getElem_map, zzM (zmA h.rises (k := es[k].1) (v := es[k].2) (List.getElem_mem hk)), own_ok (h.lst (List.getElem_mem hk)), zaA, zmX (by simp; omega), zaA, ziX (by omega) (by omega), List.take_succ_eq_append_getElem hk, List.map_append]
  rfl
 ·unfold zfU
  simp only []
  rw [zaR (by simp), List.take_of_length_le (Nat.le_refl _)]
def chE (es : Es) (f : Int × Nd → Nd) : Es := es.map fun p => (p.1, f p)
theorem yoN (es : Es) (f : Int × Nd → Nd) : (chE es f).map (·.1) = es.map (·.1) := by
 unfold chE
 rw [List.map_map]
 rfl
theorem zvC {es : Es} {f : Int × Nd → Nd} {p : Int × Nd} (h : p ∈ chE es f) : ∃ q ∈ es, p = (q.1, f q) := by
 obtain ⟨q, h1, h2⟩ := List.mem_map.1 h
 exact ⟨q, h1, h2.symm⟩
theorem ywA (es : Es) (f : Int × Nd → Nd) : (chE es f).length = es.length := List.length_map ..
structure yhP (es : Es) (f : Int × Nd → Nd) : Prop where
 id : ∀ p ∈ es, (f p).1 = p.2.1
 par : ∀ p ∈ es, npar (f p) = npar p.2
 sec : ∀ p ∈ es, nsec (f p) = nsec p.2
 may : ∀ p ∈ es, mayB p.2 = true → mayB (f p) = true
theorem Ok.ch {nx : Int} {es : Es} (h : Ok nx es) {f : Int × Nd → Nd} (k : yhP es f) : Ok nx (chE es f) where
 rises := zxV (yoN es f) h.rises
 ids p hp := by
  obtain ⟨q, hq, rfl⟩ := zvC hp
  have := h.ids q hq
  simp only [k.id q hq]
  exact this
 par p hp := by
  obtain ⟨q, hq, rfl⟩ := zvC hp
  have := h.par q hq
  simp only [k.par q hq]
  exact this
 may p hp := by
  obtain ⟨q, hq, rfl⟩ := zvC hp
  exact k.may q hq (h.may q hq)
 uniq p hp q hq e := by
  obtain ⟨p', hp', rfl⟩ := zvC hp
  obtain ⟨q', hq', rfl⟩ := zvC hq
  simp only [k.sec p' hp', k.sec q' hq'] at e
  rw [h.uniq p' hp' q' hq' e]
 next := h.next
 len := by rw [ywA]; exact h.len
def chI (es : Es) (id : Int) (g : Nd → Nd) : Es := chE es fun p => if p.1 = id then g p.2 else p.2
abbrev ygX (n : Nd) : Nd := (n.1, n.2.1, n.2.2.1, n.2.2.2.1, n.2.2.2.2.1, n.2.2.2.2.2.1, n.2.2.2.2.2.2.1, n.2.2.2.2.2.2.2.1, n.2.2.2.2.2.2.2.2.1, true, n.2.2.2.2.2.2.2.2.2.2.1, n.2.2.2.2.2.2.2.2.2.2.2.1, n.2.2.2.2.2.2.2.2.2.2.2.2.1, n.2.2.2.2.2.2.2.2.2.2.2.2.2.1, n.2.2.2.2.2.2.2.2.2.2.2.2.2.2)
abbrev ysM (n : Nd) : Nd := (n.1, n.2.1, n.2.2.1, n.2.2.2.1, n.2.2.2.2.1, n.2.2.2.2.2.1, n.2.2.2.2.2.2.1, n.2.2.2.2.2.2.2.1, n.2.2.2.2.2.2.2.2.1, n.2.2.2.2.2.2.2.2.2.1, true, n.2.2.2.2.2.2.2.2.2.2.2.1, n.2.2.2.2.2.2.2.2.2.2.2.2.1, n.2.2.2.2.2.2.2.2.2.2.2.2.2.1, n.2.2.2.2.2.2.2.2.2.2.2.2.2.2)
abbrev nlev (n : Nd) : Int := n.2.2.2.2.2.2.2.2.2.2.2.2.1
abbrev sLev (l : Int) (n : Nd) : Nd := (n.1, n.2.1, n.2.2.1, n.2.2.2.1, n.2.2.2.2.1, n.2.2.2.2.2.1, n.2.2.2.2.2.2.1, n.2.2.2.2.2.2.2.1, n.2.2.2.2.2.2.2.2.1, n.2.2.2.2.2.2.2.2.2.1, n.2.2.2.2.2.2.2.2.2.2.1, n.2.2.2.2.2.2.2.2.2.2.2.1, (bif decide (n.2.2.2.2.2.2.2.2.2.2.2.2.1 ≤ l) then l else n.2.2.2.2.2.2.2.2.2.2.2.2.1), n.2.2.2.2.2.2.2.2.2.2.2.2.2.1, n.2.2.2.2.2.2.2.2.2.2.2.2.2.2)
abbrev yyY (d : L8) (n : Nd) : Nd := (n.1, n.2.1, n.2.2.1, n.2.2.2.1, n.2.2.2.2.1, n.2.2.2.2.2.1, n.2.2.2.2.2.2.1, n.2.2.2.2.2.2.2.1, n.2.2.2.2.2.2.2.2.1, n.2.2.2.2.2.2.2.2.2.1, n.2.2.2.2.2.2.2.2.2.2.1, n.2.2.2.2.2.2.2.2.2.2.2.1, n.2.2.2.2.2.2.2.2.2.2.2.2.1, n.2.2.2.2.2.2.2.2.2.2.2.2.2.1, d)
theorem ztX {es : Es} {q : Int × Nd → Prop} [DecidablePred q] {g : Nd → Nd} (h1 : ∀ n, (g n).1 = n.1) (h2 : ∀ n, npar (g n) = npar n) (h3 : ∀ n, nsec (g n) = nsec n) (h4 : ∀ n, mayB n = true → mayB (g n) = true) : yhP es fun p => if q p then g p.2 else p.2 where
 id p _ := by split <;> simp only [h1]
 par p _ := by split <;> simp only [h2]
 sec p _ := by split <;> simp only [h3]
 may p _ h := by split; exact h4 _ h; exact h
theorem zqA {es : Es} (q : Int × Nd → Prop) [DecidablePred q] : yhP es fun p => if q p then ygX p.2 else p.2 := ztX (fun _ => rfl) (fun _ => rfl) (fun _ => rfl) fun _ h => h
theorem ycL {es : Es} (q : Int × Nd → Prop) [DecidablePred q] : yhP es fun p => if q p then ysM p.2 else p.2 := ztX (fun _ => rfl) (fun _ => rfl) (fun _ => rfl) fun _ h => h
theorem yhE {es : Es} (q : Int × Nd → Prop) [DecidablePred q] {d : L8} (hd : d.length ≤ 256) : yhP es fun p => if q p then yyY d p.2 else p.2 := ztX (fun _ => rfl) (fun _ => rfl) (fun _ => rfl) fun n h => by
 unfold mayB at h ⊢
 simp only [Bool.and_eq_true] at h ⊢
 exact ⟨h.1, decide_eq_true (by show (d.length : Int) ≤ 256; omega)⟩
theorem ynA {es : Es} (q : Int × Nd → Prop) [DecidablePred q] {l : Int} (h1 : 1 ≤ l) (h3 : l ≤ 3) : yhP es fun p => if q p then sLev l p.2 else p.2 := ztX (fun _ => rfl) (fun _ => rfl) (fun _ => rfl) fun n h => by
 unfold mayB at h ⊢
 simp only [Bool.and_eq_true] at h ⊢
 refine ⟨⟨⟨h.1.1.1, ?_⟩, h.1.2⟩, h.2⟩
 have h2 := h.1.1.2
 unfold inB at h2 ⊢
 simp only [Bool.and_eq_true, decide_eq_true_eq] at h2 ⊢
 by_cases hl : n.2.2.2.2.2.2.2.2.2.2.2.2.1 ≤ l
 ·simp only [decide_eq_true hl, cond_true]; omega
 ·simp only [decide_eq_false hl, cond_false]; exact h2
section
variable {γ : Type}
theorem yeM (j : Int) (v : γ) (k : Int) : ∀ (m : List (Int × γ)), mhas keqI (mins kltI m j v) k = (keqI j k || mhas keqI m k)
 | [] => rfl
 | (k', v') :: m => by
  unfold mins
  cases kltI k' j with
  | true =>
   simp only [cond_true, mhas, yeM j v k m]
   cases keqI k' k <;> cases keqI j k <;> rfl
  | false => rfl
theorem yqE (m : List (Int × γ)) (j : Int) (v : γ) (k : Int) : mhas keqI (mset keqI kltI m j v) k = (keqI j k || mhas keqI m k) := by
 unfold mset
 cases hj : mhas keqI m j with
 | true =>
  simp only [cond_true]
  rw [yjZ (zvE m j v)]
  cases hk : keqI j k with
  | true => rw [← zcK.1 hk, hj]; rfl
  | false => rfl
 | false => exact yeM j v k m
theorem yaN : ∀ {l m : List (Int × Unit)}, zmM l → zmM m → (∀ k, mhas keqI l k = mhas keqI m k) → l = m
 | [], [], _, _, _ => rfl
 | [], (k, u) :: m, _, _, h => by
  have := h k
  simp only [mhas, zcK.2, Bool.true_or] at this
  cases this
 | (k, u) :: l, [], _, _, h => by
  have := h k
  simp only [mhas, zcK.2, Bool.true_or] at this
  cases this
 | (k, ()) :: l, (j, ()) :: m, hl, hm, h => by
  have cl := List.pairwise_cons.1 hl
  have cm := List.pairwise_cons.1 hm
  have e : k = j := by
   have h1 := h k
   have h2 := h j
   simp only [mhas, zcK.2, Bool.true_or] at h1 h2
   have h1 := h1.symm
   rw [Bool.or_eq_true, zcK, zhM] at h1 h2
   rcases h1 with h1 | ⟨_, h1⟩
   ·exact h1.symm
   rcases h2 with h2 | ⟨_, h2⟩
   ·exact h2
   have a := cl.1 _ h2
   have b := cm.1 _ h1
   simp only at a b
   omega
  subst e
  congr 1
  refine yaN cl.2 cm.2 fun i => ?_
  have hi := h i
  simp only [mhas] at hi
  by_cases e : k = i
  ·subst e
   have n1 : mhas keqI l k = false := by
    cases hb : mhas keqI l k with
    | false => rfl
    | true =>
     obtain ⟨v, hv⟩ := zhM.1 hb
     have := cl.1 _ hv
     simp only at this
     omega
   have n2 : mhas keqI m k = false := by
    cases hb : mhas keqI m k with
    | false => rfl
    | true =>
     obtain ⟨v, hv⟩ := zhM.1 hb
     have := cm.1 _ hv
     simp only at this
     omega
   rw [n1, n2]
  ·rw [yfX e] at hi
   exact hi
theorem zwG : ∀ {es : List (Int × γ)}, zmM es → ∀ (k : Int), mdel keqI es k = es.filter fun p => !keqI p.1 k
 | [], _, _ => rfl
 | (k', v) :: m, h, k => by
  have hc := List.pairwise_cons.1 h
  unfold mdel
  cases hk : keqI k' k with
  | true =>
   rw [List.filter_cons_of_neg (by simp [hk])]
   simp only [cond_true]
   refine (List.filter_eq_self.2 fun p hp => ?_).symm
   have := hc.1 p hp
   have e := zcK.1 hk
   simp only at this
   rw [yfX (by omega)]
   rfl
  | false =>
   rw [List.filter_cons_of_pos (by simp [hk])]
   simp only [cond_false, zwG hc.2 k]
end
theorem ylN {α : Type} {l : List α} {p q : α → Bool} (h : ∀ x ∈ l, p x = q x) : l.any p = l.any q := by
 induction l with
 | nil => rfl
 | cons x l ih => rw [List.any_cons, List.any_cons, h x List.mem_cons_self, ih fun y hy => h y (List.mem_cons_of_mem _ hy)]
def zsX (m : List (Int × Unit)) (l : List Int) : List (Int × Unit) := l.foldl (fun m j => mset keqI kltI m j ()) m
theorem zxX (k : Int) : ∀ (l : List Int) (m : List (Int × Unit)), mhas keqI (zsX m l) k = (mhas keqI m k || l.contains k)
 | [], m => by simp [zsX]
 | j :: l, m => by
  show mhas keqI (zsX (mset keqI kltI m j ()) l) k = _
  rw [zxX k l, yqE]
  have : (j :: l).contains k = (keqI j k || l.contains k) := by
   rw [List.contains_cons]
   congr 1
   unfold keqI
   rw [Bool.eq_iff_iff, beq_iff_eq, decide_eq_true_iff]
   exact eq_comm
  rw [this]
  cases keqI j k <;> cases mhas keqI m k <;> rfl
theorem zsZ : ∀ (l : List Int) {m : List (Int × Unit)}, zmM m → zmM (zsX m l)
 | [], _, h => h
 | j :: l, m, h => zsZ l (m := mset keqI kltI m j ()) (yhH h)
theorem ylI {es : Es} : ∀ (f : Nat) (i k : Int), k ∈ pth es f i → mhas keqI es k = true
 | 0, _, _, h => by cases h
 | f + 1, i, k, h => by
  rw [xaD] at h
  cases hm : mget keqI es i with
  | none => rw [hm] at h; cases h
  | some n =>
   rw [hm] at h
   rcases List.mem_cons.1 h with rfl | h
   ·exact yuB hm
   ·exact ylI f _ k h
def zzB (es : Es) (now k : Int) : Bool := es.any fun p => zxE es p.1 now && (zqF es p.1).contains k
def zeA (es : Es) (now : Int) : Es := es.filter fun p => zzB es now p.1
theorem yiD {es : Es} (h : zmM es) (nd : List (Int × Unit)) : zhE zaB es nd = some (es.filter fun p => mhas keqI nd p.1, nd) := by
 unfold zhE
 suffices hA : rngA (fun x => zmE zaB x.1 x.2.1 x.2.2) (es, nd, List.map Prod.fst es) = some (es.filter fun p => mhas keqI nd p.1, nd) by
  rw [hA, zaA]
 refine ztR (fun x => ∃ left : List Int, x = (es.filter fun p => left.contains p.1 || mhas keqI nd p.1, nd, left)) (fun x => x.1) (fun x => x.2.2) (hf := fun x => rfl) ?_ ?_ ?_
 ·rintro _ ⟨left, rfl⟩ hn
  have e : (es.filter fun p => left.contains p.1 || mhas keqI nd p.1) = es.filter fun p => mhas keqI nd p.1 := List.filter_congr fun p hp => by
   cases hc : left.contains p.1 with
   | false => rfl
   | true =>
    have h0 := hn p (List.mem_filter.2 ⟨hp, by simp only [hc]; rfl⟩)
    exact absurd (List.contains_iff_mem.1 hc) h0
  show some (Sum.inr _) = _
  simp only [e]
 ·rintro _ p ⟨left, rfl⟩ hp hl
  simp only [] at hp hl
  have hr : zmM (es.filter fun p => left.contains p.1 || mhas keqI nd p.1) := h.sublist List.filter_sublist
  refine .inl ?_
  simp only []
  rw [zmA hr (k := p.1) (v := p.2) hp, zaA]
  unfold zfG
  simp only [zaA]
  have hD : ∀ j, (rngD keqI left p.1).contains j = (left.contains j && !keqI j p.1) := fun j => by
   rw [Bool.eq_iff_iff, Bool.and_eq_true, List.contains_iff_mem, yaB, List.contains_iff_mem, Bool.not_eq_true', ← Bool.not_eq_true, zcK]
  cases hh : mhas keqI nd p.1 with
  | true =>
   have e : (es.filter fun q => (rngD keqI left p.1).contains q.1 || mhas keqI nd q.1) = es.filter fun q => left.contains q.1 || mhas keqI nd q.1 := List.filter_congr fun q _ => by
    rw [hD]
    cases hk : keqI q.1 p.1 with
    | false => rw [Bool.not_false, Bool.and_true]
    | true => rw [zcK.1 hk, hh, Bool.or_true, Bool.or_true]
   exact ⟨_, rfl, ⟨rngD keqI left p.1, by rw [e]⟩, rfl⟩
  | false =>
   have e : mdel keqI (es.filter fun p => left.contains p.1 || mhas keqI nd p.1) p.1 = es.filter fun q => (rngD keqI left p.1).contains q.1 || mhas keqI nd q.1 := by
    rw [zwG hr, List.filter_filter]
    refine List.filter_congr fun q _ => ?_
    rw [hD]
    cases hk : keqI q.1 p.1 with
    | false => simp
    | true => rw [zcK.1 hk, hh]; simp
   exact ⟨_, rfl, ⟨rngD keqI left p.1, by rw [e]⟩, rfl⟩
 ·refine ⟨List.map Prod.fst es, ?_⟩
  have e : (es.filter fun p => (List.map Prod.fst es).contains p.1 || mhas keqI nd p.1) = es := List.filter_eq_self.2 fun p hp => by
   have : (List.map Prod.fst es).contains p.1 = true := List.contains_iff_mem.2 (List.mem_map.2 ⟨p, hp, rfl⟩)
   rw [this]; rfl
  rw [e]
theorem yeN {nx nx' : Int} {es : Es} (h : Ok nx es) (now : Int) : zcM zaB now nx' es = some ((es.length : Int) - ((zeA es now).length : Int), nx', zeA es now) := by
 have hlen := h.len
 have hle : (zeA es now).length ≤ es.length := List.length_filter_le _ _
 have hcan : ∀ k, mhas keqI ((zeA es now).map fun p => (p.1, ())) k = zzB es now k := fun k => by
  rw [Bool.eq_iff_iff, zhM]
  unfold zeA
  constructor
  ·rintro ⟨_, hv⟩
   obtain ⟨p, hp, e⟩ := List.mem_map.1 hv
   obtain ⟨hp, hq⟩ := List.mem_filter.1 hp
   cases e
   exact hq
  ·intro hk
   have hk' := hk
   unfold zzB at hk
   obtain ⟨p, hp, hq⟩ := List.any_eq_true.1 hk
   rw [Bool.and_eq_true, List.contains_iff_mem] at hq
   obtain ⟨n, hn⟩ := zhM.1 (ylI _ _ _ hq.2)
   exact ⟨(), List.mem_map.2 ⟨(k, n), List.mem_filter.2 ⟨hn, hk'⟩, rfl⟩⟩
 have hcr : zmM ((zeA es now).map fun p => (p.1, ())) := by
  have h1 : zmM (zeA es now) := h.rises.sublist List.filter_sublist
  unfold zmM
  rw [List.pairwise_map]
  exact h1
 unfold zcM
 suffices hA : rngA (fun x => zjK zaB now x.1 x.2.1 x.2.2.1 x.2.2.2) (nx', es, List.map Prod.fst es, ([] : List (Int × Unit))) = some (nx', es, (zeA es now).map fun p => (p.1, ())) by
  rw [hA, zaA, yiD h.rises, zaA]
  have e : (es.filter fun p => mhas keqI ((zeA es now).map fun p => (p.1, ())) p.1) = zeA es now := by
   show _ = es.filter _
   refine List.filter_congr fun p _ => ?_
   rw [hcan]
  simp only [e]
  rw [ziX (by omega) (by omega)]
 refine ztR (fun x => ∃ (left : List Int) (nd : List (Int × Unit)), x = (nx', es, left, nd) ∧ zmM nd ∧ ∀ k, mhas keqI nd k = es.any fun p => !left.contains p.1 && (zxE es p.1 now && (zqF es p.1).contains k)) (fun x => x.2.1) (fun x => x.2.2.1) (hf := fun x => rfl) ?_ ?_ ?_
 ·rintro _ ⟨left, nd, rfl, hr, hk⟩ hn
  simp only [] at hn
  have e : nd = (zeA es now).map fun p => (p.1, ()) := yaN hr hcr fun k => by
   rw [hk, hcan]
   unfold zzB
   refine ylN fun p hp => ?_
   have : left.contains p.1 = false := by
    cases hc : left.contains p.1 with
    | false => rfl
    | true => exact absurd (List.contains_iff_mem.1 hc) (hn p hp)
   rw [this]; rfl
  rw [e]
 ·rintro _ p ⟨left, nd, rfl, hr, hk⟩ hp hl
  simp only [] at hp hl
  refine .inl ?_
  simp only []
  rw [zmA h.rises (k := p.1) (v := p.2) hp, zaA, ytH h, zaA]
  have hD : ∀ j, (rngD keqI left p.1).contains j = (left.contains j && !keqI j p.1) := fun j => by
   rw [Bool.eq_iff_iff, Bool.and_eq_true, List.contains_iff_mem, yaB, List.contains_iff_mem, Bool.not_eq_true', ← Bool.not_eq_true, zcK]
  have hc : left.contains p.1 = true := List.contains_iff_mem.2 hl
  have hsplit : ∀ k, (es.any fun q => !(rngD keqI left p.1).contains q.1 && (zxE es q.1 now && (zqF es q.1).contains k)) = ((es.any fun q => !left.contains q.1 && (zxE es q.1 now && (zqF es q.1).contains k)) || (zxE es p.1 now && (zqF es p.1).contains k)) := fun k => by
   rw [Bool.eq_iff_iff, Bool.or_eq_true, List.any_eq_true, List.any_eq_true]
   constructor
   ·rintro ⟨q, hq, h2⟩
    rw [hD] at h2
    by_cases e : q.1 = p.1
    ·right
     rw [e] at h2
     exact (Bool.and_eq_true _ _ ▸ h2).2
    ·left
     refine ⟨q, hq, ?_⟩
     rw [yfX e] at h2
     simpa using h2
   ·rintro (⟨q, hq, h2⟩ | h2)
    ·refine ⟨q, hq, ?_⟩
     rw [hD]
     cases hb : left.contains q.1 with
     | true => rw [hb] at h2; cases h2
     | false => rw [hb] at h2; exact h2
    ·refine ⟨p, hp, ?_⟩
     rw [hD, zcK.2 rfl, h2]
     simp
  cases hv : zxE es p.1 now with
  | false =>
   refine ⟨_, rfl, ⟨rngD keqI left p.1, nd, rfl, hr, fun k => ?_⟩, rfl⟩
   rw [hsplit, hk, hv]
   simp
  | true =>
   simp only [Bool.not_true, cond_false]
   rw [ylG h, zaA]
   have hpl := ybV h p.1
   have hI : iter (fun x => zdP zaB (zqF es p.1, nx', es) x.1 x.2.1 x.2.2.1 x.2.2.2.1 x.2.2.2.2) ((0 : Int), nx', es, rngD keqI left p.1, nd) = some (nx', es, rngD keqI left p.1, zsX nd (zqF es p.1)) := by
    refine zmC (fun k => ((k : Int), nx', es, rngD keqI left p.1, zsX nd ((zqF es p.1).take k))) (zqF es p.1).length (by omega) _ (fun k hk2 => ?_) ?_
    ·unfold zdP
     simp only []
     rw [zbC (by omega), zdW rfl hk2, zaA, ziX (by omega) (by omega), List.take_succ_eq_append_getElem hk2]
     unfold zsX
     rw [List.foldl_append]
     rfl
    ·unfold zdP
     simp only []
     rw [zaR (by omega), List.take_of_length_le (Nat.le_refl _)]
   rw [show iter _ ((0 : Int), nx', es, rngD keqI left p.1, nd) = _ from hI, zaA]
   refine ⟨_, rfl, ⟨rngD keqI left p.1, zsX nd (zqF es p.1), rfl, zsZ _ hr, fun k => ?_⟩, rfl⟩
   rw [zxX, hsplit, hk, hv, Bool.true_and]
 ·refine ⟨List.map Prod.fst es, [], rfl, List.Pairwise.nil, fun k => ?_⟩
  refine Eq.symm ?_
  show _ = false
  rw [List.any_eq_false]
  intro p hp
  have : (List.map Prod.fst es).contains p.1 = true := List.contains_iff_mem.2 (List.mem_map.2 ⟨p, hp, rfl⟩)
  rw [this]
  simp
theorem Ok.filter {nx : Int} {es : Es} (h : Ok nx es) (q : Int × Nd → Bool) : Ok nx (es.filter q) where
 rises := h.rises.sublist List.filter_sublist
 ids p hp := h.ids p (List.mem_filter.1 hp).1
 par p hp := h.par p (List.mem_filter.1 hp).1
 may p hp := h.may p (List.mem_filter.1 hp).1
 uniq p hp q hq := h.uniq p (List.mem_filter.1 hp).1 q (List.mem_filter.1 hq).1
 next := h.next
 len := Nat.le_trans (List.length_filter_le _ _) h.len
theorem Ok.pruned {nx : Int} {es : Es} (h : Ok nx es) (now : Int) : Ok nx (zeA es now) := h.filter _
end Go.Proofs.YtebbcofojchkpaaGreatDoor.Am
