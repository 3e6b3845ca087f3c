/- What some functions compute, over plain values, and that they do. Plain laws of the words that walks are told in: loops, lists, bytes. Maps of numbers as rising lists: plain laws. Functions that answer whatever they are given: plain laws. Forests: find, paths, what is live: plain laws. Forests: what is live, and the list of nodes: plain laws. Forests: nodes that are changed: plain laws. Conditions: as each theorem says. -/
import Derived.KernelRfl
import Derived.Test.YtebbcofojchkpaaGreatDoorQdI
namespace Go.Proofs.YtebbcofojchkpaaGreatDoor.Am
open Go Go.RowKit
def τWkF : TE := [(3, ⟨.int .i64, 1, [.v (.i .i64) (show Int from 0)], (.i .i64), 8⟩),
 (4, ⟨.b, 1, [.v .b (show Bool from false)], .b, 1⟩),
 (9, ⟨.s, 1, [.v .s (show Bs from [])], .s, 16⟩),
 (22, ⟨.sl 24, 1, [.nils], (.sl (.pr .s .s)), 24⟩),
 (24, ⟨.st [(9, 0), (9, 1)], 2, [.v .s (show Bs from []), .v .s (show Bs from [])], (.pr .s .s), 32⟩),
 (25, ⟨.pt 75, 1, [.nilp], .un, 8⟩),
 (35, ⟨.sl 47, 1, [.nils], (.sl (.pr (.i .i64) (.pr (.i .i64) (.pr (.i .i64) (.pr .s (.pr .s (.pr .s (.pr (.sl .s) (.pr (.i .i64) (.pr (.i .i64) (.pr .b (.pr .b (.pr (.sl .s) (.pr (.i .i64) (.pr .s .s))))))))))))))), 24⟩),
 (44, ⟨.sl 3, 1, [.nils], (.sl (.i .i64)), 24⟩),
 (45, ⟨.sl 9, 1, [.nils], (.sl .s), 24⟩),
 (47, ⟨.st [(3, 0), (3, 1), (3, 2), (9, 3), (9, 4), (9, 5), (45, 6), (3, 7), (3, 8), (4, 9), (4, 10), (45, 11), (3, 12), (9, 13), (9, 14)], 15, [.v (.i .i64) (show Int from 0), .v (.i .i64) (show Int from 0), .v (.i .i64) (show Int from 0), .v .s (show Bs from []), .v .s (show Bs from []), .v .s (show Bs from []), .nils, .v (.i .i64) (show Int from 0), .v (.i .i64) (show Int from 0), .v .b (show Bool from false), .v .b (show Bool from false), .nils, .v (.i .i64) (show Int from 0), .v .s (show Bs from []), .v .s (show Bs from [])], (.pr (.i .i64) (.pr (.i .i64) (.pr (.i .i64) (.pr .s (.pr .s (.pr .s (.pr (.sl .s) (.pr (.i .i64) (.pr (.i .i64) (.pr .b (.pr .b (.pr (.sl .s) (.pr (.i .i64) (.pr .s .s)))))))))))))), 184⟩),
 (73, ⟨.map 3 81, 1, [.nilm], (.mp (.i .i64) (.pr (.i .i64) (.pr (.i .i64) (.pr (.i .i64) (.pr .s (.pr .s (.pr .s (.pr (.sl .s) (.pr (.i .i64) (.pr (.i .i64) (.pr .b (.pr .b (.pr (.sl .s) (.pr (.i .i64) (.pr .s .s))))))))))))))), 8⟩),
 (75, ⟨.st [(73, 0), (3, 1)], 2, [.nilm, .v (.i .i64) (show Int from 0)], (.pr (.mp (.i .i64) (.pr (.i .i64) (.pr (.i .i64) (.pr (.i .i64) (.pr .s (.pr .s (.pr .s (.pr (.sl .s) (.pr (.i .i64) (.pr (.i .i64) (.pr .b (.pr .b (.pr (.sl .s) (.pr (.i .i64) (.pr .s .s))))))))))))))) (.i .i64)), 16⟩),
 (81, ⟨.st [(47, 0)], 15, [.v (.i .i64) (show Int from 0), .v (.i .i64) (show Int from 0), .v (.i .i64) (show Int from 0), .v .s (show Bs from []), .v .s (show Bs from []), .v .s (show Bs from []), .nils, .v (.i .i64) (show Int from 0), .v (.i .i64) (show Int from 0), .v .b (show Bool from false), .v .b (show Bool from false), .nils, .v (.i .i64) (show Int from 0), .v .s (show Bs from []), .v .s (show Bs from [])], (.pr (.i .i64) (.pr (.i .i64) (.pr (.i .i64) (.pr .s (.pr .s (.pr .s (.pr (.sl .s) (.pr (.i .i64) (.pr (.i .i64) (.pr .b (.pr .b (.pr (.sl .s) (.pr (.i .i64) (.pr .s .s)))))))))))))), 184⟩),
 (105, ⟨.fn, 1, [.nilf], .un, 8⟩),
 (111, ⟨.map 3 112, 1, [.nilm], (.mp (.i .i64) .un), 8⟩),
 (112, ⟨.st [], 0, [], .un, 0⟩),
 (120, ⟨.ifc, 1, [.v .er (show Bool from false)], .er, 16⟩),
 (125, ⟨.st [(45, 0), (4, 1)], 2, [.nils, .v .b (show Bool from false)], (.pr (.sl .s) .b), 32⟩),
 (135, ⟨.sl 45, 1, [.nils], (.sl (.sl .s)), 24⟩),
 (148, ⟨.ar 3 105, 3, [.nilf, .nilf, .nilf], .un, 24⟩)]
theorem τ_okWkF : TEok Tryz.prog τWkF := ygU (by kernel_rfl) (by kernel_rfl)
theorem ycK : Tryz.prog.follows .mixedOrders = true := by kernel_rfl
theorem zfG {G : List (Nat × Obj)} {o : Ops} [zmE G] [zkJ G o] {Γ : CT} {η : HT} {f : FuncId} {fn : Func} {c : SC} (hΓ : ∀ B, GB G B → CTok Tryz.prog Γ B) (hf : Tryz.prog.funcs[f]? = some fn) (i : (fn.name == "runtime.NumGoroutine") = false := by kernel_rfl) (j : fn.body.isNone = false := by kernel_rfl) (l : Nat.ble c.I.sl.length fn.ntmps = true := by kernel_rfl) (r : Nat.beq fn.results.toList.length c.nr = true := by kernel_rfl) (e : fnS τWkF Γ η fn c.I c.outs = c.p := by kernel_rfl) : SCok Tryz.prog G f c := witO (G := G) (o := o) <| ymU ycK τ_okWkF hΓ hf (isFn hf i j) l r e
theorem ziY {G : List (Nat × Obj)} {o : Ops} [zmE G] [zkJ G o] {Γ : CT} {η : HT} {f : FuncId} {fn : Func} {c : PC} (hΓ : ∀ B, GB G B → CTok Tryz.prog Γ B) (hf : Tryz.prog.funcs[f]? = some fn) (i : (fn.name == "runtime.NumGoroutine") = false := by kernel_rfl) (j : fn.body.isNone = false := by kernel_rfl) (l : Nat.ble c.ash.length fn.ntmps = true := by kernel_rfl) (r : c.cl = false := by kernel_rfl) (e : fnP τWkF Γ η fn c.ash c.rts = c.p := by kernel_rfl) : PCok Tryz.prog G f c := witO (G := G) (o := o) <| ymK ycK τ_okWkF hΓ hf (isFn hf i j) l r e
abbrev zzX : Type := (List Bs) × Bool
abbrev zjS : Type := Int × Int × Int × Bs × Bs × Bs × (List Bs) × Int × Int × Bool × Bool × (List Bs) × Int × Bs × Bs
abbrev zuU : Ty := .pr (.i .i64) (.pr (.i .i64) (.pr (.i .i64) (.pr .s (.pr .s (.pr .s (.pr (.sl .s) (.pr (.i .i64) (.pr (.i .i64) (.pr .b (.pr .b (.pr (.sl .s) (.pr (.i .i64) (.pr .s .s)))))))))))))
abbrev zaU : Type := Int × zjS
abbrev yuW : OSh := .blk 47 [hI, hI, hI, hS, hS, hS, (.h (.sl .s)), hI, hI, hB, hB, (.h (.sl .s)), hI, hS, hS]
abbrev ywG : OSh := .blk 81 [hI, hI, hI, hS, hS, hS, (.h (.sl .s)), hI, hI, hB, hB, (.h (.sl .s)), hI, hS, hS]
abbrev ymT : OSh := .blk 47 [hI, hI, hI, hS, hS, hS, .nils, hI, hI, hB, hB, .nils, hI, hS, hS]
abbrev ybF : OSh := .blk 125 [(.h (.sl .s)), hB]
abbrev zcJ : OSh := .mp true (.i .i64) zuU
abbrev zfH : OSh := .blk 75 [(.mpr 1), hI]
abbrev ybG : OSh := .blk 75 [(.mpr 2), hI]
abbrev yaY : OSh := .mp true (.i .i64) .un
abbrev ydI : OSh := .blk 25 [(.ptr 1 0)]
abbrev yuP : OSh := .blk 111 [(.mpr 2)]
abbrev ypA : OSh := .blk 111 [(.mpr 4)]
section
variable {tabs : List (Nat × Obj)} [zmE tabs] {o : Ops} [zkJ tabs o]
def zjG (o : Ops) : Option ((Int × List zaU)) :=
 some ((1 : Int), ([] : List zaU))
def zoY (o : Ops) : SC := ⟨⟨[], []⟩, 1, [(none, ⟨[(0, (.ptr 0 0))], [zfH, zcJ]⟩)], fun _ => zjG o⟩
theorem zrM : SCok Tryz.prog tabs 27 (zoY o) := zfG (o := o) (η := []) (Γ := ⟨[], [], false, []⟩) (ctok trivial trivial) Tryz.func27
def zeO (o : Ops) (v0 : Bs) (v1 : Int) (v2 : Bs) : Option (Bool) :=
 bif (v0 != ([] : Bs)) then (bif decide ((v0.length : Int) ≤ v1) then ((o.trim v0 v2).bind fun v3 => some (v3 == ([] : Bs))) else (some false)) else (some false)
def ztW (o : Ops) : PC := ⟨[hS, hI, hS], [.b], fun x => zeO o x.1 x.2.1 x.2.2, false⟩
theorem zxJ : PCok Tryz.prog tabs 152 (ztW o) := ziY (o := o) (η := []) (Γ := ⟨[(82, (zzS o))], [], false, []⟩) (ctok ⟨(zkJ.trim (G := tabs)), trivial⟩ trivial) Tryz.func152
def zeM (o : Ops) (v0 : Bs) : Option (Bool) :=
 (zeO o v0 (32 : Int) ([97, 98, 99, 100, 101, 102, 103, 104, 105, 106, 107, 108, 109, 110, 111, 112, 113, 114, 115, 116, 117, 118, 119, 120, 121, 122, 48, 49, 50, 51, 52, 53, 54, 55, 56, 57, 46, 95, 45, 58] : Bs)).bind fun v1 => some v1
def ztV (o : Ops) : PC := ⟨[hS], [.b], fun x => zeM o x, false⟩
theorem yaC : PCok Tryz.prog tabs 107 (ztV o) := ziY (o := o) (η := []) (Γ := ⟨[(152, (ztW o))], [], false, []⟩) (ctok ⟨zxJ, trivial⟩ trivial) Tryz.func107
def zaP (o : Ops) (v0 : Int) (v1 : Int) (v2 : Int) : Option (Bool) :=
 bif decide (v0 ≥ v1) then (some (decide (v0 ≤ v2))) else (some false)
def zqJ (o : Ops) : PC := ⟨[hI, hI, hI], [.b], fun x => zaP o x.1 x.2.1 x.2.2, false⟩
theorem ztM : PCok Tryz.prog tabs 34 (zqJ o) := ziY (o := o) (η := []) (Γ := ⟨[], [], false, []⟩) (ctok trivial trivial) Tryz.func34
def zdM (o : Ops) (v0 : Bs) : Option (Bool) :=
 (zeO o v0 (24 : Int) ([97, 98, 99, 100, 101, 102, 103, 104, 105, 106, 107, 108, 109, 110, 111, 112, 113, 114, 115, 116, 117, 118, 119, 120, 121, 122, 48, 49, 50, 51, 52, 53, 54, 55, 56, 57, 46, 95, 45] : Bs)).bind fun v1 => some v1
def zqL (o : Ops) : PC := ⟨[hS], [.b], fun x => zdM o x, false⟩
theorem zvD : PCok Tryz.prog tabs 110 (zqL o) := ziY (o := o) (η := []) (Γ := ⟨[(152, (ztW o))], [], false, []⟩) (ctok ⟨zxJ, trivial⟩ trivial) Tryz.func110
def zbI (o : Ops) (v0 : Bs) : Option (Bool) :=
 bif decide ((v0.length : Int) > 2) then ((subH v0 (2 : Int)).bind fun v1 => bif (v1 == ([117, 58] : Bs)) then ((subL v0 (2 : Int)).bind fun v2 => (zdM o v2).bind fun v3 => some v3) else ((subH v0 (2 : Int)).bind fun v4 => bif (v4 == ([99, 58] : Bs)) then ((subL v0 (2 : Int)).bind fun v5 => (zdM o v5).bind fun v6 => some v6) else (some false))) else (some false)
def zkT (o : Ops) : PC := ⟨[hS], [.b], fun x => zbI o x, false⟩
theorem zpY : PCok Tryz.prog tabs 109 (zkT o) := ziY (o := o) (η := []) (Γ := ⟨[(110, (zqL o))], [], false, []⟩) (ctok ⟨zvD, trivial⟩ trivial) Tryz.func109
def zkM (o : Ops) (v0 : Bs) : Option (Bool) :=
 (zbI o v0).bind fun v1 => some (!v1)
def ztY (o : Ops) : PC := ⟨[hS], [.b], fun x => zkM o x, false⟩
theorem zzL : PCok Tryz.prog tabs 108 (ztY o) := ziY (o := o) (η := []) (Γ := ⟨[(109, (zkT o))], [], false, []⟩) (ctok ⟨zpY, trivial⟩ trivial) Tryz.func108
def zhR (o : Ops) (v0 : List Bs) (v1 : Int) : Option (Int ⊕ (Int ⊕ Unit)) :=
 bif decide (v1 < (v0.length : Int)) then ((idx v0 v1).bind fun v2 => (zkM o v2).bind fun v3 => bif v3 then some (.inr (.inl v1)) else some (.inl (w64 (v1 + 1)))) else some (.inr (.inr ()))
def ziX (o : Ops) (v0 : List Bs) : Option (Int) :=
 (iter (zhR o v0) (0 : Int)).bind fun v4 => match v4 with
 | .inl v5 => some v5
 | .inr v6 => some (-1 : Int)
def zpL (o : Ops) : SC := ⟨⟨[(0, (.h (.sl .s))), (1, (.fn 108 [] []))], []⟩, 1, [(none, ⟨[(0, hI)], []⟩)], fun x => ziX o x⟩
theorem zvN : SCok Tryz.prog tabs 155 (zpL o) := zfG (o := o) (η := [(200002, .loop [] ⟨[(1, (.fn 108 [] [])), (8, hI)], []⟩ [0, 7] [(some 1000000, ⟨[(4, hI)], []⟩), (some 0, ⟨[], []⟩)])]) (Γ := ⟨[(108, (ztY o))], [], false, []⟩) (ctok ⟨zzL, trivial⟩ trivial) Tryz.func155
def zaO (o : Ops) (v0 : List Bs) : Option (Bool) :=
 (ziX o v0).bind fun v1 => some (decide (v1 ≥ 0))
def zmS (o : Ops) : SC := ⟨⟨[(0, (.h (.sl .s))), (1, (.fn 108 [] []))], []⟩, 1, [(none, ⟨[(0, hB)], []⟩)], fun x => zaO o x⟩
theorem zsV : SCok Tryz.prog tabs 112 (zmS o) := zfG (o := o) (η := []) (Γ := ⟨[], [(155, (zpL o))], false, []⟩) (ctok trivial ⟨zvN, trivial⟩) Tryz.func112
def zjJ (o : Ops) (v0 : Int) : Option (Bool) :=
 bif decide (v0 < 33) then (some true) else (some (decide (v0 > 126)))
def zsK (o : Ops) : PC := ⟨[(.h (.i .i32))], [.b], fun x => zjJ o x, false⟩
theorem zxY : PCok Tryz.prog tabs 154 (zsK o) := ziY (o := o) (η := []) (Γ := ⟨[], [], false, []⟩) (ctok trivial trivial) Tryz.func154
def zgD (o : Ops) (v1 : Bool) (v2 : Bs) (v3 : Int) : Option ((Bs × Int) ⊕ (Int ⊕ Unit)) :=
 bif decide (v3.toNat < v2.length) then ((zjJ o (nxR v2 v3.toNat)).bind fun v4 => bif (v4 == v1) then some (.inr (.inl (v3.toNat : Int))) else some (.inl (v2, (nxP v2 v3.toNat : Int)))) else some (.inr (.inr ()))
def zhH (o : Ops) (v0 : Bs) (v1 : Bool) : Option (Int) :=
 (iter (fun x => zgD o v1 x.1 x.2) (v0, (0 : Int))).bind fun v5 => match v5 with
 | .inl v6 => some v6
 | .inr v7 => some (-1 : Int)
def zoR (o : Ops) : SC := ⟨⟨[(0, hS), (1, (.fn 154 [] [])), (2, hB)], []⟩, 1, [(none, ⟨[(0, hI)], []⟩)], fun x => zhH o x.1 x.2⟩
theorem zuX : SCok Tryz.prog tabs 207 (zoR o) := zfG (o := o) (η := [(200002, .loop [] ⟨[(1, (.fn 154 [] [])), (10, (.ptr 0 0))], [.is]⟩ [2] [(some 1000000, ⟨[(6, hI)], []⟩), (some 0, ⟨[], []⟩)])]) (Γ := ⟨[(154, (zsK o))], [], false, []⟩) (ctok ⟨zxY, trivial⟩ trivial) Tryz.func207
def zhP (o : Ops) (v0 : Bs) : Option (Int) :=
 (zhH o v0 true).bind fun v1 => some v1
def zoS (o : Ops) : SC := ⟨⟨[(0, hS), (1, (.fn 154 [] []))], []⟩, 1, [(none, ⟨[(0, hI)], []⟩)], fun x => zhP o x⟩
theorem zuV : SCok Tryz.prog tabs 186 (zoS o) := zfG (o := o) (η := []) (Γ := ⟨[], [(207, (zoR o))], false, []⟩) (ctok trivial ⟨zuX, trivial⟩) Tryz.func186
def zdF (o : Ops) (v0 : Bs) : Option (Bool) :=
 (zhP o v0).bind fun v1 => some (decide (v1 ≥ 0))
def zlI (o : Ops) : SC := ⟨⟨[(0, hS), (1, (.fn 154 [] []))], []⟩, 1, [(none, ⟨[(0, hB)], []⟩)], fun x => zdF o x⟩
theorem zsB : SCok Tryz.prog tabs 153 (zlI o) := zfG (o := o) (η := []) (Γ := ⟨[], [(186, (zoS o))], false, []⟩) (ctok trivial ⟨zuV, trivial⟩) Tryz.func153
def zeK (o : Ops) (v0 : Bs) : Option (Bool) :=
 bif (v0 != ([] : Bs)) then (bif decide ((v0.length : Int) ≤ 128) then ((zdF o v0).bind fun v1 => some (!v1)) else (some false)) else (some false)
def zvI (o : Ops) : PC := ⟨[hS], [.b], fun x => zeK o x, false⟩
theorem ybN : PCok Tryz.prog tabs 111 (zvI o) := ziY (o := o) (η := []) (Γ := ⟨[], [(153, (zlI o))], false, []⟩) (ctok trivial ⟨zsB, trivial⟩) Tryz.func111
def zhJ (o : Ops) (v0 : zjS) (v1 : Int) (v2 : Int) (v3 : Int) (v4 : Int) (v5 : Bs) (v6 : Bs) (v7 : Bs) (v8 : List Bs) (v9 : Int) (v10 : Int) (v11 : Bool) (v12 : Bool) (v13 : List Bs) (v14 : Int) (v15 : Bs) (v16 : Bs) : Option (zaU ⊕ (Bool ⊕ zjS)) :=
 bif decide (v1 < (v0.2.2.2.2.2.2.1.length : Int)) then ((idx v0.2.2.2.2.2.2.1 v1).bind fun v17 => (zeM o v17).bind fun v18 => bif (!v18) then some (.inr (.inl false)) else (bif decide (v1 > 0) then ((idx v8 (w64 (v1 - 1))).bind fun v19 => bif (Op.bytesLess v17 v19 || v17 == v19) then some (.inr (.inl false)) else some (.inl (w64 (v1 + 1), v2, v3, v4, v5, v6, v7, v8, v9, v10, v11, v12, v13, v14, v15, v16))) else some (.inl (w64 (v1 + 1), v2, v3, v4, v5, v6, v7, v8, v9, v10, v11, v12, v13, v14, v15, v16)))) else some (.inr (.inr (v2, v3, v4, v5, v6, v7, v8, v9, v10, v11, v12, v13, v14, v15, v16)))
def zgV (o : Ops) (v0 : zjS) : Option (Bool) :=
 (iter (fun x => zhJ o v0 x.1 x.2.1 x.2.2.1 x.2.2.2.1 x.2.2.2.2.1 x.2.2.2.2.2.1 x.2.2.2.2.2.2.1 x.2.2.2.2.2.2.2.1 x.2.2.2.2.2.2.2.2.1 x.2.2.2.2.2.2.2.2.2.1 x.2.2.2.2.2.2.2.2.2.2.1 x.2.2.2.2.2.2.2.2.2.2.2.1 x.2.2.2.2.2.2.2.2.2.2.2.2.1 x.2.2.2.2.2.2.2.2.2.2.2.2.2.1 x.2.2.2.2.2.2.2.2.2.2.2.2.2.2.1 x.2.2.2.2.2.2.2.2.2.2.2.2.2.2.2) ((0 : Int), v0)).bind fun v20 => match v20 with
 | .inl v21 => (some v21)
 | .inr v22 => ((zaP o v22.2.1 (1 : Int) (5 : Int)).bind fun v23 => bif v23 then (bif decide (v22.2.2.1 ≥ 0) then ((zbI o v22.2.2.2.1).bind fun v24 => bif v24 then (bif (v22.2.2.2.2.1 == ([] : Bs)) then (bif (v22.2.2.2.2.2.1 == ([] : Bs)) then (bif decide ((v22.2.2.2.2.2.2.1.length : Int) ≤ 16) then ((zaP o v22.2.2.2.2.2.2.2.1 (0 : Int) (1099511627776 : Int)).bind fun v25 => bif v25 then ((zaP o v22.2.2.2.2.2.2.2.2.1 (0 : Int) (1099511627776 : Int)).bind fun v26 => bif v26 then (let v27 : Bool := decide ((v22.2.2.2.2.2.2.2.2.2.2.2.1.length : Int) ≤ 4)
 bif v27 then ((zaO o v22.2.2.2.2.2.2.2.2.2.2.2.1).bind fun v28 => bif (!v28) then ((zaP o v22.2.2.2.2.2.2.2.2.2.2.2.2.1 (0 : Int) (3 : Int)).bind fun v29 => bif v29 then ((zaP o (v22.2.2.2.2.2.2.2.2.2.2.2.2.2.1.length : Int) (1 : Int) (64 : Int)).bind fun v30 => bif v30 then (let v31 : Bool := decide ((v22.2.2.2.2.2.2.2.2.2.2.2.2.2.2.length : Int) ≤ 256)
 some v31) else (some false)) else (some false)) else (some false)) else (some false)) else (some false)) else (some false)) else (some false)) else ((zeK o v22.2.2.2.2.2.1).bind fun v32 => bif v32 then (bif decide ((v22.2.2.2.2.2.2.1.length : Int) ≤ 16) then ((zaP o v22.2.2.2.2.2.2.2.1 (0 : Int) (1099511627776 : Int)).bind fun v33 => bif v33 then ((zaP o v22.2.2.2.2.2.2.2.2.1 (0 : Int) (1099511627776 : Int)).bind fun v34 => bif v34 then (let v35 : Bool := decide ((v22.2.2.2.2.2.2.2.2.2.2.2.1.length : Int) ≤ 4)
 bif v35 then ((zaO o v22.2.2.2.2.2.2.2.2.2.2.2.1).bind fun v36 => bif (!v36) then ((zaP o v22.2.2.2.2.2.2.2.2.2.2.2.2.1 (0 : Int) (3 : Int)).bind fun v37 => bif v37 then ((zaP o (v22.2.2.2.2.2.2.2.2.2.2.2.2.2.1.length : Int) (1 : Int) (64 : Int)).bind fun v38 => bif v38 then (let v39 : Bool := decide ((v22.2.2.2.2.2.2.2.2.2.2.2.2.2.2.length : Int) ≤ 256)
 some v39) else (some false)) else (some false)) else (some false)) else (some false)) else (some false)) else (some false)) else (some false)) else (some false))) else ((zdM o v22.2.2.2.2.1).bind fun v40 => bif v40 then (bif (v22.2.2.2.2.2.1 == ([] : Bs)) then (bif decide ((v22.2.2.2.2.2.2.1.length : Int) ≤ 16) then ((zaP o v22.2.2.2.2.2.2.2.1 (0 : Int) (1099511627776 : Int)).bind fun v41 => bif v41 then ((zaP o v22.2.2.2.2.2.2.2.2.1 (0 : Int) (1099511627776 : Int)).bind fun v42 => bif v42 then (let v43 : Bool := decide ((v22.2.2.2.2.2.2.2.2.2.2.2.1.length : Int) ≤ 4)
 bif v43 then ((zaO o v22.2.2.2.2.2.2.2.2.2.2.2.1).bind fun v44 => bif (!v44) then ((zaP o v22.2.2.2.2.2.2.2.2.2.2.2.2.1 (0 : Int) (3 : Int)).bind fun v45 => bif v45 then ((zaP o (v22.2.2.2.2.2.2.2.2.2.2.2.2.2.1.length : Int) (1 : Int) (64 : Int)).bind fun v46 => bif v46 then (let v47 : Bool := decide ((v22.2.2.2.2.2.2.2.2.2.2.2.2.2.2.length : Int) ≤ 256)
 some v47) else (some false)) else (some false)) else (some false)) else (some false)) else (some false)) else (some false)) else (some false)) else ((zeK o v22.2.2.2.2.2.1).bind fun v48 => bif v48 then (bif decide ((v22.2.2.2.2.2.2.1.length : Int) ≤ 16) then ((zaP o v22.2.2.2.2.2.2.2.1 (0 : Int) (1099511627776 : Int)).bind fun v49 => bif v49 then ((zaP o v22.2.2.2.2.2.2.2.2.1 (0 : Int) (1099511627776 : Int)).bind fun v50 => bif v50 then (let v51 : Bool := decide ((v22.2.2.2.2.2.2.2.2.2.2.2.1.length : Int) ≤ 4)
 bif v51 then ((zaO o v22.2.2.2.2.2.2.2.2.2.2.2.1).bind fun v52 => bif (!v52) then ((zaP o v22.2.2.2.2.2.2.2.2.2.2.2.2.1 (0 : Int) (3 : Int)).bind fun v53 => bif v53 then ((zaP o (v22.2.2.2.2.2.2.2.2.2.2.2.2.2.1.length : Int) (1 : Int) (64 : Int)).bind fun v54 => bif v54 then (let v55 : Bool := decide ((v22.2.2.2.2.2.2.2.2.2.2.2.2.2.2.length : Int) ≤ 256)
 some v55) else (some false)) else (some false)) else (some false)) else (some false)) else (some false)) else (some false)) else (some false)) else (some false))) else (some false))) else (some false)) else (some false)) else (some false))
def zpA (o : Ops) : PC := ⟨[(.h zuU)], [.b], fun x => zgV o x, false⟩
theorem zrK : PCok Tryz.prog tabs 53 (zpA o) := ziY (o := o) (η := [(200002, .loop [] ⟨[(1, (.ptr 0 0)), (9, hI)], [yuW]⟩ [7, 8] [(some 1000000, ⟨[(2, hB)], []⟩), (some 0, ⟨[(1, (.ptr 0 0))], [yuW]⟩)])]) (Γ := ⟨[(107, (ztV o)), (34, (zqJ o)), (109, (zkT o)), (111, (zvI o)), (110, (zqL o))], [(112, (zmS o))], false, []⟩) (ctok ⟨yaC, ⟨ztM, ⟨zpY, ⟨ybN, ⟨zvD, trivial⟩⟩⟩⟩⟩ ⟨zsV, trivial⟩) Tryz.func53
def yjS : SC := ⟨⟨[(0, (.h (.sl .s)))], []⟩, 1, [(none, ⟨[(0, (.own 0))], [.osl .s 9]⟩)], fun xs => app [] xs⟩
theorem ylF : SCok Tryz.prog tabs 98 yjS := wit (G := tabs) <| yvP ycK τ_okWkF Tryz.func98 (isFn Tryz.func98) rfl (by kernel_rfl) (by kernel_rfl) (by kernel_rfl) (fun _ => by kernel_rfl)
def yiS : PC := ⟨[.h (.sl .s)], [(.sl .s)], fun xs => some xs, true⟩
theorem ysE : PCok Tryz.prog tabs 81 yiS := wit (G := tabs) <| ydH ycK τ_okWkF Tryz.func81 (isFn Tryz.func81) rfl (by kernel_rfl) (fun _ => by kernel_rfl)
def zgY (o : Ops) (v0 : zjS) : Option zjS :=
 (app ([] : List Bs) v0.2.2.2.2.2.2.1).bind fun v1 => (app ([] : List Bs) v0.2.2.2.2.2.2.2.2.2.2.2.1).bind fun v2 => some (v0.1, v0.2.1, v0.2.2.1, v0.2.2.2.1, v0.2.2.2.2.1, v0.2.2.2.2.2.1, v1, v0.2.2.2.2.2.2.2.1, v0.2.2.2.2.2.2.2.2.1, v0.2.2.2.2.2.2.2.2.2.1, v0.2.2.2.2.2.2.2.2.2.2.1, v2, v0.2.2.2.2.2.2.2.2.2.2.2.2)
def zkA (o : Ops) : PC := ⟨[(.h zuU)], [zuU], fun x => zgY o x, false⟩
theorem zlT : PCok Tryz.prog tabs 44 (zkA o) := ziY (o := o) (η := [(4000001, .sch [(.pu, 0, []), (.pu, 1, []), (.pu, 4, [3]), (.pu, 5, [3]), (.mn, 2, []), (.mn, 3, [3]), (.pu, 8, [5]), (.mn, 6, []), (.mn, 7, [5]), (.mn, 9, [0]), (.pu, 10, []), (.mn, 11, [0])])]) (Γ := ⟨[(81, yiS)], [(98, yjS)], false, []⟩) (ctok ⟨ysE, trivial⟩ ⟨ylF, trivial⟩) Tryz.func44
noncomputable def zuF (o : Ops) (v0 : Bs) (v3 : Int) (v4 : List zaU) (v5 : Int) (v6 : Int) (v7 : Int) (v8 : Bs) (v9 : Bs) (v10 : Bs) (v11 : Int) (v12 : Int) (v13 : Bool) (v14 : Bool) (v15 : Int) (v16 : Bs) (v17 : Bs) (v18 : List Int) : List (Option ((Int × (List zaU) × Int × Int × Int × Bs × Bs × Bs × Int × Int × Bool × Bool × Int × Bs × Bs × List Int) ⊕ ((Int × (List zaU) × Int × Int × Int × Bs × Bs × Bs × Int × Int × Bool × Bool × Int × Bs × Bs) ⊕ (Bool × Int × (List zaU) × zjS)))) :=
 rngL (rngC keqI v4 v18) (some (.inr (.inl (v3, v4, v5, v6, v7, v8, v9, v10, v11, v12, v13, v14, v15, v16, v17)))) fun v19 => (mget keqI v4 v19.1).bind fun v20 => bif (v20.2.2.2.2.2.2.2.2.2.2.2.2.2.1 == v0) then ((zgY o v20).bind fun v21 => some (.inr (.inr (true, v3, v4, v21)))) else some (.inl (v3, v4, v5, v6, v7, v8, v9, v10, v11, v12, v13, v14, v15, v16, v17, rngD keqI v18 v19.1))
noncomputable def zbO (o : Ops) (v0 : Bs) (v1 : Int) (v2 : List zaU) : Option ((zjS × Bool × Int × List zaU)) :=
 (rngA (fun x => zuF o v0 x.1 x.2.1 x.2.2.1 x.2.2.2.1 x.2.2.2.2.1 x.2.2.2.2.2.1 x.2.2.2.2.2.2.1 x.2.2.2.2.2.2.2.1 x.2.2.2.2.2.2.2.2.1 x.2.2.2.2.2.2.2.2.2.1 x.2.2.2.2.2.2.2.2.2.2.1 x.2.2.2.2.2.2.2.2.2.2.2.1 x.2.2.2.2.2.2.2.2.2.2.2.2.1 x.2.2.2.2.2.2.2.2.2.2.2.2.2.1 x.2.2.2.2.2.2.2.2.2.2.2.2.2.2.1 x.2.2.2.2.2.2.2.2.2.2.2.2.2.2.2) (v1, v2, (0 : Int), (0 : Int), (0 : Int), ([] : Bs), ([] : Bs), ([] : Bs), (0 : Int), (0 : Int), false, false, (0 : Int), ([] : Bs), ([] : Bs), List.map Prod.fst v2)).bind fun v22 => match v22 with
 | .inl v23 => some (((0 : Int), (0 : Int), (0 : Int), ([] : Bs), ([] : Bs), ([] : Bs), ([] : List Bs), (0 : Int), (0 : Int), false, false, ([] : List Bs), (0 : Int), ([] : Bs), ([] : Bs)), false, v23.1, v23.2.1)
 | .inr v24 => some (v24.2.2.2, v24.1, v24.2.1, v24.2.2.1)
noncomputable def zdV (o : Ops) : SC := ⟨⟨[(0, (.ptr 0 0)), (1, hS)], [zfH, zcJ]⟩, 2, [(none, ⟨[(0, (.h zuU)), (1, hB)], [zfH, zcJ]⟩)], fun x => zbO o x.1 x.2.1 x.2.2⟩
theorem zfR : SCok Tryz.prog tabs 36 (zdV o) := zfG (o := o) (η := [(200002, .rng [] ⟨[(4, (.ptr 2 0)), (12, (.ptr 3 0))], [zfH, zcJ, ymT, .it 1 true (.i .i64)]⟩ [1] [(some 0, ⟨[(4, (.ptr 2 0))], [zfH, zcJ, ymT]⟩), (some 1000000, ⟨[(4, (.ptr 2 0)), (5, hB)], [zfH, zcJ, yuW]⟩)])]) (Γ := ⟨[(44, (zkA o))], [], false, []⟩) (ctok ⟨zlT, trivial⟩ trivial) Tryz.func36
def ykQ : PC := ⟨[.h (.sl (.i .i64))], [(.sl (.i .i64))], fun xs => some xs, true⟩
theorem ywC : PCok Tryz.prog tabs 71 ykQ := wit (G := tabs) <| ydH ycK τ_okWkF Tryz.func71 (isFn Tryz.func71) rfl (by kernel_rfl) (fun _ => by kernel_rfl)
def zjE (o : Ops) (v4 : Bool) (v5 : Int) (v6 : List zaU) (v7 : List Int) (v8 : Int) (v9 : Int) (v10 : Int) (v11 : Bs) (v12 : Bs) (v13 : Bs) (v14 : List Bs) (v15 : Int) (v16 : Int) (v17 : Bool) (v18 : Bool) (v19 : List Bs) (v20 : Int) (v21 : Bs) (v22 : Bs) : Option ((Bool × Int × (List zaU) × (List Int) × zjS) ⊕ ((Int × (List zaU) × List Int))) :=
 bif v4 then ((app v7 ([v8] : List Int)).bind fun v23 => let v24 : zjS := zjA keqI v6 v10 ((0 : Int), (0 : Int), (0 : Int), ([] : Bs), ([] : Bs), ([] : Bs), ([] : List Bs), (0 : Int), (0 : Int), false, false, ([] : List Bs), (0 : Int), ([] : Bs), ([] : Bs))
 some (.inl (mhas keqI v6 v10, v5, v6, v23, v24))) else some (.inr (v5, v6, v7))
def zbN (o : Ops) (v0 : Int) (v1 : Int) (v2 : List zaU) : Option (((List Int) × Int × List zaU)) :=
 let v3 : zjS := zjA keqI v2 v0 ((0 : Int), (0 : Int), (0 : Int), ([] : Bs), ([] : Bs), ([] : Bs), ([] : List Bs), (0 : Int), (0 : Int), false, false, ([] : List Bs), (0 : Int), ([] : Bs), ([] : Bs))
 (iter (fun x => zjE o x.1 x.2.1 x.2.2.1 x.2.2.2.1 x.2.2.2.2.1 x.2.2.2.2.2.1 x.2.2.2.2.2.2.1 x.2.2.2.2.2.2.2.1 x.2.2.2.2.2.2.2.2.1 x.2.2.2.2.2.2.2.2.2.1 x.2.2.2.2.2.2.2.2.2.2.1 x.2.2.2.2.2.2.2.2.2.2.2.1 x.2.2.2.2.2.2.2.2.2.2.2.2.1 x.2.2.2.2.2.2.2.2.2.2.2.2.2.1 x.2.2.2.2.2.2.2.2.2.2.2.2.2.2.1 x.2.2.2.2.2.2.2.2.2.2.2.2.2.2.2.1 x.2.2.2.2.2.2.2.2.2.2.2.2.2.2.2.2.1 x.2.2.2.2.2.2.2.2.2.2.2.2.2.2.2.2.2.1 x.2.2.2.2.2.2.2.2.2.2.2.2.2.2.2.2.2.2) (mhas keqI v2 v0, v1, v2, ([] : List Int), v3)).bind fun v25 => some (v25.2.2, v25.1, v25.2.1)
def zdW (o : Ops) : SC := ⟨⟨[(0, (.ptr 0 0)), (1, hI)], [zfH, zcJ]⟩, 1, [(none, ⟨[(0, (.hc (.i .i64)))], [zfH, zcJ]⟩)], fun x => zbN o x.1 x.2.1 x.2.2⟩
theorem zfN : SCok Tryz.prog tabs 25 (zdW o) := zfG (o := o) (η := [(200003, .loop [.sl 5 (.i .i64) 3] ⟨[(0, (.ptr 0 0)), (5, (.own 2)), (6, (.ptr 3 0)), (7, hB)], [zfH, zcJ, .osl (.i .i64) 3, ywG]⟩ [4] [(some 0, ⟨[(5, (.own 2))], [zfH, zcJ, .osl (.i .i64) 3]⟩)]),
 (4000004, .sch [(.pu, 0, []), (.pu, 1, []), (.pu, 2, []), (.pu, 3, []), (.pu, 4, []), (.pu, 5, []), (.pu, 6, []), (.pu, 7, []), (.pu, 8, []), (.pu, 9, []), (.pu, 10, [5]), (.mn, 11, [5]), (.pu, 12, [])])]) (Γ := ⟨[(71, ykQ)], [], false, []⟩) (ctok ⟨ywC, trivial⟩ trivial) Tryz.func25
def ziK (o : Ops) (v0 : Int) (v1 : Int) (v2 : List zaU) : Option ((Bool × Int × List zaU)) :=
 let v3 : zjS := zjA keqI v2 v0 ((0 : Int), (0 : Int), (0 : Int), ([] : Bs), ([] : Bs), ([] : Bs), ([] : List Bs), (0 : Int), (0 : Int), false, false, ([] : List Bs), (0 : Int), ([] : Bs), ([] : Bs))
 some (v3.2.2.2.2.2.2.2.2.2.1, v1, v2)
def zlO (o : Ops) : SC := ⟨⟨[(0, hI), (1, (.ptr 0 0))], [ydI, ybG, zcJ]⟩, 1, [(none, ⟨[(0, hB)], [ydI, ybG, zcJ]⟩)], fun x => ziK o x.1 x.2.1 x.2.2⟩
theorem zrV : SCok Tryz.prog tabs 114 (zlO o) := zfG (o := o) (η := []) (Γ := ⟨[], [], false, []⟩) (ctok trivial trivial) Tryz.func114
def zkF (o : Ops) (v0 : List Int) (v3 : Int) (v4 : Int) (v5 : List zaU) : Option ((Int × Int × List zaU) ⊕ ((Int × Int × List zaU) ⊕ (Int × List zaU))) :=
 bif decide (v3 < (v0.length : Int)) then ((idx v0 v3).bind fun v6 => (ziK o v6 v4 v5).bind fun v7 => bif v7.1 then some (.inr (.inl (v3, v7.2))) else some (.inl (w64 (v3 + 1), v7.2))) else some (.inr (.inr (v4, v5)))
def zkQ (o : Ops) (v0 : List Int) (v1 : Int) (v2 : List zaU) : Option ((Int × Int × List zaU)) :=
 (iter (fun x => zkF o v0 x.1 x.2.1 x.2.2) ((0 : Int), v1, v2)).bind fun v8 => match v8 with
 | .inl v9 => some v9
 | .inr v10 => some ((-1 : Int), v10)
def zoQ (o : Ops) : SC := ⟨⟨[(0, (.h (.sl (.i .i64)))), (1, (.fn 114 [] [(.ptr 0 0)]))], [ydI, ybG, zcJ]⟩, 1, [(none, ⟨[(0, hI)], [ydI, ybG, zcJ]⟩)], fun x => zkQ o x.1 x.2.1 x.2.2⟩
theorem zuR : SCok Tryz.prog tabs 156 (zoQ o) := zfG (o := o) (η := [(200002, .loop [] ⟨[(1, (.fn 114 [] [(.ptr 0 0)])), (8, hI)], [ydI, ybG, zcJ]⟩ [0, 7] [(some 1000000, ⟨[(4, hI)], [ydI, ybG, zcJ]⟩), (some 0, ⟨[], [ydI, ybG, zcJ]⟩)])]) (Γ := ⟨[], [(114, (zlO o))], false, []⟩) (ctok trivial ⟨zrV, trivial⟩) Tryz.func156
def zeV (o : Ops) (v0 : List Int) (v1 : Int) (v2 : List zaU) : Option ((Bool × Int × List zaU)) :=
 (zkQ o v0 v1 v2).bind fun v3 => some (decide (v3.1 ≥ 0), v3.2)
def zlZ (o : Ops) : SC := ⟨⟨[(0, (.h (.sl (.i .i64)))), (1, (.fn 114 [] [(.ptr 0 0)]))], [ydI, ybG, zcJ]⟩, 1, [(none, ⟨[(0, hB)], [ydI, ybG, zcJ]⟩)], fun x => zeV o x.1 x.2.1 x.2.2⟩
theorem zrJ : SCok Tryz.prog tabs 113 (zlZ o) := zfG (o := o) (η := []) (Γ := ⟨[], [(156, (zoQ o))], false, []⟩) (ctok trivial ⟨zuR, trivial⟩) Tryz.func113
def zcR (o : Ops) (v0 : Int) (v1 : Int) (v2 : List zaU) : Option ((Bool × Int × List zaU)) :=
 (zbN o v0 v1 v2).bind fun v3 => (zeV o v3.1 v3.2.1 v3.2.2).bind fun v4 => some v4
def zfQ (o : Ops) : SC := ⟨⟨[(0, (.ptr 0 0)), (1, hI)], [zfH, zcJ]⟩, 1, [(none, ⟨[(0, hB)], [zfH, zcJ]⟩)], fun x => zcR o x.1 x.2.1 x.2.2⟩
theorem zjT : SCok Tryz.prog tabs 54 (zfQ o) := zfG (o := o) (η := []) (Γ := ⟨[], [(25, (zdW o)), (113, (zlZ o))], false, []⟩) (ctok trivial ⟨zfN, ⟨zrJ, trivial⟩⟩) Tryz.func54
def zpM (o : Ops) (v0 : zjS) (v1 : Int) : Option (Bool) :=
 some (!v0.2.2.2.2.2.2.2.2.2.1)
def zoT (o : Ops) : PC := ⟨[(.h zuU), hI], [.b], fun x => zpM o x.1 x.2, false⟩
theorem zuQ : PCok Tryz.prog tabs 123 (zoT o) := ziY (o := o) (η := []) (Γ := ⟨[], [], false, []⟩) (ctok trivial trivial) Tryz.func123
def zoG (o : Ops) (v0 : zjS) (v1 : Int) : Option (Bool) :=
 some (!v0.2.2.2.2.2.2.2.2.2.2.1)
def zmU (o : Ops) : PC := ⟨[(.h zuU), hI], [.b], fun x => zoG o x.1 x.2, false⟩
theorem zsR : PCok Tryz.prog tabs 124 (zmU o) := ziY (o := o) (η := []) (Γ := ⟨[], [], false, []⟩) (ctok trivial trivial) Tryz.func124
def zhK (o : Ops) (v0 : zjS) (v1 : Int) : Option (Bool) :=
 some (decide (v0.2.2.2.2.2.2.2.2.1 > v1))
def zoO (o : Ops) : PC := ⟨[(.h zuU), hI], [.b], fun x => zhK o x.1 x.2, false⟩
theorem zuP : PCok Tryz.prog tabs 125 (zoO o) := ziY (o := o) (η := []) (Γ := ⟨[], [], false, []⟩) (ctok trivial trivial) Tryz.func125
def zlR (o : Ops) (v1 : Int) (v2 : Int) (v3 : Int) (v4 : Int) (v5 : Int) (v6 : Bs) (v7 : Bs) (v8 : Bs) (v9 : List Bs) (v10 : Int) (v11 : Int) (v12 : Bool) (v13 : Bool) (v14 : List Bs) (v15 : Int) (v16 : Bs) (v17 : Bs) : Option (zaU ⊕ (Bool ⊕ Unit)) :=
 bif decide (v2 < 3) then (bif decide (v2 = (0 : Int)) then ((zpM o (v3, v4, v5, v6, v7, v8, v9, v10, v11, v12, v13, v14, v15, v16, v17) v1).bind fun v18 => bif (!v18) then some (.inr (.inl false)) else some (.inl (w64 (v2 + 1), v3, v4, v5, v6, v7, v8, v9, v10, v11, v12, v13, v14, v15, v16, v17))) else (bif decide (v2 = (1 : Int)) then ((zoG o (v3, v4, v5, v6, v7, v8, v9, v10, v11, v12, v13, v14, v15, v16, v17) v1).bind fun v19 => bif (!v19) then some (.inr (.inl false)) else some (.inl (w64 (v2 + 1), v3, v4, v5, v6, v7, v8, v9, v10, v11, v12, v13, v14, v15, v16, v17))) else (bif decide (v2 = (2 : Int)) then ((zhK o (v3, v4, v5, v6, v7, v8, v9, v10, v11, v12, v13, v14, v15, v16, v17) v1).bind fun v20 => bif (!v20) then some (.inr (.inl false)) else some (.inl (w64 (v2 + 1), v3, v4, v5, v6, v7, v8, v9, v10, v11, v12, v13, v14, v15, v16, v17))) else none))) else some (.inr (.inr ()))
def zqF (o : Ops) (v0 : zjS) (v1 : Int) : Option (Bool) :=
 (iter (fun x => zlR o v1 x.1 x.2.1 x.2.2.1 x.2.2.2.1 x.2.2.2.2.1 x.2.2.2.2.2.1 x.2.2.2.2.2.2.1 x.2.2.2.2.2.2.2.1 x.2.2.2.2.2.2.2.2.1 x.2.2.2.2.2.2.2.2.2.1 x.2.2.2.2.2.2.2.2.2.2.1 x.2.2.2.2.2.2.2.2.2.2.2.1 x.2.2.2.2.2.2.2.2.2.2.2.2.1 x.2.2.2.2.2.2.2.2.2.2.2.2.2.1 x.2.2.2.2.2.2.2.2.2.2.2.2.2.2.1 x.2.2.2.2.2.2.2.2.2.2.2.2.2.2.2) ((0 : Int), v0)).bind fun v21 => match v21 with
 | .inl v22 => (some v22)
 | .inr v23 => (some true)
def zwO (o : Ops) : PC := ⟨[(.h zuU), hI], [.b], fun x => zqF o x.1 x.2, false⟩
theorem yeE : PCok Tryz.prog tabs 69 (zwO o) := ziY (o := o) (η := [(200002, .loop [] ⟨[(2, (.ptr 0 0)), (7, (.ag [(.fn 123 [] []), (.fn 124 [] []), (.fn 125 [] [])])), (8, hI)], [ywG]⟩ [1] [(some 1000000, ⟨[(4, hB)], []⟩), (some 0, ⟨[], []⟩)])]) (Γ := ⟨[(123, (zoT o)), (124, (zmU o)), (125, (zoO o))], [], false, []⟩) (ctok ⟨zuQ, ⟨zsR, ⟨zuP, trivial⟩⟩⟩ trivial) Tryz.func69
def zaW (o : Ops) (v0 : Int) (v1 : Int) (v2 : Int) (v3 : List zaU) : Option ((Bool × Int × List zaU)) :=
 let v4 : zjS := zjA keqI v3 v0 ((0 : Int), (0 : Int), (0 : Int), ([] : Bs), ([] : Bs), ([] : Bs), ([] : List Bs), (0 : Int), (0 : Int), false, false, ([] : List Bs), (0 : Int), ([] : Bs), ([] : Bs))
 bif mhas keqI v3 v0 then ((zqF o v4 v1).bind fun v5 => bif v5 then ((zcR o v0 v2 v3).bind fun v6 => some ((!v6.1), v6.2)) else some (false, v2, v3)) else some (false, v2, v3)
def zdS (o : Ops) : SC := ⟨⟨[(0, (.ptr 0 0)), (1, hI), (2, hI)], [zfH, zcJ]⟩, 1, [(none, ⟨[(0, hB)], [zfH, zcJ]⟩)], fun x => zaW o x.1 x.2.1 x.2.2.1 x.2.2.2⟩
theorem zfT : SCok Tryz.prog tabs 22 (zdS o) := zfG (o := o) (η := []) (Γ := ⟨[(69, (zwO o))], [(54, (zfQ o))], false, []⟩) (ctok ⟨yeE, trivial⟩ ⟨zjT, trivial⟩) Tryz.func22
def zhN (o : Ops) (v0 : Int) (v1 : zjS) (v2 : List (Int × Unit)) : Option ((Bool × List (Int × Unit))) :=
 let v3 : Unit := zjA keqI v2 v0 ()
 some ((!(mhas keqI v2 v0)), v2)
def zkV (o : Ops) : SC := ⟨⟨[(0, hI), (1, (.h zuU)), (2, (.ptr 0 0))], [.blk 111 [(.mpr 1)], yaY]⟩, 1, [(none, ⟨[(0, hB)], [.blk 111 [(.mpr 1)], yaY]⟩)], fun x => zhN o x.1 x.2.1 x.2.2⟩
theorem zrC : SCok Tryz.prog tabs 78 (zkV o) := zfG (o := o) (η := []) (Γ := ⟨[], [], false, []⟩) (ctok trivial trivial) Tryz.func78
noncomputable def zqE (o : Ops) (v2 : List zaU) (v3 : List (Int × Unit)) (v4 : List Int) : List (Option (((List zaU) × (List (Int × Unit)) × List Int) ⊕ (((List zaU) × List (Int × Unit))))) :=
 rngL (rngC keqI v2 v4) (some (.inr (v2, v3))) fun v5 => (mget keqI v2 v5.1).bind fun v6 => (zhN o v5.1 v6 v3).bind fun v7 => bif v7.1 then some (.inl (mdel keqI v2 v5.1, v7.2, rngD keqI v4 v5.1)) else some (.inl (v2, v7.2, rngD keqI v4 v5.1))
noncomputable def zjY (o : Ops) (v0 : List zaU) (v1 : List (Int × Unit)) : Option (((List zaU) × List (Int × Unit))) :=
 (rngA (fun x => zqE o x.1 x.2.1 x.2.2) (v0, v1, List.map Prod.fst v0)).bind fun v8 => some v8
noncomputable def zqK (o : Ops) : SC := ⟨⟨[(0, (.mpr 0)), (1, (.fn 78 [] [(.ptr 1 0)]))], [zcJ, yuP, yaY]⟩, 0, [(none, ⟨[], [zcJ, yuP, yaY]⟩)], fun x => zjY o x.1 x.2⟩
theorem zwB : SCok Tryz.prog tabs 77 (zqK o) := zfG (o := o) (η := [(200001, .rng [] ⟨[(0, (.mpr 0)), (1, (.fn 78 [] [(.ptr 1 0)])), (7, (.ptr 3 0))], [zcJ, yuP, yaY, .it 0 true (.i .i64)]⟩ [] [(some 0, ⟨[], [zcJ, yuP, yaY]⟩)])]) (Γ := ⟨[], [(78, (zkV o))], false, []⟩) (ctok trivial ⟨zrC, trivial⟩) Tryz.func77
noncomputable def zeU (o : Ops) (v10 : ((List Int) × Int × List zaU)) (v11 : Int) (v12 : Int) (v13 : List zaU) (v14 : List Int) (v15 : List (Int × Unit)) : Option ((Int × Int × (List zaU) × (List Int) × List (Int × Unit)) ⊕ ((Int × (List zaU) × (List Int) × List (Int × Unit)))) :=
 bif decide (v11 < (v10.1.length : Int)) then ((idx v10.1 v11).bind fun v16 => let v17 : List (Int × Unit) := mset keqI kltI v15 v16 ()
 some (.inl (w64 (v11 + 1), v12, v13, v14, v17))) else some (.inr (v12, v13, v14, v15))
noncomputable def znD (o : Ops) (v0 : Int) (v3 : Int) (v4 : List zaU) (v5 : List Int) (v6 : List (Int × Unit)) : List (Option ((Int × (List zaU) × (List Int) × List (Int × Unit)) ⊕ ((Int × (List zaU) × List (Int × Unit))))) :=
 rngL (rngC keqI v4 v5) (some (.inr (v3, v4, v6))) fun v7 => (mget keqI v4 v7.1).bind fun v8 => (zaW o v7.1 v0 v3 v4).bind fun v9 => bif (!v9.1) then some (.inl (v9.2.1, v9.2.2, rngD keqI v5 v7.1, v6)) else ((zbN o v7.1 v9.2.1 v9.2.2).bind fun v10 => (iter (fun x => zeU o v10 x.1 x.2.1 x.2.2.1 x.2.2.2.1 x.2.2.2.2) ((0 : Int), v10.2.1, v10.2.2, rngD keqI v5 v7.1, v6)).bind fun v18 => some (.inl v18))
noncomputable def zbJ (o : Ops) (v0 : Int) (v1 : Int) (v2 : List zaU) : Option ((Int × Int × List zaU)) :=
 (rngA (fun x => znD o v0 x.1 x.2.1 x.2.2.1 x.2.2.2) (v1, v2, List.map Prod.fst v2, ([] : List (Int × Unit)))).bind fun v19 => (zjY o v19.2.1 v19.2.2).bind fun v20 => some (w64 ((v19.2.1.length : Int) - (v20.1.length : Int)), v19.1, v20.1)
noncomputable def zdB (o : Ops) : SC := ⟨⟨[(0, (.ptr 0 0)), (1, hI)], [zfH, zcJ]⟩, 1, [(none, ⟨[(0, hI)], [zfH, zcJ]⟩)], fun x => zbJ o x.1 x.2.1 x.2.2⟩
theorem zeT : SCok Tryz.prog tabs 31 (zdB o) := zfG (o := o) (η := [(200007, .loop [] ⟨[(0, (.ptr 0 0)), (5, (.ptr 2 0)), (15, (.ptr 3 0)), (29, hI)], [zfH, zcJ, ypA, .it 1 true (.i .i64), yaY]⟩ [1, 4, 27, 28] [(some 2, ⟨[(0, (.ptr 0 0)), (5, (.ptr 2 0)), (15, (.ptr 3 0))], [zfH, zcJ, ypA, .it 1 true (.i .i64), yaY]⟩)]),
 (200003, .rng [] ⟨[(0, (.ptr 0 0)), (5, (.ptr 2 0)), (15, (.ptr 3 0))], [zfH, zcJ, ypA, .it 1 true (.i .i64), yaY]⟩ [1, 4] [(some 0, ⟨[(0, (.ptr 0 0)), (5, (.ptr 2 0))], [zfH, zcJ, .blk 111 [(.mpr 3)], yaY]⟩)])]) (Γ := ⟨[], [(22, (zdS o)), (25, (zdW o)), (77, (zqK o))], false, []⟩) (ctok trivial ⟨zfT, ⟨zfN, ⟨zwB, trivial⟩⟩⟩) Tryz.func31
noncomputable def ziQ (o : Ops) (v0 : Int) (v1 : Int) (v2 : Int) (v3 : Bs) (v4 : Bs) (v5 : Bs) (v6 : Int) (v7 : Int) (v8 : Bool) (v9 : Bool) (v10 : Int) (v11 : Bs) (v12 : Bs) (v17 : (zjS × Bool × Int × List zaU)) : Option ((Int × Int × Int × List zaU) ⊕ (Int × (List zaU) × Int × Int × Int × Bs × Bs × Bs × Int × Int × Bool × Bool × Int × Bs × Bs)) :=
 let v18 : zjS := zjA keqI v17.2.2.2 v2 ((0 : Int), (0 : Int), (0 : Int), ([] : Bs), ([] : Bs), ([] : Bs), ([] : List Bs), (0 : Int), (0 : Int), false, false, ([] : List Bs), (0 : Int), ([] : Bs), ([] : Bs))
 bif decide (v2 > 0) then (bif (!(mhas keqI v17.2.2.2 v2)) then some (.inl ((0 : Int), (133 : Int), v17.2.2)) else ((zcR o v2 v17.2.2.1 v17.2.2.2).bind fun v19 => bif v19.1 then some (.inl ((0 : Int), (133 : Int), v19.2)) else some (.inr (v19.2.1, v19.2.2, v0, v1, v2, v3, v4, v5, v6, v7, v8, v9, v10, v11, v12)))) else some (.inr (v17.2.2.1, v17.2.2.2, v0, v1, v2, v3, v4, v5, v6, v7, v8, v9, v10, v11, v12))
noncomputable def zmZ (o : Ops) (v22 : Int × (List zaU) × Int × Int × Int × Bs × Bs × Bs × Int × Int × Bool × Bool × Int × Bs × Bs) (v23 : (Int × Int × List zaU)) : Option ((Int × Int × Int × List zaU) ⊕ (Int × (List zaU) × Int × Int × Int × Bs × Bs × Bs × Int × Int × Bool × Bool × Int × Bs × Bs)) :=
 bif decide ((v23.2.2.length : Int) ≥ 256) then some (.inl ((0 : Int), (130 : Int), v23.2)) else (bif decide (v23.2.1 ≥ 99999999) then some (.inl ((0 : Int), (130 : Int), v23.2)) else some (.inr (v23.2.1, v23.2.2, v22.2.2)))
noncomputable def zcB (o : Ops) (v0 : Int) (v1 : Int) (v2 : Int) (v3 : Bs) (v4 : Bs) (v5 : Bs) (v6 : Int) (v7 : Int) (v8 : Bool) (v9 : Bool) (v10 : Int) (v11 : Bs) (v12 : Bs) (v13 : Int) (v14 : Int) (v15 : List zaU) : Option ((Int × Int × Int × List zaU)) :=
 (zgV o (v0, v1, v2, v3, v4, v5, ([] : List Bs), v6, v7, v8, v9, ([] : List Bs), v10, v11, v12)).bind fun v16 => bif (!v16) then some ((0 : Int), (131 : Int), v14, v15) else ((zbO o v11 v14 v15).bind fun v17 => bif v17.2.1 then some ((0 : Int), (132 : Int), v17.2.2) else ((ziQ o v0 v1 v2 v3 v4 v5 v6 v7 v8 v9 v10 v11 v12 v17).bind fun v20 => match v20 with
 | .inl v21 => some v21
 | .inr v22 => ((zbJ o v13 v22.1 v22.2.1).bind fun v23 => (zmZ o v22 v23).bind fun v24 => match v24 with
 | .inl v25 => some v25
 | .inr v26 => ((zgY o (v26.2.2.1, v26.2.2.2.1, v26.2.2.2.2.1, v26.2.2.2.2.2.1, v26.2.2.2.2.2.2.1, v26.2.2.2.2.2.2.2.1, ([] : List Bs), v26.2.2.2.2.2.2.2.2.1, v26.2.2.2.2.2.2.2.2.2.1, v26.2.2.2.2.2.2.2.2.2.2.1, v26.2.2.2.2.2.2.2.2.2.2.2.1, ([] : List Bs), v26.2.2.2.2.2.2.2.2.2.2.2.2)).bind fun v27 => let v28 : List zaU := mset keqI kltI v26.2.1 v26.1 (v26.1, v27.2.1, v27.2.2.1, v27.2.2.2.1, v27.2.2.2.2.1, v27.2.2.2.2.2.1, v27.2.2.2.2.2.2.1, v27.2.2.2.2.2.2.2.1, v27.2.2.2.2.2.2.2.2.1, false, false, v27.2.2.2.2.2.2.2.2.2.2.2)
 some (v26.1, (0 : Int), w64 (v26.1 + 1), v28)))))
noncomputable def zmV (o : Ops) : SC := ⟨⟨[(0, (.ptr 0 0)), (1, (.ag [hI, hI, hI, hS, hS, hS, .nils, hI, hI, hB, hB, .nils, hI, hS, hS])), (2, hI)], [zfH, zcJ]⟩, 2, [(none, ⟨[(0, hI), (1, hI)], [zfH, .mp false (.i .i64) zuU]⟩)], fun x => zcB o x.1 x.2.1 x.2.2.1 x.2.2.2.1 x.2.2.2.2.1 x.2.2.2.2.2.1 x.2.2.2.2.2.2.1 x.2.2.2.2.2.2.2.1 x.2.2.2.2.2.2.2.2.1 x.2.2.2.2.2.2.2.2.2.1 x.2.2.2.2.2.2.2.2.2.2.1 x.2.2.2.2.2.2.2.2.2.2.2.1 x.2.2.2.2.2.2.2.2.2.2.2.2.1 x.2.2.2.2.2.2.2.2.2.2.2.2.2.1 x.2.2.2.2.2.2.2.2.2.2.2.2.2.2.1 x.2.2.2.2.2.2.2.2.2.2.2.2.2.2.2⟩
theorem ztB : SCok Tryz.prog tabs 20 (zmV o) := zfG (o := o) (η := [(2000009, .join [] [2] [(some 1000000, ⟨[(6, hI), (7, hI)], [zfH, zcJ]⟩), (none, ⟨[(0, (.ptr 0 0)), (4, (.ptr 2 0))], [zfH, zcJ, ymT]⟩)]),
 (2000012, .join [] [] [(some 1000000, ⟨[(6, hI), (7, hI)], [zfH, zcJ]⟩), (none, ⟨[(0, (.ptr 0 0)), (4, (.ptr 2 0))], [zfH, zcJ, ymT]⟩)]),
 (4000006, .sch [(.pu, 0, []), (.pu, 1, []), (.pu, 2, []), (.pu, 3, []), (.pu, 4, []), (.pu, 5, []), (.pu, 6, []), (.pu, 7, []), (.pu, 8, []), (.pu, 9, [5]), (.mn, 10, []), (.mn, 11, [5]), (.pu, 12, [])]),
 (4000014, .sch [(.pu, 0, []), (.pu, 1, []), (.pu, 2, []), (.pu, 3, []), (.pu, 4, []), (.pu, 5, []), (.pu, 6, []), (.pu, 7, []), (.mn, 8, [0, 1, 2, 3])])]) (Γ := ⟨[(53, (zpA o)), (44, (zkA o))], [(36, (zdV o)), (54, (zfQ o)), (31, (zdB o))], false, []⟩) (ctok ⟨zrK, ⟨zlT, trivial⟩⟩ ⟨zfR, ⟨zjT, ⟨zeT, trivial⟩⟩⟩) Tryz.func20
def ziB (o : Ops) (v0 : Int) (v1 : Int) (v2 : Int) (v3 : Bs) (v4 : Bs) (v5 : Bs) (v6 : List Bs) (v7 : Int) (v8 : Int) (v9 : Bool) (v10 : Bool) (v11 : List Bs) (v12 : Int) (v13 : Bs) (v14 : Bs) : Option (zjS) :=
 some (v0, v1, v2, v3, v4, v5, v6, v7, v8, true, v10, v11, v12, v13, v14)
def zmG (o : Ops) : SC := ⟨⟨[(0, (.ptr 0 0))], [ywG]⟩, 0, [(none, ⟨[], [ywG]⟩)], fun x => ziB o x.1 x.2.1 x.2.2.1 x.2.2.2.1 x.2.2.2.2.1 x.2.2.2.2.2.1 x.2.2.2.2.2.2.1 x.2.2.2.2.2.2.2.1 x.2.2.2.2.2.2.2.2.1 x.2.2.2.2.2.2.2.2.2.1 x.2.2.2.2.2.2.2.2.2.2.1 x.2.2.2.2.2.2.2.2.2.2.2.1 x.2.2.2.2.2.2.2.2.2.2.2.2.1 x.2.2.2.2.2.2.2.2.2.2.2.2.2.1 x.2.2.2.2.2.2.2.2.2.2.2.2.2.2⟩
theorem zsD : SCok Tryz.prog tabs 126 (zmG o) := zfG (o := o) (η := []) (Γ := ⟨[], [], false, []⟩) (ctok trivial trivial) Tryz.func126
def zkI (o : Ops) (v0 : Int) (v1 : Int) (v2 : List zaU) : Option ((Int × List zaU)) :=
 let v3 : zjS := zjA keqI v2 v0 ((0 : Int), (0 : Int), (0 : Int), ([] : Bs), ([] : Bs), ([] : Bs), ([] : List Bs), (0 : Int), (0 : Int), false, false, ([] : List Bs), (0 : Int), ([] : Bs), ([] : Bs))
 (ziB o v3.1 v3.2.1 v3.2.2.1 v3.2.2.2.1 v3.2.2.2.2.1 v3.2.2.2.2.2.1 v3.2.2.2.2.2.2.1 v3.2.2.2.2.2.2.2.1 v3.2.2.2.2.2.2.2.2.1 v3.2.2.2.2.2.2.2.2.2.1 v3.2.2.2.2.2.2.2.2.2.2.1 v3.2.2.2.2.2.2.2.2.2.2.2.1 v3.2.2.2.2.2.2.2.2.2.2.2.2.1 v3.2.2.2.2.2.2.2.2.2.2.2.2.2.1 v3.2.2.2.2.2.2.2.2.2.2.2.2.2.2).bind fun v4 => (chk (mhas keqI v2 v0)).bind fun _ => let v5 : List zaU := mrep keqI v2 v0 v4
 some (v1, v5)
def zoB (o : Ops) : SC := ⟨⟨[(0, (.ptr 0 0)), (1, hI), (2, (.fn 126 [] []))], [zfH, zcJ]⟩, 0, [(none, ⟨[], [zfH, zcJ]⟩)], fun x => zkI o x.1 x.2.1 x.2.2⟩
theorem ztD : SCok Tryz.prog tabs 117 (zoB o) := zfG (o := o) (η := [(4000002, .sch [(.pu, 0, []), (.pu, 1, []), (.pu, 2, []), (.pu, 3, []), (.pu, 4, []), (.pu, 5, []), (.mn, 6, [0, 1, 2, 3])])]) (Γ := ⟨[], [(126, (zmG o))], true, []⟩) (ctok trivial ⟨zsD, trivial⟩) Tryz.func117
def zcS (o : Ops) (v0 : Int) (v1 : Int) (v2 : List zaU) : Option ((Int × List zaU)) :=
 (zkI o v0 v1 v2).bind fun v3 => some v3
def zfW (o : Ops) : SC := ⟨⟨[(0, (.ptr 0 0)), (1, hI)], [zfH, zcJ]⟩, 0, [(none, ⟨[], [zfH, zcJ]⟩)], fun x => zcS o x.1 x.2.1 x.2.2⟩
theorem zjC : SCok Tryz.prog tabs 70 (zfW o) := zfG (o := o) (η := []) (Γ := ⟨[], [(117, (zoB o))], false, []⟩) (ctok trivial ⟨ztD, trivial⟩) Tryz.func70
def zeG (o : Ops) (v0 : Int) (v1 : Int) (v2 : List zaU) : Option ((Int × Int × List zaU)) :=
 let v3 : zjS := zjA keqI v2 v0 ((0 : Int), (0 : Int), (0 : Int), ([] : Bs), ([] : Bs), ([] : Bs), ([] : List Bs), (0 : Int), (0 : Int), false, false, ([] : List Bs), (0 : Int), ([] : Bs), ([] : Bs))
 bif (!(mhas keqI v2 v0)) then some ((131 : Int), v1, v2) else ((zcS o v0 v1 v2).bind fun v4 => some ((0 : Int), v4))
def zjL (o : Ops) : SC := ⟨⟨[(0, (.ptr 0 0)), (1, hI)], [zfH, zcJ]⟩, 1, [(none, ⟨[(0, hI)], [zfH, zcJ]⟩)], fun x => zeG o x.1 x.2.1 x.2.2⟩
theorem zoH : SCok Tryz.prog tabs 24 (zjL o) := zfG (o := o) (η := []) (Γ := ⟨[], [(70, (zfW o))], false, []⟩) (ctok trivial ⟨zjC, trivial⟩) Tryz.func24
def zvJ (o : Ops) (v0 : List zaU) : Option ((List zaU)) :=
 some v0
def zxL (o : Ops) : SC := ⟨⟨[(0, (.mpr 0))], [zcJ]⟩, 1, [(none, ⟨[(0, (.fn 97 [] [(.ptr 1 0)]))], [zcJ, .blk 73 [(.mpr 0)]]⟩)], fun x => zvJ o x⟩
theorem ygJ : SCok Tryz.prog tabs 43 (zxL o) := zfG (o := o) (η := []) (Γ := ⟨[], [], false, []⟩) (ctok trivial trivial) Tryz.func43
def ygY : SC := ⟨⟨[(0, (.fn 97 [] [(.ptr 0 0)]))], [.blk 73 [(.mpr 1)], zcJ]⟩, 1, [(none, ⟨[(0, (.h (.sl (.i .i64))))], [.blk 73 [(.mpr 1)], zcJ]⟩)], fun es => zyS es⟩
theorem ysM : SCok Tryz.prog tabs 42 ygY := wit (G := tabs) <| ymE (kT := 3) (isFn Tryz.func42) (by kernel_rfl) YtebbcofojchkpaaGreatDoor.sortedIK
def ziJ (o : Ops) (v4 : ((List Int) × List zaU)) (v5 : Int) (v6 : Int) (v7 : List zaU) (v8 : List zjS) : Option ((Int × Int × (List zaU) × List zjS) ⊕ ((Int × (List zaU) × List zjS))) :=
 bif decide (v5 < (v4.1.length : Int)) then ((idx v4.1 v5).bind fun v9 => let v10 : zjS := zjA keqI v7 v9 ((0 : Int), (0 : Int), (0 : Int), ([] : Bs), ([] : Bs), ([] : Bs), ([] : List Bs), (0 : Int), (0 : Int), false, false, ([] : List Bs), (0 : Int), ([] : Bs), ([] : Bs))
 (zgY o v10).bind fun v11 => (app v8 ([v11] : List zjS)).bind fun v12 => some (.inl (w64 (v5 + 1), v6, v7, v12))) else some (.inr (v6, v7, v8))
def zcC (o : Ops) (v0 : Int) (v1 : List zaU) : Option ((Int × (List zaU) × List zjS)) :=
 (chk (decide ((0 : Int) ≤ (v1.length : Int)) && decide ((v1.length : Int) ≤ (LIM : Int)))).bind fun _ => (mkL (0 : Int) ((0 : Int), (0 : Int), (0 : Int), ([] : Bs), ([] : Bs), ([] : Bs), ([] : List Bs), (0 : Int), (0 : Int), false, false, ([] : List Bs), (0 : Int), ([] : Bs), ([] : Bs))).bind fun v2 => (zvJ o v1).bind fun v3 => (zyS v3).bind fun v4 => (iter (fun x => ziJ o v4 x.1 x.2.1 x.2.2.1 x.2.2.2) ((0 : Int), v0, v4.2, v2)).bind fun v13 => some v13
def zeY (o : Ops) : SC := ⟨⟨[(0, (.ptr 0 0))], [zfH, zcJ]⟩, 1, [(none, ⟨[(0, (.own 2))], [zfH, zcJ, .osl zuU 47]⟩)], fun x => zcC o x.1 x.2⟩
theorem ziI : SCok Tryz.prog tabs 15 (zeY o) := zfG (o := o) (η := [(200003, .loop [] ⟨[(0, (.ptr 0 0)), (3, (.own 2)), (19, hI)], [zfH, zcJ, .osl zuU 47]⟩ [2, 17, 18] [(some 0, ⟨[(3, (.own 2))], [zfH, zcJ, .osl zuU 47]⟩)])]) (Γ := ⟨[(44, (zkA o))], [(43, (zxL o)), (42, ygY)], false, []⟩) (ctok ⟨zlT, trivial⟩ ⟨ygJ, ⟨ysM, trivial⟩⟩) Tryz.func15
def zjB (o : Ops) (v0 : List Bs) : Option (List Bs) :=
 (o.itoa (v0.length : Int)).bind fun v1 => (app ([v1] : List Bs) v0).bind fun v2 => some v2
def zsM (o : Ops) : PC := ⟨[(.h (.sl .s))], [(.sl .s)], fun x => zjB o x, false⟩
theorem zxT : PCok Tryz.prog tabs 48 (zsM o) := ziY (o := o) (η := []) (Γ := ⟨[(46, (yiN o))], [], false, []⟩) (ctok ⟨(zkJ.itoa (G := tabs)), trivial⟩ trivial) Tryz.func48
def zoW (o : Ops) (v0 : Bool) : Option Bs :=
 bif v0 then (some ([49] : Bs)) else (some ([48] : Bs))
def zvF (o : Ops) : PC := ⟨[hB], [.s], fun x => zoW o x, false⟩
theorem ybO : PCok Tryz.prog tabs 49 (zvF o) := ziY (o := o) (η := []) (Γ := ⟨[], [], false, []⟩) (ctok trivial trivial) Tryz.func49
def yrT : SC := ⟨⟨[(0, .nils), (1, hI)], []⟩, 1, [(none, ⟨[(0, (.own 0))], [.osl .s 9]⟩)], fun n => ymV .s n⟩
theorem xcA : SCok Tryz.prog tabs 102 yrT := wit (G := tabs) <| ywI (isFn Tryz.func102) growK
def zkP (o : Ops) (v0 : List (List Bs)) (v1 : Int) (v2 : Int) : Option ((Int × Int) ⊕ Int) :=
 bif decide (v2 < (v0.length : Int)) then ((idx v0 v2).bind fun v3 => bif decide ((w64 (v1 + (v3.length : Int))) < 0) then none else some (.inl (w64 (v1 + (v3.length : Int)), w64 (v2 + 1)))) else some (.inr v1)
def zkO (o : Ops) (v0 : List (List Bs)) (v6 : Int) (v7 : List Bs) : Option ((Int × List Bs) ⊕ List Bs) :=
 bif decide (v6 < (v0.length : Int)) then ((idx v0 v6).bind fun v8 => (app v7 v8).bind fun v9 => some (.inl (w64 (v6 + 1), v9))) else some (.inr v7)
def zmB (o : Ops) (v0 : List (List Bs)) : Option (List Bs) :=
 (iter (fun x => zkP o v0 x.1 x.2) ((0 : Int), (0 : Int))).bind fun v4 => (ymV .s v4).bind fun v5 => (iter (fun x => zkO o v0 x.1 x.2) ((0 : Int), v5)).bind fun v10 => some v10
def zsP (o : Ops) : PC := ⟨[(.h (.sl (.sl .s)))], [(.sl .s)], fun x => zmB o x, false⟩
theorem zyC : PCok Tryz.prog tabs 47 (zsP o) := ziY (o := o) (η := [(200003, .loop [] ⟨[(3, hI), (11, hI)], []⟩ [0, 2, 9, 10] [(some 0, ⟨[(3, hI)], []⟩)]),
 (200011, .loop [] ⟨[(6, (.own 0)), (27, hI)], [.osl .s 9]⟩ [2, 25, 26] [(some 2, ⟨[(6, (.own 0))], [.osl .s 9]⟩)])]) (Γ := ⟨[], [(102, yrT)], false, []⟩) (ctok trivial ⟨xcA, trivial⟩) Tryz.func47
def ylM : PC := ⟨[.h (.sl (.pr .s .s))], [(.sl (.pr .s .s))], fun xs => some xs, true⟩
theorem ywU : PCok Tryz.prog tabs 51 ylM := wit (G := tabs) <| ydH ycK τ_okWkF Tryz.func51 (isFn Tryz.func51) rfl (by kernel_rfl) (fun _ => by kernel_rfl)
def zfL (o : Ops) (v4 : (Int × (List zaU) × List zjS)) (v5 : Int) (v6 : Int) (v7 : List zaU) (v8 : List (Bs × Bs)) (v9 : List zjS) : Option ((Int × Int × (List zaU) × (List (Bs × Bs)) × List zjS) ⊕ ((Int × (List zaU) × List (Bs × Bs)))) :=
 bif decide (v5 < (v4.2.2.length : Int)) then ((chk (decide ((0 : Int) ≤ v5) && decide (v5 < (v9.length : Int)))).bind fun _ => (idx v9 v5).bind fun v10 => (o.itoa v10.1).bind fun v11 => (o.itoa v10.2.1).bind fun v12 => (o.itoa v10.2.2.1).bind fun v13 => (zjB o v10.2.2.2.2.2.2.1).bind fun v14 => (o.itoa v10.2.2.2.2.2.2.2.1).bind fun v15 => (o.itoa v10.2.2.2.2.2.2.2.2.1).bind fun v16 => (zoW o v10.2.2.2.2.2.2.2.2.2.1).bind fun v17 => (zoW o v10.2.2.2.2.2.2.2.2.2.2.1).bind fun v18 => (zjB o v10.2.2.2.2.2.2.2.2.2.2.2.1).bind fun v19 => (o.itoa v10.2.2.2.2.2.2.2.2.2.2.2.2.1).bind fun v20 => (zmB o ([([v12, v13, v10.2.2.2.1, v10.2.2.2.2.1, v10.2.2.2.2.2.1] : List Bs), v14, ([v15, v16, v17, v18] : List Bs), v19, ([v20, v10.2.2.2.2.2.2.2.2.2.2.2.2.2.1, v10.2.2.2.2.2.2.2.2.2.2.2.2.2.2] : List Bs)] : List (List Bs))).bind fun v21 => let v22 : Int := (bif decide ((0 : Int) ≤ w64 ((8 : Int) - (v11.length : Int))) then w64 ((8 : Int) - (v11.length : Int)) else (0 : Int))
 (o.rep ([48] : Bs) v22).bind fun v23 => (app ([110, 111, 100, 101, 47] : Bs) v23).bind fun v24 => (app v24 v11).bind fun v25 => (o.form v21).bind fun v26 => (app v8 ([(v25, v26)] : List (Bs × Bs))).bind fun v27 => some (.inl (w64 (v5 + 1), v6, v7, v27, v9))) else some (.inr (v6, v7, v8))
def zcT (o : Ops) (v0 : Int) (v1 : List zaU) : Option (((List (Bs × Bs)) × Int × List zaU)) :=
 (o.itoa v0).bind fun v2 => (o.form ([v2] : List Bs)).bind fun v3 => (zcC o v0 v1).bind fun v4 => (iter (fun x => zfL o v4 x.1 x.2.1 x.2.2.1 x.2.2.2.1 x.2.2.2.2) ((0 : Int), v4.1, v4.2.1, ([(([102, 111, 114, 101, 115, 116] : Bs), v3)] : List (Bs × Bs)), v4.2.2)).bind fun v28 => some (v28.2.2, v28.1, v28.2.1)
def zjR (o : Ops) : SC := ⟨⟨[(0, (.ptr 0 0))], [zfH, zcJ]⟩, 1, [(none, ⟨[(0, (.hc (.pr .s .s)))], [zfH, zcJ]⟩)], fun x => zcT o x.1 x.2⟩
theorem znZ : SCok Tryz.prog tabs 16 (zjR o) := zfG (o := o) (η := [(200003, .loop [] ⟨[(3, (.own 2)), (18, (.own 3)), (20, hI)], [zfH, zcJ, .osl (.pr .s .s) 24, .osl zuU 47]⟩ [2, 19] [(some 0, ⟨[(3, (.own 2))], [zfH, zcJ, .osl (.pr .s .s) 24]⟩)]),
 (4000006, .sch [(.pu, 0, []), (.pu, 1, []), (.pu, 3, []), (.pu, 4, []), (.pu, 6, []), (.pu, 7, []), (.pu, 8, []), (.pu, 9, []), (.pu, 10, []), (.pu, 11, []), (.pu, 13, []), (.pu, 14, []), (.pu, 16, []), (.pu, 17, []), (.pu, 19, []), (.pu, 20, []), (.pu, 22, []), (.pu, 23, []), (.pu, 25, []), (.pu, 26, []), (.pu, 29, []), (.pu, 30, []), (.pu, 32, []), (.pu, 33, []), (.pu, 35, []), (.pu, 36, []), (.pu, 37, []), (.pu, 38, []), (.mn, 2, []), (.mn, 5, []), (.la, 12, []), (.mn, 15, []), (.mn, 18, []), (.mn, 21, []), (.mn, 24, []), (.mn, 27, []), (.la, 28, []), (.mn, 31, []), (.mn, 34, []), (.mn, 39, []), (.rv, 12, []), (.rv, 28, []), (.mn, 40, [0, 1, 2, 3, 4, 5, 6, 7]), (.mn, 41, [8]), (.pu, 42, [])])]) (Γ := ⟨[(46, (yiN o)), (45, (ytB o)), (48, (zsM o)), (49, (zvF o)), (47, (zsP o)), (50, (yxE o)), (51, ylM)], [(15, (zeY o))], false, []⟩) (ctok ⟨(zkJ.itoa (G := tabs)), ⟨(zkJ.form (G := tabs)), ⟨zxT, ⟨ybO, ⟨zyC, ⟨(zkJ.rep (G := tabs)), ⟨ywU, trivial⟩⟩⟩⟩⟩⟩⟩ ⟨ziI, trivial⟩) Tryz.func16
def zyH (o : Ops) (v0 : Bs) : Option ((Int × Bool) ⊕ Unit) :=
 bif (v0 == ([] : Bs)) then some (.inl ((0 : Int), false)) else (bif decide ((v0.length : Int) > 15) then some (.inl ((0 : Int), false)) else ((idx v0 (0 : Int)).bind fun v1 => bif ((v1.toNat : Int) == ((48 : UInt8).toNat : Int)) then (bif (v0 != ([48] : Bs)) then some (.inl ((0 : Int), false)) else ((o.trim v0 ([48, 49, 50, 51, 52, 53, 54, 55, 56, 57] : Bs)).bind fun v2 => bif (v2 != ([] : Bs)) then some (.inl ((0 : Int), false)) else some (.inr ()))) else ((o.trim v0 ([48, 49, 50, 51, 52, 53, 54, 55, 56, 57] : Bs)).bind fun v3 => bif (v3 != ([] : Bs)) then some (.inl ((0 : Int), false)) else some (.inr ()))))
def ztJ (o : Ops) (v0 : Bs) : Option (Int × Bool) :=
 (zyH o v0).bind fun v4 => match v4 with
 | .inl v5 => (some v5)
 | .inr v6 => ((o.atoi v0).bind fun v7 => some (v7.1, (!v7.2)))
def zsL (o : Ops) : PC := ⟨[hS], [(.i .i64), .b], fun x => ztJ o x, false⟩
theorem zxS : PCok Tryz.prog tabs 80 (zsL o) := ziY (o := o) (η := [(2000003, .join [] [0] [(some 1000000, ⟨[(2, hI), (3, hB)], []⟩), (none, ⟨[], []⟩)]),
 (4000004, .sch [(.pu, 0, []), (.pu, 1, []), (.pu, 2, []), (.pu, 3, []), (.pu, 4, [])])]) (Γ := ⟨[(82, (zzS o)), (83, (yeV o))], [], false, []⟩) (ctok ⟨(zkJ.trim (G := tabs)), ⟨(zkJ.atoi (G := tabs)), trivial⟩⟩ trivial) Tryz.func80
def zxR (o : Ops) (v2 : List Bs) (v3 : Bs × Bs × Bool) (v4 : Int × Bool) : Option (Bool ⊕ List Bs) :=
 bif (!v3.2.2) then some (.inl false) else (bif (!v4.2) then some (.inl false) else (bif decide (v4.1 > (v3.2.1.length : Int)) then some (.inl false) else some (.inr v2)))
def zyF (o : Ops) (v1 : Bs) (v2 : List Bs) : Option ((Bs × List Bs) ⊕ (Bool ⊕ List Bs)) :=
 bif (v1 != ([] : Bs)) then ((o.cut v1 ([58] : Bs)).bind fun v3 => (ztJ o v3.1).bind fun v4 => (zxR o v2 v3 v4).bind fun v5 => match v5 with
 | .inl v6 => some (.inr (.inl v6))
 | .inr v7 => ((subH v3.2.1 v4.1).bind fun v8 => (app v7 ([v8] : List Bs)).bind fun v9 => (subL v3.2.1 v4.1).bind fun v10 => some (.inl (v10, v9)))) else some (.inr (.inr v2))
def znM (o : Ops) (v0 : Bs) : Option (zzX) :=
 (iter (fun x => zyF o x.1 x.2) (v0, ([] : List Bs))).bind fun v11 => match v11 with
 | .inl v12 => some (([] : List Bs), v12)
 | .inr v13 => some (v13, true)
def zpW (o : Ops) : SC := ⟨⟨[(0, hS)], []⟩, 2, [(none, ⟨[(0, (.h (.sl .s))), (1, hB)], []⟩)], fun x => znM o x⟩
theorem ztF : SCok Tryz.prog tabs 32 (zpW o) := zfG (o := o) (η := [(2000007, .join [] [6, 8] [(some 1000000, ⟨[(2, .nils), (3, hB)], []⟩), (none, ⟨[(4, (.own 0))], [.osl .s 9]⟩)]),
 (200002, .loop [.sl 4 .s 9] ⟨[(0, hS), (4, (.own 0))], [.osl .s 9]⟩ [] [(some 1000000, ⟨[(2, .nils), (3, hB)], []⟩), (some 0, ⟨[(4, (.own 0))], [.osl .s 9]⟩)])]) (Γ := ⟨[(79, (yyB o)), (80, (zsL o)), (81, yiS)], [], false, []⟩) (ctok ⟨(zkJ.cut (G := tabs)), ⟨zxS, ⟨ysE, trivial⟩⟩⟩ trivial) Tryz.func32
def zxZ (o : Ops) (v0 : Bs) : Option ((Int × Bool) ⊕ Unit) :=
 bif (v0 == ([] : Bs)) then some (.inl ((0 : Int), false)) else (bif decide ((v0.length : Int) > 15) then some (.inl ((0 : Int), false)) else ((idx v0 (0 : Int)).bind fun v1 => bif ((v1.toNat : Int) == ((48 : UInt8).toNat : Int)) then (bif (v0 != ([48] : Bs)) then some (.inl ((0 : Int), false)) else ((o.trim v0 ([48, 49, 50, 51, 52, 53, 54, 55, 56, 57] : Bs)).bind fun v2 => bif (v2 != ([] : Bs)) then some (.inl ((0 : Int), false)) else some (.inr ()))) else ((o.trim v0 ([48, 49, 50, 51, 52, 53, 54, 55, 56, 57] : Bs)).bind fun v3 => bif (v3 != ([] : Bs)) then some (.inl ((0 : Int), false)) else some (.inr ()))))
def zpN (o : Ops) (v0 : Bs) : Option (Int × Bool) :=
 (zxZ o v0).bind fun v4 => match v4 with
 | .inl v5 => (some v5)
 | .inr v6 => ((o.atoi v0).bind fun v7 => some (v7.1, (!v7.2)))
def zoM (o : Ops) : PC := ⟨[hS], [(.i .i64), .b], fun x => zpN o x, false⟩
theorem zsJ : PCok Tryz.prog tabs 33 (zoM o) := ziY (o := o) (η := [(2000003, .join [] [0] [(some 1000000, ⟨[(2, hI), (3, hB)], []⟩), (none, ⟨[], []⟩)]),
 (4000004, .sch [(.pu, 0, []), (.pu, 1, []), (.pu, 2, []), (.pu, 3, []), (.pu, 4, [])])]) (Γ := ⟨[(82, (zzS o)), (83, (yeV o))], [], false, []⟩) (ctok ⟨(zkJ.trim (G := tabs)), ⟨(zkJ.atoi (G := tabs)), trivial⟩⟩ trivial) Tryz.func33
def zcX (o : Ops) (v0 : Bs) (v1 : Bs) : Option (Bool) :=
 bif decide ((v0.length : Int) ≥ (v1.length : Int)) then ((subH v0 (v1.length : Int)).bind fun v2 => some (v2 == v1)) else (some false)
def zfK (o : Ops) : PC := ⟨[hS, hS], [.b], fun x => zcX o x.1 x.2, false⟩
theorem zmD : PCok Tryz.prog tabs 150 (zfK o) := ziY (o := o) (η := []) (Γ := ⟨[], [], false, []⟩) (ctok trivial trivial) Tryz.func150
def zcV (o : Ops) (v0 : Bs) (v1 : Bs) : Option (Bs × Bool) :=
 (zcX o v0 v1).bind fun v2 => bif (!v2) then (some (v0, false)) else ((subL v0 (v1.length : Int)).bind fun v3 => some (v3, true))
def zfU (o : Ops) : PC := ⟨[hS, hS], [.s, .b], fun x => zcV o x.1 x.2, false⟩
theorem zlG : PCok Tryz.prog tabs 127 (zfU o) := ziY (o := o) (η := []) (Γ := ⟨[(150, (zfK o))], [], false, []⟩) (ctok ⟨zmD, trivial⟩ trivial) Tryz.func127
def zeQ (o : Ops) (v0 : Bs) (v1 : Bs) : Option (Bs × Bool) :=
 (zcV o v0 v1).bind fun v2 => some v2
def zkD (o : Ops) : PC := ⟨[hS, hS], [.s, .b], fun x => zeQ o x.1 x.2, false⟩
theorem zoP : PCok Tryz.prog tabs 72 (zkD o) := ziY (o := o) (η := []) (Γ := ⟨[(127, (zfU o))], [], false, []⟩) (ctok ⟨zlG, trivial⟩ trivial) Tryz.func72
def zbF (o : Ops) (v0 : List Bs) (v1 : Bool) : Option ((Bs × zzX)) :=
 bif ((v0.length : Int) == 0) then some (([] : Bs), v0, true) else ((idx v0 (0 : Int)).bind fun v2 => (subL v0 (1 : Int)).bind fun v3 => some (v2, v3, v1))
def zfJ (o : Ops) : SC := ⟨⟨[(0, (.ptr 0 0))], [ybF]⟩, 1, [(none, ⟨[(0, hS)], [ybF]⟩)], fun x => zbF o x.1 x.2⟩
theorem zjK : SCok Tryz.prog tabs 85 (zfJ o) := zfG (o := o) (η := []) (Γ := ⟨[], [], false, []⟩) (ctok trivial trivial) Tryz.func85
def zbG (o : Ops) (v0 : List Bs) (v1 : Bool) : Option ((Int × zzX)) :=
 (zbF o v0 v1).bind fun v2 => (zpN o v2.1).bind fun v3 => bif v2.2.2 then some (v3.1, v2.2.1, true) else some (v3.1, v2.2.1, (!v3.2))
def zhT (o : Ops) : SC := ⟨⟨[(0, (.ptr 0 0))], [ybF]⟩, 1, [(none, ⟨[(0, hI)], [ybF]⟩)], fun x => zbG o x.1 x.2⟩
theorem zlQ : SCok Tryz.prog tabs 84 (zhT o) := zfG (o := o) (η := []) (Γ := ⟨[(33, (zoM o))], [(85, (zfJ o))], false, []⟩) (ctok ⟨zsJ, trivial⟩ ⟨zjK, trivial⟩) Tryz.func84
def zuI (o : Ops) (v2 : (Int × zzX)) : Option (zzX ⊕ zzX) :=
 bif v2.2.2 then some (.inl (v2.2.1, true)) else (bif decide (v2.1 > (v2.2.1.length : Int)) then some (.inl (v2.2.1, true)) else some (.inr v2.2))
def zkE (o : Ops) (v0 : List Bs) (v1 : Bool) : Option (((List Bs) × zzX)) :=
 (zbG o v0 v1).bind fun v2 => (zuI o v2).bind fun v3 => match v3 with
 | .inl v4 => some (([] : List Bs), v4)
 | .inr v5 => ((chk (decide (v2.1 = v2.1))).bind fun _ => (subH v5.1 v2.1).bind fun v6 => (subL v5.1 v2.1).bind fun v7 => some (v6, v7, v5.2))
def znV (o : Ops) : SC := ⟨⟨[(0, (.ptr 0 0))], [ybF]⟩, 1, [(none, ⟨[(0, (.h (.sl .s)))], [ybF]⟩)], fun x => zkE o x.1 x.2⟩
theorem zuJ : SCok Tryz.prog tabs 86 (znV o) := zfG (o := o) (η := [(2000005, .join [] [3] [(some 1000000, ⟨[(2, .nils)], [ybF]⟩), (none, ⟨[(0, (.ptr 0 0))], [ybF]⟩)])]) (Γ := ⟨[], [(84, (zhT o))], false, []⟩) (ctok trivial ⟨zlQ, trivial⟩) Tryz.func86
def zkG (o : Ops) (v0 : List Bs) (v1 : Bool) : Option ((Bool × zzX)) :=
 (zbF o v0 v1).bind fun v2 => bif v2.2.2 then some ((v2.1 == ([49] : Bs)), v2.2.1, true) else (bif (v2.1 != ([48] : Bs)) then some ((v2.1 == ([49] : Bs)), v2.2.1, (v2.1 != ([49] : Bs))) else some ((v2.1 == ([49] : Bs)), v2.2.1, false))
def zoC (o : Ops) : SC := ⟨⟨[(0, (.ptr 0 0))], [ybF]⟩, 1, [(none, ⟨[(0, hB)], [ybF]⟩)], fun x => zkG o x.1 x.2⟩
theorem ztP : SCok Tryz.prog tabs 87 (zoC o) := zfG (o := o) (η := []) (Γ := ⟨[], [(85, (zfJ o))], false, []⟩) (ctok trivial ⟨zjK, trivial⟩) Tryz.func87
def ybA (o : Ops) (v1 : Bs × Bool) (v2 : zzX) : Option ((Bool × Int × Int × Int × Bs × Bs × Bs × Int × Int × Bool × Bool × Int × Bs × Bs) ⊕ (Int × Int × Int × Bs × Bs × Bs × Int × Int × Bool × Bool × Int × Bs × Bs)) :=
 bif (!v1.2) then some (.inl (false, (0 : Int), (0 : Int), (0 : Int), ([] : Bs), ([] : Bs), ([] : Bs), (0 : Int), (0 : Int), false, false, (0 : Int), ([] : Bs), ([] : Bs))) else (bif (!v2.2) then some (.inl (false, (0 : Int), (0 : Int), (0 : Int), ([] : Bs), ([] : Bs), ([] : Bs), (0 : Int), (0 : Int), false, false, (0 : Int), ([] : Bs), ([] : Bs))) else (bif ((v1.1.length : Int) != 8) then some (.inl (false, (0 : Int), (0 : Int), (0 : Int), ([] : Bs), ([] : Bs), ([] : Bs), (0 : Int), (0 : Int), false, false, (0 : Int), ([] : Bs), ([] : Bs))) else ((o.trim v1.1 ([48, 49, 50, 51, 52, 53, 54, 55, 56, 57] : Bs)).bind fun v3 => bif (v3 != ([] : Bs)) then some (.inl (false, (0 : Int), (0 : Int), (0 : Int), ([] : Bs), ([] : Bs), ([] : Bs), (0 : Int), (0 : Int), false, false, (0 : Int), ([] : Bs), ([] : Bs))) else some (.inr ((0 : Int), (0 : Int), (0 : Int), ([] : Bs), ([] : Bs), ([] : Bs), (0 : Int), (0 : Int), false, false, (0 : Int), ([] : Bs), ([] : Bs))))))
def zpC (o : Ops) (v0 : Bs × Bs) : Option (zjS × Bool) :=
 (zeQ o v0.1 ([110, 111, 100, 101, 47] : Bs)).bind fun v1 => (znM o v0.2).bind fun v2 => (ybA o v1 v2).bind fun v4 => match v4 with
 | .inl v5 => (some ((v5.2.1, v5.2.2.1, v5.2.2.2.1, v5.2.2.2.2.1, v5.2.2.2.2.2.1, v5.2.2.2.2.2.2.1, ([] : List Bs), v5.2.2.2.2.2.2.2.1, v5.2.2.2.2.2.2.2.2.1, v5.2.2.2.2.2.2.2.2.2.1, v5.2.2.2.2.2.2.2.2.2.2.1, ([] : List Bs), v5.2.2.2.2.2.2.2.2.2.2.2), v5.1))
 | .inr v6 => ((zbG o v2.1 false).bind fun v7 => (zbG o v7.2.1 v7.2.2).bind fun v8 => (zbF o v8.2.1 v8.2.2).bind fun v9 => (zbF o v9.2.1 v9.2.2).bind fun v10 => (zbF o v10.2.1 v10.2.2).bind fun v11 => (zkE o v11.2.1 v11.2.2).bind fun v12 => (zbG o v12.2.1 v12.2.2).bind fun v13 => (zbG o v13.2.1 v13.2.2).bind fun v14 => (zkG o v14.2.1 v14.2.2).bind fun v15 => (zkG o v15.2.1 v15.2.2).bind fun v16 => (zkE o v16.2.1 v16.2.2).bind fun v17 => (zbG o v17.2.1 v17.2.2).bind fun v18 => (zbF o v18.2.1 v18.2.2).bind fun v19 => (zbF o v19.2.1 v19.2.2).bind fun v20 => (o.atoi v1.1).bind fun v21 => (zgY o (v21.1, v7.1, v8.1, v9.1, v10.1, v11.1, v12.1, v13.1, v14.1, v15.1, v16.1, v17.1, v18.1, v19.1, v20.1)).bind fun v22 => bif (!v20.2.2) then (bif ((v20.2.1.length : Int) == 0) then ((zgV o (v21.1, v7.1, v8.1, v9.1, v10.1, v11.1, v12.1, v13.1, v14.1, v15.1, v16.1, v17.1, v18.1, v19.1, v20.1)).bind fun v23 => some (v22, v23)) else (some (v22, false))) else (some (v22, false)))
def zvH (o : Ops) : PC := ⟨[(.h (.pr .s .s))], [zuU, .b], fun x => zpC o x, false⟩
theorem ybJ : PCok Tryz.prog tabs 35 (zvH o) := ziY (o := o) (η := [(2000005, .join [] [4, 6] [(some 1000000, ⟨[(2, (.ptr 0 0)), (3, hB)], [ymT]⟩), (none, ⟨[(2, (.ptr 0 0))], [ymT]⟩)]),
 (4000008, .sch [(.pu, 0, []), (.pu, 2, []), (.pu, 3, []), (.pu, 4, []), (.pu, 5, []), (.pu, 6, []), (.mn, 1, []), (.pu, 7, []), (.pu, 8, []), (.pu, 9, []), (.pu, 10, []), (.pu, 11, []), (.pu, 12, []), (.pu, 13, []), (.pu, 14, []), (.pu, 15, []), (.pu, 16, []), (.mn, 17, []), (.pu, 18, [0]), (.mn, 19, [0]), (.pu, 20, [])])]) (Γ := ⟨[(72, (zkD o)), (82, (zzS o)), (83, (yeV o)), (44, (zkA o)), (53, (zpA o))], [(32, (zpW o)), (84, (zhT o)), (85, (zfJ o)), (86, (znV o)), (87, (zoC o))], false, []⟩) (ctok ⟨zoP, ⟨(zkJ.trim (G := tabs)), ⟨(zkJ.atoi (G := tabs)), ⟨zlT, ⟨zrK, trivial⟩⟩⟩⟩⟩ ⟨ztF, ⟨zlQ, ⟨zjK, ⟨zuJ, ⟨ztP, trivial⟩⟩⟩⟩⟩) Tryz.func35
noncomputable def zvG (o : Ops) (v0 : List (Bs × Bs)) : Option (Int ⊕ Unit) :=
 bif ((v0.length : Int) == 0) then some (.inl (135 : Int)) else ((idx v0 (0 : Int)).bind fun v1 => bif (v1.1 != ([102, 111, 114, 101, 115, 116] : Bs)) then some (.inl (135 : Int)) else (bif decide ((v0.length : Int) > 257) then some (.inl (135 : Int)) else some (.inr ())))
noncomputable def zvB (o : Ops) (v6 : zzX) : Option (Int ⊕ Unit) :=
 bif (!v6.2) then some (.inl (135 : Int)) else (bif ((v6.1.length : Int) != 1) then some (.inl (135 : Int)) else some (.inr ()))
noncomputable def zvE (o : Ops) (v6 : zzX) (v10 : (Int × List zaU)) : Option (Int ⊕ (Int × List zaU)) :=
 (idx v6.1 (0 : Int)).bind fun v11 => (zpN o v11).bind fun v12 => bif (!v12.2) then some (.inl (135 : Int)) else ((zaP o v12.1 (1 : Int) (99999999 : Int)).bind fun v13 => bif (!v13) then some (.inl (135 : Int)) else some (.inr (v12.1, v10.2)))
noncomputable def ybB (o : Ops) (v18 : Int) (v23 : zjS × Bool) (v24 : (zjS × Bool × Int × List zaU)) : Option (Int ⊕ (Int × Int × Int × Int × Bs × Bs × Bs × (List Bs) × Int × Int × Bool × Bool × (List Bs) × Int × Bs × Bs × List zaU)) :=
 bif (!v23.2) then some (.inl (135 : Int)) else (bif v24.2.1 then some (.inl (135 : Int)) else (bif decide (v23.1.1 ≤ v18) then some (.inl (135 : Int)) else (bif decide (v23.1.1 ≥ v24.2.2.1) then some (.inl (135 : Int)) else (bif decide (v23.1.2.2.1 ≥ v23.1.1) then some (.inl (135 : Int)) else some (.inr (v24.2.2.1, v23.1.1, v23.1.2.1, v23.1.2.2.1, v23.1.2.2.2.1, v23.1.2.2.2.2.1, v23.1.2.2.2.2.2.1, v23.1.2.2.2.2.2.2.1, v23.1.2.2.2.2.2.2.2.1, v23.1.2.2.2.2.2.2.2.2.1, v23.1.2.2.2.2.2.2.2.2.2.1, v23.1.2.2.2.2.2.2.2.2.2.2.1, v23.1.2.2.2.2.2.2.2.2.2.2.2.1, v23.1.2.2.2.2.2.2.2.2.2.2.2.2.1, v23.1.2.2.2.2.2.2.2.2.2.2.2.2.2.1, v23.1.2.2.2.2.2.2.2.2.2.2.2.2.2.2, v24.2.2.2))))))
noncomputable def zhZ (o : Ops) (v17 : List (Bs × Bs)) (v18 : Int) (v19 : Int) (v20 : Int) (v21 : List zaU) : Option ((Int × Int × Int × List zaU) ⊕ (Int ⊕ (Int × List zaU))) :=
 bif decide (v19 < (v17.length : Int)) then ((idx v17 v19).bind fun v22 => (zpC o v22).bind fun v23 => (zbO o v23.1.2.2.2.2.2.2.2.2.2.2.2.2.2.1 v20 v21).bind fun v24 => (ybB o v18 v23 v24).bind fun v25 => match v25 with
 | .inl v26 => some (.inr (.inl v26))
 | .inr v27 => (let v28 : List zaU := mset keqI kltI v27.2.2.2.2.2.2.2.2.2.2.2.2.2.2.2.2 v27.2.1 (v27.2.1, v27.2.2.1, v27.2.2.2.1, v27.2.2.2.2.1, v27.2.2.2.2.2.1, v27.2.2.2.2.2.2.1, v27.2.2.2.2.2.2.2.1, v27.2.2.2.2.2.2.2.2.1, v27.2.2.2.2.2.2.2.2.2.1, v27.2.2.2.2.2.2.2.2.2.2.1, v27.2.2.2.2.2.2.2.2.2.2.2.1, v27.2.2.2.2.2.2.2.2.2.2.2.2.1, v27.2.2.2.2.2.2.2.2.2.2.2.2.2.1, v27.2.2.2.2.2.2.2.2.2.2.2.2.2.2.1, v27.2.2.2.2.2.2.2.2.2.2.2.2.2.2.2.1)
 some (.inl (v27.2.1, w64 (v19 + 1), v27.1, v28)))) else some (.inr (.inr (v20, v21)))
noncomputable def zoZ (o : Ops) (v0 : List (Bs × Bs)) : Option (Int ⊕ (Int × Int × List zaU)) :=
 (zvG o v0).bind fun v2 => match v2 with
 | .inl v3 => some (.inl v3)
 | .inr v4 => ((idx v0 (0 : Int)).bind fun v5 => (znM o v5.2).bind fun v6 => (zvB o v6).bind fun v7 => match v7 with
 | .inl v8 => some (.inl v8)
 | .inr v9 => ((zjG o).bind fun v10 => (zvE o v6 v10).bind fun v14 => match v14 with
 | .inl v15 => some (.inl v15)
 | .inr v16 => ((subL v0 (1 : Int)).bind fun v17 => (iter (fun x => zhZ o v17 x.1 x.2.1 x.2.2.1 x.2.2.2) ((0 : Int), (0 : Int), v16)).bind fun v29 => match v29 with
 | .inl v30 => some (.inl v30)
 | .inr v31 => some (.inr ((0 : Int), v31)))))
noncomputable def zvA (o : Ops) : SC := ⟨⟨[(0, (.h (.sl (.pr .s .s))))], []⟩, 2, [(none, ⟨[(0, .nilp), (1, hI)], []⟩), (none, ⟨[(0, (.ptr 0 0)), (1, hI)], [zfH, zcJ]⟩)], fun x => zoZ o x⟩
theorem ybL : SCok Tryz.prog tabs 10 (zvA o) := zfG (o := o) (η := [(2000003, .join [] [0] [(some 1000000, ⟨[(2, .nilp), (3, hI)], []⟩), (none, ⟨[], []⟩)]),
 (2000006, .join [] [0, 4] [(some 1000000, ⟨[(2, .nilp), (3, hI)], []⟩), (none, ⟨[], []⟩)]),
 (2000010, .join [] [0] [(some 1000000, ⟨[(2, .nilp), (3, hI)], []⟩), (none, ⟨[(6, (.ptr 0 0))], [zfH, zcJ]⟩)]),
 (2000018, .join [] [66, 67, 68] [(some 1000000, ⟨[(2, .nilp), (3, hI)], []⟩), (none, ⟨[(6, (.ptr 0 0)), (10, (.ptr 1 0))], [ybG, yuW, zcJ]⟩)]),
 (200012, .loop [] ⟨[(6, (.ptr 0 0)), (7, hI), (68, hI)], [zfH, zcJ]⟩ [66, 67] [(some 1000000, ⟨[(2, .nilp), (3, hI)], []⟩), (some 0, ⟨[(6, (.ptr 0 0))], [zfH, zcJ]⟩)]),
 (4000016, .sch [(.pu, 0, []), (.pu, 1, []), (.pu, 2, []), (.pu, 3, []), (.pu, 4, []), (.pu, 5, []), (.pu, 6, []), (.pu, 7, []), (.pu, 8, []), (.pu, 9, []), (.pu, 10, []), (.pu, 11, []), (.pu, 12, []), (.pu, 13, []), (.pu, 14, []), (.pu, 15, []), (.pu, 16, []), (.pu, 17, []), (.pu, 18, []), (.pu, 19, []), (.pu, 20, []), (.pu, 21, []), (.pu, 22, []), (.pu, 23, []), (.pu, 24, []), (.pu, 25, []), (.pu, 26, [])]),
 (4000018, .sch [(.pu, 0, []), (.pu, 1, []), (.pu, 2, []), (.pu, 3, []), (.pu, 4, []), (.pu, 5, []), (.pu, 6, []), (.pu, 7, []), (.mn, 8, [0, 1, 2])])]) (Γ := ⟨[(33, (zoM o)), (34, (zqJ o)), (35, (zvH o))], [(32, (zpW o)), (27, (zoY o)), (36, (zdV o))], false, []⟩) (ctok ⟨zsJ, ⟨ztM, ⟨ybJ, trivial⟩⟩⟩ ⟨ztF, ⟨zrM, ⟨zfR, trivial⟩⟩⟩) Tryz.func10
noncomputable def zlH (o : Ops) (v1 : (Int × Int × Int × List zaU)) (v2 : (Int × Int × Int × List zaU)) (v3 : (Int × Int × Int × List zaU)) : Option (Bool ⊕ (Int × List zaU)) :=
 bif (v1.1 != 1) then some (.inl false) else (bif (v1.2.1 != 0) then some (.inl false) else (bif (v2.2.1 != 132) then some (.inl false) else (bif (v3.1 != 2) then some (.inl false) else (bif (v3.2.1 != 0) then some (.inl false) else ((zaW o (2 : Int) (8 : Int) v3.2.2.1 v3.2.2.2).bind fun v4 => bif (!v4.1) then some (.inl false) else ((zaW o (2 : Int) (9 : Int) v4.2.1 v4.2.2).bind fun v5 => bif v5.1 then some (.inl false) else ((zbN o (2 : Int) v5.2.1 v5.2.2).bind fun v6 => bif ((v6.1.length : Int) != 2) then some (.inl false) else ((zeG o (1 : Int) v6.2.1 v6.2.2).bind fun v7 => bif (v7.1 != 0) then some (.inl false) else ((zaW o (2 : Int) (0 : Int) v7.2.1 v7.2.2).bind fun v8 => bif v8.1 then some (.inl false) else some (.inr v8.2))))))))))
noncomputable def ziM (o : Ops) : Option (Bool) :=
 (zjG o).bind fun v0 => (zcB o (0 : Int) (1 : Int) (0 : Int) ([117, 58, 97, 110, 110] : Bs) ([] : Bs) ([] : Bs) (0 : Int) (9 : Int) false false (0 : Int) ([115] : Bs) ([] : Bs) (0 : Int) v0.1 v0.2).bind fun v1 => (zcB o (0 : Int) (1 : Int) (0 : Int) ([117, 58, 97, 110, 110] : Bs) ([] : Bs) ([] : Bs) (0 : Int) (9 : Int) false false (0 : Int) ([115] : Bs) ([] : Bs) (0 : Int) v1.2.2.1 v1.2.2.2).bind fun v2 => (zcB o (0 : Int) (1 : Int) (1 : Int) ([117, 58, 97, 110, 110] : Bs) ([] : Bs) ([] : Bs) (0 : Int) (9 : Int) false false (0 : Int) ([116] : Bs) ([] : Bs) (0 : Int) v2.2.2.1 v2.2.2.2).bind fun v3 => (zlH o v1 v2 v3).bind fun v9 => match v9 with
 | .inl v10 => (some v10)
 | .inr v11 => ((zcT o v11.1 v11.2).bind fun v12 => (zoZ o v12.1).bind fun v13 => match v13 with
 | .inl v14 => (some false)
 | .inr v15 => (bif (v15.1 == 0) then ((zcC o v15.2.1 v15.2.2).bind fun v16 => bif ((v16.2.2.length : Int) == 2) then ((zbJ o (0 : Int) v12.2.1 v12.2.2).bind fun v17 => some (v17.1 == 2)) else (some false)) else (some false)))
noncomputable def zlE (o : Ops) : PC := ⟨[], [.b], fun _ => ziM o, false⟩
theorem zsE : PCok Tryz.prog tabs 13 (zlE o) := ziY (o := o) (η := [(2000012, .join [] [] [(some 1000000, ⟨[(0, hB)], []⟩), (none, ⟨[(1, (.ptr 0 0))], [zfH, zcJ]⟩)])]) (Γ := ⟨[], [(20, (zmV o)), (27, (zoY o)), (22, (zdS o)), (25, (zdW o)), (24, (zjL o)), (16, (zjR o)), (10, (zvA o)), (15, (zeY o)), (31, (zdB o))], false, []⟩) (ctok trivial ⟨ztB, ⟨zrM, ⟨zfT, ⟨zfN, ⟨zoH, ⟨znZ, ⟨ybL, ⟨ziI, ⟨zeT, trivial⟩⟩⟩⟩⟩⟩⟩⟩⟩) Tryz.func13
end
end Go.Proofs.YtebbcofojchkpaaGreatDoor.Am
namespace Go.Proofs.YtebbcofojchkpaaGreatDoor
open Go Go.RowKit
section
variable {α β γ σ : Type}
theorem zyR (p : UInt8 → Bool) (h : (List.range 256).all (fun n => p (UInt8.ofNat n)) = true) (b : UInt8) : p b = true := by
 have := List.all_eq_true.1 h b.toNat (by have := b.toNat_lt; simp only [List.mem_range]; omega)
 simpa using this
theorem zaA (x : α) (f : α → Option β) : (some x).bind f = f x := rfl
theorem bind_ok {o : Option α} {a : α} {f : α → Option β} (h : o = some a) : o.bind f = f a := by rw [h]; rfl
theorem ziU {x : Int} (h : -9223372036854775808 ≤ x) (h2 : x ≤ 9223372036854775807) : w64 x = x := wr64 h (by omega)
theorem zbP {l : List α} {i : Nat} {j : Int} (hj : j = (i : Int)) (h : i < l.length) : idx l j = some l[i] := by
 subst hj; rw [xcF]; exact List.getElem?_eq_getElem h
theorem mkL_ok {n : Nat} {z : α} (h : n ≤ 68719476736) : mkL (n : Int) z = some (List.replicate n z) := by
 unfold mkL
 have h' : (n : Int) ≤ (LIM : Int) := by unfold LIM; omega
 have h0 : (0 : Int) ≤ (n : Int) := by omega
 simp only [h', h0, decide_true, Bool.and_self, cond_true, Int.toNat_natCast]
theorem zoV {c : Bool} (h : c = true) : chk c = some () := by subst h; rfl
theorem zcF {p : Prop} [Decidable p] {a b : α} (h : p) : (bif decide p then a else b) = a := by simp [h]
theorem zcO {p : Prop} [Decidable p] {a b : α} (h : ¬ p) : (bif decide p then a else b) = b := by simp [h]
theorem zpB {body : σ → Option (σ ⊕ β)} (st : Nat → σ) (n : Nat) (hn : n < 1099511627776) (b : β) (h : ∀ k, k < n → body (st k) = some (.inl (st (k + 1)))) (he : body (st n) = some (.inr b)) : iter body (st 0) = some b := by
 have key : ∀ j k, k ≤ n → n - k < j → zqS body j (st k) = some b := by
  intro j
  induction j with
  | zero => intro k _ h; omega
  | succ j ih =>
   intro k hk hj
   by_cases e : k = n
   ·subst e; exact zfM he
   ·rw [zeE (h k (by omega))]; exact ih (k + 1) (by omega) (by omega)
 exact key FU 0 (by omega) (by unfold FU; omega)
end
end Go.Proofs.YtebbcofojchkpaaGreatDoor
namespace Go.Proofs.YtebbcofojchkpaaGreatDoor.Am
open Go Go.RowKit
section
variable {γ : Type}
def zmA (es : List (Int × γ)) : Prop := es.Pairwise fun x y => x.1 < y.1
theorem zcP {a b : Int} : keqI a b = true ↔ a = b := by unfold keqI; exact decide_eq_true_iff
theorem ylK {a b : Int} (h : a ≠ b) : keqI a b = false := by
 cases hb : keqI a b with
 | false => rfl
 | true => exact absurd (zcP.1 hb) h
theorem yiL {a b : Int} : kltI a b = true ↔ a < b := by unfold kltI; exact decide_eq_true_iff
theorem zfO : ∀ {es : List (Int × γ)}, zmA es → ∀ {k v}, (k, v) ∈ es → mget keqI es k = some v
 | (k', v') :: m, h, k, v, hm => by
  unfold mget
  rcases List.mem_cons.1 hm with e | hm
  ·cases e
   rw [zcP.2 rfl]; rfl
  ·have hlt := (List.pairwise_cons.1 h).1 _ hm
   have : k' ≠ k := fun e => by subst e; exact absurd hlt (Int.lt_irrefl _)
   rw [ylK this]
   exact zfO (List.pairwise_cons.1 h).2 hm
theorem znQ : ∀ {es : List (Int × γ)} {k v}, mget keqI es k = some v → (k, v) ∈ es
 | (k', v') :: m, k, v, h => by
  unfold mget at h
  cases hk : keqI k' k with
  | true =>
   rw [hk] at h
   cases h
   rw [zcP.1 hk]; exact List.mem_cons_self
  | false => rw [hk] at h; exact List.mem_cons_of_mem _ (znQ h)
theorem ziV : ∀ {es : List (Int × γ)} {k}, mhas keqI es k = true ↔ ∃ v, (k, v) ∈ es
 | [], k => by simp [mhas]
 | (k', v') :: m, k => by
  unfold mhas
  rw [Bool.or_eq_true, zcP, ziV (es := m)]
  constructor
  ·rintro (rfl | ⟨v, hv⟩)
   ·exact ⟨v', List.mem_cons_self⟩
   ·exact ⟨v, List.mem_cons_of_mem _ hv⟩
  ·rintro ⟨v, hv⟩
   rcases List.mem_cons.1 hv with e | hv
   ·cases e; exact .inl rfl
   ·exact .inr ⟨v, hv⟩
theorem zzH : ∀ (es : List (Int × γ)) (k : Int) (v : γ), (mrep keqI es k v).map (·.1) = es.map (·.1)
 | [], _, _ => rfl
 | (k', v') :: m, k, v => by
  unfold mrep
  cases hk : keqI k' k with
  | true => rw [zcP.1 hk]; rfl
  | false => simp only [cond_false, List.map_cons, zzH m k v]
theorem ycA {es fs : List (Int × γ)} (h : es.map (·.1) = fs.map (·.1)) (hf : zmA fs) : zmA es := by
 have : (fs.map (·.1)).Pairwise (· < ·) := List.pairwise_map.2 hf
 rw [← h] at this
 exact List.pairwise_map.1 this
theorem ylQ : ∀ {es : List (Int × γ)} {k : Int} {v : γ} {p}, p ∈ mins kltI es k v → p = (k, v) ∨ p ∈ es
 | [], k, v, p, h => .inl (List.mem_singleton.1 h)
 | (k', v') :: m, k, v, p, h => by
  unfold mins at h
  cases hk : kltI k' k with
  | true =>
   rw [hk] at h
   rcases List.mem_cons.1 h with rfl | h
   ·exact .inr List.mem_cons_self
   ·exact (ylQ h).imp id (List.mem_cons_of_mem _)
  | false =>
   rw [hk] at h
   rcases List.mem_cons.1 h with rfl | h
   ·exact .inl rfl
   ·exact .inr h
theorem lt_tri {a b : Int} (h : ¬ a < b) (hn : a ≠ b) : b < a := by omega
theorem ybZ : ∀ {es : List (Int × γ)} {k : Int} {v : γ}, zmA es → (∀ v', (k, v') ∉ es) → zmA (mins kltI es k v)
 | [], _, _, _, _ => List.pairwise_singleton _ _
 | (k', v') :: m, k, v, h, hn => by
  have hc := List.pairwise_cons.1 h
  have hne : k' ≠ k := fun e => hn v' (by rw [e]; exact List.mem_cons_self)
  unfold mins
  cases hk : kltI k' k with
  | true =>
   simp only [cond_true]
   refine List.pairwise_cons.2 ⟨fun p hp => ?_, ybZ hc.2 fun v2 h2 => hn v2 (List.mem_cons_of_mem _ h2)⟩
   rcases ylQ hp with rfl | hp
   ·exact yiL.1 hk
   ·exact hc.1 p hp
  | false =>
   simp only [cond_false]
   have hlt : k < k' := lt_tri (fun h2 => by rw [yiL.2 h2] at hk; cases hk) hne
   refine List.pairwise_cons.2 ⟨fun p hp => ?_, h⟩
   rcases List.mem_cons.1 hp with rfl | hp
   ·exact hlt
   ·exact Int.lt_trans hlt (hc.1 p hp)
theorem ymC {es : List (Int × γ)} {k : Int} {v : γ} (h : zmA es) : zmA (mset keqI kltI es k v) := by
 unfold mset
 cases hk : mhas keqI es k with
 | true => exact ycA (zzH es k v) h
 | false =>
  refine ybZ h fun v' hv => ?_
  rw [ziV.2 ⟨v', hv⟩] at hk; cases hk
theorem yfS {es : List (Int × γ)} {k : Int} {v : γ} (h : ∀ p ∈ es, p.1 < k) : mset keqI kltI es k v = es ++ [(k, v)] := by
 have hn : mhas keqI es k = false := by
  cases hk : mhas keqI es k with
  | false => rfl
  | true =>
   obtain ⟨v', hv⟩ := ziV.1 hk
   exact absurd (h _ hv) (Int.lt_irrefl _)
 unfold mset
 rw [hn]
 simp only [cond_false]
 clear hn
 induction es with
 | nil => rfl
 | cons p m ih =>
  obtain ⟨k', v'⟩ := p
  have h1 : kltI k' k = true := yiL.2 (h _ List.mem_cons_self)
  unfold mins
  rw [h1]
  simp only [cond_true, List.cons_append, ih fun p hp => h p (List.mem_cons_of_mem _ hp)]
theorem zoL {es : List (Int × γ)} {k : Int} (h : mhas keqI es k = false) : mget keqI es k = none := by
 cases hg : mget keqI es k with
 | none => rfl
 | some v => rw [ziV.2 ⟨v, znQ hg⟩] at h; cases h
theorem zgH {es : List (Int × γ)} {k : Int} (h : mhas keqI es k = true) : ∃ v, mget keqI es k = some v ∧ (k, v) ∈ es := by
 induction es with
 | nil => cases h
 | cons p m ih =>
  obtain ⟨k', v'⟩ := p
  unfold mget
  cases hk : keqI k' k with
  | true => exact ⟨v', rfl, by rw [zcP.1 hk]; exact List.mem_cons_self⟩
  | false =>
   unfold mhas at h
   rw [hk, Bool.false_or] at h
   obtain ⟨v, h1, h2⟩ := ih h
   exact ⟨v, h1, List.mem_cons_of_mem _ h2⟩
theorem zfC {es : List (Int × γ)} {k : Int} {v z : γ} (h : mget keqI es k = some v) : zjA keqI es k z = v := by unfold zjA; rw [h]
theorem ydG {es : List (Int × γ)} {k : Int} {z : γ} (h : mhas keqI es k = false) : zjA keqI es k z = z := by unfold zjA; rw [zoL h]
theorem yhJ {es : List (Int × γ)} {k : Int} {v : γ} (h : mget keqI es k = some v) : mhas keqI es k = true := ziV.2 ⟨v, znQ h⟩
theorem yoB {es fs : List (Int × γ)} (h : es.map (·.1) = fs.map (·.1)) (k : Int) : mhas keqI es k = mhas keqI fs k := by
 have g : ∀ (es : List (Int × γ)), mhas keqI es k = (es.map (·.1)).any fun q => keqI q k := by
  intro es
  induction es with
  | nil => rfl
  | cons p m ih => obtain ⟨a, b⟩ := p; simp only [mhas, ih, List.map_cons, List.any_cons]
 rw [g, g, h]
end
section
variable {α β γ σ : Type}
def T (o : Option α) (P : α → Prop) : Prop := ∃ r, o = some r ∧ P r
theorem T.ok {a : α} {P : α → Prop} (h : P a) : T (some a) P := ⟨a, rfl, h⟩
theorem T.bind {o : Option α} {f : α → Option β} {Q : α → Prop} {P : β → Prop} (h : T o Q) (g : ∀ a, Q a → T (f a) P) : T (o.bind f) P := by
 obtain ⟨a, rfl, h⟩ := h
 exact g a h
theorem T.bif {c : Bool} {a b : Option α} {P : α → Prop} (h : c = true → T a P) (g : c = false → T b P) : T (bif c then a else b) P := by
 cases c
 ·exact g rfl
 ·exact h rfl
theorem T.dif {p : Prop} [Decidable p] {a b : Option α} {P : α → Prop} (h : p → T a P) (g : ¬ p → T b P) : T (bif decide p then a else b) P :=
 T.bif (fun e => h (of_decide_eq_true e)) fun e => g (of_decide_eq_false e)
theorem T.mono {o : Option α} {P Q : α → Prop} (h : T o P) (g : ∀ a, P a → Q a) : T o Q := by
 obtain ⟨a, h1, h2⟩ := h
 exact ⟨a, h1, g a h2⟩
theorem T.get {o : Option Bool} {P : Bool → Prop} (h : T o P) : o = some (o.getD false) := by
 obtain ⟨a, rfl, _⟩ := h
 rfl
theorem T.at {o : Option α} {P : α → Prop} {a : α} (h : T o P) (e : o = some a) : P a := by
 obtain ⟨b, e2, h2⟩ := h
 rw [e] at e2
 cases e2
 exact h2
theorem T.idx {l : List α} {i : Int} {P : α → Prop} (h0 : 0 ≤ i) (h : i < (l.length : Int)) (g : ∀ (k : Nat) (hk : k < l.length), i = (k : Int) → P l[k]) : T (idx l i) P := by
 obtain ⟨k, rfl⟩ : ∃ k : Nat, i = k := ⟨i.toNat, by omega⟩
 exact ⟨_, zbP rfl (by omega), g k (by omega) rfl⟩
theorem T.ix {l : List α} {i : Int} (h0 : 0 ≤ i) (h : i < (l.length : Int)) : T (Go.Proofs.YtebbcofojchkpaaGreatDoor.idx l i) fun _ => True := T.idx h0 h fun _ _ _ => trivial
theorem T.iter {body : σ → Option (σ ⊕ β)} (I : σ → Prop) (m : σ → Nat) (G : β → Prop) (hr : ∀ s, I s → T (body s) fun r => match r with
  | .inl s' => I s' ∧ m s' < m s
  | .inr b => G b) {s : σ} (hs : I s) (hm : m s < 1099511627776) : T (iter body s) G :=
 ygQ I m G (fun s hs => by
  obtain ⟨r, h1, h2⟩ := hr s hs
  cases r with
  | inl s' => exact .inl ⟨s', h1, h2⟩
  | inr b => exact .inr ⟨b, h1, h2⟩) FU s hs (by unfold FU; exact hm)
theorem zgM {a b : List α} (h : a.length + b.length ≤ 68719476736) : app a b = some (a ++ b) := by
 unfold app
 rw [zcF (by unfold LIM; omega)]
theorem znN (xs : List α) (h : xs.length ≤ 68719476736) : app ([] : List α) xs = some xs := by
 rw [zgM (by simpa using h)]; rfl
theorem T.app {a b : List α} {P : List α → Prop} (h : a.length + b.length ≤ 68719476736) (g : P (a ++ b)) : T (app a b) P := ⟨_, zgM h, g⟩
theorem T.places {body : Int → Option (Int ⊕ β)} (n : Nat) (hn : n < 1099511627776) (G : β → Prop) (hr : ∀ k : Nat, k ≤ n → T (body (k : Int)) fun r => match r with
  | .inl s' => s' = ((k + 1 : Nat) : Int) ∧ k < n
  | .inr b => G b) : T (Go.Proofs.YtebbcofojchkpaaGreatDoor.iter body 0) G := by
 refine T.iter (fun i => 0 ≤ i ∧ i ≤ (n : Int)) (fun i => (n - i).toNat) G (fun i hi => ?_) ⟨by omega, by omega⟩ (by omega)
 obtain ⟨k, rfl⟩ : ∃ k : Nat, i = k := ⟨i.toNat, by omega⟩
 refine (hr k (by omega)).mono fun r h => ?_
 cases r with
 | inl s => obtain ⟨rfl, h⟩ := h; exact ⟨⟨by omega, by omega⟩, by omega⟩
 | inr b => exact h
end
theorem yzX (s : ByteArray) (pos : Nat) : 1 ≤ (Utf8.decode s pos).2 := by
 unfold Utf8.decode
 simp only []
 repeat' split
 all_goals simp
theorem xfO {l : Bs} {p : Nat} (h : p < l.length) : p < nxP l p := by
 unfold nxP dec
 rw [zcF h]
 have := yzX ⟨l.toArray⟩ p
 omega
theorem xdP (s cs : Bs) (h : s.length ≤ 1048576) (h2 : cs.length < 4294967281) (h3 : cs.all (fun b => decide (b.toNat < 128)) = true) : T (zaB.trim s cs) fun _ => True := by
 refine ⟨Lib.trimS s cs, ?_, trivial⟩
 show yfC s cs = _
 unfold yfC
 rw [decide_eq_true (show s.length ≤ 9223372036854775807 by omega), decide_eq_true h2, h3]
 rfl
theorem of_t (v : Bs) (n : Int) (cs : Bs) (hn : n ≤ 1048576) (h2 : cs.length < 4294967281) (h3 : cs.all (fun b => decide (b.toNat < 128)) = true) : T (zeO zaB v n cs) fun _ => True := by
 unfold zeO
 refine T.bif (fun _ => T.dif (fun h => ?_) fun _ => T.ok trivial) fun _ => T.ok trivial
 exact (xdP v cs (by omega) h2 h3).bind fun _ _ => T.ok trivial
theorem yzB (s : Bs) : T (zeM zaB s) fun _ => True := by
 unfold zeM
 exact (of_t s _ _ (by decide) (by decide) (by decide)).bind fun _ _ => T.ok trivial
theorem yqS (s : Bs) : T (zdM zaB s) fun _ => True := by
 unfold zdM
 exact (of_t s _ _ (by decide) (by decide) (by decide)).bind fun _ _ => T.ok trivial
theorem yxH {α : Type} {s : List α} {n : Int} (h0 : 0 ≤ n) (h : n ≤ (s.length : Int)) : T (subH s n) fun _ => True := by
 obtain ⟨k, rfl⟩ : ∃ k : Nat, n = k := ⟨n.toNat, by omega⟩
 unfold subH
 rw [decide_eq_true (show (0 : Int) ≤ (k : Int) by omega), decide_eq_true h]
 exact ⟨_, rfl, trivial⟩
theorem yxM {α : Type} {s : List α} {n : Int} (h0 : 0 ≤ n) (h : n ≤ (s.length : Int)) : T (subL s n) fun _ => True := by
 obtain ⟨k, rfl⟩ : ∃ k : Nat, n = k := ⟨n.toNat, by omega⟩
 unfold subL
 rw [decide_eq_true (show (0 : Int) ≤ (k : Int) by omega), decide_eq_true h]
 exact ⟨_, rfl, trivial⟩
theorem yxT (s : Bs) : T (zbI zaB s) fun _ => True := by
 unfold zbI
 refine T.dif (fun h => (yxH (by omega) (by omega)).bind fun _ _ => T.bif (fun _ => (yxM (by omega) (by omega)).bind fun _ _ => (yqS _).bind fun _ _ => T.ok trivial) fun _ => (yxH (by omega) (by omega)).bind fun _ _ => T.bif (fun _ => (yxM (by omega) (by omega)).bind fun _ _ => (yqS _).bind fun _ _ => T.ok trivial) fun _ => T.ok trivial) fun _ => T.ok trivial
theorem may1_t (s : Bs) : T (zkM zaB s) fun _ => True := by
 unfold zkM
 exact (yxT s).bind fun _ _ => T.ok trivial
theorem xeO (l : List Bs) (h : l.length ≤ 1048576) : T (zaO zaB l) fun _ => True := by
 unfold zaO ziX
 refine T.bind (Q := fun _ => True) (T.bind (Q := fun _ => True) (T.places l.length (by omega) (fun _ => True) fun k hk => ?_) fun r _ => ?_) fun _ _ => T.ok trivial
 ·unfold zhR
  refine T.dif (fun h2 => ?_) fun _ => T.ok trivial
  refine (T.ix (by omega) h2).bind fun _ _ => (may1_t _).bind fun _ _ => T.bif (fun _ => T.ok trivial) fun _ => T.ok ⟨?_, by omega⟩
  rw [ziU (by omega) (by omega)]; omega
 ·cases r <;> exact T.ok trivial
theorem xeQ (s : Bs) : T (zeK zaB s) fun _ => True := by
 unfold zeK
 refine T.bif (fun _ => T.dif (fun h => ?_) fun _ => T.ok trivial) fun _ => T.ok trivial
 refine T.bind (Q := fun _ => True) ?_ fun _ _ => T.ok trivial
 unfold zdF zhP zhH
 refine T.bind (Q := fun _ => True) (T.bind (Q := fun _ => True) (T.bind (Q := fun _ => True) (T.iter (fun x => x.1 = s ∧ 0 ≤ x.2) (fun x => s.length - x.2.toNat) (fun _ => True) (fun x hx => ?_) ⟨rfl, Int.le_refl _⟩ (by simp; omega)) fun r _ => ?_) fun _ _ => T.ok trivial) fun _ _ => T.ok trivial
 ·obtain ⟨v, i⟩ := x
  obtain ⟨rfl, h0⟩ := hx
  unfold zgD
  simp only at h0 ⊢
  refine T.dif (fun h2 => ?_) fun _ => T.ok trivial
  refine T.bind (Q := fun _ => True) ?_ fun _ _ => T.bif (fun _ => T.ok trivial) fun _ => T.ok ⟨⟨rfl, by simp⟩, ?_⟩
  ·unfold zjJ
   exact T.dif (fun _ => T.ok trivial) fun _ => T.ok trivial
  ·have := xfO h2
   simp only [Int.toNat_natCast]
   omega
 ·cases r <;> exact T.ok trivial
theorem xeA (n a b : Int) : zaP zaB n a b = some (decide (a ≤ n) && decide (n ≤ b)) := by
 unfold zaP
 by_cases h : n ≥ a
 ·rw [zcF h]; simp [show a ≤ n from h]
 ·rw [zcO h]; simp [show ¬ a ≤ n from h]
theorem ykO {c a b : Bool} : (bif c then some a else some b) = some (bif c then a else b) := by cases c <;> rfl
theorem xcD {c a : Bool} : (bif c then a else false) = (c && a) := by cases c <;> rfl
abbrev L8 : Type := Bs
abbrev Nd : Type := Int × Int × Int × L8 × L8 × L8 × List L8 × Int × Int × Bool × Bool × List L8 × Int × L8 × L8
abbrev Es : Type := List (Int × Nd)
abbrev npar (n : Nd) : Int := n.2.2.1
abbrev zdD (n : Nd) : List L8 := n.2.2.2.2.2.2.1
abbrev nexp (n : Nd) : Int := n.2.2.2.2.2.2.2.2.1
abbrev ybK (n : Nd) : Bool := n.2.2.2.2.2.2.2.2.2.1
abbrev zxP (n : Nd) : Bool := n.2.2.2.2.2.2.2.2.2.2.1
abbrev nact (n : Nd) : List L8 := n.2.2.2.2.2.2.2.2.2.2.2.1
abbrev nsec (n : Nd) : L8 := n.2.2.2.2.2.2.2.2.2.2.2.2.2.1
abbrev xbK (n : Nd) : L8 := n.2.2.2.2.2.2.2.2.2.2.2.2.2.2
def scB (s : L8) : Bool := (zeM zaB s).getD false
def nmB (s : L8) : Bool := (zdM zaB s).getD false
def prB (s : L8) : Bool := (zbI zaB s).getD false
def txB (s : L8) : Bool := (zeK zaB s).getD false
def axB (l : List L8) : Bool := (zaO zaB l).getD false
theorem ypX (s : L8) : zeM zaB s = some (scB s) := (yzB s).get
theorem ysD (s : L8) : zdM zaB s = some (nmB s) := (yqS s).get
theorem yvW (s : L8) : zbI zaB s = some (prB s) := (yxT s).get
theorem xaK (s : L8) : zeK zaB s = some (txB s) := (xeQ s).get
theorem ax_ok {l : List L8} (h : l.length ≤ 1048576) : zaO zaB l = some (axB l) := (xeO l h).get
def scpF (l : List L8) : Nat → Nat → Bool
 | 0, _ => true
 | f + 1, i => match l[i]? with
  | none => true
  | some s => scB s && (decide (i = 0) || !(match l[i - 1]? with | none => true | some q => Op.bytesLess s q || s == q)) && scpF l f (i + 1)
theorem yrV (n : Nd) (h : (zdD n).length ≤ 1048576) : ∀ (f i k : Nat), f + i = (zdD n).length → f < k →
  zqS (fun x : Int × Nd => zhJ zaB n x.1 x.2.1 x.2.2.1 x.2.2.2.1 x.2.2.2.2.1 x.2.2.2.2.2.1 x.2.2.2.2.2.2.1 x.2.2.2.2.2.2.2.1 x.2.2.2.2.2.2.2.2.1 x.2.2.2.2.2.2.2.2.2.1 x.2.2.2.2.2.2.2.2.2.2.1 x.2.2.2.2.2.2.2.2.2.2.2.1 x.2.2.2.2.2.2.2.2.2.2.2.2.1 x.2.2.2.2.2.2.2.2.2.2.2.2.2.1 x.2.2.2.2.2.2.2.2.2.2.2.2.2.2.1 x.2.2.2.2.2.2.2.2.2.2.2.2.2.2.2) k ((i : Int), n) = some (bif scpF (zdD n) f i then Sum.inr n else Sum.inl false)
 | 0, i, k + 1, hf, _ => by
  rw [zfM (b := Sum.inr n)]
  ·rfl
  ·unfold zhJ
   rw [zcO (show ¬ (i : Int) < ((zdD n).length : Int) by omega)]
 | f + 1, i, k + 1, hf, hk => by
  have hi : i < (zdD n).length := by omega
  unfold scpF
  rw [List.getElem?_eq_getElem hi]
  simp only []
  cases hs : scB (zdD n)[i] with
  | false =>
   simp only [Bool.false_and, cond_false]
   refine zfM ?_
   unfold zhJ
   simp only []
   rw [zcF (show (i : Int) < ((zdD n).length : Int) by omega), zbP rfl hi, zaA, ypX, hs, zaA]
   rfl
  | true =>
   simp only [Bool.true_and]
   by_cases h0 : i = 0
   ·subst h0
    simp only [decide_true, Bool.true_or, Bool.true_and]
    rw [zeE (s' := (((1 : Nat) : Int), n))]
    ·exact yrV n h f 1 k (by omega) (by omega)
    ·unfold zhJ
     simp only []
     rw [zcF (show ((0 : Nat) : Int) < ((zdD n).length : Int) by omega), zbP rfl hi, zaA, ypX, hs, zaA]
     rfl
   ·have hp : i - 1 < (zdD n).length := by omega
    rw [List.getElem?_eq_getElem hp]
    simp only [decide_eq_false h0, Bool.false_or]
    have e1 : w64 ((i : Int) - 1) = ((i - 1 : Nat) : Int) := by rw [ziU (by omega) (by omega)]; omega
    have e2 : w64 ((i : Int) + 1) = ((i + 1 : Nat) : Int) := by rw [ziU (by omega) (by omega)]; omega
    have hb : zhJ zaB n (i : Int) n.1 n.2.1 n.2.2.1 n.2.2.2.1 n.2.2.2.2.1 n.2.2.2.2.2.1 n.2.2.2.2.2.2.1 n.2.2.2.2.2.2.2.1 n.2.2.2.2.2.2.2.2.1 n.2.2.2.2.2.2.2.2.2.1 n.2.2.2.2.2.2.2.2.2.2.1 n.2.2.2.2.2.2.2.2.2.2.2.1 n.2.2.2.2.2.2.2.2.2.2.2.2.1 n.2.2.2.2.2.2.2.2.2.2.2.2.2.1 n.2.2.2.2.2.2.2.2.2.2.2.2.2.2 = bif (Op.bytesLess (zdD n)[i] (zdD n)[i - 1] || (zdD n)[i] == (zdD n)[i - 1]) then some (.inr (.inl false)) else some (.inl (((i + 1 : Nat) : Int), n)) := by
     unfold zhJ
     rw [zcF (show (i : Int) < ((zdD n).length : Int) by omega), zbP rfl hi, zaA, ypX, hs, zaA]
     simp only [Bool.not_true, cond_false]
     rw [zcF (show (i : Int) > 0 by omega), e1, zbP rfl hp, zaA, e2]
    cases hq : (Op.bytesLess (zdD n)[i] (zdD n)[i - 1] || (zdD n)[i] == (zdD n)[i - 1]) with
    | true =>
     rw [hq] at hb
     simp only [Bool.not_true, Bool.false_and, cond_false]
     exact zfM hb
    | false =>
     rw [hq] at hb
     simp only [Bool.not_false, Bool.true_and]
     rw [zeE (s' := (((i + 1 : Nat) : Int), n)) hb]
     exact yrV n h f (i + 1) k (by omega) (by omega)
def inB (n a b : Int) : Bool := decide (a ≤ n) && decide (n ≤ b)
def mayB (n : Nd) : Bool := scpF (zdD n) (zdD n).length 0 && inB n.2.1 1 5 && decide (n.2.2.1 ≥ 0) && prB n.2.2.2.1 && (n.2.2.2.2.1 == ([] : L8) || nmB n.2.2.2.2.1) && (n.2.2.2.2.2.1 == ([] : L8) || txB n.2.2.2.2.2.1) && decide (((zdD n).length : Int) ≤ 16) && inB n.2.2.2.2.2.2.2.1 0 1099511627776 && inB (nexp n) 0 1099511627776 && decide (((nact n).length : Int) ≤ 4) && !axB (nact n) && inB n.2.2.2.2.2.2.2.2.2.2.2.2.1 0 3 && inB ((nsec n).length : Int) 1 64 && decide (((xbK n).length : Int) ≤ 256)
theorem yxL (n : Nd) (h : (zdD n).length ≤ 1048576) : zgV zaB n = some (mayB n) := by
 unfold zgV
 rw [show iter _ ((0 : Int), n) = _ from yrV n h (zdD n).length 0 FU (by omega) (by unfold FU; omega), zaA]
 unfold mayB
 cases scpF (zdD n) (zdD n).length 0 with
 | false => simp only [cond_false, Bool.false_and]
 | true =>
  simp only [cond_true, Bool.true_and, xeA, yvW, ysD, xaK, zaA]
  by_cases h4 : ((nact n).length : Int) ≤ 4
  ·rw [ax_ok (l := n.2.2.2.2.2.2.2.2.2.2.2.1) (by have : ((n.2.2.2.2.2.2.2.2.2.2.2.1).length : Int) ≤ 4 := h4; omega)]
   simp only [zaA, ykO]
   simp only [xcD]
   unfold inB
   congr 1
   cases (n.2.2.2.2.1 == ([] : L8)) <;> cases nmB n.2.2.2.2.1 <;> cases (n.2.2.2.2.2.1 == ([] : L8)) <;> cases txB n.2.2.2.2.2.1 <;> simp only [cond_true, cond_false, Bool.false_and, Bool.true_and, Bool.and_false, Bool.or_true, Bool.or_false, Bool.true_or, Bool.false_or, Bool.and_assoc]
  ·have h5 : decide (((n.2.2.2.2.2.2.2.2.2.2.2.1).length : Int) ≤ 4) = false := decide_eq_false h4
   simp only [h5, cond_false, zaA, ykO, Bool.and_false, Bool.false_and, Bool.cond_self]
section
variable {S R : Type}
theorem ykY {f : S → List (Option (S ⊕ R))} (hne : ∀ s, f s ≠ []) : ∀ (n : Nat) {s : S} {r r' : R} {m : Nat}, Rng f n s r → Rng f m s r' → r = r'
 | 0, _, _, _, _, h, _ => h.elim
 | _ + 1, _, _, _, 0, _, h => h.elim
 | n + 1, s, r, r', m + 1, h, h' => by
  obtain ⟨o, ho⟩ := List.exists_mem_of_ne_nil _ (hne s)
  have h1 := h o ho
  have h2 := h' o ho
  match o, h1, h2 with
  | some (.inl s'), h1, h2 => exact ykY hne n h1 h2
  | some (.inr r0), h1, h2 => exact h1.symm.trans h2
theorem xcS {f : S → List (Option (S ⊕ R))} (hne : ∀ s, f s ≠ []) {n : Nat} {s : S} {r : R} (h : Rng f n s r) : rngA f s = some r := by
 unfold rngA
 have hx : ∃ r n, Rng f n s r := ⟨r, n, h⟩
 rw [dif_pos hx]
 obtain ⟨m, hm⟩ := hx.choose_spec
 rw [ykY hne m hm h]
theorem xbI {α γ : Type} (l : List α) (d : γ) (F : α → γ) : rngL l d F ≠ [] := by
 unfold rngL
 cases l <;> simp
theorem rngLm {α γ : Type} {l : List α} {d : γ} {F : α → γ} {o : γ} (h : o ∈ rngL l d F) : (l = [] ∧ o = d) ∨ ∃ p ∈ l, o = F p := by
 unfold rngL at h
 cases l with
 | nil => exact .inl ⟨rfl, List.mem_singleton.1 h⟩
 | cons x l =>
  obtain ⟨p, hp, rfl⟩ := List.mem_map.1 h
  exact .inr ⟨p, hp, rfl⟩
theorem ykH {γ : Type} {es : List (Int × γ)} {left : List Int} {p : Int × γ} : p ∈ rngC keqI es left ↔ p ∈ es ∧ p.1 ∈ left := by
 unfold rngC
 rw [List.mem_filter, List.any_eq_true]
 constructor
 ·rintro ⟨h, k, hk, e⟩
  rw [zcP.1 e]; exact ⟨h, hk⟩
 ·rintro ⟨h, hk⟩
  exact ⟨h, _, hk, zcP.2 rfl⟩
theorem zwG {left : List Int} {k j : Int} : j ∈ rngD keqI left k ↔ j ∈ left ∧ j ≠ k := by
 unfold rngD
 rw [List.mem_filter, Bool.not_eq_true', ← Bool.not_eq_true, zcP]
theorem yuX {left : List Int} {k : Int} (h : k ∈ left) : (rngD keqI left k).length < left.length := by
 unfold rngD
 refine List.length_filter_lt_length_iff_exists.2 ⟨k, h, ?_⟩
 rw [zcP.2 rfl]; simp
theorem zvX {γ : Type} {f : S → List (Option (S ⊕ R))} (I : S → Prop) (es : S → List (Int × γ)) (left : S → List Int) {d : S → Option (S ⊕ R)} {F : S → Int × γ → Option (S ⊕ R)} {r : R}
  (hf : ∀ s, f s = rngL (rngC keqI (es s) (left s)) (d s) (F s))
  (h1 : ∀ s, I s → (∀ p ∈ es s, p.1 ∉ left s) → d s = some (.inr r))
  (h2 : ∀ s p, I s → p ∈ es s → p.1 ∈ left s → (∃ s', F s p = some (.inl s') ∧ I s' ∧ left s' = rngD keqI (left s) p.1) ∨ F s p = some (.inr r)) {s : S} (hs : I s) : rngA f s = some r := by
 have key : ∀ n s, I s → (left s).length < n → Rng f n s r := by
  intro n
  induction n with
  | zero => intro s _ h; omega
  | succ n ih =>
   intro s hs hn o ho
   rw [hf] at ho
   rcases rngLm ho with ⟨h3, rfl⟩ | ⟨p, hp, rfl⟩
   ·rw [h1 s hs fun p hp hl => by have := ykH.2 ⟨hp, hl⟩; rw [h3] at this; cases this]
    rfl
   ·obtain ⟨hp, hl⟩ := ykH.1 hp
    rcases h2 s p hs hp hl with ⟨s', e, hI, hle⟩ | e
    ·rw [e]
     refine ih s' hI ?_
     rw [hle]
     have := yuX hl
     omega
    ·rw [e]; rfl
 exact xcS (fun s => by rw [hf]; exact xbI _ _ _) (key _ s hs (Nat.lt_succ_self _))
end
abbrev zN : Nd := ((0 : Int), (0 : Int), (0 : Int), ([] : L8), ([] : L8), ([] : L8), ([] : List L8), (0 : Int), (0 : Int), false, false, ([] : List L8), (0 : Int), ([] : L8), ([] : L8))
def Lst (n : Nd) : Prop := (zdD n).length ≤ 1048576 ∧ (nact n).length ≤ 1048576
theorem own_ok {n : Nd} (h : Lst n) : zgY zaB n = some n := by
 have h1 : n.2.2.2.2.2.2.1.length ≤ 1048576 := h.1
 have h2 : n.2.2.2.2.2.2.2.2.2.2.2.1.length ≤ 1048576 := h.2
 unfold zgY
 rw [znN _ (by omega), zaA, znN _ (by omega), zaA]
structure Ok (nx : Int) (es : Es) : Prop where
 rises : zmA es
 ids : ∀ p ∈ es, p.2.1 = p.1 ∧ 1 ≤ p.1 ∧ p.1 < nx
 par : ∀ p ∈ es, 0 ≤ npar p.2 ∧ npar p.2 < p.1
 may : ∀ p ∈ es, mayB p.2 = true
 uniq : ∀ p ∈ es, ∀ q ∈ es, nsec p.2 = nsec q.2 → p = q
 next : 1 ≤ nx ∧ nx ≤ 99999999
 len : es.length ≤ 256
theorem zaN {a b : Bool} (h : (a && b) = true) : a = true := by cases a <;> simp_all
theorem ztU {n : Nd} (h : mayB n = true) : (zdD n).length ≤ 16 ∧ (nact n).length ≤ 4 ∧ 1 ≤ (nsec n).length ∧ (nsec n).length ≤ 64 ∧ (xbK n).length ≤ 256 ∧ 0 ≤ npar n := by
 unfold mayB inB at h
 simp only [Bool.and_eq_true, decide_eq_true_eq] at h
 exact ⟨by omega, by omega, by omega, by omega, by omega, show 0 ≤ n.2.2.1 by omega⟩
theorem Ok.lst {nx : Int} {es : Es} (h : Ok nx es) {p : Int × Nd} (hp : p ∈ es) : Lst p.2 := by
 have := ztU (h.may p hp)
 exact ⟨by omega, by omega⟩
def zpU (es : Es) (sec : L8) : Option Nd := (es.find? fun p => nsec p.2 == sec).map (·.2)
theorem zwC {nx : Int} {es : Es} (h : Ok nx es) (sec : L8) : zbO zaB sec nx es = some ((zpU es sec).getD zN, (zpU es sec).isSome, nx, es) := by
 unfold zbO zpU
 cases hf : es.find? (fun p => nsec p.2 == sec) with
 | none =>
  have hn : ∀ p ∈ es, (nsec p.2 == sec) = false := fun p hp => by
   have := List.find?_eq_none.1 hf p hp
   simpa using this
  refine Eq.trans (bind_ok (a := Sum.inl (nx, es, 0, 0, 0, [], [], [], 0, 0, false, false, 0, [], [])) ?_) rfl
  refine zvX (fun s => ∃ left, s = (nx, es, 0, 0, 0, [], [], [], 0, 0, false, false, 0, [], [], left)) (fun s => s.2.1) (fun s => s.2.2.2.2.2.2.2.2.2.2.2.2.2.2.2) (hf := fun s => rfl) ?_ ?_ ⟨_, rfl⟩
  ·rintro s ⟨left, rfl⟩ _
   rfl
  ·rintro s p ⟨left, rfl⟩ hp hl
   refine .inl ⟨_, ?_, ⟨_, rfl⟩, rfl⟩
   simp only []
   rw [zfO h.rises (k := p.1) (v := p.2) hp, zaA]
   have := hn p hp
   simp only [nsec] at this
   rw [this]
   rfl
 | some q =>
  have hq := List.mem_of_find?_eq_some hf
  have hs : (nsec q.2 == sec) = true := List.find?_some (p := fun p : Int × Nd => nsec p.2 == sec) hf
  refine Eq.trans (bind_ok (a := Sum.inr (true, nx, es, q.2)) ?_) rfl
  refine zvX (fun s => ∃ left, s = (nx, es, 0, 0, 0, [], [], [], 0, 0, false, false, 0, [], [], left) ∧ q.1 ∈ left) (fun s => s.2.1) (fun s => s.2.2.2.2.2.2.2.2.2.2.2.2.2.2.2) (hf := fun s => rfl) ?_ ?_ ⟨_, rfl, List.mem_map.2 ⟨q, hq, rfl⟩⟩
  ·rintro s ⟨left, rfl, hl⟩ hn
   exact absurd hl (hn q hq)
  ·rintro s p ⟨left, rfl, hl⟩ hp hpl
   simp only []
   rw [zfO h.rises (k := p.1) (v := p.2) hp, zaA]
   cases he : p.2.2.2.2.2.2.2.2.2.2.2.2.2.2.1 == sec with
   | true =>
    have e : p = q := h.uniq p hp q hq (by
     have h1 : nsec p.2 = sec := beq_iff_eq.1 he
     have h2 : nsec q.2 = sec := beq_iff_eq.1 hs
     rw [h1, h2])
    subst e
    rw [own_ok (h.lst hp)]
    exact .inr rfl
   | false =>
    refine .inl ⟨_, rfl, ⟨_, rfl, zwG.2 ⟨hl, fun e => ?_⟩⟩, rfl⟩
    have e2 : p = q := by
     have := zfO h.rises (k := p.1) (v := p.2) hp
     rw [← e, zfO h.rises (k := q.1) (v := q.2) hq] at this
     exact Prod.ext e.symm (osi this).symm
    subst e2
    rw [show (p.2.2.2.2.2.2.2.2.2.2.2.2.2.2.1 == sec) = true from hs] at he
    cases he
def pth (es : Es) : Nat → Int → List Int
 | 0, _ => []
 | f + 1, id => match mget keqI es id with
  | none => []
  | some n => id :: pth es f (npar n)
theorem xcU (es : Es) (f : Nat) (id : Int) : pth es (f + 1) id = match mget keqI es id with
  | none => []
  | some n => id :: pth es f (npar n) := rfl
def zmN (es : Es) (id : Int) : List Int := pth es id.toNat id
theorem yxI {nx : Int} {es : Es} (h : Ok nx es) {id : Int} (hi : id ≤ 0) : mhas keqI es id = false := by
 cases hh : mhas keqI es id with
 | false => rfl
 | true =>
  obtain ⟨v, hv⟩ := ziV.1 hh
  have := (h.ids _ hv).2.1
  simp only at this
  omega
theorem ytH (es : Es) : ∀ f id, (pth es f id).length ≤ f
 | 0, _ => Nat.le_refl _
 | f + 1, id => by
  unfold pth
  split
  ·simp
  ·simp only [List.length_cons]
   have := ytH es f (npar ‹_›)
   omega
theorem yjV {nx : Int} {es : Es} (h : Ok nx es) : ∀ (f g : Nat) (id : Int), id.toNat ≤ f → id.toNat ≤ g → pth es f id = pth es g id
 | 0, 0, _, _, _ => rfl
 | 0, g + 1, id, hf, _ => by
  unfold pth
  rw [zoL (yxI h (by omega))]
 | f + 1, 0, id, _, hg => by
  unfold pth
  rw [zoL (yxI h (by omega))]
 | f + 1, g + 1, id, hf, hg => by
  unfold pth
  cases hm : mget keqI es id with
  | none => rfl
  | some n =>
   have hp := znQ hm
   have h1 := (h.par _ hp).2
   have h2 := (h.ids _ hp).2.1
   simp only at h1 h2 ⊢
   rw [yjV h f g (npar n) (by omega) (by omega)]
theorem ycQ {nx : Int} {es : Es} (h : Ok nx es) {id : Int} {n : Nd} (hm : mget keqI es id = some n) : zmN es id = id :: zmN es (npar n) := by
 have hp := znQ hm
 have h1 := (h.par _ hp).2
 have h2 := (h.ids _ hp).2.1
 simp only at h1 h2
 unfold zmN
 obtain ⟨f, hf⟩ : ∃ f, id.toNat = f + 1 := ⟨id.toNat - 1, by omega⟩
 rw [hf]
 show (match mget keqI es id with
  | none => []
  | some n => id :: pth es f (npar n)) = _
 rw [hm]
 simp only []
 rw [yjV h f (npar n).toNat (npar n) (by omega) (by omega)]
theorem zuM {es : Es} {id : Int} (hm : mget keqI es id = none) : zmN es id = [] := by
 unfold zmN
 cases id.toNat with
 | zero => rfl
 | succ f => unfold pth; rw [hm]
theorem yrS {nx nx' : Int} {es : Es} (h : Ok nx es) : ∀ (f : Nat) (id : Int) (acc : List Int) (k : Nat), id.toNat ≤ f → f < k → acc.length + f ≤ 68719476736 →
  zqS (fun x : Bool × Int × Es × List Int × Nd => zjE zaB x.1 x.2.1 x.2.2.1 x.2.2.2.1 x.2.2.2.2.1 x.2.2.2.2.2.1 x.2.2.2.2.2.2.1 x.2.2.2.2.2.2.2.1 x.2.2.2.2.2.2.2.2.1 x.2.2.2.2.2.2.2.2.2.1 x.2.2.2.2.2.2.2.2.2.2.1 x.2.2.2.2.2.2.2.2.2.2.2.1 x.2.2.2.2.2.2.2.2.2.2.2.2.1 x.2.2.2.2.2.2.2.2.2.2.2.2.2.1 x.2.2.2.2.2.2.2.2.2.2.2.2.2.2.1 x.2.2.2.2.2.2.2.2.2.2.2.2.2.2.2.1 x.2.2.2.2.2.2.2.2.2.2.2.2.2.2.2.2.1 x.2.2.2.2.2.2.2.2.2.2.2.2.2.2.2.2.2.1 x.2.2.2.2.2.2.2.2.2.2.2.2.2.2.2.2.2.2) k (mhas keqI es id, nx', es, acc, zjA keqI es id zN) = some (nx', es, acc ++ pth es f id)
 | f, id, acc, k + 1, hf, hk, ha => by
  cases hh : mhas keqI es id with
  | false =>
   have e : pth es f id = [] := by
    cases f with
    | zero => rfl
    | succ f => unfold pth; rw [zoL hh]
   rw [e, List.append_nil]
   exact zfM rfl
  | true =>
   obtain ⟨n, hn, hp⟩ := zgH hh
   have h1 := (h.par _ hp).2
   have h2 := h.ids _ hp
   simp only at h1 h2
   rw [zfC hn]
   obtain ⟨f, rfl⟩ : ∃ g, f = g + 1 := ⟨f - 1, by omega⟩
   rw [zeE (s' := (mhas keqI es (npar n), nx', es, acc ++ [id], zjA keqI es (npar n) zN))]
   ·rw [yrS h f (npar n) (acc ++ [id]) k (by omega) (by omega) (by simp; omega)]
    rw [xcU, hn]
    simp
   ·unfold zjE
    simp only [cond_true]
    rw [zgM (by simp; omega), zaA, h2.1]
theorem yhU {nx nx' : Int} {es : Es} (h : Ok nx es) (id : Int) : zbN zaB id nx' es = some (zmN es id, nx', es) := by
 unfold zbN
 simp only []
 cases hh : mhas keqI es id with
 | false =>
  rw [zuM (zoL hh), show iter _ (false, nx', es, ([] : List Int), zjA keqI es id zN) = some (nx', es, []) from zfM rfl, zaA]
 | true =>
 have hi : id ≤ 68719476736 := by
  obtain ⟨v, hv⟩ := ziV.1 hh
  have h1 := h.ids _ hv
  have h2 := h.next
  simp only at h1
  omega
 rw [← hh]
 rw [show iter _ (mhas keqI es id, nx', es, ([] : List Int), zjA keqI es id zN) = _ from yrS h id.toNat id [] FU (Nat.le_refl _) (by unfold FU; omega) (by simp; omega), zaA]
 rfl
theorem zqW {nx : Int} {es : Es} (h : Ok nx es) (id : Int) : (zmN es id).length ≤ 99999999 := by
 cases hm : mget keqI es id with
 | none => rw [zuM hm]; simp
 | some n =>
  have h1 := h.ids _ (znQ hm)
  have h2 := h.next
  simp only at h1
  have := ytH es id.toNat id
  unfold zmN
  omega
def zvZ (es : Es) (k : Int) : Bool := ybK (zjA keqI es k zN)
theorem ysP {α : Type} {l : List α} {p : α → Bool} {k : Nat} (hk : k < l.length) (h : p l[k] = true) : l.any p = true := List.any_eq_true.2 ⟨_, List.getElem_mem hk, h⟩
theorem zyV {α : Type} {l : List α} {p : α → Bool} {k : Nat} (hk : k < l.length) (h : (l.take k).any p = false) (h2 : p l[k] = false) : (l.take (k + 1)).any p = false := by
 rw [List.take_succ_eq_append_getElem hk, List.any_append, h, List.any_cons, h2]; rfl
theorem xbO {nx : Int} {es : Es} {l : List Int} (hl : l.length ≤ 99999999) : zeV zaB l nx es = some (l.any (zvZ es), nx, es) := by
 have h : T (iter (fun x : Int × Int × Es => zkF zaB l x.1 x.2.1 x.2.2) ((0 : Int), nx, es)) fun r => match r with
   | .inl v => v.2 = (nx, es) ∧ 0 ≤ v.1 ∧ l.any (zvZ es) = true
   | .inr v => v = (nx, es) ∧ l.any (zvZ es) = false := by
  refine T.iter (fun x => x.2 = (nx, es) ∧ 0 ≤ x.1 ∧ x.1 ≤ (l.length : Int) ∧ (l.take x.1.toNat).any (zvZ es) = false) (fun x => l.length - x.1.toNat) _ (fun x hx => ?_) ⟨rfl, Int.le_refl _, by simp, rfl⟩ (by simp; omega)
  obtain ⟨i, v⟩ := x
  obtain ⟨h1, h2, h3, h4⟩ := hx
  simp only at h1 h2 h3 h4
  subst h1
  obtain ⟨k, rfl⟩ : ∃ k : Nat, i = k := ⟨i.toNat, by omega⟩
  rw [Int.toNat_natCast] at h4
  unfold zkF
  simp only []
  refine T.dif (fun h5 => ?_) fun h5 => T.ok ⟨rfl, ?_⟩
  ·have hk : k < l.length := by omega
   rw [zbP rfl hk, zaA]
   unfold ziK
   simp only [zaA]
   refine T.bif (fun h6 => T.ok ⟨rfl, by simp, ysP hk h6⟩) fun h6 => T.ok ⟨⟨rfl, ?_, ?_, ?_⟩, ?_⟩
   ·simp only []; rw [ziU (by omega) (by omega)]; omega
   ·simp only []; rw [ziU (by omega) (by omega)]; omega
   ·simp only []
    rw [ziU (by omega) (by omega), show ((k : Int) + 1).toNat = k + 1 by omega]
    exact zyV hk h4 h6
   ·simp only []; rw [ziU (by omega) (by omega)]; omega
  ·rw [List.take_of_length_le (by omega)] at h4
   exact h4
 unfold zeV zkQ
 obtain ⟨r, h1, h2⟩ := h
 rw [h1, zaA]
 cases r with
 | inl v =>
  obtain ⟨i, v⟩ := v
  obtain ⟨h3, h4, h5⟩ := h2
  simp only at h3 h4 h5
  subst h3
  rw [h5]
  simp only [zaA]
  rw [decide_eq_true (show i ≥ 0 by omega)]
 | inr v =>
  obtain ⟨h3, h5⟩ := h2
  subst h3
  rw [h5]
  rfl
def yaB (es : Es) (id : Int) : Bool := (zmN es id).any (zvZ es)
theorem yiC {nx nx' : Int} {es : Es} (h : Ok nx es) (id : Int) : zcR zaB id nx' es = some (yaB es id, nx', es) := by
 unfold zcR
 rw [yhU h, zaA, xbO (zqW h id), zaA]
 rfl
def canB (n : Nd) (now : Int) : Bool := !ybK n && !zxP n && decide (nexp n > now)
theorem xeY (n : Nd) (now : Int) : zqF zaB n now = some (canB n now) := by
 obtain ⟨a0, a1, a2, a3, a4, a5, a6, a7, a8, a9, a10, a11, a12, a13, a14⟩ := n
 unfold zqF canB
 simp only [ybK, zxP, nexp]
 cases a9 with
 | true => exact bind_ok (a := Sum.inl false) (zfM rfl)
 | false =>
  cases a10 with
  | true =>
   refine bind_ok (a := Sum.inl false) ?_
   show zqS _ (1099511627774 + 1 + 1) _ = _
   rw [zeE rfl]
   exact zfM rfl
  | false =>
   by_cases h : a8 > now
   ·have e : decide (a8 > now) = true := decide_eq_true h
    refine Eq.trans (bind_ok (a := Sum.inr ()) ?_) (by rw [e]; rfl)
    show zqS _ (1099511627772 + 1 + 1 + 1 + 1) _ = _
    rw [zeE rfl, zeE rfl, zeE (s' := ((3 : Int), a0, a1, a2, a3, a4, a5, a6, a7, a8, false, false, a11, a12, a13, a14))]
    ·exact zfM rfl
    ·show zlR zaB now 2 a0 a1 a2 a3 a4 a5 a6 a7 a8 false false a11 a12 a13 a14 = _
     unfold zlR zhK
     simp only [e, zaA]
     rfl
   ·have e : decide (a8 > now) = false := decide_eq_false h
    refine Eq.trans (bind_ok (a := Sum.inl false) ?_) (by rw [e]; rfl)
    show zqS _ (1099511627773 + 1 + 1 + 1) _ = _
    rw [zeE rfl, zeE rfl]
    refine zfM ?_
    show zlR zaB now 2 a0 a1 a2 a3 a4 a5 a6 a7 a8 false false a11 a12 a13 a14 = _
    unfold zlR zhK
    simp only [e, zaA]
    rfl
def zuS (es : Es) (id now : Int) : Bool := match mget keqI es id with
 | none => false
 | some n => canB n now && !yaB es id
theorem yiW {nx nx' : Int} {es : Es} (h : Ok nx es) (id now : Int) : zaW zaB id now nx' es = some (zuS es id now, nx', es) := by
 unfold zaW zuS
 simp only []
 cases hh : mhas keqI es id with
 | false => rw [zoL hh]; rfl
 | true =>
  obtain ⟨n, hn, hp⟩ := zgH hh
  rw [hn, zfC hn]
  simp only [cond_true]
  rw [xeY, zaA]
  cases canB n now with
  | false => rfl
  | true =>
   simp only [cond_true, Bool.true_and]
   rw [yiC h, zaA]
theorem ygV : ∀ {l : List Int}, l.Pairwise (fun x y => x < y) → zxO l = true
 | [], _ => rfl
 | [x], _ => rfl
 | x :: y :: l, h => by
  have hc := List.pairwise_cons.1 h
  unfold zxO
  rw [decide_eq_true (hc.1 y List.mem_cons_self), ygV hc.2]
  rfl
theorem ydC {nx nx' : Int} {es : Es} (h : Ok nx es) : zcC zaB nx' es = some (nx', es, es.map (·.2)) := by
 have hl := h.len
 have hr : (es.map (·.1)).Pairwise (fun x y => x < y) := List.pairwise_map.2 h.rises
 have hk : ztS es = true := by
  unfold ztS
  rw [decide_eq_true (show es.length ≤ 1048576 by omega), ygV hr, Bool.and_true, Bool.true_and, List.all_eq_true]
  intro p hp
  have h1 := h.ids p hp
  have h2 := h.next
  rw [decide_eq_true (show -9223372036854775808 ≤ p.1 by omega), decide_eq_true (show p.1 ≤ 9223372036854775807 by omega)]
  rfl
 unfold zcC zvJ zyS
 rw [decide_eq_true (show (0 : Int) ≤ (es.length : Int) by omega), decide_eq_true (show (es.length : Int) ≤ (LIM : Int) by unfold LIM; omega), Bool.and_self, zoV rfl, zaA, show mkL (0 : Int) _ = some ([] : List Nd) from mkL_ok (n := 0) (by omega), zaA, zaA, hk]
 simp only [cond_true, zaA]
 rw [show iter _ ((0 : Int), nx', es, ([] : List Nd)) = some (nx', es, es.map (·.2)) from ?_, zaA]
 refine zpB (fun k => ((k : Int), nx', es, (es.take k).map (·.2))) es.length (by omega) _ (fun k hk => ?_) ?_
 ·unfold ziJ
  simp only []
  have hm : (k : Int) < ((es.map (·.1)).length : Int) := by rw [List.length_map]; omega
  rw [zcF hm, zbP (i := k) rfl (by rw [List.length_map]; exact hk), zaA, List.getElem_map, zfC (zfO h.rises (k := es[k].1) (v := es[k].2) (List.getElem_mem hk)), own_ok (h.lst (List.getElem_mem hk)), zaA, zgM (by simp; omega), zaA, ziU (by omega) (by omega), List.take_succ_eq_append_getElem hk, List.map_append]
  rfl
 ·unfold ziJ
  simp only []
  rw [zcO (by simp), List.take_of_length_le (Nat.le_refl _)]
def chE (es : Es) (f : Int × Nd → Nd) : Es := es.map fun p => (p.1, f p)
theorem yvH (es : Es) (f : Int × Nd → Nd) : (chE es f).map (·.1) = es.map (·.1) := by
 unfold chE
 rw [List.map_map]
 rfl
theorem zxE {es : Es} {f : Int × Nd → Nd} {p : Int × Nd} (h : p ∈ chE es f) : ∃ q ∈ es, p = (q.1, f q) := by
 obtain ⟨q, h1, h2⟩ := List.mem_map.1 h
 exact ⟨q, h1, h2.symm⟩
theorem yhQ (es : Es) (f : Int × Nd → Nd) : (chE es f).length = es.length := List.length_map ..
structure yiT (es : Es) (f : Int × Nd → Nd) : Prop where
 id : ∀ p ∈ es, (f p).1 = p.2.1
 par : ∀ p ∈ es, npar (f p) = npar p.2
 sec : ∀ p ∈ es, nsec (f p) = nsec p.2
 may : ∀ p ∈ es, mayB p.2 = true → mayB (f p) = true
theorem Ok.ch {nx : Int} {es : Es} (h : Ok nx es) {f : Int × Nd → Nd} (k : yiT es f) : Ok nx (chE es f) where
 rises := ycA (yvH es f) h.rises
 ids p hp := by
  obtain ⟨q, hq, rfl⟩ := zxE hp
  have := h.ids q hq
  simp only [k.id q hq]
  exact this
 par p hp := by
  obtain ⟨q, hq, rfl⟩ := zxE hp
  have := h.par q hq
  simp only [k.par q hq]
  exact this
 may p hp := by
  obtain ⟨q, hq, rfl⟩ := zxE hp
  exact k.may q hq (h.may q hq)
 uniq p hp q hq e := by
  obtain ⟨p', hp', rfl⟩ := zxE hp
  obtain ⟨q', hq', rfl⟩ := zxE hq
  simp only [k.sec p' hp', k.sec q' hq'] at e
  rw [h.uniq p' hp' q' hq' e]
 next := h.next
 len := by rw [yhQ]; exact h.len
theorem xbY {es : Es} (h : zmA es) {i : Int} {n v : Nd} (hm : mget keqI es i = some n) : mrep keqI es i v = chE es fun p => if p.1 = i then v else p.2 := by
 induction es with
 | nil => cases hm
 | cons p m ih =>
  obtain ⟨k', n'⟩ := p
  have hc := List.pairwise_cons.1 h
  show (bif keqI k' i then (i, v) :: m else (k', n') :: mrep keqI m i v) = (k', if k' = i then v else n') :: chE m _
  unfold mget at hm
  cases hk : keqI k' i with
  | true =>
   have e := zcP.1 hk
   rw [if_pos e, e]
   simp only [cond_true]
   congr 1
   refine (List.map_id m).symm.trans (List.map_congr_left fun p hp => ?_)
   have := hc.1 p hp
   simp only at this
   have e' : ¬ p.1 = i := by omega
   show p = (p.1, if p.1 = i then v else p.2)
   rw [if_neg e']
  | false =>
   rw [hk] at hm
   have e : ¬ k' = i := fun e => by rw [zcP.2 e] at hk; cases hk
   rw [if_neg e]
   simp only [cond_false]
   rw [ih hc.2 hm]
theorem zqI {es : Es} {f g : Int × Nd → Nd} (h : ∀ p ∈ es, f p = g p) : chE es f = chE es g :=
 List.map_congr_left fun p hp => by rw [h p hp]
def chI (es : Es) (id : Int) (g : Nd → Nd) : Es := chE es fun p => if p.1 = id then g p.2 else p.2
theorem zyU {es : Es} (h : zmA es) {id : Int} {n : Nd} (g : Nd → Nd) (hm : mget keqI es id = some n) : mrep keqI es id (g n) = chI es id g := by
 rw [xbY h hm]
 refine zqI fun p hp => ?_
 by_cases e : p.1 = id
 ·rw [if_pos e, if_pos e]
  have := zfO h (k := p.1) (v := p.2) hp
  rw [e, hm] at this
  rw [osi this]
 ·rw [if_neg e, if_neg e]
abbrev zmL (n : Nd) : Nd := (n.1, n.2.1, n.2.2.1, n.2.2.2.1, n.2.2.2.2.1, n.2.2.2.2.2.1, n.2.2.2.2.2.2.1, n.2.2.2.2.2.2.2.1, n.2.2.2.2.2.2.2.2.1, true, n.2.2.2.2.2.2.2.2.2.2.1, n.2.2.2.2.2.2.2.2.2.2.2.1, n.2.2.2.2.2.2.2.2.2.2.2.2.1, n.2.2.2.2.2.2.2.2.2.2.2.2.2.1, n.2.2.2.2.2.2.2.2.2.2.2.2.2.2)
abbrev ygK (n : Nd) : Nd := (n.1, n.2.1, n.2.2.1, n.2.2.2.1, n.2.2.2.2.1, n.2.2.2.2.2.1, n.2.2.2.2.2.2.1, n.2.2.2.2.2.2.2.1, n.2.2.2.2.2.2.2.2.1, n.2.2.2.2.2.2.2.2.2.1, true, n.2.2.2.2.2.2.2.2.2.2.2.1, n.2.2.2.2.2.2.2.2.2.2.2.2.1, n.2.2.2.2.2.2.2.2.2.2.2.2.2.1, n.2.2.2.2.2.2.2.2.2.2.2.2.2.2)
abbrev nlev (n : Nd) : Int := n.2.2.2.2.2.2.2.2.2.2.2.2.1
abbrev sLev (l : Int) (n : Nd) : Nd := (n.1, n.2.1, n.2.2.1, n.2.2.2.1, n.2.2.2.2.1, n.2.2.2.2.2.1, n.2.2.2.2.2.2.1, n.2.2.2.2.2.2.2.1, n.2.2.2.2.2.2.2.2.1, n.2.2.2.2.2.2.2.2.2.1, n.2.2.2.2.2.2.2.2.2.2.1, n.2.2.2.2.2.2.2.2.2.2.2.1, (bif decide (n.2.2.2.2.2.2.2.2.2.2.2.2.1 ≤ l) then l else n.2.2.2.2.2.2.2.2.2.2.2.2.1), n.2.2.2.2.2.2.2.2.2.2.2.2.2.1, n.2.2.2.2.2.2.2.2.2.2.2.2.2.2)
abbrev yuU (d : L8) (n : Nd) : Nd := (n.1, n.2.1, n.2.2.1, n.2.2.2.1, n.2.2.2.2.1, n.2.2.2.2.2.1, n.2.2.2.2.2.2.1, n.2.2.2.2.2.2.2.1, n.2.2.2.2.2.2.2.2.1, n.2.2.2.2.2.2.2.2.2.1, n.2.2.2.2.2.2.2.2.2.2.1, n.2.2.2.2.2.2.2.2.2.2.2.1, n.2.2.2.2.2.2.2.2.2.2.2.2.1, n.2.2.2.2.2.2.2.2.2.2.2.2.2.1, d)
theorem zyO {es : Es} {q : Int × Nd → Prop} [DecidablePred q] {g : Nd → Nd} (h1 : ∀ n, (g n).1 = n.1) (h2 : ∀ n, npar (g n) = npar n) (h3 : ∀ n, nsec (g n) = nsec n) (h4 : ∀ n, mayB n = true → mayB (g n) = true) : yiT es fun p => if q p then g p.2 else p.2 where
 id p _ := by split <;> simp only [h1]
 par p _ := by split <;> simp only [h2]
 sec p _ := by split <;> simp only [h3]
 may p _ h := by split; exact h4 _ h; exact h
theorem zpH {es : Es} (q : Int × Nd → Prop) [DecidablePred q] : yiT es fun p => if q p then zmL p.2 else p.2 := zyO (fun _ => rfl) (fun _ => rfl) (fun _ => rfl) fun _ h => h
theorem yiG {es : Es} (q : Int × Nd → Prop) [DecidablePred q] : yiT es fun p => if q p then ygK p.2 else p.2 := zyO (fun _ => rfl) (fun _ => rfl) (fun _ => rfl) fun _ h => h
theorem ymL {es : Es} (q : Int × Nd → Prop) [DecidablePred q] {d : L8} (hd : d.length ≤ 256) : yiT es fun p => if q p then yuU d p.2 else p.2 := zyO (fun _ => rfl) (fun _ => rfl) (fun _ => rfl) fun n h => by
 unfold mayB at h ⊢
 simp only [Bool.and_eq_true] at h ⊢
 exact ⟨h.1, decide_eq_true (by show (d.length : Int) ≤ 256; omega)⟩
theorem ytJ {es : Es} (q : Int × Nd → Prop) [DecidablePred q] {l : Int} (h1 : 1 ≤ l) (h3 : l ≤ 3) : yiT es fun p => if q p then sLev l p.2 else p.2 := zyO (fun _ => rfl) (fun _ => rfl) (fun _ => rfl) fun n h => by
 unfold mayB at h ⊢
 simp only [Bool.and_eq_true] at h ⊢
 refine ⟨⟨⟨h.1.1.1, ?_⟩, h.1.2⟩, h.2⟩
 have h2 := h.1.1.2
 unfold inB at h2 ⊢
 simp only [Bool.and_eq_true, decide_eq_true_eq] at h2 ⊢
 by_cases hl : n.2.2.2.2.2.2.2.2.2.2.2.2.1 ≤ l
 ·simp only [decide_eq_true hl, cond_true]; omega
 ·simp only [decide_eq_false hl, cond_false]; exact h2
theorem yjB {nx nx' : Int} {es : Es} (h : Ok nx es) {id : Int} (hh : mhas keqI es id = true) : zcS zaB id nx' es = some (nx', chI es id zmL) := by
 obtain ⟨n, hn, hp⟩ := zgH hh
 unfold zcS zkI ziB
 simp only [zaA]
 rw [hh, zoV rfl, zaA, zfC hn, zaA, ← zyU h.rises zmL hn]
theorem xaH {nx nx' : Int} {es : Es} (h : Ok nx es) (id : Int) : zeG zaB id nx' es = some (bif mhas keqI es id then (0, nx', chI es id zmL) else (131, nx', es)) := by
 unfold zeG
 cases hh : mhas keqI es id with
 | false => rfl
 | true =>
  simp only [Bool.not_true, cond_false, cond_true]
  rw [yjB h hh, zaA]
end Go.Proofs.YtebbcofojchkpaaGreatDoor.Am
