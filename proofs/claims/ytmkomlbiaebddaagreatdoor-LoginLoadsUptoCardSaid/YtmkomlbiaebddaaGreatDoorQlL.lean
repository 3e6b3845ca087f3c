/- DERIVED: THE SHELF's CONTRACTS AT THIS DUMP, IN PLAIN WORDS (tools/lay-plain.mjs out of 'TryzSrtl.lean', which tools/lay-shelf.mjs wrote): THE SAME DECLARATIONS UNDER THE SAME NAMES: 'import', 'namespace', 'open', 'def', 'theorem' AND NOTHING ELSE: no command of the shelf's: FOR A HAND-IN. Each laying: the table of numbers ('.._ren') and one theorem, a field a fact of the dump's own or the kernel's comparison; each contract: ONE APPLICATION. slices.Sorted of maps.Keys at this program: the kit's contracts laid. What some functions compute, over plain values, and that they do. The calls of logins whose answers the document fixes: what they come to, by reckoning. What some functions compute, and that they do. The document's layer 4: its sums and macs are package hash's: plain laws. A machine over plain values: the document's macs. Numbers as texts, and back: plain laws. From a walk of a law to what is said of it: parts that the laws over texts share. What a law's arguments are, as plain values. A login with one user: plain laws. Rows of texts go there and back: plain laws. Maps of texts as rising lists: plain laws. Conditions: as each theorem says. -/
import Derived.Shelf.SlIter.Nil
import Derived.Shelf.SortM.Plain
import Derived.Shelf.SortM.SortNone
import Derived.Ground.GgzProg
import Derived.Ground.SlgmProg
import Derived.Test.YtmkomlbiaebddaaGreatDoorProg
import Derived.KernelRfl
import Derived.Test.YtmkomlbiaebddaaGreatDoorRows
import Derived.Test.YtmkomlbiaebddaaGreatDoorTie
import Derived.Test.YtmkomlbiaebddaaGreatDoorCards
import Derived.ProofKit
import Derived.OpenShut
import Derived.Carry
import Derived.JoinedCond
import Derived.ChangeMaps5
import Derived.Deep.SlicePairs
import Derived.Deep.DeepHandedRow
import Derived.Lib.LaidTab
import Derived.SevenTiedAt
import Derived.Test.YtmkomlbiaebddaaGreatDoorQlK
namespace Go.Proofs
open Go.Shelf
def Tryz.keysA_ren : Go.Shelf.Ren := ⟨fun | 7 => 37 | 10 => 87 | n => n, fun | 23 => 77 | 26 => 9 | 3 => 74 | 28 => 83 | 0 => 0 | 27 => 82 | 33 => 89 | 4 => 4 | n => n, fun | n => n⟩
theorem Tryz.keysA : Go.Proofs.SlLaysZ.n7 Tryz.prog Tryz.keysA_ren := {
  mixed := by kernel_rfl
  f7 := ⟨Tryz.f37.name, by decide, Tryz.func37.trans (congrArg some (by kernel_rfl))⟩
  f10 := ⟨Tryz.f87.name, by decide, Tryz.func87.trans (congrArg some (by kernel_rfl))⟩
  t0 := Tryz.underlying0
  a0 := Tryz.isAgg0
  z0 := Tryz.sizeOf0
  v0 := Tryz.zeroValue0
  t4 := Tryz.underlying4
  a4 := Tryz.isAgg4
  z4 := Tryz.sizeOf4
  v4 := Tryz.zeroValue4
  t23 := Tryz.underlying77
  a23 := Tryz.isAgg77
  z23 := Tryz.sizeOf77
  v23 := Tryz.zeroValue77
  t26 := Tryz.underlying9
  a26 := Tryz.isAgg9
  z26 := Tryz.sizeOf9
  v26 := Tryz.zeroValue9
  t27 := Tryz.underlying82
  a27 := Tryz.isAgg82
  z27 := Tryz.sizeOf82
  v27 := Tryz.zeroValue82
  t28 := Tryz.underlying83
  a28 := Tryz.isAgg83
  z28 := Tryz.sizeOf83
  v28 := Tryz.zeroValue83
  t33 := Tryz.underlying89
  a33 := Tryz.isAgg89
  z33 := Tryz.sizeOf89
  v33 := Tryz.zeroValue89 }
def Tryz.sortedA_ren : Go.Shelf.Ren := ⟨fun | 6 => 36 | 8 => 85 | 9 => 86 | 11 => 113 | 13 => 115 | 12 => 114 | 23 => 149 | 24 => 150 | 14 => 140 | 15 => 141 | 16 => 142 | 17 => 143 | 18 => 144 | 19 => 145 | 20 => 146 | 21 => 147 | 22 => 148 | 25 => 175 | 26 => 176 | 27 => 177 | 28 => 178 | 29 => 179 | 30 => 180 | 31 => 195 | n => n, fun | 26 => 9 | 28 => 83 | 24 => 41 | 0 => 0 | 3 => 3 | 37 => 139 | 48 => 133 | 50 => 102 | 4 => 4 | 40 => 176 | 39 => 175 | 45 => 98 | 5 => 5 | 9 => 9 | 51 => 206 | 55 => 210 | 57 => 223 | 58 => 224 | 33 => 89 | n => n, fun | n => n⟩
theorem Tryz.sortedA : Go.Proofs.SlLaysZ.n6 Tryz.prog Tryz.sortedA_ren := {
  mixed := by kernel_rfl
  f6 := ⟨Tryz.f36.name, by decide, Tryz.func36.trans (congrArg some (by kernel_rfl))⟩
  f8 := ⟨Tryz.f85.name, by decide, Tryz.func85.trans (congrArg some (by kernel_rfl))⟩
  f11 := ⟨Tryz.f113.name, by decide, Tryz.func113.trans (congrArg some (by kernel_rfl))⟩
  t0 := Tryz.underlying0
  a0 := Tryz.isAgg0
  z0 := Tryz.sizeOf0
  v0 := Tryz.zeroValue0
  t24 := Tryz.underlying41
  a24 := Tryz.isAgg41
  z24 := Tryz.sizeOf41
  v24 := Tryz.zeroValue41
  t26 := Tryz.underlying9
  a26 := Tryz.isAgg9
  z26 := Tryz.sizeOf9
  v26 := Tryz.zeroValue9
  t28 := Tryz.underlying83
  a28 := Tryz.isAgg83
  z28 := Tryz.sizeOf83
  v28 := Tryz.zeroValue83
  i26 := by kernel_rfl }
def Tryz.sortA_ren : Go.Shelf.Ren := ⟨fun | 6 => 86 | 8 => 115 | 9 => 114 | 19 => 149 | 20 => 150 | 21 => 140 | 22 => 141 | 23 => 142 | 24 => 143 | 25 => 144 | 26 => 145 | 27 => 146 | 28 => 147 | 29 => 148 | 36 => 175 | 31 => 176 | 32 => 177 | 37 => 178 | 38 => 179 | 39 => 180 | 41 => 195 | n => n, fun | 27 => 41 | 29 => 9 | 3 => 3 | 32 => 139 | 26 => 41 | 0 => 0 | 44 => 133 | 46 => 102 | 4 => 4 | 36 => 176 | 35 => 175 | 41 => 98 | 5 => 5 | 9 => 9 | 53 => 206 | 57 => 210 | 63 => 223 | 64 => 224 | n => n, fun | n => n⟩
theorem Tryz.sortA : Go.Proofs.SlLaysM.n6 Tryz.prog Tryz.sortA_ren := {
  mixed := by kernel_rfl
  f6 := ⟨Tryz.f86.name, by decide, Tryz.func86.trans (congrArg some (by kernel_rfl))⟩
  f8 := Tryz.func115.trans (congrArg some (by kernel_rfl))
  f9 := ⟨Tryz.f114.name, by decide, Tryz.func114.trans (congrArg some (by kernel_rfl))⟩
  f19 := Tryz.func149.trans (congrArg some (by kernel_rfl))
  f20 := Tryz.func150.trans (congrArg some (by kernel_rfl))
  f21 := ⟨Tryz.f140.name, by decide, Tryz.func140.trans (congrArg some (by kernel_rfl))⟩
  f22 := ⟨Tryz.f141.name, by decide, Tryz.func141.trans (congrArg some (by kernel_rfl))⟩
  f23 := ⟨Tryz.f142.name, by decide, Tryz.func142.trans (congrArg some (by kernel_rfl))⟩
  f24 := ⟨Tryz.f143.name, by decide, Tryz.func143.trans (congrArg some (by kernel_rfl))⟩
  f25 := ⟨Tryz.f144.name, by decide, Tryz.func144.trans (congrArg some (by kernel_rfl))⟩
  f26 := ⟨Tryz.f145.name, by decide, Tryz.func145.trans (congrArg some (by kernel_rfl))⟩
  f27 := ⟨Tryz.f146.name, by decide, Tryz.func146.trans (congrArg some (by kernel_rfl))⟩
  f28 := ⟨Tryz.f147.name, by decide, Tryz.func147.trans (congrArg some (by kernel_rfl))⟩
  f29 := ⟨Tryz.f148.name, by decide, Tryz.func148.trans (congrArg some (by kernel_rfl))⟩
  f31 := Tryz.func176.trans (congrArg some (by kernel_rfl))
  f32 := Tryz.func177.trans (congrArg some (by kernel_rfl))
  f36 := ⟨Tryz.f175.name, by decide, Tryz.func175.trans (congrArg some (by kernel_rfl))⟩
  f37 := ⟨Tryz.f178.name, by decide, Tryz.func178.trans (congrArg some (by kernel_rfl))⟩
  f38 := ⟨Tryz.f179.name, by decide, Tryz.func179.trans (congrArg some (by kernel_rfl))⟩
  f39 := ⟨Tryz.f180.name, by decide, Tryz.func180.trans (congrArg some (by kernel_rfl))⟩
  f41 := ⟨Tryz.f195.name, by decide, Tryz.func195.trans (congrArg some (by kernel_rfl))⟩
  t0 := Tryz.underlying0
  a0 := Tryz.isAgg0
  z0 := Tryz.sizeOf0
  v0 := Tryz.zeroValue0
  t3 := Tryz.underlying3
  a3 := Tryz.isAgg3
  z3 := Tryz.sizeOf3
  v3 := Tryz.zeroValue3
  t4 := Tryz.underlying4
  a4 := Tryz.isAgg4
  z4 := Tryz.sizeOf4
  v4 := Tryz.zeroValue4
  t5 := Tryz.underlying5
  a5 := Tryz.isAgg5
  z5 := Tryz.sizeOf5
  v5 := Tryz.zeroValue5
  t9 := Tryz.underlying9
  a9 := Tryz.isAgg9
  z9 := Tryz.sizeOf9
  v9 := Tryz.zeroValue9
  t26 := Tryz.underlying41
  a26 := Tryz.isAgg41
  z26 := Tryz.sizeOf41
  v26 := Tryz.zeroValue41
  t27 := Tryz.underlying41
  a27 := Tryz.isAgg41
  z27 := Tryz.sizeOf41
  v27 := Tryz.zeroValue41
  t29 := Tryz.underlying9
  a29 := Tryz.isAgg9
  z29 := Tryz.sizeOf9
  v29 := Tryz.zeroValue9
  t32 := Tryz.underlying139
  a32 := Tryz.isAgg139
  z32 := Tryz.sizeOf139
  v32 := Tryz.zeroValue139
  t35 := Tryz.underlying175
  a35 := Tryz.isAgg175
  z35 := Tryz.sizeOf175
  v35 := Tryz.zeroValue175
  t36 := Tryz.underlying176
  a36 := Tryz.isAgg176
  z36 := Tryz.sizeOf176
  v36 := Tryz.zeroValue176
  t41 := Tryz.underlying98
  a41 := Tryz.isAgg98
  z41 := Tryz.sizeOf98
  v41 := Tryz.zeroValue98
  t44 := Tryz.underlying133
  a44 := Tryz.isAgg133
  z44 := Tryz.sizeOf133
  v44 := Tryz.zeroValue133
  t46 := Tryz.underlying102
  a46 := Tryz.isAgg102
  z46 := Tryz.sizeOf102
  v46 := Tryz.zeroValue102
  t53 := Tryz.underlying206
  a53 := Tryz.isAgg206
  z53 := Tryz.sizeOf206
  v53 := Tryz.zeroValue206
  t57 := Tryz.underlying210
  a57 := Tryz.isAgg210
  z57 := Tryz.sizeOf210
  v57 := Tryz.zeroValue210
  t63 := Tryz.underlying223
  a63 := Tryz.isAgg223
  z63 := Tryz.sizeOf223
  v63 := Tryz.zeroValue223
  t64 := Tryz.underlying224
  a64 := Tryz.isAgg224
  z64 := Tryz.sizeOf224
  v64 := Tryz.zeroValue224 }
end Go.Proofs
namespace Go.Proofs
open Go.RowKit Go.Maps Go.Sort Go.Shelf
theorem YtmkomlbiaebddaaGreatDoor.sortsA (m : Nat) : AnyZ.SortsIn Tryz.prog Tryz.sortedA_ren Fence.wide m :=
 ⟨fun blk off cap ss W hH hblk hsz => callsIn_wide.2 (AnyM.slices_Sort_string Tryz.sortA blk off cap ss W hH hblk hsz),
  fun p cap W => callsIn_wide.2 (AnyM.slices_Sort_string_none Tryz.sortA p cap W)⟩
theorem YtmkomlbiaebddaaGreatDoor.sortedK (Bm b nn : Nat) (D0 : DataW Unit) (w : World) (hB : Bm < w.heap.size) (hc : w.cell? ⟨Bm, 0, none⟩ = some (.map (some b))) (ho : w.ownsMap Tryz.prog 9 YtmkomlbiaebddaaGreatDoor.Am.anyV b nn D0) (hmax : Maps.size D0 ≤ maxLen) (hb : Maps.size D0 * 16 ≤ 140737488355328) :
  Calls Tryz.prog 36 #[.func (.func 87) #[] #[.pointer (some ⟨Bm, 0, none⟩)]] w fun e w' => ∃ (v : Value) (ss : List (List UInt8)), e = .returned v ∧ ss.Perm (strKeys D0) ∧ w'.ownsRow w.heap.size 9 1 v ss.length ((ss.mergeSort (fun x y => decide (x ≤ y))).map encStr) ∧ (v = .slice none 0 0 ↔ ss = []) ∧ Below w.heap.size w w' := by
 have hseq : SeqGives Fence.wide 2 Tryz.prog 87 #[.pointer (some ⟨Bm, 0, none⟩)] encStr (fun ss => ss.Perm (strKeys D0)) (Maps.size D0) w :=
  AnyZ.keys_gives (ρ := Tryz.keysA_ren) { Tryz.keysA with } Fence.wide _ trivial rfl (by omega) Bm b nn D0 _ hB hc ho
 have cS := AnyZ.sorted_in Tryz.sortedA Fence.wide 5 trivial trivial trivial trivial rfl (by omega) (YtmkomlbiaebddaaGreatDoor.sortsA _) (enters_of Tryz.func86 (by kernel_rfl) rfl) 87 #[.pointer (some ⟨Bm, 0, none⟩)] trivial (enters_of Tryz.func87 (by kernel_rfl) rfl) _ _ hmax hb _ hseq
 exact (callsIn_wide (n := 5)).1 cS
end Go.Proofs
namespace Go.Proofs.YtmkomlbiaebddaaGreatDoor.Am
open Go Go.RowKit
def τWkF : TE := [(3, ⟨.int .i64, 1, [.v (.i .i64) (show Int from 0)], (.i .i64), 8⟩),
 (9, ⟨.s, 1, [.v .s (show Bs from [])], .s, 16⟩),
 (22, ⟨.sl 24, 1, [.nils], (.sl (.pr .s .s)), 24⟩),
 (24, ⟨.st [(9, 0), (9, 1)], 2, [.v .s (show Bs from []), .v .s (show Bs from [])], (.pr .s .s), 32⟩),
 (25, ⟨.pt 79, 1, [.nilp], .un, 8⟩),
 (35, ⟨.sl 53, 1, [.nils], (.sl (.pr .s (.pr .s (.pr .s (.pr .s (.pr (.i .i64) (.pr (.i .i64) (.pr (.i .i64) (.sl (.pr .s (.pr .s (.pr .s (.i .i64))))))))))))), 24⟩),
 (41, ⟨.sl 9, 1, [.nils], (.sl .s), 24⟩),
 (51, ⟨.sl 58, 1, [.nils], (.sl (.pr .s (.pr .s (.pr .s (.i .i64))))), 24⟩),
 (53, ⟨.st [(9, 0), (9, 1), (9, 2), (9, 3), (3, 4), (3, 5), (3, 6), (51, 7)], 8, [.v .s (show Bs from []), .v .s (show Bs from []), .v .s (show Bs from []), .v .s (show Bs from []), .v (.i .i64) (show Int from 0), .v (.i .i64) (show Int from 0), .v (.i .i64) (show Int from 0), .nils], (.pr .s (.pr .s (.pr .s (.pr .s (.pr (.i .i64) (.pr (.i .i64) (.pr (.i .i64) (.sl (.pr .s (.pr .s (.pr .s (.i .i64)))))))))))), 112⟩),
 (58, ⟨.st [(9, 0), (9, 1), (9, 2), (3, 3)], 4, [.v .s (show Bs from []), .v .s (show Bs from []), .v .s (show Bs from []), .v (.i .i64) (show Int from 0)], (.pr .s (.pr .s (.pr .s (.i .i64)))), 56⟩),
 (74, ⟨.st [(53, 0)], 8, [.v .s (show Bs from []), .v .s (show Bs from []), .v .s (show Bs from []), .v .s (show Bs from []), .v (.i .i64) (show Int from 0), .v (.i .i64) (show Int from 0), .v (.i .i64) (show Int from 0), .nils], (.pr .s (.pr .s (.pr .s (.pr .s (.pr (.i .i64) (.pr (.i .i64) (.pr (.i .i64) (.sl (.pr .s (.pr .s (.pr .s (.i .i64)))))))))))), 112⟩),
 (77, ⟨.map 9 74, 1, [.nilm], (.mp .s (.pr .s (.pr .s (.pr .s (.pr .s (.pr (.i .i64) (.pr (.i .i64) (.pr (.i .i64) (.sl (.pr .s (.pr .s (.pr .s (.i .i64))))))))))))), 8⟩),
 (79, ⟨.st [(77, 0)], 1, [.nilm], (.pr (.mp .s (.pr .s (.pr .s (.pr .s (.pr .s (.pr (.i .i64) (.pr (.i .i64) (.pr (.i .i64) (.sl (.pr .s (.pr .s (.pr .s (.i .i64))))))))))))) .un), 8⟩),
 (125, ⟨.ifc, 1, [.v .er (show Bool from false)], .er, 16⟩)]
theorem τ_okWkF : TEok Tryz.prog τWkF := yrD (by kernel_rfl) (by kernel_rfl)
theorem zyV : Tryz.prog.follows .mixedOrders = true := by kernel_rfl
theorem zfB {G : List (Nat × Obj)} {o : Ops} [zjG G] [zjJ G o] {Γ : CT} {η : HT} {f : FuncId} {fn : Func} {c : SC} (hΓ : ∀ B, GB G B → CTok Tryz.prog Γ B) (hf : Tryz.prog.funcs[f]? = some fn) (i : (fn.name == "runtime.NumGoroutine") = false := by kernel_rfl) (j : fn.body.isNone = false := by kernel_rfl) (l : Nat.ble c.I.sl.length fn.ntmps = true := by kernel_rfl) (r : Nat.beq fn.results.toList.length c.nr = true := by kernel_rfl) (e : fnS τWkF Γ η fn c.I c.outs = c.p := by kernel_rfl) : SCok Tryz.prog G f c := witO (G := G) (o := o) <| ylA zyV τ_okWkF hΓ hf (isFn hf i j) l r e
theorem zjZ {G : List (Nat × Obj)} {o : Ops} [zjG G] [zjJ G o] {Γ : CT} {η : HT} {f : FuncId} {fn : Func} {c : PC} (hΓ : ∀ B, GB G B → CTok Tryz.prog Γ B) (hf : Tryz.prog.funcs[f]? = some fn) (i : (fn.name == "runtime.NumGoroutine") = false := by kernel_rfl) (j : fn.body.isNone = false := by kernel_rfl) (l : Nat.ble c.ash.length fn.ntmps = true := by kernel_rfl) (r : c.cl = false := by kernel_rfl) (e : fnP τWkF Γ η fn c.ash c.rts = c.p := by kernel_rfl) : PCok Tryz.prog G f c := witO (G := G) (o := o) <| ykJ zyV τ_okWkF hΓ hf (isFn hf i j) l r e
abbrev zbP : Type := Bs × Bs × Bs × Int
abbrev zoY : Ty := .pr .s (.pr .s (.pr .s (.i .i64)))
abbrev zhU : Type := Bs × Bs × Bs × Bs × Int × Int × Int × List zbP
abbrev zvB : Ty := .pr .s (.pr .s (.pr .s (.pr .s (.pr (.i .i64) (.pr (.i .i64) (.pr (.i .i64) (.sl zoY)))))))
abbrev zbB : Type := Bs × Bs × Bs × Bs × Bs × Int × Int × Int × List zbP
abbrev zlA : OSh := .blk 74 [hS, hS, hS, hS, hI, hI, hI, (.h (.sl zoY))]
abbrev ybO : OSh := .blk 74 [hS, hS, hS, hS, hI, hI, hI, .nils]
abbrev yfI : OSh := .blk 58 [hS, hS, hS, hI]
abbrev zfN : OSh := .blk 79 [(.mpr 1)]
abbrev zwU : OSh := .mp false .s zvB
abbrev ykM : OSh := .blk 79 [(.mpr 3)]
abbrev ynF : OSh := .blk 79 [(.mpr 2)]
abbrev zeM : OSh := .mp true .s zvB
section
variable {tabs : List (Nat × Obj)} [zjG tabs] {o : Ops} [zjJ tabs o]
def zmG (o : Ops) : Option ((List zbB)) :=
 some ([] : List zbB)
def zoO (o : Ops) : SC := ⟨⟨[], []⟩, 1, [(none, ⟨[(0, (.ptr 0 0))], [zfN, zeM]⟩)], fun _ => zmG o⟩
theorem ztO : SCok Tryz.prog tabs 16 (zoO o) := zfB (o := o) (η := []) (Γ := ⟨[], [], false, []⟩) (ctok trivial trivial) Tryz.func16
def zhY (o : Ops) (v0 : Bs) (v1 : Int) (v2 : Bs) : Option (Bool) :=
 bif (v0 != ([] : Bs)) then (bif decide ((v0.length : Int) ≤ v1) then ((o.trim v0 v2).bind fun v3 => some (v3 == ([] : Bs))) else (some false)) else (some false)
def ztP (o : Ops) : PC := ⟨[hS, hI, hS], [.b], fun x => zhY o x.1 x.2.1 x.2.2, false⟩
theorem ycJ : PCok Tryz.prog tabs 91 (ztP o) := zjZ (o := o) (η := []) (Γ := ⟨[(109, (yaF o))], [], false, []⟩) (ctok ⟨(zjJ.trim (G := tabs)), trivial⟩ trivial) Tryz.func91
def zbY (o : Ops) (v0 : Bs) : Option (Bool) :=
 (zhY o v0 (24 : Int) ([97, 98, 99, 100, 101, 102, 103, 104, 105, 106, 107, 108, 109, 110, 111, 112, 113, 114, 115, 116, 117, 118, 119, 120, 121, 122, 48, 49, 50, 51, 52, 53, 54, 55, 56, 57, 46, 95, 45] : Bs)).bind fun v1 => some v1
def zlE (o : Ops) : PC := ⟨[hS], [.b], fun x => zbY o x, false⟩
theorem zqH : PCok Tryz.prog tabs 42 (zlE o) := zjZ (o := o) (η := []) (Γ := ⟨[(91, (ztP o))], [], false, []⟩) (ctok ⟨ycJ, trivial⟩ trivial) Tryz.func42
def zeN (o : Ops) (v0 : Int) (v1 : Int) (v2 : Int) : Option (Bool) :=
 bif decide (v0 ≥ v1) then (some (decide (v0 ≤ v2))) else (some false)
def zfX (o : Ops) : PC := ⟨[hI, hI, hI], [.b], fun x => zeN o x.1 x.2.1 x.2.2, false⟩
theorem ziC : PCok Tryz.prog tabs 43 (zfX o) := zjZ (o := o) (η := []) (Γ := ⟨[], [], false, []⟩) (ctok trivial trivial) Tryz.func43
def zhW (o : Ops) (v0 : Bs) (v1 : Bs) : Option Bs :=
 (o.stretch v0 v1 (4 : Int) (32 : Int)).bind fun v2 => some v2.1
def zgQ (o : Ops) : PC := ⟨[hS, hS], [.s], fun x => zhW o x.1 x.2, false⟩
theorem zkR : PCok Tryz.prog tabs 44 (zgQ o) := zjZ (o := o) (η := []) (Γ := ⟨[(92, (zyA o))], [], false, []⟩) (ctok ⟨(zjJ.stretch (G := tabs)), trivial⟩ trivial) Tryz.func44
def zsF (o : Ops) (v0 : Bs) (v1 : Bs) (v2 : Bs) (v3 : List zbB) : Option ((Int × List zbB) ⊕ (List zbB)) :=
 (zbY o v0).bind fun v4 => bif (!v4) then some (.inl ((155 : Int), v3)) else (bif ((v1.length : Int) != 16) then some (.inl ((155 : Int), v3)) else ((zeN o (v2.length : Int) (1 : Int) (64 : Int)).bind fun v5 => bif (!v5) then some (.inl ((155 : Int), v3)) else some (.inr v3)))
def zsH (o : Ops) (v0 : Bs) (v8 : List zbB) (v9 : zhU) : Option ((Int × List zbB) ⊕ ((List zbB) × zhU)) :=
 bif (!(mhas keqS v8 v0)) then (bif decide ((v8.length : Int) ≥ 64) then some (.inl ((156 : Int), v8)) else some (.inr (v8, v9))) else some (.inr (v8, v9))
def zlU (o : Ops) (v0 : Bs) (v1 : Bs) (v2 : Bs) (v3 : List zbB) : Option ((Int × List zbB)) :=
 (zsF o v0 v1 v2 v3).bind fun v6 => match v6 with
 | .inl v7 => some v7
 | .inr v8 => (let v9 : zhU := zrK keqS v8 v0 (([] : Bs), ([] : Bs), ([] : Bs), ([] : Bs), (0 : Int), (0 : Int), (0 : Int), ([] : List zbP))
 (zsH o v0 v8 v9).bind fun v10 => match v10 with
 | .inl v11 => some v11
 | .inr v12 => ((zhW o v2 v1).bind fun v13 => let v14 : List zbB := mset keqS kltS v12.1 v0 (v0, v1, v13, v12.2.2.2.2.1, v12.2.2.2.2.2.1, (0 : Int), (0 : Int), v12.2.2.2.2.2.2.2.2)
 some ((0 : Int), v14)))
def zkM (o : Ops) : SC := ⟨⟨[(0, (.ptr 0 0)), (1, hS), (2, hS), (3, hS)], [zfN, zeM]⟩, 1, [(none, ⟨[(0, hI)], [zfN, zwU]⟩)], fun x => zlU o x.1 x.2.1 x.2.2.1 x.2.2.2⟩
theorem zrM : SCok Tryz.prog tabs 17 (zkM o) := zfB (o := o) (η := [(2000003, .join [] [1, 2, 3] [(some 1000000, ⟨[(8, hI)], [zfN, zeM]⟩), (none, ⟨[(0, (.ptr 0 0))], [zfN, zeM]⟩)]),
 (2000006, .join [] [1, 2, 3] [(some 1000000, ⟨[(8, hI)], [zfN, zeM]⟩), (none, ⟨[(0, (.ptr 0 0)), (9, (.ptr 2 0))], [zfN, zeM, zlA]⟩)]),
 (4000007, .sch [(.pu, 0, []), (.pu, 1, []), (.pu, 2, []), (.pu, 3, []), (.pu, 4, []), (.pu, 5, []), (.mn, 6, [0, 1, 2])])]) (Γ := ⟨[(42, (zlE o)), (43, (zfX o)), (44, (zgQ o))], [], false, []⟩) (ctok ⟨zqH, ⟨ziC, ⟨zkR, trivial⟩⟩⟩ trivial) Tryz.func17
def zoG (o : Ops) (v0 : Int) : Option (Bool) :=
 (zeN o v0 (0 : Int) (1099511627776 : Int)).bind fun v1 => some v1
def znD (o : Ops) : PC := ⟨[hI], [.b], fun x => zoG o x, false⟩
theorem zsA : PCok Tryz.prog tabs 46 (znD o) := zjZ (o := o) (η := []) (Γ := ⟨[(43, (zfX o))], [], false, []⟩) (ctok ⟨ziC, trivial⟩ trivial) Tryz.func46
def znV (o : Ops) (v0 : Bs) (v1 : Bs) (v2 : Bs) (v3 : Bs) (v4 : Int) (v5 : Int) (v6 : Int) (v7 : List zbP) (v8 : Int) (v9 : Bs) : Option ((Bool × Bs × Bs × Bs × Bs × Int × Int × Int × (List zbP) × Int × Bs)) :=
 (zeN o (v9.length : Int) (1 : Int) (64 : Int)).bind fun v10 => bif v10 then ((zhW o v9 v1).bind fun v11 => (o.same v11 v2).bind fun v12 => some (v12, v0, v1, v2, v3, v4, v5, v6, v7, v8, v9)) else some (false, v0, v1, v2, v3, v4, v5, v6, v7, v8, v9)
def zoB (o : Ops) (v0 : Bs) (v1 : Bs) (v2 : Bs) (v3 : Bs) (v4 : Int) (v5 : Int) (v6 : Int) (v7 : List zbP) (v8 : Int) (v9 : Bs) : Option ((Int × Bs × Bs × Bs × Bs × Int × Int × Int × (List zbP) × Int × Bs) ⊕ (Bs × Bs × Bs × Bs × Int × Int × Int × (List zbP) × Int × Bs)) :=
 (znV o v0 v1 v2 v3 v4 v5 v6 v7 v8 v9).bind fun v13 => bif v13.1 then some (.inl ((0 : Int), v13.2.1, v13.2.2.1, v13.2.2.2.1, v13.2.2.2.2.1, v13.2.2.2.2.2.1, (0 : Int), (0 : Int), v13.2.2.2.2.2.2.2.2)) else some (.inr v13.2)
def ziI (o : Ops) (v0 : Bs) (v1 : Bs) (v2 : Bs) (v3 : Bs) (v4 : Int) (v5 : Int) (v6 : Int) (v7 : List zbP) (v8 : Int) (v9 : Bs) : Option ((Int × Bs × Bs × Bs × Bs × Int × Int × Int × (List zbP) × Int × Bs)) :=
 bif decide (v8 < v6) then some ((152 : Int), v0, v1, v2, v3, v4, v5, v6, v7, v8, v9) else ((zoB o v0 v1 v2 v3 v4 v5 v6 v7 v8 v9).bind fun v14 => match v14 with
 | .inl v15 => some v15
 | .inr v16 => (bif ((w64 (v16.2.2.2.2.2.1 + 1)) == 5) then some ((151 : Int), v16.1, v16.2.1, v16.2.2.1, v16.2.2.2.1, v16.2.2.2.2.1, (0 : Int), w64 (v16.2.2.2.2.2.2.2.2.1 + 300), v16.2.2.2.2.2.2.2) else some ((151 : Int), v16.1, v16.2.1, v16.2.2.1, v16.2.2.2.1, v16.2.2.2.2.1, w64 (v16.2.2.2.2.2.1 + 1), v16.2.2.2.2.2.2)))
def zhK (o : Ops) : SC := ⟨⟨[(0, (.ptr 0 0)), (1, (.ptr 1 0)), (2, (.ptr 2 0))], [zlA, .blk 3 [hI], .blk 9 [hS]]⟩, 1, [(none, ⟨[(0, hI)], [zlA, .blk 3 [hI], .blk 9 [hS]]⟩)], fun x => ziI o x.1 x.2.1 x.2.2.1 x.2.2.2.1 x.2.2.2.2.1 x.2.2.2.2.2.1 x.2.2.2.2.2.2.1 x.2.2.2.2.2.2.2.1 x.2.2.2.2.2.2.2.2.1 x.2.2.2.2.2.2.2.2.2⟩
theorem znY : SCok Tryz.prog tabs 48 (zhK o) := zfB (o := o) (η := [(2300004, .join [] [] [(none, ⟨[(0, (.ptr 0 0)), (1, (.ptr 1 0)), (29, hB)], [zlA, .blk 3 [hI], .blk 9 [hS]]⟩)]),
 (2000006, .join [] [] [(some 1000000, ⟨[(4, hI)], [zlA, .blk 3 [hI], .blk 9 [hS]]⟩), (none, ⟨[(0, (.ptr 0 0)), (1, (.ptr 1 0))], [zlA, .blk 3 [hI], .blk 9 [hS]]⟩)]),
 (4000001, .sch [(.pu, 0, []), (.pu, 1, []), (.pu, 2, []), (.pu, 3, []), (.pu, 4, []), (.pu, 5, []), (.pu, 6, [])]),
 (4000003, .sch [(.pu, 0, []), (.pu, 1, []), (.mn, 2, []), (.pu, 3, []), (.pu, 4, []), (.pu, 5, []), (.pu, 6, []), (.pu, 7, []), (.pu, 8, []), (.pu, 9, []), (.pu, 11, []), (.pu, 12, []), (.pu, 13, []), (.pu, 14, []), (.pu, 15, []), (.mn, 10, []), (.mn, 16, []), (.pu, 17, [])]),
 (4000008, .sch [(.pu, 0, []), (.pu, 1, [0]), (.pu, 2, [0]), (.pu, 3, [0]), (.pu, 4, []), (.pu, 5, []), (.pu, 6, []), (.mn, 7, [0]), (.pu, 8, []), (.pu, 9, []), (.pu, 10, []), (.mn, 11, [0])])]) (Γ := ⟨[(43, (zfX o)), (44, (zgQ o)), (49, (ynN o))], [], false, []⟩) (ctok ⟨ziC, ⟨zkR, ⟨(zjJ.same (G := tabs)), trivial⟩⟩⟩ trivial) Tryz.func48
def zkZ (o : Ops) (v0 : Bs) (v1 : Int) (v2 : Bs) (v3 : List zbB) : Option ((Int × Int × Bs × List zbB)) :=
 let v4 : zhU := zrK keqS v3 v0 (([] : Bs), ([] : Bs), ([] : Bs), ([] : Bs), (0 : Int), (0 : Int), (0 : Int), ([] : List zbP))
 bif (!(mhas keqS v3 v0)) then some ((150 : Int), v1, v2, v3) else ((ziI o v4.1 v4.2.1 v4.2.2.1 v4.2.2.2.1 v4.2.2.2.2.1 v4.2.2.2.2.2.1 v4.2.2.2.2.2.2.1 v4.2.2.2.2.2.2.2 v1 v2).bind fun v5 => let v6 : List zbB := mset keqS kltS v3 v0 (v5.2.1, v5.2.2.1, v5.2.2.2.1, v5.2.2.2.2.1, v5.2.2.2.2.2.1, v5.2.2.2.2.2.2.1, v5.2.2.2.2.2.2.2.1, v5.2.2.2.2.2.2.2.2.1)
 some (v5.1, v5.2.2.2.2.2.2.2.2.2.1, v5.2.2.2.2.2.2.2.2.2.2, v6))
def zkK (o : Ops) : SC := ⟨⟨[(0, (.ptr 0 0)), (1, hS), (2, (.fn 48 [] [(.ptr 1 0), (.ptr 2 0)]))], [ykM, .blk 3 [hI], .blk 9 [hS], zeM]⟩, 1, [(none, ⟨[(0, hI)], [ykM, .blk 3 [hI], .blk 9 [hS], zwU]⟩)], fun x => zkZ o x.1 x.2.1 x.2.2.1 x.2.2.2⟩
theorem zrB : SCok Tryz.prog tabs 47 (zkK o) := zfB (o := o) (η := [(4000005, .sch [(.pu, 0, []), (.pu, 1, []), (.pu, 2, []), (.pu, 3, []), (.pu, 4, []), (.pu, 5, []), (.mn, 6, [0, 1, 2, 3, 4, 5])])]) (Γ := ⟨[], [(48, (zhK o))], false, []⟩) (ctok trivial ⟨znY, trivial⟩) Tryz.func47
def zbF (o : Ops) (v0 : Bs) (v1 : Bs) (v2 : Int) (v3 : List zbB) : Option ((Int × List zbB)) :=
 (zoG o v2).bind fun v4 => bif (!v4) then some ((1 : Int), v3) else ((zkZ o v0 v2 v1 v3).bind fun v5 => some (v5.1, v5.2.2.2))
def zjA (o : Ops) : SC := ⟨⟨[(0, (.ptr 0 0)), (1, hS), (2, hS), (3, hI)], [zfN, zeM]⟩, 1, [(none, ⟨[(0, hI)], [zfN, zwU]⟩)], fun x => zbF o x.1 x.2.1 x.2.2.1 x.2.2.2⟩
theorem zqE : SCok Tryz.prog tabs 19 (zjA o) := zfB (o := o) (η := []) (Γ := ⟨[(46, (znD o))], [(47, (zkK o))], false, []⟩) (ctok ⟨zsA, trivial⟩ ⟨zrB, trivial⟩) Tryz.func19
def zoZ (o : Ops) (v0 : Bs) (v1 : Bs) (v2 : Bs) (v3 : Bs) (v4 : Int) (v5 : Int) (v6 : Int) (v7 : List zbP) (v8 : Bs) (v9 : Int) (v10 : Int × Bool) : Option ((Int × Bs × Bs × Bs × Bs × Int × Int × Int × (List zbP) × Bs × Int) ⊕ (Bs × Bs × Bs × Bs × Int × Int × Int × (List zbP) × Bs × Int)) :=
 bif (!v10.2) then some (.inl ((153 : Int), v0, v1, v2, v3, v4, v5, v6, v7, v8, v9)) else (bif decide (v10.1 < v4) then some (.inl ((153 : Int), v0, v1, v2, v3, v4, v5, v6, v7, v8, v9)) else some (.inr (v0, v1, v2, v3, v4, v5, v6, v7, v8, v9)))
def zjC (o : Ops) (v0 : Bs) (v1 : Bs) (v2 : Bs) (v3 : Bs) (v4 : Int) (v5 : Int) (v6 : Int) (v7 : List zbP) (v8 : Bs) (v9 : Int) : Option ((Int × Bs × Bs × Bs × Bs × Int × Int × Int × (List zbP) × Bs × Int)) :=
 bif (v3 == ([] : Bs)) then some ((154 : Int), v0, v1, v2, v3, v4, v5, v6, v7, v8, v9) else ((chk (((30 : Int) != 0))).bind fun _ => (o.find v3 v8 (w64 (Int.tdiv v9 (30 : Int))) (1 : Int)).bind fun v10 => (zoZ o v0 v1 v2 v3 v4 v5 v6 v7 v8 v9 v10).bind fun v11 => match v11 with
 | .inl v12 => some v12
 | .inr v13 => some ((0 : Int), v13.1, v13.2.1, v13.2.2.1, v13.2.2.2.1, w64 (v10.1 + 1), v13.2.2.2.2.2))
def ziJ (o : Ops) : SC := ⟨⟨[(0, (.ptr 0 0)), (1, (.ptr 1 0)), (2, (.ptr 2 0))], [zlA, .blk 9 [hS], .blk 3 [hI]]⟩, 1, [(none, ⟨[(0, hI)], [zlA, .blk 9 [hS], .blk 3 [hI]]⟩)], fun x => zjC o x.1 x.2.1 x.2.2.1 x.2.2.2.1 x.2.2.2.2.1 x.2.2.2.2.2.1 x.2.2.2.2.2.2.1 x.2.2.2.2.2.2.2.1 x.2.2.2.2.2.2.2.2.1 x.2.2.2.2.2.2.2.2.2⟩
theorem zoH : SCok Tryz.prog tabs 51 (ziJ o) := zfB (o := o) (η := [(2000006, .join [] [5] [(some 1000000, ⟨[(4, hI)], [zlA, .blk 9 [hS], .blk 3 [hI]]⟩), (none, ⟨[(0, (.ptr 0 0))], [zlA, .blk 9 [hS], .blk 3 [hI]]⟩)]),
 (4000003, .sch [(.pu, 0, []), (.pu, 1, []), (.pu, 2, []), (.pu, 3, []), (.pu, 4, []), (.pu, 5, []), (.pu, 6, []), (.pu, 7, []), (.mn, 8, []), (.pu, 9, []), (.pu, 10, []), (.pu, 11, []), (.pu, 12, []), (.pu, 13, [])])]) (Γ := ⟨[(52, (yrJ o))], [], false, []⟩) (ctok ⟨(zjJ.find (G := tabs)), trivial⟩ trivial) Tryz.func51
def zjW (o : Ops) (v0 : Bs) (v1 : Bs) (v2 : Int) (v3 : List zbB) : Option ((Int × Bs × Int × List zbB)) :=
 let v4 : zhU := zrK keqS v3 v0 (([] : Bs), ([] : Bs), ([] : Bs), ([] : Bs), (0 : Int), (0 : Int), (0 : Int), ([] : List zbP))
 bif (!(mhas keqS v3 v0)) then some ((150 : Int), v1, v2, v3) else ((zjC o v4.1 v4.2.1 v4.2.2.1 v4.2.2.2.1 v4.2.2.2.2.1 v4.2.2.2.2.2.1 v4.2.2.2.2.2.2.1 v4.2.2.2.2.2.2.2 v1 v2).bind fun v5 => let v6 : List zbB := mset keqS kltS v3 v0 (v5.2.1, v5.2.2.1, v5.2.2.2.1, v5.2.2.2.2.1, v5.2.2.2.2.2.1, v5.2.2.2.2.2.2.1, v5.2.2.2.2.2.2.2.1, v5.2.2.2.2.2.2.2.2.1)
 some (v5.1, v5.2.2.2.2.2.2.2.2.2.1, v5.2.2.2.2.2.2.2.2.2.2, v6))
def ziY (o : Ops) : SC := ⟨⟨[(0, (.ptr 0 0)), (1, hS), (2, (.fn 51 [] [(.ptr 1 0), (.ptr 2 0)]))], [ykM, .blk 9 [hS], .blk 3 [hI], zeM]⟩, 1, [(none, ⟨[(0, hI)], [ykM, .blk 9 [hS], .blk 3 [hI], zwU]⟩)], fun x => zjW o x.1 x.2.1 x.2.2.1 x.2.2.2⟩
theorem zpX : SCok Tryz.prog tabs 47 (ziY o) := zfB (o := o) (η := [(4000005, .sch [(.pu, 0, []), (.pu, 1, []), (.pu, 2, []), (.pu, 3, []), (.pu, 4, []), (.pu, 5, []), (.mn, 6, [0, 1, 2, 3, 4, 5])])]) (Γ := ⟨[], [(51, (ziJ o))], false, []⟩) (ctok trivial ⟨zoH, trivial⟩) Tryz.func47
def zfD (o : Ops) (v0 : Bs) (v1 : Bs) (v2 : Int) (v3 : List zbB) : Option ((Int × List zbB)) :=
 (zoG o v2).bind fun v4 => bif (!v4) then some ((1 : Int), v3) else ((zjW o v0 v1 v2 v3).bind fun v5 => some (v5.1, v5.2.2.2))
def zjS (o : Ops) : SC := ⟨⟨[(0, (.ptr 0 0)), (1, hS), (2, hS), (3, hI)], [zfN, zeM]⟩, 1, [(none, ⟨[(0, hI)], [zfN, zwU]⟩)], fun x => zfD o x.1 x.2.1 x.2.2.1 x.2.2.2⟩
theorem zqN : SCok Tryz.prog tabs 22 (zjS o) := zfB (o := o) (η := []) (Γ := ⟨[(46, (znD o))], [(47, (ziY o))], false, []⟩) (ctok ⟨zsA, trivial⟩ ⟨zpX, trivial⟩) Tryz.func22
def ziQ (o : Ops) (v0 : Bs) (v1 : Bs) (v2 : Bs) (v3 : Bs) (v4 : Int) (v5 : Int) (v6 : Int) (v7 : List zbP) (v8 : Bs) : Option ((Int × Bs × Bs × Bs × Bs × Int × Int × Int × (List zbP) × Bs)) :=
 (zeN o (v8.length : Int) (16 : Int) (64 : Int)).bind fun v9 => bif (!v9) then some ((155 : Int), v0, v1, v2, v3, v4, v5, v6, v7, v8) else some ((0 : Int), v0, v1, v2, v8, (0 : Int), v5, v6, v7, v8)
def zhN (o : Ops) : SC := ⟨⟨[(0, (.ptr 0 0)), (1, (.ptr 1 0))], [zlA, .blk 9 [hS]]⟩, 1, [(none, ⟨[(0, hI)], [zlA, .blk 9 [hS]]⟩)], fun x => ziQ o x.1 x.2.1 x.2.2.1 x.2.2.2.1 x.2.2.2.2.1 x.2.2.2.2.2.1 x.2.2.2.2.2.2.1 x.2.2.2.2.2.2.2.1 x.2.2.2.2.2.2.2.2⟩
theorem zoD : SCok Tryz.prog tabs 50 (zhN o) := zfB (o := o) (η := []) (Γ := ⟨[(43, (zfX o))], [], false, []⟩) (ctok ⟨ziC, trivial⟩ trivial) Tryz.func50
def zkB (o : Ops) (v0 : Bs) (v1 : Bs) (v2 : List zbB) : Option ((Int × Bs × List zbB)) :=
 let v3 : zhU := zrK keqS v2 v0 (([] : Bs), ([] : Bs), ([] : Bs), ([] : Bs), (0 : Int), (0 : Int), (0 : Int), ([] : List zbP))
 bif (!(mhas keqS v2 v0)) then some ((150 : Int), v1, v2) else ((ziQ o v3.1 v3.2.1 v3.2.2.1 v3.2.2.2.1 v3.2.2.2.2.1 v3.2.2.2.2.2.1 v3.2.2.2.2.2.2.1 v3.2.2.2.2.2.2.2 v1).bind fun v4 => let v5 : List zbB := mset keqS kltS v2 v0 (v4.2.1, v4.2.2.1, v4.2.2.2.1, v4.2.2.2.2.1, v4.2.2.2.2.2.1, v4.2.2.2.2.2.2.1, v4.2.2.2.2.2.2.2.1, v4.2.2.2.2.2.2.2.2.1)
 some (v4.1, v4.2.2.2.2.2.2.2.2.2, v5))
def ziW (o : Ops) : SC := ⟨⟨[(0, (.ptr 0 0)), (1, hS), (2, (.fn 50 [] [(.ptr 1 0)]))], [ynF, .blk 9 [hS], zeM]⟩, 1, [(none, ⟨[(0, hI)], [ynF, .blk 9 [hS], zwU]⟩)], fun x => zkB o x.1 x.2.1 x.2.2⟩
theorem zpV : SCok Tryz.prog tabs 47 (ziW o) := zfB (o := o) (η := [(4000005, .sch [(.pu, 0, []), (.pu, 1, []), (.pu, 2, []), (.pu, 3, []), (.pu, 4, []), (.pu, 5, []), (.mn, 6, [0, 1, 2, 3, 4])])]) (Γ := ⟨[], [(50, (zhN o))], false, []⟩) (ctok trivial ⟨zoD, trivial⟩) Tryz.func47
def zjY (o : Ops) (v0 : Bs) (v1 : Bs) (v2 : List zbB) : Option ((Int × List zbB)) :=
 (zkB o v0 v1 v2).bind fun v3 => some (v3.1, v3.2.2)
def ziV (o : Ops) : SC := ⟨⟨[(0, (.ptr 0 0)), (1, hS), (2, hS)], [zfN, zeM]⟩, 1, [(none, ⟨[(0, hI)], [zfN, zwU]⟩)], fun x => zjY o x.1 x.2.1 x.2.2⟩
theorem zqG : SCok Tryz.prog tabs 20 (ziV o) := zfB (o := o) (η := []) (Γ := ⟨[], [(47, (ziW o))], false, []⟩) (ctok trivial ⟨zpV, trivial⟩) Tryz.func20
def zqT (o : Ops) (v0 : List zbB) : Option ((List zbB)) :=
 some v0
def ztU (o : Ops) : SC := ⟨⟨[(0, (.mpr 0))], [zeM]⟩, 1, [(none, ⟨[(0, (.fn 87 [] [(.ptr 1 0)]))], [zeM, .blk 77 [(.mpr 0)]]⟩)], fun x => zqT o x⟩
theorem ydX : SCok Tryz.prog tabs 37 (ztU o) := zfB (o := o) (η := []) (Γ := ⟨[], [], false, []⟩) (ctok trivial trivial) Tryz.func37
def ydR : SC := ⟨⟨[(0, (.fn 87 [] [(.ptr 0 0)]))], [.blk 77 [(.mpr 1)], zeM]⟩, 1, [(none, ⟨[(0, (.h (.sl .s)))], [.blk 77 [(.mpr 1)], zeM]⟩)], fun es => zxH es⟩
theorem yoF : SCok Tryz.prog tabs 36 ydR := wit (G := tabs) <| yqP (kT := 9) (isFn Tryz.func36) (by kernel_rfl) YtmkomlbiaebddaaGreatDoor.sortedK
def zzN : SC := ⟨⟨[(0, (.h (.sl zoY)))], []⟩, 1, [(none, ⟨[(0, (.own 0))], [.osl zoY 58]⟩)], fun xs => app [] xs⟩
theorem yhY : SCok Tryz.prog tabs 61 zzN := wit (G := tabs) <| yuC zyV τ_okWkF Tryz.func61 (isFn Tryz.func61) rfl (by kernel_rfl) (by kernel_rfl) (by kernel_rfl) (fun _ => by kernel_rfl)
def yeS : PC := ⟨[.h (.sl zoY)], [(.sl zoY)], fun xs => some xs, true⟩
theorem ymZ : PCok Tryz.prog tabs 59 yeS := wit (G := tabs) <| yfK zyV τ_okWkF Tryz.func59 (isFn Tryz.func59) rfl (by kernel_rfl) (fun _ => by kernel_rfl)
def ziA (o : Ops) (v0 : zhU) : Option zhU :=
 (app ([] : List zbP) v0.2.2.2.2.2.2.2).bind fun v1 => some (v0.1, v0.2.1, v0.2.2.1, v0.2.2.2.1, v0.2.2.2.2.1, v0.2.2.2.2.2.1, v0.2.2.2.2.2.2.1, v1)
def zkY (o : Ops) : PC := ⟨[(.h zvB)], [zvB], fun x => ziA o x, false⟩
theorem zrO : PCok Tryz.prog tabs 38 (zkY o) := zjZ (o := o) (η := []) (Γ := ⟨[(59, yeS)], [(61, zzN)], false, []⟩) (ctok ⟨ymZ, trivial⟩ ⟨yhY, trivial⟩) Tryz.func38
def zdH (o : Ops) (v3 : ((List Bs) × List zbB)) (v4 : Int) (v5 : List zbB) (v6 : List zhU) : Option ((Int × (List zbB) × List zhU) ⊕ (((List zbB) × List zhU))) :=
 bif decide (v4 < (v3.1.length : Int)) then ((idx v3.1 v4).bind fun v7 => let v8 : zhU := zrK keqS v5 v7 (([] : Bs), ([] : Bs), ([] : Bs), ([] : Bs), (0 : Int), (0 : Int), (0 : Int), ([] : List zbP))
 (ziA o v8).bind fun v9 => (app v6 ([v9] : List zhU)).bind fun v10 => some (.inl (w64 (v4 + 1), v5, v10))) else some (.inr (v5, v6))
def zcR (o : Ops) (v0 : List zbB) : Option (((List zbB) × List zhU)) :=
 (chk (decide ((0 : Int) ≤ (v0.length : Int)) && decide ((v0.length : Int) ≤ (LIM : Int)))).bind fun _ => (mkL (0 : Int) (([] : Bs), ([] : Bs), ([] : Bs), ([] : Bs), (0 : Int), (0 : Int), (0 : Int), ([] : List zbP))).bind fun v1 => (zqT o v0).bind fun v2 => (zxH v2).bind fun v3 => (iter (fun x => zdH o v3 x.1 x.2.1 x.2.2) ((0 : Int), v3.2, v1)).bind fun v11 => some v11
def zfF (o : Ops) : SC := ⟨⟨[(0, (.ptr 0 0))], [zfN, zeM]⟩, 1, [(none, ⟨[(0, (.own 2))], [zfN, zeM, .osl zvB 53]⟩)], fun x => zcR o x⟩
theorem zgZ : SCok Tryz.prog tabs 14 (zfF o) := zfB (o := o) (η := [(200003, .loop [] ⟨[(0, (.ptr 0 0)), (3, (.own 2)), (19, hI)], [zfN, zeM, .osl zvB 53]⟩ [2, 17, 18] [(some 0, ⟨[(3, (.own 2))], [zfN, zeM, .osl zvB 53]⟩)])]) (Γ := ⟨[(38, (zkY o))], [(37, (ztU o)), (36, ydR)], false, []⟩) (ctok ⟨zrO, trivial⟩ ⟨ydX, ⟨yoF, trivial⟩⟩) Tryz.func14
def yiA : PC := ⟨[.h (.sl (.pr .s .s))], [(.sl (.pr .s .s))], fun xs => some xs, true⟩
theorem yuF : PCok Tryz.prog tabs 41 yiA := wit (G := tabs) <| yfK zyV τ_okWkF Tryz.func41 (isFn Tryz.func41) rfl (by kernel_rfl) (fun _ => by kernel_rfl)
def zcF (o : Ops) (v6 : zhU) (v11 : Int) (v12 : List zbB) (v13 : List (Bs × Bs)) (v14 : Bs) (v15 : Bs) (v16 : Bs) (v17 : Bs) (v18 : Int) (v19 : Int) (v20 : Int) (v21 : List zbP) (v22 : List Bs) (v23 : List zhU) : Option ((Int × (List zbB) × (List (Bs × Bs)) × Bs × Bs × Bs × Bs × Int × Int × Int × (List zbP) × (List Bs) × List zhU) ⊕ (((List zbB) × (List (Bs × Bs)) × Bs × Bs × Bs × Bs × Int × Int × Int × (List zbP) × (List Bs) × List zhU))) :=
 bif decide (v11 < (v6.2.2.2.2.2.2.2.length : Int)) then ((idx v6.2.2.2.2.2.2.2 v11).bind fun v24 => (o.itoa v24.2.2.2).bind fun v25 => (app v22 ([v24.1, v24.2.1, v24.2.2.1, v25] : List Bs)).bind fun v26 => some (.inl (w64 (v11 + 1), v12, v13, v14, v15, v16, v17, v18, v19, v20, v21, v26, v23))) else some (.inr (v12, v13, v14, v15, v16, v17, v18, v19, v20, v21, v22, v23))
def zcT (o : Ops) (v1 : ((List zbB) × List zhU)) (v2 : Int) (v3 : List zbB) (v4 : List (Bs × Bs)) (v5 : List zhU) : Option ((Int × (List zbB) × (List (Bs × Bs)) × List zhU) ⊕ (((List zbB) × List (Bs × Bs)))) :=
 bif decide (v2 < (v1.2.length : Int)) then ((chk (decide ((0 : Int) ≤ v2) && decide (v2 < (v5.length : Int)))).bind fun _ => (idx v5 v2).bind fun v6 => (o.itoa v6.2.2.2.2.1).bind fun v7 => (o.itoa v6.2.2.2.2.2.1).bind fun v8 => (o.itoa v6.2.2.2.2.2.2.1).bind fun v9 => (o.itoa (v6.2.2.2.2.2.2.2.length : Int)).bind fun v10 => (iter (fun x => zcF o v6 x.1 x.2.1 x.2.2.1 x.2.2.2.1 x.2.2.2.2.1 x.2.2.2.2.2.1 x.2.2.2.2.2.2.1 x.2.2.2.2.2.2.2.1 x.2.2.2.2.2.2.2.2.1 x.2.2.2.2.2.2.2.2.2.1 x.2.2.2.2.2.2.2.2.2.2.1 x.2.2.2.2.2.2.2.2.2.2.2.1 x.2.2.2.2.2.2.2.2.2.2.2.2) ((0 : Int), v3, v4, v6.1, v6.2.1, v6.2.2.1, v6.2.2.2.1, v6.2.2.2.2.1, v6.2.2.2.2.2.1, v6.2.2.2.2.2.2.1, v6.2.2.2.2.2.2.2, ([v6.2.1, v6.2.2.1, v6.2.2.2.1, v7, v8, v9, v10] : List Bs), v5)).bind fun v27 => (app ([108, 111, 103, 105, 110, 47] : Bs) v27.2.2.1).bind fun v28 => (o.form v27.2.2.2.2.2.2.2.2.2.2.1).bind fun v29 => (app v27.2.1 ([(v28, v29)] : List (Bs × Bs))).bind fun v30 => some (.inl (w64 (v2 + 1), v27.1, v30, v27.2.2.2.2.2.2.2.2.2.2.2))) else some (.inr (v3, v4))
def zdK (o : Ops) (v0 : List zbB) : Option (((List (Bs × Bs)) × List zbB)) :=
 (zcR o v0).bind fun v1 => (iter (fun x => zcT o v1 x.1 x.2.1 x.2.2.1 x.2.2.2) ((0 : Int), v1.1, ([] : List (Bs × Bs)), v1.2)).bind fun v31 => some (v31.2, v31.1)
def zgA (o : Ops) : SC := ⟨⟨[(0, (.ptr 0 0))], [zfN, zeM]⟩, 1, [(none, ⟨[(0, (.hc (.pr .s .s)))], [zfN, zeM]⟩)], fun x => zdK o x⟩
theorem zkD : SCok Tryz.prog tabs 15 (zgA o) := zfB (o := o) (η := [(200007, .loop [] ⟨[(3, (.own 2)), (5, (.ptr 3 0)), (6, (.own 4)), (10, (.own 5)), (39, hI)], [zfN, zeM, .osl (.pr .s .s) 24, .blk 53 [hS, hS, hS, hS, hI, hI, hI, (.h (.sl zoY))], .osl .s 9, .osl zvB 53]⟩ [2, 11, 12, 37, 38] [(some 2, ⟨[(3, (.own 2)), (5, (.ptr 3 0)), (6, (.own 4)), (10, (.own 5))], [zfN, zeM, .osl (.pr .s .s) 24, .blk 53 [hS, hS, hS, hS, hI, hI, hI, (.h (.sl zoY))], .osl .s 9, .osl zvB 53]⟩)]),
 (200003, .loop [.sl 3 (.pr .s .s) 24] ⟨[(3, (.own 2)), (10, (.own 3)), (12, hI)], [zfN, zeM, .osl (.pr .s .s) 24, .osl zvB 53]⟩ [2, 11] [(some 0, ⟨[(3, (.own 2))], [zfN, zeM, .osl (.pr .s .s) 24]⟩)]),
 (4000005, .sch [(.pu, 0, []), (.pu, 1, []), (.pu, 2, []), (.pu, 3, []), (.pu, 4, []), (.pu, 5, []), (.pu, 6, []), (.pu, 7, []), (.pu, 9, []), (.pu, 10, []), (.pu, 12, []), (.pu, 13, []), (.pu, 15, []), (.pu, 16, []), (.pu, 17, []), (.mn, 8, []), (.mn, 11, []), (.mn, 14, []), (.mn, 18, []), (.mn, 19, []), (.pu, 20, [])]),
 (4000009, .sch [(.pu, 0, []), (.pu, 1, []), (.pu, 2, []), (.pu, 3, []), (.pu, 4, []), (.pu, 5, []), (.pu, 6, []), (.pu, 7, []), (.pu, 8, []), (.mn, 9, []), (.mn, 10, []), (.mn, 11, [3, 4]), (.mn, 12, [])]),
 (4000011, .sch [(.pu, 0, []), (.pu, 1, []), (.pu, 2, []), (.pu, 3, []), (.pu, 4, []), (.mn, 5, []), (.pu, 6, []), (.mn, 7, []), (.mn, 8, [2]), (.mn, 9, [])])]) (Γ := ⟨[(39, (ymH o)), (40, (ylT o)), (41, yiA)], [(14, (zfF o))], false, []⟩) (ctok ⟨(zjJ.itoa (G := tabs)), ⟨(zjJ.form (G := tabs)), ⟨yuF, trivial⟩⟩⟩ ⟨zgZ, trivial⟩) Tryz.func15
def zbR (o : Ops) (v0 : Bs) (v1 : Bs) : Option (Bool) :=
 bif decide ((v0.length : Int) ≥ (v1.length : Int)) then ((subH v0 (v1.length : Int)).bind fun v2 => some (v2 == v1)) else (some false)
def zdG (o : Ops) : PC := ⟨[hS, hS], [.b], fun x => zbR o x.1 x.2, false⟩
theorem zgW : PCok Tryz.prog tabs 129 (zdG o) := zjZ (o := o) (η := []) (Γ := ⟨[], [], false, []⟩) (ctok trivial trivial) Tryz.func129
def zbQ (o : Ops) (v0 : Bs) (v1 : Bs) : Option (Bs × Bool) :=
 (zbR o v0 v1).bind fun v2 => bif (!v2) then (some (v0, false)) else ((subL v0 (v1.length : Int)).bind fun v3 => some (v3, true))
def zdL (o : Ops) : PC := ⟨[hS, hS], [.s, .b], fun x => zbQ o x.1 x.2, false⟩
theorem zgO : PCok Tryz.prog tabs 105 (zdL o) := zjZ (o := o) (η := []) (Γ := ⟨[(129, (zdG o))], [], false, []⟩) (ctok ⟨zgW, trivial⟩ trivial) Tryz.func105
def zcV (o : Ops) (v0 : Bs) (v1 : Bs) : Option (Bs × Bool) :=
 (zbQ o v0 v1).bind fun v2 => some v2
def ziU (o : Ops) : PC := ⟨[hS, hS], [.s, .b], fun x => zcV o x.1 x.2, false⟩
theorem zpW : PCok Tryz.prog tabs 76 (ziU o) := zjZ (o := o) (η := []) (Γ := ⟨[(105, (zdL o))], [], false, []⟩) (ctok ⟨zgO, trivial⟩ trivial) Tryz.func76
def zeJ (o : Ops) (v0 : Bs) : Option ((Int × Bool) ⊕ Unit) :=
 bif (v0 == ([] : Bs)) then some (.inl ((0 : Int), false)) else (bif decide ((v0.length : Int) > 15) then some (.inl ((0 : Int), false)) else ((idx v0 (0 : Int)).bind fun v1 => bif ((v1.toNat : Int) == ((48 : UInt8).toNat : Int)) then (bif (v0 != ([48] : Bs)) then some (.inl ((0 : Int), false)) else ((o.trim v0 ([48, 49, 50, 51, 52, 53, 54, 55, 56, 57] : Bs)).bind fun v2 => bif (v2 != ([] : Bs)) then some (.inl ((0 : Int), false)) else some (.inr ()))) else ((o.trim v0 ([48, 49, 50, 51, 52, 53, 54, 55, 56, 57] : Bs)).bind fun v3 => bif (v3 != ([] : Bs)) then some (.inl ((0 : Int), false)) else some (.inr ()))))
def zeB (o : Ops) (v0 : Bs) : Option (Int × Bool) :=
 (zeJ o v0).bind fun v4 => match v4 with
 | .inl v5 => (some v5)
 | .inr v6 => ((o.atoi v0).bind fun v7 => some (v7.1, (!v7.2)))
def znT (o : Ops) : PC := ⟨[hS], [(.i .i64), .b], fun x => zeB o x, false⟩
theorem zuG : PCok Tryz.prog tabs 107 (znT o) := zjZ (o := o) (η := [(2000003, .join [] [0] [(some 1000000, ⟨[(2, hI), (3, hB)], []⟩), (none, ⟨[], []⟩)]),
 (4000004, .sch [(.pu, 0, []), (.pu, 1, []), (.pu, 2, []), (.pu, 3, []), (.pu, 4, [])])]) (Γ := ⟨[(109, (yaF o)), (110, (yeZ o))], [], false, []⟩) (ctok ⟨(zjJ.trim (G := tabs)), ⟨(zjJ.atoi (G := tabs)), trivial⟩⟩ trivial) Tryz.func107
def yjA : PC := ⟨[.h (.sl .s)], [(.sl .s)], fun xs => some xs, true⟩
theorem ysG : PCok Tryz.prog tabs 108 yjA := wit (G := tabs) <| yfK zyV τ_okWkF Tryz.func108 (isFn Tryz.func108) rfl (by kernel_rfl) (fun _ => by kernel_rfl)
def znS (o : Ops) (v2 : List Bs) (v3 : Bs × Bs × Bool) (v4 : Int × Bool) : Option (Bool ⊕ List Bs) :=
 bif (!v3.2.2) then some (.inl false) else (bif (!v4.2) then some (.inl false) else (bif decide (v4.1 > (v3.2.1.length : Int)) then some (.inl false) else some (.inr v2)))
def zfV (o : Ops) (v1 : Bs) (v2 : List Bs) : Option ((Bs × List Bs) ⊕ (Bool ⊕ List Bs)) :=
 bif (v1 != ([] : Bs)) then ((o.cut v1 ([58] : Bs)).bind fun v3 => (zeB o v3.1).bind fun v4 => (znS o v2 v3 v4).bind fun v5 => match v5 with
 | .inl v6 => some (.inr (.inl v6))
 | .inr v7 => ((subH v3.2.1 v4.1).bind fun v8 => (app v7 ([v8] : List Bs)).bind fun v9 => (subL v3.2.1 v4.1).bind fun v10 => some (.inl (v10, v9)))) else some (.inr (.inr v2))
def ziG (o : Ops) (v0 : Bs) : Option (((List Bs) × Bool)) :=
 (iter (fun x => zfV o x.1 x.2) (v0, ([] : List Bs))).bind fun v11 => match v11 with
 | .inl v12 => some (([] : List Bs), v12)
 | .inr v13 => some (v13, true)
def zoI (o : Ops) : SC := ⟨⟨[(0, hS)], []⟩, 2, [(none, ⟨[(0, (.h (.sl .s))), (1, hB)], []⟩)], fun x => ziG o x⟩
theorem zwC : SCok Tryz.prog tabs 77 (zoI o) := zfB (o := o) (η := [(2000007, .join [] [6, 8] [(some 1000000, ⟨[(2, .nils), (3, hB)], []⟩), (none, ⟨[(4, (.own 0))], [.osl .s 9]⟩)]),
 (200002, .loop [.sl 4 .s 9] ⟨[(0, hS), (4, (.own 0))], [.osl .s 9]⟩ [] [(some 1000000, ⟨[(2, .nils), (3, hB)], []⟩), (some 0, ⟨[(4, (.own 0))], [.osl .s 9]⟩)])]) (Γ := ⟨[(106, (yuO o)), (107, (znT o)), (108, yjA)], [], false, []⟩) (ctok ⟨(zjJ.cut (G := tabs)), ⟨zuG, ⟨ysG, trivial⟩⟩⟩ trivial) Tryz.func77
def zfH (o : Ops) (v0 : Bs) : Option (Int ⊕ Unit) :=
 bif (v0 == ([] : Bs)) then some (.inl (-1 : Int)) else (bif decide ((v0.length : Int) > 15) then some (.inl (-1 : Int)) else ((idx v0 (0 : Int)).bind fun v2 => bif ((v2.toNat : Int) == ((48 : UInt8).toNat : Int)) then (bif (v0 != ([48] : Bs)) then some (.inl (-1 : Int)) else ((o.trim v0 ([48, 49, 50, 51, 52, 53, 54, 55, 56, 57] : Bs)).bind fun v3 => bif (v3 != ([] : Bs)) then some (.inl (-1 : Int)) else some (.inr ()))) else ((o.trim v0 ([48, 49, 50, 51, 52, 53, 54, 55, 56, 57] : Bs)).bind fun v4 => bif (v4 != ([] : Bs)) then some (.inl (-1 : Int)) else some (.inr ()))))
def zbD (o : Ops) (v0 : Bs) (v1 : Int) : Option (Int) :=
 (zfH o v0).bind fun v5 => match v5 with
 | .inl v6 => (some v6)
 | .inr v7 => ((o.atoi v0).bind fun v8 => bif decide (v8.1 > v1) then (some (-1 : Int)) else (some v8.1))
def zpJ (o : Ops) : PC := ⟨[hS, hI], [(.i .i64)], fun x => zbD o x.1 x.2, false⟩
theorem zwZ : PCok Tryz.prog tabs 78 (zpJ o) := zjZ (o := o) (η := [(2000003, .join [] [0, 1] [(some 1000000, ⟨[(4, hI)], []⟩), (none, ⟨[], []⟩)])]) (Γ := ⟨[(109, (yaF o)), (110, (yeZ o))], [], false, []⟩) (ctok ⟨(zjJ.trim (G := tabs)), ⟨(zjJ.atoi (G := tabs)), trivial⟩⟩ trivial) Tryz.func78
def zhS (o : Ops) (v0 : zbP) : Option (Bool) :=
 (zeN o (v0.1.length : Int) (1 : Int) (86 : Int)).bind fun v1 => bif v1 then (bif ((v0.2.1.length : Int) == 32) then (bif ((v0.2.2.1.length : Int) == 32) then ((zeN o v0.2.2.2 (0 : Int) (4294967295 : Int)).bind fun v2 => some v2) else (some false)) else (some false)) else (some false)
def zpL (o : Ops) : PC := ⟨[(.h zoY)], [.b], fun x => zhS o x, false⟩
theorem ztV : PCok Tryz.prog tabs 57 (zpL o) := zjZ (o := o) (η := []) (Γ := ⟨[(43, (zfX o))], [], false, []⟩) (ctok ⟨ziC, trivial⟩ trivial) Tryz.func57
def ziH (o : Ops) (v0 : zbP) (v1 : Bs) : Option ((Bool × Bs)) :=
 some ((v0.1 == v1), v1)
def zrZ (o : Ops) : SC := ⟨⟨[(0, (.h zoY)), (1, (.ptr 0 0))], [.blk 9 [hS]]⟩, 1, [(none, ⟨[(0, hB)], [.blk 9 [hS]]⟩)], fun x => ziH o x.1 x.2⟩
theorem ybQ : SCok Tryz.prog tabs 100 (zrZ o) := zfB (o := o) (η := []) (Γ := ⟨[], [], false, []⟩) (ctok trivial trivial) Tryz.func100
def zaU (o : Ops) (v0 : List zbP) (v2 : Int) (v3 : Bs) : Option ((Int × Bs) ⊕ ((Int × Bs) ⊕ Bs)) :=
 bif decide (v2 < (v0.length : Int)) then ((idx v0 v2).bind fun v4 => (ziH o v4 v3).bind fun v5 => bif v5.1 then some (.inr (.inl (v2, v5.2))) else some (.inl (w64 (v2 + 1), v5.2))) else some (.inr (.inr v3))
def zeU (o : Ops) (v0 : List zbP) (v1 : Bs) : Option ((Int × Bs)) :=
 (iter (fun x => zaU o v0 x.1 x.2) ((0 : Int), v1)).bind fun v6 => match v6 with
 | .inl v7 => some v7
 | .inr v8 => some ((-1 : Int), v8)
def zjX (o : Ops) : SC := ⟨⟨[(0, (.h (.sl zoY))), (1, (.fn 100 [] [(.ptr 0 0)]))], [.blk 9 [hS]]⟩, 1, [(none, ⟨[(0, hI)], [.blk 9 [hS]]⟩)], fun x => zeU o x.1 x.2⟩
theorem zrF : SCok Tryz.prog tabs 99 (zjX o) := zfB (o := o) (η := [(200002, .loop [] ⟨[(1, (.fn 100 [] [(.ptr 0 0)])), (8, hI)], [.blk 9 [hS]]⟩ [0, 7] [(some 1000000, ⟨[(4, hI)], [.blk 9 [hS]]⟩), (some 0, ⟨[], [.blk 9 [hS]]⟩)])]) (Γ := ⟨[], [(100, (zrZ o))], false, []⟩) (ctok trivial ⟨ybQ, trivial⟩) Tryz.func99
def zeP (o : Ops) (v0 : List zbP) (v1 : Bs) : Option (Int) :=
 (zeU o v0 v1).bind fun v2 => some v2.1
def zmW (o : Ops) : PC := ⟨[(.h (.sl zoY)), hS], [(.i .i64)], fun x => zeP o x.1 x.2, false⟩
theorem zrI : PCok Tryz.prog tabs 58 (zmW o) := zjZ (o := o) (η := []) (Γ := ⟨[], [(99, (zjX o))], false, []⟩) (ctok trivial ⟨zrF, trivial⟩) Tryz.func58
def zmT (o : Ops) (v1 : Bs × Bool) (v2 : ((List Bs) × Bool)) : Option ((Bool × Bs × Bs × Bs × Bs × Int × Int × Int) ⊕ (Bs × Bs × Bs × Bs × Int × Int × Int)) :=
 bif (!v1.2) then some (.inl (false, ([] : Bs), ([] : Bs), ([] : Bs), ([] : Bs), (0 : Int), (0 : Int), (0 : Int))) else (bif (!v2.2) then some (.inl (false, ([] : Bs), ([] : Bs), ([] : Bs), ([] : Bs), (0 : Int), (0 : Int), (0 : Int))) else (bif decide ((v2.1.length : Int) < 7) then some (.inl (false, ([] : Bs), ([] : Bs), ([] : Bs), ([] : Bs), (0 : Int), (0 : Int), (0 : Int))) else ((zbY o v1.1).bind fun v3 => bif (!v3) then some (.inl (false, ([] : Bs), ([] : Bs), ([] : Bs), ([] : Bs), (0 : Int), (0 : Int), (0 : Int))) else some (.inr (([] : Bs), ([] : Bs), ([] : Bs), ([] : Bs), (0 : Int), (0 : Int), (0 : Int))))))
def znG (o : Ops) (v1 : Bs × Bool) (v6 : Bs × Bs × Bs × Bs × Int × Int × Int) (v7 : Bs) (v8 : Bs) (v9 : Bs) (v13 : Int) (v14 : Int) (v15 : Int) (v17 : Int) (v18 : List Bs) : Option ((Bool × Bs × Bs × Bs × Bs × Int × Int × Int) ⊕ (Bs × Bs × Bs × Bs × Int × Int × Int × Bs × Bs × Bs × Bs × Int × Int × Int)) :=
 bif decide (v13 < 0) then some (.inl (false, ([] : Bs), ([] : Bs), ([] : Bs), ([] : Bs), (0 : Int), (0 : Int), (0 : Int))) else (bif decide (v14 < 0) then some (.inl (false, ([] : Bs), ([] : Bs), ([] : Bs), ([] : Bs), (0 : Int), (0 : Int), (0 : Int))) else (bif decide (v15 < 0) then some (.inl (false, ([] : Bs), ([] : Bs), ([] : Bs), ([] : Bs), (0 : Int), (0 : Int), (0 : Int))) else (bif decide (v17 < 0) then some (.inl (false, ([] : Bs), ([] : Bs), ([] : Bs), ([] : Bs), (0 : Int), (0 : Int), (0 : Int))) else (bif ((v18.length : Int) != (w64 ((4 : Int) * v17))) then some (.inl (false, ([] : Bs), ([] : Bs), ([] : Bs), ([] : Bs), (0 : Int), (0 : Int), (0 : Int))) else (bif ((v7.length : Int) != 16) then some (.inl (false, ([] : Bs), ([] : Bs), ([] : Bs), ([] : Bs), (0 : Int), (0 : Int), (0 : Int))) else (bif ((v8.length : Int) != 32) then some (.inl (false, ([] : Bs), ([] : Bs), ([] : Bs), ([] : Bs), (0 : Int), (0 : Int), (0 : Int))) else some (.inr (v6.1, v6.2.1, v6.2.2.1, v6.2.2.2.1, v6.2.2.2.2.1, v6.2.2.2.2.2.1, v6.2.2.2.2.2.2, v1.1, v7, v8, v9, v13, v14, v15))))))))
def zqK (o : Ops) (v23 : Bs) (v24 : Bs) (v25 : Bs) (v26 : Bs) (v27 : Int) (v28 : Int) (v29 : Int) (v30 : Bs) (v31 : Bs) (v32 : Bs) (v33 : Bs) (v34 : Int) (v35 : Int) (v36 : Int) (v37 : List zbP) (v38 : Bs) (v39 : Bs) (v40 : Bs) (v42 : Int) : Option ((Bool × Bs × Bs × Bs × Bs × Int × Int × Int) ⊕ (Bs × Bs × Bs × Bs × Int × Int × Int × Bs × Bs × Bs × Bs × Int × Int × Int × Bs × Bs × Bs × Int × List zbP)) :=
 (zhS o (v38, v39, v40, v42)).bind fun v43 => bif (!v43) then some (.inl (false, ([] : Bs), ([] : Bs), ([] : Bs), ([] : Bs), (0 : Int), (0 : Int), (0 : Int))) else ((zeP o v37 v38).bind fun v44 => bif decide (v44 ≥ 0) then some (.inl (false, ([] : Bs), ([] : Bs), ([] : Bs), ([] : Bs), (0 : Int), (0 : Int), (0 : Int))) else some (.inr (v23, v24, v25, v26, v27, v28, v29, v30, v31, v32, v33, v34, v35, v36, v38, v39, v40, v42, v37)))
def zjL (o : Ops) (v22 : List Bs) (v23 : Bs) (v24 : Bs) (v25 : Bs) (v26 : Bs) (v27 : Int) (v28 : Int) (v29 : Int) (v30 : Bs) (v31 : Bs) (v32 : Bs) (v33 : Bs) (v34 : Int) (v35 : Int) (v36 : Int) (v37 : List zbP) : Option (((List Bs) × Bs × Bs × Bs × Bs × Int × Int × Int × zhU) ⊕ ((Bool × Bs × Bs × Bs × Bs × Int × Int × Int) ⊕ (Bs × Bs × Bs × Bs × Int × Int × Int × zhU))) :=
 bif decide ((v22.length : Int) > 0) then ((idx v22 (0 : Int)).bind fun v38 => (idx v22 (1 : Int)).bind fun v39 => (idx v22 (2 : Int)).bind fun v40 => (idx v22 (3 : Int)).bind fun v41 => (zbD o v41 (4294967295 : Int)).bind fun v42 => (zqK o v23 v24 v25 v26 v27 v28 v29 v30 v31 v32 v33 v34 v35 v36 v37 v38 v39 v40 v42).bind fun v45 => match v45 with
 | .inl v46 => some (.inr (.inl v46))
 | .inr v47 => ((app v47.2.2.2.2.2.2.2.2.2.2.2.2.2.2.2.2.2.2 ([(v47.2.2.2.2.2.2.2.2.2.2.2.2.2.2.1, v47.2.2.2.2.2.2.2.2.2.2.2.2.2.2.2.1, v47.2.2.2.2.2.2.2.2.2.2.2.2.2.2.2.2.1, v47.2.2.2.2.2.2.2.2.2.2.2.2.2.2.2.2.2.1)] : List zbP)).bind fun v48 => (subL v22 (4 : Int)).bind fun v49 => some (.inl (v49, v47.1, v47.2.1, v47.2.2.1, v47.2.2.2.1, v47.2.2.2.2.1, v47.2.2.2.2.2.1, v47.2.2.2.2.2.2.1, v47.2.2.2.2.2.2.2.1, v47.2.2.2.2.2.2.2.2.1, v47.2.2.2.2.2.2.2.2.2.1, v47.2.2.2.2.2.2.2.2.2.2.1, v47.2.2.2.2.2.2.2.2.2.2.2.1, v47.2.2.2.2.2.2.2.2.2.2.2.2.1, v47.2.2.2.2.2.2.2.2.2.2.2.2.2.1, v48)))) else some (.inr (.inr (v23, v24, v25, v26, v27, v28, v29, v30, v31, v32, v33, v34, v35, v36, v37)))
def zkT (o : Ops) (v0 : Bs × Bs) : Option (zhU × Bool) :=
 (zcV o v0.1 ([108, 111, 103, 105, 110, 47] : Bs)).bind fun v1 => (ziG o v0.2).bind fun v2 => (zmT o v1 v2).bind fun v4 => match v4 with
 | .inl v5 => (some ((v5.2.1, v5.2.2.1, v5.2.2.2.1, v5.2.2.2.2.1, v5.2.2.2.2.2.1, v5.2.2.2.2.2.2.1, v5.2.2.2.2.2.2.2, ([] : List zbP)), v5.1))
 | .inr v6 => ((idx v2.1 (0 : Int)).bind fun v7 => (idx v2.1 (1 : Int)).bind fun v8 => (idx v2.1 (2 : Int)).bind fun v9 => (idx v2.1 (3 : Int)).bind fun v10 => (idx v2.1 (4 : Int)).bind fun v11 => (idx v2.1 (5 : Int)).bind fun v12 => (zbD o v10 (2199023255552 : Int)).bind fun v13 => (zbD o v11 (4 : Int)).bind fun v14 => (zbD o v12 (2199023255552 : Int)).bind fun v15 => (idx v2.1 (6 : Int)).bind fun v16 => (zbD o v16 (4 : Int)).bind fun v17 => (subL v2.1 (7 : Int)).bind fun v18 => (znG o v1 v6 v7 v8 v9 v13 v14 v15 v17 v18).bind fun v19 => match v19 with
 | .inl v20 => (some ((v20.2.1, v20.2.2.1, v20.2.2.2.1, v20.2.2.2.2.1, v20.2.2.2.2.2.1, v20.2.2.2.2.2.2.1, v20.2.2.2.2.2.2.2, ([] : List zbP)), v20.1))
 | .inr v21 => ((iter (fun x => zjL o x.1 x.2.1 x.2.2.1 x.2.2.2.1 x.2.2.2.2.1 x.2.2.2.2.2.1 x.2.2.2.2.2.2.1 x.2.2.2.2.2.2.2.1 x.2.2.2.2.2.2.2.2.1 x.2.2.2.2.2.2.2.2.2.1 x.2.2.2.2.2.2.2.2.2.2.1 x.2.2.2.2.2.2.2.2.2.2.2.1 x.2.2.2.2.2.2.2.2.2.2.2.2.1 x.2.2.2.2.2.2.2.2.2.2.2.2.2.1 x.2.2.2.2.2.2.2.2.2.2.2.2.2.2.1 x.2.2.2.2.2.2.2.2.2.2.2.2.2.2.2) (v18, v21.1, v21.2.1, v21.2.2.1, v21.2.2.2.1, v21.2.2.2.2.1, v21.2.2.2.2.2.1, v21.2.2.2.2.2.2.1, v21.2.2.2.2.2.2.2.1, v21.2.2.2.2.2.2.2.2.1, v21.2.2.2.2.2.2.2.2.2.1, v21.2.2.2.2.2.2.2.2.2.2.1, v21.2.2.2.2.2.2.2.2.2.2.2.1, v21.2.2.2.2.2.2.2.2.2.2.2.2.1, v21.2.2.2.2.2.2.2.2.2.2.2.2.2, ([] : List zbP))).bind fun v50 => match v50 with
 | .inl v51 => (some ((v51.2.1, v51.2.2.1, v51.2.2.2.1, v51.2.2.2.2.1, v51.2.2.2.2.2.1, v51.2.2.2.2.2.2.1, v51.2.2.2.2.2.2.2, ([] : List zbP)), v51.1))
 | .inr v52 => (bif (v52.2.2.2.2.2.2.2.2.2.2.1 == ([] : Bs)) then (some (v52.2.2.2.2.2.2.2, true)) else ((zeN o (v52.2.2.2.2.2.2.2.2.2.2.1.length : Int) (16 : Int) (64 : Int)).bind fun v53 => some (v52.2.2.2.2.2.2.2, v53)))))
def zrW (o : Ops) : PC := ⟨[(.h (.pr .s .s))], [zvB, .b], fun x => zkT o x, false⟩
theorem yaK : PCok Tryz.prog tabs 34 (zrW o) := zjZ (o := o) (η := [(2000005, .join [] [4, 6] [(some 1000000, ⟨[(2, (.ptr 0 0)), (3, hB)], [ybO]⟩), (none, ⟨[(2, (.ptr 0 0))], [ybO]⟩)]),
 (2100000, .join [] [6] [(some 1000000, ⟨[(2, (.ptr 0 0)), (3, hB)], [ybO]⟩), (none, ⟨[(2, (.ptr 0 0)), (8, (.ptr 1 0))], [ybO, .blk 53 [hS, hS, hS, hS, hI, hI, hI, .nils]]⟩)]),
 (2000015, .join [] [6] [(some 1000000, ⟨[(2, (.ptr 0 0)), (3, hB)], [ybO]⟩), (none, ⟨[(2, (.ptr 0 0)), (8, (.ptr 1 0)), (10, (.ptr 2 0))], [ybO, .blk 53 [hS, hS, hS, hS, hI, hI, hI, (.own 3)], yfI, .osl zoY 58]⟩)]),
 (200010, .loop [.cell 8 7 zoY 58] ⟨[(2, (.ptr 0 0)), (6, (.h (.sl .s))), (8, (.ptr 1 0))], [ybO, .blk 53 [hS, hS, hS, hS, hI, hI, hI, (.own 2)], .osl zoY 58]⟩ [] [(some 1000000, ⟨[(2, (.ptr 0 0)), (3, hB)], [ybO]⟩), (some 0, ⟨[(2, (.ptr 0 0)), (8, (.ptr 1 0))], [ybO, .blk 53 [hS, hS, hS, hS, hI, hI, hI, (.own 2)], .osl zoY 58]⟩)]),
 (4000005, .sch [(.pu, 0, []), (.pu, 1, []), (.pu, 2, []), (.pu, 3, []), (.pu, 4, []), (.pu, 5, []), (.pu, 6, []), (.pu, 7, []), (.pu, 8, []), (.pu, 9, []), (.pu, 10, []), (.pu, 11, []), (.pu, 12, []), (.pu, 14, []), (.pu, 15, []), (.pu, 16, []), (.pu, 18, []), (.pu, 19, []), (.pu, 20, []), (.la, 23, []), (.mn, 13, []), (.mn, 17, []), (.mn, 21, []), (.pu, 22, []), (.rv, 23, []), (.mn, 24, [1])]),
 (4000012, .sch [(.pu, 0, []), (.pu, 1, []), (.pu, 2, []), (.pu, 3, []), (.pu, 4, []), (.pu, 5, []), (.pu, 6, []), (.pu, 7, []), (.pu, 8, []), (.pu, 9, []), (.pu, 10, []), (.pu, 11, []), (.la, 14, []), (.mn, 12, []), (.pu, 13, []), (.rv, 14, []), (.mn, 15, [2, 3])]),
 (4000016, .sch [(.pu, 0, []), (.pu, 1, []), (.pu, 2, []), (.pu, 3, []), (.pu, 4, []), (.pu, 5, []), (.pu, 6, []), (.pu, 7, []), (.pu, 8, []), (.mn, 9, []), (.pu, 10, [0]), (.mn, 11, [0]), (.pu, 12, [])])]) (Γ := ⟨[(76, (ziU o)), (42, (zlE o)), (78, (zpJ o)), (57, (zpL o)), (58, (zmW o)), (43, (zfX o))], [(77, (zoI o))], false, []⟩) (ctok ⟨zpW, ⟨zqH, ⟨zwZ, ⟨ztV, ⟨zrI, ⟨ziC, trivial⟩⟩⟩⟩⟩⟩ ⟨zwC, trivial⟩) Tryz.func34
def zgU (o : Ops) (v0 : List (Bs × Bs)) (v2 : Int) (v3 : List zbB) (v4 : Bs × Bs) (v5 : zhU × Bool) : Option (Int ⊕ (Bs × Bs × Bs × Bs × Int × Int × Int × (List zbP) × List zbB)) :=
 bif (!v5.2) then some (.inl (155 : Int)) else (bif decide (v2 > 0) then ((idx v0 (w64 (v2 - 1))).bind fun v6 => bif (Op.bytesLess v4.1 v6.1 || v4.1 == v6.1) then some (.inl (155 : Int)) else some (.inr (v5.1.1, v5.1.2.1, v5.1.2.2.1, v5.1.2.2.2.1, v5.1.2.2.2.2.1, v5.1.2.2.2.2.2.1, v5.1.2.2.2.2.2.2.1, v5.1.2.2.2.2.2.2.2, v3))) else some (.inr (v5.1.1, v5.1.2.1, v5.1.2.2.1, v5.1.2.2.2.1, v5.1.2.2.2.2.1, v5.1.2.2.2.2.2.1, v5.1.2.2.2.2.2.2.1, v5.1.2.2.2.2.2.2.2, v3)))
def zdM (o : Ops) (v0 : List (Bs × Bs)) (v2 : Int) (v3 : List zbB) : Option ((Int × List zbB) ⊕ (Int ⊕ (List zbB))) :=
 bif decide (v2 < (v0.length : Int)) then ((idx v0 v2).bind fun v4 => (zkT o v4).bind fun v5 => (zgU o v0 v2 v3 v4 v5).bind fun v7 => match v7 with
 | .inl v8 => some (.inr (.inl v8))
 | .inr v9 => (let v10 : List zbB := mset keqS kltS v9.2.2.2.2.2.2.2.2 v9.1 (v9.1, v9.2.1, v9.2.2.1, v9.2.2.2.1, v9.2.2.2.2.1, v9.2.2.2.2.2.1, v9.2.2.2.2.2.2.1, v9.2.2.2.2.2.2.2.1)
 some (.inl (w64 (v2 + 1), v10)))) else some (.inr (.inr v3))
def zgI (o : Ops) (v0 : List (Bs × Bs)) : Option (Int ⊕ (Int × List zbB)) :=
 (zmG o).bind fun v1 => (iter (fun x => zdM o v0 x.1 x.2) ((0 : Int), v1)).bind fun v11 => match v11 with
 | .inl v12 => some (.inl v12)
 | .inr v13 => (bif decide ((v0.length : Int) > 64) then some (.inl (155 : Int)) else some (.inr ((0 : Int), v13)))
def zmJ (o : Ops) : SC := ⟨⟨[(0, (.h (.sl (.pr .s .s))))], []⟩, 2, [(none, ⟨[(0, .nilp), (1, hI)], []⟩), (none, ⟨[(0, (.ptr 0 0)), (1, hI)], [zfN, zeM]⟩)], fun x => zgI o x⟩
theorem zrN : SCok Tryz.prog tabs 9 (zmJ o) := zfB (o := o) (η := [(2000008, .join [] [0, 10, 11, 12] [(some 1000000, ⟨[(2, .nilp), (3, hI)], []⟩), (none, ⟨[(4, (.ptr 0 0)), (7, (.ptr 1 0))], [ynF, zlA, zeM]⟩)]),
 (200003, .loop [] ⟨[(4, (.ptr 0 0)), (12, hI)], [zfN, zeM]⟩ [0, 10, 11] [(some 1000000, ⟨[(2, .nilp), (3, hI)], []⟩), (some 0, ⟨[(4, (.ptr 0 0))], [zfN, zeM]⟩)]),
 (4000006, .sch [(.pu, 0, []), (.pu, 1, []), (.pu, 2, []), (.pu, 3, []), (.pu, 4, []), (.pu, 5, []), (.pu, 6, []), (.pu, 7, []), (.pu, 8, []), (.pu, 9, []), (.pu, 10, []), (.pu, 11, []), (.pu, 12, []), (.pu, 13, []), (.pu, 14, []), (.pu, 15, []), (.pu, 16, [])]),
 (4000008, .sch [(.pu, 0, []), (.pu, 1, []), (.pu, 2, []), (.pu, 3, []), (.pu, 4, []), (.pu, 5, []), (.pu, 6, []), (.pu, 7, []), (.mn, 8, [0, 1, 2])])]) (Γ := ⟨[(34, (zrW o))], [(16, (zoO o))], false, []⟩) (ctok ⟨yaK, trivial⟩ ⟨ztO, trivial⟩) Tryz.func9
def zmM (o : Ops) (v0 : Bs) (v1 : Bs) (v2 : Bs) (v3 : Bs) (v4 : Int) (v5 : Int) (v6 : Int) (v7 : List zbP) (v8 : Bs) (v9 : Bs) (v10 : Bs) (v11 : Int) : Option ((Int × Bs × Bs × Bs × Bs × Int × Int × Int × (List zbP) × zbP) ⊕ (Bs × Bs × Bs × Bs × Int × Int × Int × (List zbP) × zbP)) :=
 (zhS o (v8, v9, v10, v11)).bind fun v12 => bif (!v12) then some (.inl ((155 : Int), v0, v1, v2, v3, v4, v5, v6, v7, v8, v9, v10, v11)) else ((zeP o v7 v8).bind fun v13 => bif decide (v13 ≥ 0) then some (.inl ((155 : Int), v0, v1, v2, v3, v4, v5, v6, v7, v8, v9, v10, v11)) else some (.inr (v0, v1, v2, v3, v4, v5, v6, v7, v8, v9, v10, v11)))
def zhH (o : Ops) (v0 : Bs) (v1 : Bs) (v2 : Bs) (v3 : Bs) (v4 : Int) (v5 : Int) (v6 : Int) (v7 : List zbP) (v8 : Bs) (v9 : Bs) (v10 : Bs) (v11 : Int) : Option ((Int × Bs × Bs × Bs × Bs × Int × Int × Int × (List zbP) × zbP)) :=
 (zmM o v0 v1 v2 v3 v4 v5 v6 v7 v8 v9 v10 v11).bind fun v14 => match v14 with
 | .inl v15 => some v15
 | .inr v16 => (bif decide ((v16.2.2.2.2.2.2.2.1.length : Int) ≥ 4) then some ((156 : Int), v16) else ((app v16.2.2.2.2.2.2.2.1 ([v16.2.2.2.2.2.2.2.2] : List zbP)).bind fun v17 => some ((0 : Int), v16.1, v16.2.1, v16.2.2.1, v16.2.2.2.1, v16.2.2.2.2.1, v16.2.2.2.2.2.1, v16.2.2.2.2.2.2.1, v17, v16.2.2.2.2.2.2.2.2)))
def zhB (o : Ops) : SC := ⟨⟨[(0, (.ptr 0 0)), (1, (.ptr 1 0))], [zlA, yfI]⟩, 1, [(none, ⟨[(0, hI)], [zlA, yfI]⟩)], fun x => zhH o x.1 x.2.1 x.2.2.1 x.2.2.2.1 x.2.2.2.2.1 x.2.2.2.2.2.1 x.2.2.2.2.2.2.1 x.2.2.2.2.2.2.2.1 x.2.2.2.2.2.2.2.2.1 x.2.2.2.2.2.2.2.2.2.1 x.2.2.2.2.2.2.2.2.2.2.1 x.2.2.2.2.2.2.2.2.2.2.2⟩
theorem zmD : SCok Tryz.prog tabs 56 (zhB o) := zfB (o := o) (η := [(2000003, .join [] [] [(some 1000000, ⟨[(3, hI)], [zlA, yfI]⟩), (none, ⟨[(0, (.ptr 0 0)), (1, (.ptr 1 0))], [zlA, yfI]⟩)]),
 (4000001, .sch [(.pu, 0, []), (.mn, 1, []), (.pu, 2, []), (.pu, 3, []), (.pu, 4, []), (.pu, 5, []), (.pu, 6, []), (.pu, 7, []), (.pu, 8, []), (.pu, 9, []), (.pu, 10, []), (.mn, 11, []), (.pu, 12, []), (.pu, 13, [])]),
 (4000005, .sch [(.pu, 0, []), (.pu, 1, []), (.pu, 2, []), (.pu, 3, []), (.pu, 4, []), (.pu, 5, []), (.pu, 7, []), (.la, 8, []), (.mn, 6, []), (.rv, 8, []), (.mn, 9, []), (.pu, 10, []), (.pu, 11, []), (.pu, 12, []), (.mn, 13, [0])])]) (Γ := ⟨[(57, (zpL o)), (58, (zmW o)), (59, yeS)], [], false, []⟩) (ctok ⟨ztV, ⟨zrI, ⟨ymZ, trivial⟩⟩⟩ trivial) Tryz.func56
def zkG (o : Ops) (v0 : Bs) (v1 : Bs) (v2 : Bs) (v3 : Bs) (v4 : Int) (v5 : List zbB) : Option ((Int × Bs × Bs × Bs × Int × List zbB)) :=
 let v6 : zhU := zrK keqS v5 v0 (([] : Bs), ([] : Bs), ([] : Bs), ([] : Bs), (0 : Int), (0 : Int), (0 : Int), ([] : List zbP))
 bif (!(mhas keqS v5 v0)) then some ((150 : Int), v1, v2, v3, v4, v5) else ((zhH o v6.1 v6.2.1 v6.2.2.1 v6.2.2.2.1 v6.2.2.2.2.1 v6.2.2.2.2.2.1 v6.2.2.2.2.2.2.1 v6.2.2.2.2.2.2.2 v1 v2 v3 v4).bind fun v7 => let v8 : List zbB := mset keqS kltS v5 v0 (v7.2.1, v7.2.2.1, v7.2.2.2.1, v7.2.2.2.2.1, v7.2.2.2.2.2.1, v7.2.2.2.2.2.2.1, v7.2.2.2.2.2.2.2.1, v7.2.2.2.2.2.2.2.2.1)
 some (v7.1, v7.2.2.2.2.2.2.2.2.2.1, v7.2.2.2.2.2.2.2.2.2.2.1, v7.2.2.2.2.2.2.2.2.2.2.2.1, v7.2.2.2.2.2.2.2.2.2.2.2.2, v8))
def ziZ (o : Ops) : SC := ⟨⟨[(0, (.ptr 0 0)), (1, hS), (2, (.fn 56 [] [(.ptr 1 0)]))], [ynF, yfI, zeM]⟩, 1, [(none, ⟨[(0, hI)], [ynF, yfI, zwU]⟩)], fun x => zkG o x.1 x.2.1 x.2.2.1 x.2.2.2.1 x.2.2.2.2.1 x.2.2.2.2.2⟩
theorem zqC : SCok Tryz.prog tabs 47 (ziZ o) := zfB (o := o) (η := [(4000005, .sch [(.pu, 0, []), (.pu, 1, []), (.pu, 2, []), (.pu, 3, []), (.pu, 4, []), (.pu, 5, []), (.mn, 6, [0, 1, 2, 3, 4])])]) (Γ := ⟨[], [(56, (zhB o))], false, []⟩) (ctok trivial ⟨zmD, trivial⟩) Tryz.func47
def zfQ (o : Ops) (v0 : Bs) (v1 : zbP) (v2 : List zbB) : Option ((Int × List zbB)) :=
 (zkG o v0 v1.1 v1.2.1 v1.2.2.1 v1.2.2.2 v2).bind fun v3 => some (v3.1, v3.2.2.2.2.2)
def ziO (o : Ops) : SC := ⟨⟨[(0, (.ptr 0 0)), (1, hS), (2, (.h zoY))], [zfN, zeM]⟩, 1, [(none, ⟨[(0, hI)], [zfN, zwU]⟩)], fun x => zfQ o x.1 x.2.1 x.2.2⟩
theorem zpD : SCok Tryz.prog tabs 25 (ziO o) := zfB (o := o) (η := []) (Γ := ⟨[], [(47, (ziZ o))], false, []⟩) (ctok trivial ⟨zqC, trivial⟩) Tryz.func25
def znU (o : Ops) (v0 : Bs) (v1 : Bs) (v2 : Bs) (v3 : Bs) (v4 : Int) (v5 : Int) (v6 : Int) (v7 : List zbP) (v8 : Bs) (v9 : Int) (v11 : zbP) : Option ((Int × Bs × Bs × Bs × Bs × Int × Int × Int × (List zbP) × Bs × Int) ⊕ (Bs × Bs × Bs × Bs × Int × Int × Int × (List zbP) × Bs × Int)) :=
 bif decide (v9 > 4294967295) then some (.inl ((153 : Int), v0, v1, v2, v3, v4, v5, v6, v7, v8, v9)) else (bif decide (v9 ≤ v11.2.2.2) then (bif (v9 != 0) then some (.inl ((153 : Int), v0, v1, v2, v3, v4, v5, v6, v7, v8, v9)) else (bif (v11.2.2.2 != 0) then some (.inl ((153 : Int), v0, v1, v2, v3, v4, v5, v6, v7, v8, v9)) else some (.inr (v0, v1, v2, v3, v4, v5, v6, v7, v8, v9)))) else some (.inr (v0, v1, v2, v3, v4, v5, v6, v7, v8, v9)))
def ziM (o : Ops) (v0 : Bs) (v1 : Bs) (v2 : Bs) (v3 : Bs) (v4 : Int) (v5 : Int) (v6 : Int) (v7 : List zbP) (v8 : Bs) (v9 : Int) : Option ((Int × Bs × Bs × Bs × Bs × Int × Int × Int × (List zbP) × Bs × Int)) :=
 (zeP o v7 v8).bind fun v10 => bif decide (v10 < 0) then some ((154 : Int), v0, v1, v2, v3, v4, v5, v6, v7, v8, v9) else ((idx v7 v10).bind fun v11 => (znU o v0 v1 v2 v3 v4 v5 v6 v7 v8 v9 v11).bind fun v12 => match v12 with
 | .inl v13 => some v13
 | .inr v14 => ((app ([] : List zbP) v14.2.2.2.2.2.2.2.1).bind fun v15 => (chk (decide ((0 : Int) ≤ v10) && decide (v10 < (v15.length : Int)))).bind fun _ => (idx v15 v10).bind fun v16 => (setL v15 v10 (v16.1, v16.2.1, v16.2.2.1, v14.2.2.2.2.2.2.2.2.2)).bind fun v17 => some ((0 : Int), v14.1, v14.2.1, v14.2.2.1, v14.2.2.2.1, v14.2.2.2.2.1, v14.2.2.2.2.2.1, v14.2.2.2.2.2.2.1, v17, v14.2.2.2.2.2.2.2.2)))
def zhQ (o : Ops) : SC := ⟨⟨[(0, (.ptr 0 0)), (1, (.ptr 1 0)), (2, (.ptr 2 0))], [zlA, .blk 9 [hS], .blk 3 [hI]]⟩, 1, [(none, ⟨[(0, hI)], [zlA, .blk 9 [hS], .blk 3 [hI]]⟩)], fun x => ziM o x.1 x.2.1 x.2.2.1 x.2.2.2.1 x.2.2.2.2.1 x.2.2.2.2.2.1 x.2.2.2.2.2.2.1 x.2.2.2.2.2.2.2.1 x.2.2.2.2.2.2.2.2.1 x.2.2.2.2.2.2.2.2.2⟩
theorem zoE : SCok Tryz.prog tabs 60 (zhQ o) := zfB (o := o) (η := [(2000007, .join [] [5] [(some 1000000, ⟨[(4, hI)], [zlA, .blk 9 [hS], .blk 3 [hI]]⟩), (none, ⟨[(0, (.ptr 0 0)), (2, (.ptr 2 0))], [zlA, .blk 9 [hS], .blk 3 [hI]]⟩)]),
 (4000001, .sch [(.pu, 0, []), (.pu, 1, []), (.pu, 2, []), (.pu, 3, []), (.pu, 4, []), (.pu, 5, []), (.mn, 6, []), (.pu, 7, [])]),
 (4000008, .sch [(.pu, 0, []), (.pu, 1, []), (.pu, 2, []), (.pu, 3, []), (.pu, 4, []), (.pu, 5, []), (.pu, 6, []), (.pu, 7, []), (.pu, 8, []), (.mn, 9, [0, 1, 2, 3, 4])])]) (Γ := ⟨[(58, (zmW o))], [(61, zzN)], false, []⟩) (ctok ⟨zrI, trivial⟩ ⟨yhY, trivial⟩) Tryz.func60
def zkF (o : Ops) (v0 : Bs) (v1 : Bs) (v2 : Int) (v3 : List zbB) : Option ((Int × Bs × Int × List zbB)) :=
 let v4 : zhU := zrK keqS v3 v0 (([] : Bs), ([] : Bs), ([] : Bs), ([] : Bs), (0 : Int), (0 : Int), (0 : Int), ([] : List zbP))
 bif (!(mhas keqS v3 v0)) then some ((150 : Int), v1, v2, v3) else ((ziM o v4.1 v4.2.1 v4.2.2.1 v4.2.2.2.1 v4.2.2.2.2.1 v4.2.2.2.2.2.1 v4.2.2.2.2.2.2.1 v4.2.2.2.2.2.2.2 v1 v2).bind fun v5 => let v6 : List zbB := mset keqS kltS v3 v0 (v5.2.1, v5.2.2.1, v5.2.2.2.1, v5.2.2.2.2.1, v5.2.2.2.2.2.1, v5.2.2.2.2.2.2.1, v5.2.2.2.2.2.2.2.1, v5.2.2.2.2.2.2.2.2.1)
 some (v5.1, v5.2.2.2.2.2.2.2.2.2.1, v5.2.2.2.2.2.2.2.2.2.2, v6))
def ziX (o : Ops) : SC := ⟨⟨[(0, (.ptr 0 0)), (1, hS), (2, (.fn 60 [] [(.ptr 1 0), (.ptr 2 0)]))], [ykM, .blk 9 [hS], .blk 3 [hI], zeM]⟩, 1, [(none, ⟨[(0, hI)], [ykM, .blk 9 [hS], .blk 3 [hI], zwU]⟩)], fun x => zkF o x.1 x.2.1 x.2.2.1 x.2.2.2⟩
theorem zqA : SCok Tryz.prog tabs 47 (ziX o) := zfB (o := o) (η := [(4000005, .sch [(.pu, 0, []), (.pu, 1, []), (.pu, 2, []), (.pu, 3, []), (.pu, 4, []), (.pu, 5, []), (.mn, 6, [0, 1, 2, 3, 4, 5])])]) (Γ := ⟨[], [(60, (zhQ o))], false, []⟩) (ctok trivial ⟨zoE, trivial⟩) Tryz.func47
def zcW (o : Ops) (v0 : Bs) (v1 : Bs) (v2 : Int) (v3 : List zbB) : Option ((Int × List zbB)) :=
 (zkF o v0 v1 v2 v3).bind fun v4 => some (v4.1, v4.2.2.2)
def zjB (o : Ops) : SC := ⟨⟨[(0, (.ptr 0 0)), (1, hS), (2, hS), (3, hI)], [zfN, zeM]⟩, 1, [(none, ⟨[(0, hI)], [zfN, zwU]⟩)], fun x => zcW o x.1 x.2.1 x.2.2.1 x.2.2.2⟩
theorem zpZ : SCok Tryz.prog tabs 27 (zjB o) := zfB (o := o) (η := []) (Γ := ⟨[], [(47, (ziX o))], false, []⟩) (ctok trivial ⟨zqA, trivial⟩) Tryz.func27
def zmK (o : Ops) (v0 : (List zbB)) : Option (Bool ⊕ (List zbB)) :=
 (zlU o ([97, 110, 110] : Bs) ([48, 49, 50, 51, 52, 53, 54, 55, 56, 57, 97, 98, 99, 100, 101, 102] : Bs) ([112, 119] : Bs) v0).bind fun v1 => bif (v1.1 != 0) then some (.inl false) else ((zbF o ([97, 110, 110] : Bs) ([112, 119] : Bs) (0 : Int) v1.2).bind fun v2 => bif (v2.1 != 0) then some (.inl false) else ((zbF o ([97, 110, 110] : Bs) ([110, 111] : Bs) (0 : Int) v2.2).bind fun v3 => bif (v3.1 != 151) then some (.inl false) else ((zbF o ([98, 111, 98] : Bs) ([112, 119] : Bs) (0 : Int) v3.2).bind fun v4 => bif (v4.1 != 150) then some (.inl false) else ((zfD o ([97, 110, 110] : Bs) ([48, 48, 48, 48, 48, 48] : Bs) (0 : Int) v4.2).bind fun v5 => bif (v5.1 != 154) then some (.inl false) else some (.inr v5.2)))))
def zmP (o : Ops) (v9 : Int) (v10 : List zbB) : Option ((Int × List zbB) ⊕ ((List zbB))) :=
 bif decide (v9 < 4) then ((zbF o ([97, 110, 110] : Bs) ([110, 111] : Bs) (7 : Int) v10).bind fun v11 => some (.inl (w64 (v9 + 1), v11.2))) else some (.inr v10)
def zmO (o : Ops) (v12 : List zbB) (v13 : Bs) : Option (Bool ⊕ (List zbB)) :=
 (zbF o ([97, 110, 110] : Bs) ([112, 119] : Bs) (306 : Int) v12).bind fun v14 => bif (v14.1 != 152) then some (.inl false) else ((zbF o ([97, 110, 110] : Bs) ([112, 119] : Bs) (307 : Int) v14.2).bind fun v15 => bif (v15.1 != 0) then some (.inl false) else ((zjY o ([97, 110, 110] : Bs) ([48, 49, 50, 51, 52, 53, 54, 55, 56, 57, 97, 98, 99, 100, 101, 102] : Bs) v15.2).bind fun v16 => bif (v16.1 != 0) then some (.inl false) else ((zfD o ([97, 110, 110] : Bs) v13 (60 : Int) v16.2).bind fun v17 => bif (v17.1 != 0) then some (.inl false) else ((zfD o ([97, 110, 110] : Bs) v13 (60 : Int) v17.2).bind fun v18 => bif (v18.1 != 153) then some (.inl false) else some (.inr v18.2)))))
def zhO (o : Ops) : Option (Bool) :=
 (zmG o).bind fun v0 => (zmK o v0).bind fun v6 => match v6 with
 | .inl v7 => (some v7)
 | .inr v8 => ((iter (fun x => zmP o x.1 x.2) ((0 : Int), v8)).bind fun v12 => (o.code ([48, 49, 50, 51, 52, 53, 54, 55, 56, 57, 97, 98, 99, 100, 101, 102] : Bs) (2 : Int)).bind fun v13 => (zmO o v12 v13).bind fun v19 => match v19 with
 | .inl v20 => (some v20)
 | .inr v21 => ((zdK o v21).bind fun v22 => (zgI o v22.1).bind fun v23 => match v23 with
 | .inl v24 => ((zfQ o ([97, 110, 110] : Bs) (([107] : Bs), ([48, 49, 50, 51, 52, 53, 54, 55, 56, 57, 97, 98, 99, 100, 101, 102, 48, 49, 50, 51, 52, 53, 54, 55, 56, 57, 97, 98, 99, 100, 101, 102] : Bs), ([48, 49, 50, 51, 52, 53, 54, 55, 56, 57, 97, 98, 99, 100, 101, 102, 48, 49, 50, 51, 52, 53, 54, 55, 56, 57, 97, 98, 99, 100, 101, 102] : Bs), (0 : Int)) v22.2).bind fun v26 => bif (v26.1 == 0) then ((zcW o ([97, 110, 110] : Bs) ([107] : Bs) (3 : Int) v26.2).bind fun v27 => bif (v27.1 == 0) then ((zcW o ([97, 110, 110] : Bs) ([107] : Bs) (3 : Int) v27.2).bind fun v28 => bif (v28.1 == 153) then (some false) else (some false)) else (some false)) else (some false))
 | .inr v25 => ((zfQ o ([97, 110, 110] : Bs) (([107] : Bs), ([48, 49, 50, 51, 52, 53, 54, 55, 56, 57, 97, 98, 99, 100, 101, 102, 48, 49, 50, 51, 52, 53, 54, 55, 56, 57, 97, 98, 99, 100, 101, 102] : Bs), ([48, 49, 50, 51, 52, 53, 54, 55, 56, 57, 97, 98, 99, 100, 101, 102, 48, 49, 50, 51, 52, 53, 54, 55, 56, 57, 97, 98, 99, 100, 101, 102] : Bs), (0 : Int)) v22.2).bind fun v29 => bif (v29.1 == 0) then ((zcW o ([97, 110, 110] : Bs) ([107] : Bs) (3 : Int) v29.2).bind fun v30 => bif (v30.1 == 0) then ((zcW o ([97, 110, 110] : Bs) ([107] : Bs) (3 : Int) v30.2).bind fun v31 => bif (v31.1 == 153) then (bif (v25.1 == 0) then ((zcR o v25.2).bind fun v32 => some ((v32.2.length : Int) == 1)) else (some false)) else (some false)) else (some false)) else (some false))))
def znA (o : Ops) : PC := ⟨[], [.b], fun _ => zhO o, false⟩
theorem zmC : PCok Tryz.prog tabs 12 (znA o) := zjZ (o := o) (η := [(2000004, .join [] [] [(some 1000000, ⟨[(0, hB)], []⟩), (none, ⟨[(1, (.ptr 0 0))], [zfN, zeM]⟩)]),
 (200005, .loop [] ⟨[(1, (.ptr 0 0)), (2, hI)], [zfN, zeM]⟩ [] [(some 0, ⟨[(1, (.ptr 0 0))], [zfN, zeM]⟩)]),
 (2000011, .join [] [] [(some 1000000, ⟨[(0, hB)], []⟩), (none, ⟨[(1, (.ptr 0 0))], [zfN, zeM]⟩)])]) (Γ := ⟨[(23, (ylY o))], [(16, (zoO o)), (17, (zkM o)), (19, (zjA o)), (22, (zjS o)), (20, (ziV o)), (15, (zgA o)), (9, (zmJ o)), (25, (ziO o)), (27, (zjB o)), (14, (zfF o))], false, []⟩) (ctok ⟨(zjJ.code (G := tabs)), trivial⟩ ⟨ztO, ⟨zrM, ⟨zqE, ⟨zqN, ⟨zqG, ⟨zkD, ⟨zrN, ⟨zpD, ⟨zpZ, ⟨zgZ, trivial⟩⟩⟩⟩⟩⟩⟩⟩⟩⟩) Tryz.func12
end
theorem PCok.le {P : Program} {G : List (Nat × Obj)} {f : FuncId} {ss : List Sh} {rts : List Ty} {p q : zbW (ss.flatMap Sh.tys) → Option (zbW rts)} {cl : Bool} (h : PCok P G f ⟨ss, rts, p, cl⟩) (hq : ∀ x y, q x = some y → p x = some y) : PCok P G f ⟨ss, rts, q, cl⟩ :=
 ⟨h.fn, fun S w us a y hG hS hA hy => h.ok S w us a y hG hS hA (hq _ _ hy)⟩
def yfB : Bs := [48, 49, 50, 51, 52, 53, 54, 55, 56, 57, 97, 98, 99, 100, 101, 102]
def h1L : Bs := [203, 145, 18, 174, 100, 177, 43, 92, 37, 138, 87, 148, 67, 127, 45, 80, 80, 106, 194, 30, 232, 60, 205, 156, 95, 106, 145, 13, 111, 64, 155, 109]
def h2L : Bs := [204, 254, 54, 6, 152, 86, 196, 46, 19, 80, 206, 200, 100, 190, 97, 140, 65, 216, 130, 209, 20, 113, 137, 185, 50, 162, 35, 218, 137, 137, 142, 120]
def c2L : Bs := [49, 49, 55, 53, 55, 56]
theorem xfH : zfS [112, 119] yfB 4 32 = some (h1L, 0) := of_decide_eq_true (by kernel_rfl)
theorem st_no : zfS [110, 111] yfB 4 32 = some (h2L, 0) := of_decide_eq_true (by kernel_rfl)
theorem cd_2 : zgG yfB 2 = some c2L := of_decide_eq_true (by kernel_rfl)
theorem fd_2 : ykK yfB c2L 2 1 = some (2, true) := of_decide_eq_true (by kernel_rfl)
def zsM (p s : Bs) (r n : Int) : Option (Bs × Int) := bif (s == yfB) && (decide (r = 4) && decide (n = 32)) then (bif p == [112, 119] then some (h1L, 0) else (bif p == [110, 111] then some (h2L, 0) else none)) else none
def yeY (s : Bs) (n : Int) : Option Bs := bif (s == yfB) && decide (n = 2) then some c2L else none
def yfD (s c : Bs) (n w : Int) : Option (Int × Bool) := bif ((s == yfB) && (c == c2L)) && (decide (n = 2) && decide (w = 1)) then some (2, true) else none
def yqJ : Ops := { zaB with stretch := zsM, code := yeY, find := yfD }
theorem yaG {p s : Bs} {r n : Int} {y : Bs × Int} (h : zsM p s r n = some y) : zfS p s r n = some y := by
 unfold zsM at h
 obtain ⟨hb, g⟩ := zaC h
 clear h
 simp only [Bool.and_eq_true, decide_eq_true_eq, beq_iff_eq] at hb
 obtain ⟨rfl, rfl, rfl⟩ := hb
 cases h1 : p == [112, 119] with
 | true =>
  rw [h1] at g
  cases eq_of_beq h1
  exact xfH.trans g
 | false =>
  rw [h1] at g
  obtain ⟨hn, k⟩ := zaC (show (bif p == [110, 111] then some (h2L, (0 : Int)) else none) = some y from g)
  cases eq_of_beq hn
  exact st_no.trans k
theorem ykS {s : Bs} {n : Int} {y : Bs} (h : yeY s n = some y) : zgG s n = some y := by
 unfold yeY at h
 obtain ⟨hb, h⟩ := zaC h
 simp only [Bool.and_eq_true, decide_eq_true_eq, beq_iff_eq] at hb
 obtain ⟨rfl, rfl⟩ := hb
 exact cd_2.trans h
theorem ykI {s c : Bs} {n w : Int} {y : Int × Bool} (h : yfD s c n w = some y) : ykK s c n w = some y := by
 unfold yfD at h
 obtain ⟨hb, h⟩ := zaC h
 simp only [Bool.and_eq_true, decide_eq_true_eq, beq_iff_eq] at hb
 obtain ⟨⟨rfl, rfl⟩, rfl, rfl⟩ := hb
 exact fd_2.trans h
instance tabOk {G : List (Nat × Obj)} [zjG G] : zjJ G yqJ :=
 { (yhP (G := G)) with
   stretch := PCok.le (yhP (G := G)).stretch fun _ _ h => yaG h
   code := PCok.le (yhP (G := G)).code fun _ _ h => ykS h
   find := PCok.le (yhP (G := G)).find fun _ _ h => ykI h }
theorem ysQ : zhO yqJ = some true := of_decide_eq_true (by kernel_rfl)
def yjK : PC := ⟨[], [.b], fun _ => some true, false⟩
theorem ysD {G : List (Nat × Obj)} [zjG G] : PCok Tryz.prog G 12 yjK :=
 PCok.le (zmC (tabs := G) (o := yqJ)) fun _ _ h => ysQ.trans h
end Go.Proofs.YtmkomlbiaebddaaGreatDoor.Am
namespace Go.Proofs.YtmkomlbiaebddaaGreatDoor
open Go Go.RowKit
section
attribute [local irreducible] wpList wpT Code.wp Calls Code.rounds
end
end Go.Proofs.YtmkomlbiaebddaaGreatDoor
namespace Go.Proofs.YtmkomlbiaebddaaGreatDoor.Am
open Go Go.RowKit
section
variable {G : List (Nat × Obj)}
end
section
variable {tabs : List (Nat × Obj)} [zjG tabs]
end
def τWkB : TE := [(3, ⟨.int .i64, 1, [.v (.i .i64) (show Int from 0)], (.i .i64), 8⟩),
 (4, ⟨.b, 1, [.v .b (show Bool from false)], .b, 1⟩),
 (5, ⟨.int .u8, 1, [.v (.i .u8) (show UInt8 from 0)], (.i .u8), 1⟩),
 (9, ⟨.s, 1, [.v .s (show Bs from [])], .s, 16⟩),
 (22, ⟨.sl 24, 1, [.nils], (.sl (.pr .s .s)), 24⟩),
 (24, ⟨.st [(9, 0), (9, 1)], 2, [.v .s (show Bs from []), .v .s (show Bs from [])], (.pr .s .s), 32⟩),
 (25, ⟨.pt 79, 1, [.nilp], .un, 8⟩),
 (35, ⟨.sl 53, 1, [.nils], (.sl (.pr .s (.pr .s (.pr .s (.pr .s (.pr (.i .i64) (.pr (.i .i64) (.pr (.i .i64) (.sl (.pr .s (.pr .s (.pr .s (.i .i64))))))))))))), 24⟩),
 (38, ⟨.st [(35, 0)], 1, [.nils], (.pr (.sl (.pr .s (.pr .s (.pr .s (.pr .s (.pr (.i .i64) (.pr (.i .i64) (.pr (.i .i64) (.sl (.pr .s (.pr .s (.pr .s (.i .i64))))))))))))) .un), 24⟩),
 (51, ⟨.sl 58, 1, [.nils], (.sl (.pr .s (.pr .s (.pr .s (.i .i64))))), 24⟩),
 (53, ⟨.st [(9, 0), (9, 1), (9, 2), (9, 3), (3, 4), (3, 5), (3, 6), (51, 7)], 8, [.v .s (show Bs from []), .v .s (show Bs from []), .v .s (show Bs from []), .v .s (show Bs from []), .v (.i .i64) (show Int from 0), .v (.i .i64) (show Int from 0), .v (.i .i64) (show Int from 0), .nils], (.pr .s (.pr .s (.pr .s (.pr .s (.pr (.i .i64) (.pr (.i .i64) (.pr (.i .i64) (.sl (.pr .s (.pr .s (.pr .s (.i .i64)))))))))))), 112⟩),
 (58, ⟨.st [(9, 0), (9, 1), (9, 2), (3, 3)], 4, [.v .s (show Bs from []), .v .s (show Bs from []), .v .s (show Bs from []), .v (.i .i64) (show Int from 0)], (.pr .s (.pr .s (.pr .s (.i .i64)))), 56⟩),
 (63, ⟨.sl 66, 1, [.nils], (.sl (.pr (.i .i64) (.pr (.i .i64) (.pr (.i .i64) (.pr .s (.pr .s (.pr .s (.pr .s (.pr .s (.pr .s (.i .i64))))))))))), 24⟩),
 (66, ⟨.st [(3, 0), (3, 1), (3, 2), (9, 3), (9, 4), (9, 5), (58, 6)], 10, [.v (.i .i64) (show Int from 0), .v (.i .i64) (show Int from 0), .v (.i .i64) (show Int from 0), .v .s (show Bs from []), .v .s (show Bs from []), .v .s (show Bs from []), .v .s (show Bs from []), .v .s (show Bs from []), .v .s (show Bs from []), .v (.i .i64) (show Int from 0)], (.pr (.i .i64) (.pr (.i .i64) (.pr (.i .i64) (.pr .s (.pr .s (.pr .s (.pr .s (.pr .s (.pr .s (.i .i64)))))))))), 128⟩),
 (74, ⟨.st [(53, 0)], 8, [.v .s (show Bs from []), .v .s (show Bs from []), .v .s (show Bs from []), .v .s (show Bs from []), .v (.i .i64) (show Int from 0), .v (.i .i64) (show Int from 0), .v (.i .i64) (show Int from 0), .nils], (.pr .s (.pr .s (.pr .s (.pr .s (.pr (.i .i64) (.pr (.i .i64) (.pr (.i .i64) (.sl (.pr .s (.pr .s (.pr .s (.i .i64)))))))))))), 112⟩),
 (77, ⟨.map 9 74, 1, [.nilm], (.mp .s (.pr .s (.pr .s (.pr .s (.pr .s (.pr (.i .i64) (.pr (.i .i64) (.pr (.i .i64) (.sl (.pr .s (.pr .s (.pr .s (.i .i64))))))))))))), 8⟩),
 (79, ⟨.st [(77, 0)], 1, [.nilm], (.pr (.mp .s (.pr .s (.pr .s (.pr .s (.pr .s (.pr (.i .i64) (.pr (.i .i64) (.pr (.i .i64) (.sl (.pr .s (.pr .s (.pr .s (.i .i64))))))))))))) .un), 8⟩),
 (100, ⟨.sl 5, 1, [.nils], (.sl (.i .u8)), 24⟩)]
theorem τ_okWkB : TEok Tryz.prog τWkB := yrD (by kernel_rfl) (by kernel_rfl)
theorem yvY : Tryz.prog.follows .mixedOrders = true := by kernel_rfl
theorem fscWkB {G : List (Nat × Obj)} {o : Ops} [zjG G] [zjJ G o] {Γ : CT} {η : HT} {f : FuncId} {fn : Func} {c : SC} (hΓ : ∀ B, GB G B → CTok Tryz.prog Γ B) (hf : Tryz.prog.funcs[f]? = some fn) (i : (fn.name == "runtime.NumGoroutine") = false := by kernel_rfl) (j : fn.body.isNone = false := by kernel_rfl) (l : Nat.ble c.I.sl.length fn.ntmps = true := by kernel_rfl) (r : Nat.beq fn.results.toList.length c.nr = true := by kernel_rfl) (e : fnS τWkB Γ η fn c.I c.outs = c.p := by kernel_rfl) : SCok Tryz.prog G f c := witO (G := G) (o := o) <| ylA yvY τ_okWkB hΓ hf (isFn hf i j) l r e
theorem ydA {G : List (Nat × Obj)} {o : Ops} [zjG G] [zjJ G o] {Γ : CT} {η : HT} {f : FuncId} {fn : Func} {c : PC} (hΓ : ∀ B, GB G B → CTok Tryz.prog Γ B) (hf : Tryz.prog.funcs[f]? = some fn) (i : (fn.name == "runtime.NumGoroutine") = false := by kernel_rfl) (j : fn.body.isNone = false := by kernel_rfl) (l : Nat.ble c.ash.length fn.ntmps = true := by kernel_rfl) (r : c.cl = false := by kernel_rfl) (e : fnP τWkB Γ η fn c.ash c.rts = c.p := by kernel_rfl) : PCok Tryz.prog G f c := witO (G := G) (o := o) <| ykJ yvY τ_okWkB hΓ hf (isFn hf i j) l r e
abbrev yzA : Type := Bs × Bs × Bs × Int
abbrev xbL : Ty := .pr .s (.pr .s (.pr .s (.i .i64)))
section
variable {tabs : List (Nat × Obj)} [zjG tabs] {o : Ops} [zjJ tabs o]
def zaZ (o : Ops) (v0 : UInt8) : Option (Bool) :=
 bif decide ((v0.toNat : Int) ≥ ((97 : UInt8).toNat : Int)) then (bif decide ((v0.toNat : Int) ≤ ((122 : UInt8).toNat : Int)) then (some true) else (bif decide ((v0.toNat : Int) ≥ ((48 : UInt8).toNat : Int)) then (bif decide ((v0.toNat : Int) ≤ ((57 : UInt8).toNat : Int)) then (some true) else (bif ((v0.toNat : Int) == ((46 : UInt8).toNat : Int)) then (some true) else (bif ((v0.toNat : Int) == ((95 : UInt8).toNat : Int)) then (some true) else (some ((v0.toNat : Int) == ((45 : UInt8).toNat : Int)))))) else (bif ((v0.toNat : Int) == ((46 : UInt8).toNat : Int)) then (some true) else (bif ((v0.toNat : Int) == ((95 : UInt8).toNat : Int)) then (some true) else (some ((v0.toNat : Int) == ((45 : UInt8).toNat : Int))))))) else (bif decide ((v0.toNat : Int) ≥ ((48 : UInt8).toNat : Int)) then (bif decide ((v0.toNat : Int) ≤ ((57 : UInt8).toNat : Int)) then (some true) else (bif ((v0.toNat : Int) == ((46 : UInt8).toNat : Int)) then (some true) else (bif ((v0.toNat : Int) == ((95 : UInt8).toNat : Int)) then (some true) else (some ((v0.toNat : Int) == ((45 : UInt8).toNat : Int)))))) else (bif ((v0.toNat : Int) == ((46 : UInt8).toNat : Int)) then (some true) else (bif ((v0.toNat : Int) == ((95 : UInt8).toNat : Int)) then (some true) else (some ((v0.toNat : Int) == ((45 : UInt8).toNat : Int))))))
def zgD (o : Ops) : PC := ⟨[(.h (.i .u8))], [.b], fun x => zaZ o x, false⟩
theorem zmA : PCok Tryz.prog tabs 111 (zgD o) := ydA (o := o) (η := []) (Γ := ⟨[], [], false, []⟩) (ctok trivial trivial) Tryz.func111
def zeR (o : Ops) (v0 : Bs) (v1 : Int) : Option (Int ⊕ (Bool ⊕ Unit)) :=
 bif decide (v1 < (v0.length : Int)) then ((idx v0 v1).bind fun v2 => (zaZ o v2).bind fun v3 => bif (!v3) then some (.inr (.inl false)) else some (.inl (w64 (v1 + 1)))) else some (.inr (.inr ()))
def zdJ (o : Ops) (v0 : Bs) : Option (Bool) :=
 (iter (zeR o v0) (0 : Int)).bind fun v4 => match v4 with
 | .inl v5 => (some v5)
 | .inr v6 => (bif decide ((v0.length : Int) ≥ 1) then (some (decide ((v0.length : Int) ≤ 24))) else (some false))
def zhM (o : Ops) : PC := ⟨[hS], [.b], fun x => zdJ o x, false⟩
theorem znZ : PCok Tryz.prog tabs 79 (zhM o) := ydA (o := o) (η := [(200002, .loop [] ⟨[(3, hI)], []⟩ [0] [(some 1000000, ⟨[(2, hB)], []⟩), (some 0, ⟨[], []⟩)])]) (Γ := ⟨[(111, (zgD o))], [], false, []⟩) (ctok ⟨zmA, trivial⟩ trivial) Tryz.func79
def zdV (o : Ops) (v0 : yzA) : Option (Bool) :=
 bif decide ((v0.1.length : Int) ≥ 1) then (bif decide ((v0.1.length : Int) ≤ 86) then (bif ((v0.2.1.length : Int) == 32) then (bif ((v0.2.2.1.length : Int) == 32) then (bif decide (v0.2.2.2 ≥ 0) then (some (decide (v0.2.2.2 ≤ 4294967295))) else (some false)) else (some false)) else (some false)) else (some false)) else (some false)
def ziN (o : Ops) : PC := ⟨[(.h xbL)], [.b], fun x => zdV o x, false⟩
theorem zpM : PCok Tryz.prog tabs 83 (ziN o) := ydA (o := o) (η := []) (Γ := ⟨[], [], false, []⟩) (ctok trivial trivial) Tryz.func83
def zeQ (o : Ops) (v0 : List yzA) (v1 : Bs) (v2 : Int) : Option (Int ⊕ (Int ⊕ Unit)) :=
 bif decide (v2 < (v0.length : Int)) then ((idx v0 v2).bind fun v3 => bif (v3.1 == v1) then some (.inr (.inl v2)) else some (.inl (w64 (v2 + 1)))) else some (.inr (.inr ()))
def zaX (o : Ops) (v0 : List yzA) (v1 : Bs) : Option (Int) :=
 (iter (zeQ o v0 v1) (0 : Int)).bind fun v4 => match v4 with
 | .inl v5 => (some v5)
 | .inr v6 => (some (-1 : Int))
def zhG (o : Ops) : PC := ⟨[(.h (.sl xbL)), hS], [(.i .i64)], fun x => zaX o x.1 x.2, false⟩
theorem zoC : PCok Tryz.prog tabs 84 (zhG o) := ydA (o := o) (η := [(200002, .loop [] ⟨[(5, hI)], []⟩ [0, 1] [(some 1000000, ⟨[(4, hI)], []⟩), (some 0, ⟨[], []⟩)])]) (Γ := ⟨[], [], false, []⟩) (ctok trivial trivial) Tryz.func84
def zbA (o : Ops) (v0 : List (Bs × Bs)) (v1 : List (Bs × Bs)) (v2 : Int) : Option (Int ⊕ (Bool ⊕ Unit)) :=
 bif decide (v2 < (v0.length : Int)) then ((idx v0 v2).bind fun v3 => (idx v1 v2).bind fun v4 => bif (!((v3.1 == v4.1) && (v3.2 == v4.2))) then some (.inr (.inl false)) else some (.inl (w64 (v2 + 1)))) else some (.inr (.inr ()))
def zaV (o : Ops) (v0 : List (Bs × Bs)) (v1 : List (Bs × Bs)) : Option (Bool) :=
 bif ((v0.length : Int) != (v1.length : Int)) then (some false) else ((iter (zbA o v0 v1) (0 : Int)).bind fun v5 => match v5 with
 | .inl v6 => (some v6)
 | .inr v7 => (some true))
def zfO (o : Ops) : PC := ⟨[(.h (.sl (.pr .s .s))), (.h (.sl (.pr .s .s)))], [.b], fun x => zaV o x.1 x.2, false⟩
theorem zkL : PCok Tryz.prog tabs 11 (zfO o) := ydA (o := o) (η := [(200004, .loop [] ⟨[(5, hI)], []⟩ [0, 1] [(some 1000000, ⟨[(4, hB)], []⟩), (some 0, ⟨[], []⟩)]),
 (4000006, .sch [(.pu, 0, []), (.pu, 1, []), (.pu, 2, []), (.pu, 3, []), (.pu, 4, []), (.pu, 5, []), (.pu, 6, []), (.pu, 7, []), (.pu, 8, [])])]) (Γ := ⟨[], [], false, []⟩) (ctok trivial trivial) Tryz.func11
end
end Go.Proofs.YtmkomlbiaebddaaGreatDoor.Am
namespace Go.Proofs.YtmkomlbiaebddaaGreatDoor
open Go Go.RowKit
theorem zjE (u : Nat) : Lib.decDigits u = if u < 10 then [UInt8.ofNat (48 + u)] else Lib.decDigits (u / 10) ++ [UInt8.ofNat (48 + u % 10)] := by
 rw [Lib.decDigits]
 by_cases h : u < 10
 ·rw [dif_pos h, if_pos h]
 ·rw [dif_neg h, if_neg h]
theorem yeM {d : Nat} (h : d < 10) : (UInt8.ofNat (48 + d)).toNat = 48 + d := by
 simp [UInt8.toNat_ofNat]; omega
theorem ygR : ∀ (u : Nat), ∀ b ∈ Lib.decDigits u, 48 ≤ b.toNat ∧ b.toNat ≤ 57 := by
 intro u
 induction u using Nat.strongRecOn with
 | _ u ih =>
  intro b hb
  rw [zjE] at hb
  by_cases h : u < 10
  ·rw [if_pos h] at hb
   simp only [List.mem_singleton] at hb
   rw [hb, yeM h]; omega
  ·rw [if_neg h] at hb
   rcases List.mem_append.1 hb with hb | hb
   ·exact ih (u / 10) (by omega) b hb
   ·simp only [List.mem_singleton] at hb
    rw [hb, yeM (by omega)]; omega
theorem xaQ (u : Nat) : Lib.decDigits u ≠ [] := by
 rw [zjE]
 by_cases h : u < 10 <;> simp [h]
theorem ydS : ∀ (u : Nat), u ≠ 0 → ∃ b l, Lib.decDigits u = b :: l ∧ b ≠ 48 := by
 intro u
 induction u using Nat.strongRecOn with
 | _ u ih =>
  intro hu
  rw [zjE]
  by_cases h : u < 10
  ·rw [if_pos h]
   refine ⟨_, _, rfl, fun e => ?_⟩
   have := congrArg UInt8.toNat e
   rw [yeM h] at this
   have : 48 + u = 48 := this
   omega
  ·rw [if_neg h]
   obtain ⟨b, l, h1, h2⟩ := ih (u / 10) (by omega) (by omega)
   exact ⟨b, l ++ _, by rw [h1]; rfl, h2⟩
theorem zkW : ∀ (k u : Nat), 0 < k → u < 10 ^ k → (Lib.decDigits u).length ≤ k
 | 0, _, h, _ => absurd h (Nat.lt_irrefl 0)
 | k + 1, u, _, h => by
  rw [zjE]
  by_cases hu : u < 10
  ·rw [if_pos hu]; simp
  ·rw [if_neg hu]
   have hk : 0 < k := by
    rcases Nat.eq_zero_or_pos k with rfl | hk
    ·rw [Nat.zero_add, Nat.pow_one] at h; omega
    ·exact hk
   have := zkW k (u / 10) hk (by rw [Nat.pow_succ] at h; omega)
   simp; omega
theorem zyD {b : UInt8} (hb : 48 ≤ b.toNat ∧ b.toNat ≤ 57) : ∀ (l : Bs) (acc v : Nat), Lib.parseUint10 acc l = .ok v → v < 1844674407370955161 → Lib.parseUint10 acc (l ++ [b]) = .ok (v * 10 + (b.toNat - 48))
 | [], acc, v, h, hv => by
  simp only [Lib.parseUint10] at h
  cases h
  simp only [List.nil_append, Lib.parseUint10]
  rw [if_pos hb, if_neg (by omega), if_neg (by omega)]
 | c :: l, acc, v, h, hv => by
  simp only [List.cons_append, Lib.parseUint10] at h ⊢
  split at h
  ·rename_i h1
   split at h
   ·cases h
   ·rename_i h2
    split at h
    ·cases h
    ·rename_i h3
     rw [if_pos h1, if_neg h2, if_neg h3]
     exact zyD hb l _ v h hv
  ·cases h
theorem ypR : ∀ (u : Nat), u < 9223372036854775808 → Lib.parseUint10 0 (Lib.decDigits u) = .ok u := by
 intro u
 induction u using Nat.strongRecOn with
 | _ u ih =>
  intro hu
  rw [zjE]
  by_cases h : u < 10
  ·rw [if_pos h]
   have e := yeM h
   simp only [Lib.parseUint10]
   rw [if_pos (by rw [e]; omega), if_neg (by omega), if_neg (by rw [e]; omega), e]
   congr 1; omega
  ·rw [if_neg h]
   have e := yeM (show u % 10 < 10 by omega)
   rw [zyD (by rw [e]; omega) _ _ _ (ih (u / 10) (by omega) (by omega)) (by omega), e]
   congr 1; omega
theorem ytK (u : Nat) (hu : u < 9223372036854775808) : Lib.atoiAll (Lib.decDigits u) = .ok (u : Int) := by
 have hne := xaQ u
 cases hl : Lib.decDigits u with
 | nil => exact absurd hl hne
 | cons c r =>
  have hc := ygR u c (by rw [hl]; exact List.mem_cons_self)
  have hp := ypR u hu
  rw [hl] at hp
  unfold Lib.atoiAll
  simp only
  rw [if_neg (by omega)]
  unfold Lib.parseMag
  rw [if_neg (by simp), hp]
  simp only
  rw [if_neg (by omega), if_neg (by omega), if_neg (by omega)]
theorem zvX (u : Nat) (hu : u < 1000000000000000) : yjW (Lib.decDigits u) = some ((u : Int), false) := by
 have hl := zkW 15 u (by decide) hu
 unfold yjW
 rw [decide_eq_true (show (Lib.decDigits u).length ≤ 9223372036854775806 by omega), ytK u (by omega)]
 rfl
theorem zvT (u : Nat) (hu : u < 9223372036854775808) : zxR (u : Int) = some (Lib.decDigits u) := by
 unfold zxR zxU
 rw [decide_eq_true (show (-9223372036854775808 : Int) ≤ (u : Int) by omega), decide_eq_true (show (u : Int) ≤ 9223372036854775807 by omega)]
 simp only [Bool.and_self, cond_true]
 rw [decide_eq_false (show ¬ (u : Int) < 0 by omega)]
 simp only [cond_false, Int.toNat_natCast]
 rw [zzM 20 u (by omega) (by decide)]
abbrev tenL : Bs := [48, 49, 50, 51, 52, 53, 54, 55, 56, 57]
theorem yxB {b : UInt8} (h : 48 ≤ b.toNat ∧ b.toNat ≤ 57) : tenL.contains b = true := by
 have e : b = UInt8.ofNat b.toNat := by simp
 rw [e]
 rcases (by omega : b.toNat = 48 ∨ b.toNat = 49 ∨ b.toNat = 50 ∨ b.toNat = 51 ∨ b.toNat = 52 ∨ b.toNat = 53 ∨ b.toNat = 54 ∨ b.toNat = 55 ∨ b.toNat = 56 ∨ b.toNat = 57) with h | h | h | h | h | h | h | h | h | h <;> rw [h] <;> decide
theorem zwM {p : UInt8 → Bool} : ∀ {l : Bs}, (∀ b ∈ l, p b = true) → l.dropWhile p = []
 | [], _ => rfl
 | b :: l, h => by
  rw [List.dropWhile_cons, if_pos (h b List.mem_cons_self)]
  exact zwM fun b hb => h b (List.mem_cons_of_mem _ hb)
theorem yrX {l : Bs} (h : ∀ b ∈ l, 48 ≤ b.toNat ∧ b.toNat ≤ 57) : Lib.trimS l tenL = [] := by
 have h2 : l.reverse.dropWhile (tenL.contains ·) = [] := zwM fun b hb => yxB (h b (List.mem_reverse.1 hb))
 unfold Lib.trimS Lib.trimRightS
 rw [h2]; rfl
theorem yeD (u : Nat) (hu : u < 1000000000000000) : zuB (Lib.decDigits u) tenL = some [] := by
 have hl := zkW 15 u (by decide) hu
 unfold zuB
 rw [decide_eq_true (show (Lib.decDigits u).length ≤ 9223372036854775807 by omega), decide_eq_true (show tenL.length < 4294967281 by decide), show tenL.all (fun b => decide (b.toNat < 128)) = true by decide]
 simp only [Bool.and_self, cond_true]
 rw [yrX (ygR u)]
theorem ztE (b : UInt8) (l sub : Bs) : Lib.index (b :: l) sub = if sub.isPrefixOf (b :: l) = true then 0 else (if Lib.index l sub = -1 then -1 else Lib.index l sub + 1) := by
 rw [Lib.index]
 split <;> simp_all
theorem zyX {m : UInt8} {r : Bs} : ∀ {d : Bs}, m ∉ d → Lib.index (d ++ m :: r) [m] = (d.length : Int)
 | [], _ => by
  rw [List.nil_append, ztE, if_pos (by simp [List.isPrefixOf])]; rfl
 | b :: d, h => by
  have hb : b ≠ m := fun e => h (by rw [e]; exact List.mem_cons_self)
  have ih := zyX (r := r) (d := d) fun hm => h (List.mem_cons_of_mem _ hm)
  rw [List.cons_append, ztE, if_neg (by simp [List.isPrefixOf]; exact fun e => hb e.symm), ih, if_neg (by omega)]
  simp
theorem ysE {m : UInt8} {d r : Bs} (h : m ∉ d) : Lib.cut (d ++ m :: r) [m] = (d, r, true) := by
 unfold Lib.cut
 rw [zyX h, if_pos (by omega)]
 simp [List.take_append, List.drop_append]
def zfW : List Bs → Bs
 | [] => []
 | t :: ts => Lib.decDigits t.length ++ 58 :: (t ++ zfW ts)
section
open Go Go.RowKit Go.ChangeShapes Go.WideShapes Go.ChangeAt
section
variable {H : Type} {enc : TypeId × Value → H} {P : Program} {W W' : World}
theorem zxE (hl : laidOutB P = true) (hx : Below W.heap.size W W') : ∀ {ts : List TypeId} {vs : LV} {ds : List (DataW H)} {ps : List MemPlace}, ts.all (fun t => P.readableRec t && decide (t < P.types.size)) = true →
  DataW.TrodAll enc P W 0 (fun _ => true) true ts vs ds ps → (∀ x ∈ ps, x.block < W.heap.size) → DataW.TrodAll enc P W' 0 (fun b => decide (b < W.heap.size)) true ts vs ds ps
 | [], vs, ds, ps, _, h, _ => by
  obtain ⟨rfl, rfl, rfl⟩ := trodAll_nil h
  exact trodAll_mk0
 | t :: ts, vs, ds, ps, ha, h, hlt => by
  obtain ⟨v, vs', d, ds', p, q, rfl, rfl, rfl, h0, hr⟩ := trodAll_cons h
  simp only [List.all_cons, Bool.and_eq_true, decide_eq_true_eq] at ha
  exact trodAll_cons_mk (Below.trod hl ha.1.1 ha.1.2 h0 hx fun x hx => hlt x (List.mem_append.2 (.inl hx)))
   (zxE hl hx ha.2 hr fun x hx => hlt x (List.mem_append.2 (.inr hx)))
theorem trodAll_length : ∀ {ts : List TypeId} {vs : LV} {ds : List (DataW H)} {ps : List MemPlace} {w : World} {b : Nat} {sp : Nat → Bool} {hd : Bool}, DataW.TrodAll enc P w b sp hd ts vs ds ps → vs.length = ts.length ∧ ds.length = ts.length
 | [], vs, ds, ps, _, _, _, _, h => by
  obtain ⟨rfl, rfl, rfl⟩ := trodAll_nil h
  exact ⟨rfl, rfl⟩
 | t :: ts, vs, ds, ps, _, _, _, _, h => by
  obtain ⟨v, vs', d, ds', p, q, rfl, rfl, rfl, h0, hr⟩ := trodAll_cons h
  have := trodAll_length hr
  simp [this.1, this.2]
theorem yuB {f : Func} {s : ChangeSpec} {args : Array Value} {ds gs : List (DataW H)} {before : List MemPlace} {B : TypeId} {n : Nat} (hl : laidOutB P = true) (hv : s.vars = [])
  (hp : f.params.toList.all (fun t => P.readableRec t && decide (t < P.types.size)) = true) (hn : f.params.toList.length = n) (hB : P.underlying B = some .bool) (hr : f.resultTypes = #[B])
  (hfn : ∀ ds : List (DataW H), ds.length = n → (s.fn H (ds ++ [])).results = [.lit (.bool true)] ∧ (s.fn H (ds ++ [])).args = ds ∧ (s.fn H (ds ++ [])).vars = [])
  (hW : DataW.Whole enc P f.params.toList s.vars false W args.toList ds gs before) (hx : Ext W W') : s.post enc P f false true false false W args (.bool true) W' := by
 have hW' := hW
 obtain ⟨p, q, hA, hV, rfl, _, _⟩ := hW
 rw [hv] at hV
 obtain ⟨rfl, rfl⟩ := trodVars_none hV
 have hA : DataW.TrodAll enc P W 0 (fun _ => true) true f.params.toList args.toList ds p := hA
 have hlen := trodAll_length hA
 obtain ⟨f1, f2, f3⟩ := hfn ds (hlen.2.trans hn)
 refine ⟨ds, [], p ++ [], [], p, [], hW', ?_, ?_, ?_, Below.frame hx _, fun h => by cases h⟩
 ·rw [f1, hr]
  exact trodAll_mk1 (shut_bool hB _)
 ·rw [f2]
  exact zxE hl hx hp hA fun x hxp => by simpa using hW'.lt x (by simp [hxp])
 ·rw [f3, hv]; exact rfl
variable {b0 : Nat} {T E : TypeId} {v : Value}
theorem yuJ {fits : TypeId → Bool} : ∀ {d : Nat} {e : TypeId} {count off n : Nat}, rowAt P fits d e count off n = true → off ≤ count * P.cellsOf e
 | 0, _, _, _, _, h => by simp [rowAt] at h
 | d + 1, e, count, off, n, h => by
  unfold rowAt at h
  by_cases hs : P.cellsOf e = 0
  ·simp [hs] at h
  ·have hd := Nat.div_add_mod off (P.cellsOf e)
   have hm := Nat.mod_lt off (Nat.pos_of_ne_zero hs)
   simp only [hs, if_false, Bool.or_eq_true, Bool.and_eq_true, decide_eq_true_eq, beq_iff_eq] at h
   rcases h with ⟨⟨h1, h2⟩, _⟩ | ⟨h1, _⟩
   ·have h3 : P.cellsOf e * (off / P.cellsOf e) ≤ P.cellsOf e * count := Nat.mul_le_mul_left _ (by omega)
    rw [Nat.mul_comm count]; omega
   ·have h3 : P.cellsOf e * (off / P.cellsOf e + 1) ≤ P.cellsOf e * count := Nat.mul_le_mul_left _ (by omega)
    rw [Nat.mul_add, Nat.mul_one] at h3
    rw [Nat.mul_comm count]; omega
theorem ydT : ∀ {d : Nat} {e : TypeId} {count off : Nat} {u : TypeId} {n : Nat}, liesAt P d e count off u n = true → off ≤ count * P.cellsOf e
 | 0, _, _, _, _, _, h => by simp [liesAt] at h
 | d + 1, e, count, off, u, n, h => by
  unfold liesAt at h
  rw [Bool.or_eq_true] at h
  rcases h with h | h
  ·exact yuJ h
  ·split at h
   ·exact ydT h
   ·cases h
theorem ytY {a : Addr} {len cap : Nat} (hu : P.underlying T = some (.slice E)) (h : Value.okWide P W .any b0 T (.slice (some a) len cap)) :
  a.spot = none ∧ ∃ cs R fz, W.heap[a.block]? = some (.cells cs R fz) ∧ a.off ≤ cs.size := by
 simp only [Value.okWide, Cell.okWide, Cell.ok, hu] at h
 obtain ⟨_, _, _, h2, row, cells, h3, h4⟩ := h
 refine ⟨h2, ?_⟩
 unfold World.shape? at h3
 split at h3
 ·rename_i c elem fz hb
  simp only [Option.some.injEq, Prod.mk.injEq] at h3
  obtain ⟨rfl, rfl⟩ := h3
  have h5 := ydT h4
  have h6 := Nat.div_mul_le_self c.size (P.cellsOf elem)
  exact ⟨c, _, fz, hb, by omega⟩
 ·cases h3
theorem ok_slice (hu : P.underlying T = some (.slice E)) (h : Value.okWide P W .any b0 T v) : v = .slice none 0 0 ∨ ∃ a len cap, v = .slice (some a) len cap := by
 simp only [Value.okWide, Cell.okWide, Cell.ok, hu] at h
 cases v with
 | slice a len cap =>
  cases a with
  | none =>
   left
   cases len with
   | zero => cases cap with
    | zero => rfl
    | succ n => simp at h
   | succ n => simp at h
  | some a => exact .inr ⟨a, len, cap, rfl⟩
 | _ => simp at h
theorem yiZ {l r : List (DataW H)} : Rows.uptoBulkAll (l ++ r) = Rows.uptoBulkAll l + Rows.uptoBulkAll r := by
 induction l with
 | nil => simp [Rows.uptoBulkAll]
 | cons x l ih => simp only [List.cons_append, Rows.uptoBulkAll, ih]; omega
end
end
end Go.Proofs.YtmkomlbiaebddaaGreatDoor
namespace Go.Proofs.YtmkomlbiaebddaaGreatDoor.Am
open Go Go.RowKit Go.ChangeShapes Go.WideShapes Go.ChangeAt
def dsz : (t : Ty) → den t → Nat
 | .s, x => List.length x + 1
 | .pr a c, x => dsz a x.1 + dsz c x.2
 | .un, _ => 0
 | .sl e, x => (List.map (dsz e) x).sum + 1
 | _, _ => 1
def fOk (q : TypeId → Ty → Bool) (c : TypeId → Nat) : List Field → Nat → Ty → Bool
 | [], _, t => match t with
  | .un => true
  | _ => false
 | [f], off, t => (q f.type t && (Nat.beq f.offset off && Nat.beq (c f.type) (tsz t))) || (match t with
  | .pr a .un => q f.type a && (Nat.beq f.offset off && Nat.beq (c f.type) (tsz a))
  | _ => false)
 | f :: g :: fs, off, t => match t with
  | .pr a r => (q f.type a && (Nat.beq f.offset off && Nat.beq (c f.type) (tsz a))) && fOk q c (g :: fs) (off + tsz a) r
  | _ => false
def tyOk (P : Program) : Nat → TypeId → Ty → Bool
 | 0, _, _ => false
 | n + 1, T, t => match P.underlying T, t with
  | some (.int k), .i k' => (ikEq k k').isSome
  | some .bool, .b => true
  | some .string, .s => true
  | some (.slice E), .sl e => tyOk P n E e && (Nat.beq (P.cellsOf E) (tsz e) && Nat.blt 0 (tsz e))
  | some (.struct fs), t => (Nat.beq (P.cellsOf T) (tsz t) && !(one t)) && fOk (tyOk P n) P.cellsOf fs.toList 0 t
  | _, _ => false
section
variable {H : Type} {enc : TypeId × Value → H} {P : Program} {W : World} {sp : Nat → Bool} {S : Mem}
theorem xdC : ∀ {k : IntKind} {n : Int}, (Lit.int k n).wf = true → toI k (ofI k n) = n := fun {k n} h => by
 rw [ymX]
 cases k <;> simp [Lit.wf, IntKind.has, IntKind.min, IntKind.max, IntKind.signed, IntKind.bits] at h <;> simp [IntKind.wrap, IntKind.signed, IntKind.bits] <;> omega
theorem ydU {a c : Ty} {cs : LV} {x : den a} {y : den c} (hx : rep a S (cs.take (tsz a)) x) (hy : rep c S (cs.drop (tsz a)) y) : rep (.pr a c) S cs (x, y) :=
 ⟨_, _, (List.take_append_drop (tsz a) cs).symm, hx, hy⟩
theorem yuZ : rep .un S ([] : LV) () := rfl
theorem ydF {q : TypeId → Ty → Bool} {fuel : Nat} (hq : ∀ (T : TypeId) (t : Ty), q T t = true → ∀ cs d ps, DataW.trod enc P W 0 sp true fuel T cs = some (d, ps) → ∃ x : den t, rep t S cs x ∧ dsz t x ≤ Rows.uptoBulk d) {cs : LV} :
  ∀ (fs : List Field) (off : Nat) (t : Ty) (xs : List (DataW H × List MemPlace)), fOk q P.cellsOf fs off t = true → cs.length = off + tsz t →
   A2 (fun (f : Field) y => DataW.trod enc P W 0 sp true fuel f.type ((cs.drop f.offset).take (P.cellsOf f.type)) = some y) fs xs →
   ∃ x : den t, rep t S (cs.drop off) x ∧ dsz t x ≤ Rows.uptoBulkAll (xs.map (·.1))
 | [], off, t, xs, h, hl, hA => by
  cases t <;> simp only [fOk] at h <;> try (cases h; done)
  cases hA
  refine ⟨(), ?_, Nat.zero_le _⟩
  rw [List.drop_eq_nil_of_le (by rw [hl]; exact Nat.le_refl _)]
  exact yuZ
 | [f], off, t, xs, h, hl, hA => by
  cases hA with
  | @cons _ y _ _ h1 h2 =>
   cases h2
   simp only [fOk, Bool.or_eq_true] at h
   rcases h with h | h
   ·rw [Bool.and_eq_true, Bool.and_eq_true] at h
    obtain ⟨h0, h2, h3⟩ := h
    have h2 := Nat.eq_of_beq_eq_true h2
    have h3 := Nat.eq_of_beq_eq_true h3
    obtain ⟨x, hx, hd⟩ := hq _ _ h0 _ _ _ h1
    refine ⟨x, ?_, by simp only [List.map_cons, List.map_nil, Rows.uptoBulkAll]; omega⟩
    rw [h2, h3, List.take_of_length_le (by rw [List.length_drop]; omega)] at hx
    exact hx
   ·cases t with
    | pr a c =>
     cases c with
     | un =>
      rw [Bool.and_eq_true, Bool.and_eq_true] at h
      obtain ⟨h0, h2, h3⟩ := h
      have h2 := Nat.eq_of_beq_eq_true h2
      have h3 := Nat.eq_of_beq_eq_true h3
      obtain ⟨x, hx, hd⟩ := hq _ _ h0 _ _ _ h1
      rw [h2, h3] at hx
      have hl : cs.length = off + tsz a := hl
      refine ⟨(x, ()), ydU hx ?_, by simp only [List.map_cons, List.map_nil, Rows.uptoBulkAll]; show dsz a x + 0 ≤ _; omega⟩
      rw [List.drop_eq_nil_of_le (by rw [List.length_drop]; omega)]
      exact yuZ
     | _ => simp at h
    | _ => simp at h
 | f :: g :: fs, off, t, xs, h, hl, hA => by
  cases t with
  | pr a r =>
   simp only [fOk] at h
   rw [Bool.and_eq_true, Bool.and_eq_true, Bool.and_eq_true] at h
   obtain ⟨⟨h1, h2, h3⟩, h4⟩ := h
   have h2 := Nat.eq_of_beq_eq_true h2
   have h3 := Nat.eq_of_beq_eq_true h3
   have hl : cs.length = off + (tsz a + tsz r) := hl
   cases hA with
   | @cons _ y _ ys g1 g2 =>
    obtain ⟨x, hx, hd⟩ := hq _ _ h1 _ _ _ g1
    obtain ⟨z, hz, he⟩ := ydF hq (g :: fs) (off + tsz a) r ys h4 (by omega) g2
    rw [h2, h3] at hx
    refine ⟨(x, z), ydU hx (by rw [List.drop_drop]; exact hz), ?_⟩
    simp only [List.map_cons, Rows.uptoBulkAll]
    show dsz a x + dsz r z ≤ _
    omega
  | _ => simp [fOk] at h
theorem yvC {α β : Type} {R : α → β → Prop} : ∀ {l : List α} {m : List β}, l.length = m.length → (∀ (i : Nat) (a : α) (b : β), l[i]? = some a → m[i]? = some b → R a b) → A2 R l m
 | [], [], _, _ => .nil
 | [], _ :: _, h, _ => by cases h
 | _ :: _, [], h, _ => by cases h
 | a :: l, b :: m, h, hR => .cons (hR 0 a b rfl rfl) (yvC (by simpa using h) fun i a b ha hb => hR (i + 1) a b (by simpa using ha) (by simpa using hb))
theorem yoB {e : Ty} : ∀ {xs : List (den e)} {cs ds : LV} {x : den e}, @RL (den e) (rpD e) S cs xs → rep e S ds x → @RL (den e) (rpD e) S (cs ++ ds) (xs ++ [x])
 | [], cs, ds, x, h, hx => by
  have h : cs = [] := h
  subst h
  exact ⟨ds, [], by simp, hx, rfl⟩
 | y :: xs, cs, ds, x, h, hx => by
  obtain ⟨c, d, rfl, h1, h2⟩ := h
  exact ⟨c, d ++ ds, by simp, h1, yoB h2 hx⟩
theorem xeY {T E : TypeId} {e : Ty} {fuel : Nat} (hu : P.underlying T = some (.slice E)) (hc : P.cellsOf E = tsz e) (hz : 0 < tsz e) (hq : ∀ (m : Nat) (cs : LV) (d : DataW H) (ps : List MemPlace), DataW.trod enc P W 0 (fun _ => true) true m E cs = some (d, ps) → ∃ x : den e, rep e (zkJ W) cs x ∧ dsz e x ≤ Rows.uptoBulk d) {cs : LV} {d : DataW H} {ps : List MemPlace} (hd : DataW.trod enc P W 0 (fun _ => true) true fuel T cs = some (d, ps)) :
  ∃ xs : List (den e), rep (.sl e) (zkJ W) cs xs ∧ dsz (.sl e) xs ≤ Rows.uptoBulk d := by
 rcases DataW.trod_slice hu hd with ⟨rfl, h2⟩ | ⟨a, len, cap, elems, rest, m, rfl, rfl, h2, _, hlc, _, hel, hget, hrest, _⟩
 ·cases h2
  exact ⟨[], ⟨_, rfl, [], .inl ⟨⟨none, rfl⟩, rfl, rfl⟩, rfl⟩, Nat.le_refl _⟩
 ·cases h2
  by_cases hcap : cap = 0
  ·subst hcap
   obtain rfl : len = 0 := by omega
   refine ⟨[], ⟨_, rfl, [], .inl ⟨⟨some a, rfl⟩, rfl, rfl⟩, rfl⟩, ?_⟩
   show 0 + 1 ≤ _
   simp only [Rows.uptoBulk]
   omega
  have h0 : ∃ us, W.cells? 0 a (P.cellsOf E) = some us := by
   by_cases hl0 : len = 0
   ·subst hl0
    obtain ⟨g1, g2⟩ := hrest rfl
    have g3 := g2 0 (by omega)
    rw [List.getElem?_eq_getElem (by omega : 0 < rest.length)] at g3
    obtain ⟨us, hus, _⟩ := Option.bind_eq_some_iff.1 g3
    rw [show a.add ((0 + 0) * P.cellsOf E) = a by simp [Addr.add]] at hus
    exact ⟨us, hus⟩
   ·have g3 := hget 0 (by omega)
    rw [List.getElem?_eq_getElem (by omega : 0 < elems.length)] at g3
    obtain ⟨us, hus, _⟩ := Option.bind_eq_some_iff.1 g3
    rw [show a.add (0 * P.cellsOf E) = a by simp [Addr.add]] at hus
    exact ⟨us, hus⟩
  obtain ⟨us, hus⟩ := h0
  obtain ⟨_, hul, huc⟩ := World.cells?_some hus
  have hc0 := huc 0 (by omega)
  rw [show a.add 0 = a by simp [Addr.add], List.getElem?_eq_getElem (by omega : 0 < us.length)] at hc0
  obtain ⟨blk, off, spot⟩ := a
  obtain ⟨cs, R, fz, hb, hsp, ho⟩ : ∃ cs R fz, W.heap[blk]? = some (.cells cs R fz) ∧ spot = none ∧ off ≤ cs.size := by
   unfold World.cell? at hc0
   dsimp only at hc0
   split at hc0
   ·rename_i c R fz hb
    cases spot with
    | some s => simp at hc0
    | none =>
     rw [if_neg (by simp)] at hc0
     have := (Array.getElem?_eq_some_iff.1 hc0).1
     exact ⟨c, R, fz, hb, rfl, Nat.le_of_lt this⟩
   ·cases hc0
  subst hsp
  have ad : ∀ j, (⟨blk, off, none⟩ : Addr).add j = ⟨blk, off + j, none⟩ := fun j => by simp [Addr.add]
  have each : ∀ i, i < len → ∃ y x, elems[i]? = some y ∧ rep e (zkJ W) (piece cs.toList (off + i * tsz e) (tsz e)) x ∧ dsz e x ≤ Rows.uptoBulk y.1 ∧ off + (i + 1) * tsz e ≤ cs.toList.length := fun i hi => by
   have hg := hget i hi
   obtain ⟨y, hy⟩ : ∃ y, elems[i]? = some y := ⟨_, List.getElem?_eq_getElem (by omega)⟩
   rw [hy] at hg
   obtain ⟨us, hus, hg⟩ := Option.bind_eq_some_iff.1 hg
   obtain ⟨_, hul, huc⟩ := World.cells?_some hus
   obtain ⟨x, hx, hdx⟩ := hq m us y.1 y.2 hg
   rw [hc, ad] at huc
   rw [hc] at hul
   have hcell : ∀ j, j < tsz e → cs.toList[off + i * tsz e + j]? = us[j]? := fun j hj => by
    have := huc j hj
    rw [show (⟨blk, off + i * tsz e, none⟩ : Addr).add j = ⟨blk, off + i * tsz e + j, none⟩ by simp [Addr.add]] at this
    simp only [World.cell?, hb, Option.isSome_none, if_neg (show ¬ (false = true) by decide)] at this
    simpa using this
   have hlen : off + (i + 1) * tsz e ≤ cs.toList.length := by
    have h1 := hcell (tsz e - 1) (by omega)
    rw [List.getElem?_eq_getElem (by omega : tsz e - 1 < us.length)] at h1
    have := (List.getElem?_eq_some_iff.1 h1).1
    rw [Nat.add_mul]; omega
   refine ⟨y, x, hy, ?_, hdx, hlen⟩
   have : piece cs.toList (off + i * tsz e) (tsz e) = us := by
    apply List.ext_getElem?
    intro j
    rw [zaF, List.getElem?_take]
    by_cases hj : j < tsz e
    ·rw [if_pos hj, List.getElem?_drop]; exact hcell j hj
    ·rw [if_neg hj, List.getElem?_eq_none (by omega)]
   rw [this]; exact hx
  have key : ∀ k, k ≤ len → ∃ xs : List (den e), xs.length = k ∧ @RL (den e) (rpD e) (zkJ W) (piece cs.toList off (k * tsz e)) xs ∧ (List.map (dsz e) xs).sum ≤ Rows.uptoBulkAll ((elems.take k).map (·.1)) := by
   intro k
   induction k with
   | zero => intro _; exact ⟨[], rfl, by simp [piece, RL], Nat.zero_le _⟩
   | succ k ih =>
    intro hk
    obtain ⟨xs, h1, h2, h3⟩ := ih (by omega)
    obtain ⟨y, x, g1, g2, g3, _⟩ := each k (by omega)
    refine ⟨xs ++ [x], by simp [h1], ?_, ?_⟩
    ·have e2 : piece cs.toList off ((k + 1) * tsz e) = piece cs.toList off (k * tsz e) ++ piece cs.toList (off + k * tsz e) (tsz e) := by
      rw [zaF, zaF, zaF, Nat.add_mul, Nat.one_mul, List.take_add, List.drop_drop]
     rw [e2]
     exact yoB h2 g2
    ·rw [List.take_add_one, g1]
     simp only [Option.toList_some, List.map_append, List.map_cons, List.map_nil, List.sum_append, List.sum_cons, List.sum_nil, yiZ, Rows.uptoBulkAll]
     omega
  obtain ⟨xs, h1, h2, h3⟩ := key len (Nat.le_refl _)
  have hfit : off + len * tsz e ≤ cs.toList.length := by
   rcases Nat.eq_zero_or_pos len with h0 | h0
   ·subst h0; rw [Array.length_toList]; omega
   ·obtain ⟨_, _, _, _, _, h4⟩ := each (len - 1) (by omega)
    rwa [Nat.sub_add_cancel h0] at h4
  refine ⟨xs, ⟨_, rfl, piece cs.toList off (len * tsz e), ?_, h2⟩, ?_⟩
  ·right
   refine ⟨blk, off, cap, cs.toList, R, fz, ?_, by rw [h1]; exact hlc, by simpa [zkJ] using hb, ?_, ?_⟩
   ·rw [h1]
   ·rw [h1]; show _ + _ * (rpD e).sz ≤ _; rw [zhC]; exact hfit
   ·rw [h1]; show piece _ _ (_ * (rpD e).sz) = _; rw [zhC]
  ·rw [List.take_of_length_le (by omega)] at h3
   show (List.map (dsz e) xs).sum + 1 ≤ _
   simp only [Rows.uptoBulk]
   omega
theorem zzQ : ∀ (n : Nat) (T : TypeId) (t : Ty), tyOk P n T t = true → ∀ (fuel : Nat) (cs : LV) (d : DataW H) (ps : List MemPlace), DataW.trod enc P W 0 (fun _ => true) true fuel T cs = some (d, ps) → ∃ x : den t, rep t (zkJ W) cs x ∧ dsz t x ≤ Rows.uptoBulk d
 | 0, _, _, h, _, _, _, _, _ => by cases h
 | n + 1, T, t, h, fuel, cs, d, ps, hd => by
  unfold tyOk at h
  split at h
  ·rename_i k k' hu
   obtain ⟨hk, _⟩ := Option.isSome_iff_exists.1 h
   obtain rfl := hk.down
   obtain ⟨m, rfl, he, hw⟩ := DataW.trod_int hu hd
   cases he
   exact ⟨ofI _ m, (by show [Value.int _ m] = [.int _ (toI _ (ofI _ m))]; rw [xdC hw]), Nat.le_refl 1⟩
  ·rename_i hu
   obtain ⟨b, rfl, he⟩ := DataW.trod_bool hu hd
   cases he
   exact ⟨b, rfl, Nat.le_refl 1⟩
  ·rename_i hu
   obtain ⟨s, rfl, he, _⟩ := DataW.trod_string hu hd
   cases he
   exact ⟨s.data.toList, (by show [Value.string s] = [str s.data.toList]; simp [str]), Nat.le_refl _⟩
  ·rename_i E e hu
   rw [Bool.and_eq_true, Bool.and_eq_true] at h
   obtain ⟨h1, h2, h3⟩ := h
   exact xeY hu (Nat.eq_of_beq_eq_true h2) (by rw [zfY] at h3; simpa using h3) (fun m cs d ps hd => zzQ n E e h1 m cs d ps hd) hd
  ·rename_i fs hu
   rw [Bool.and_eq_true, Bool.and_eq_true] at h
   obtain ⟨⟨h1, _⟩, h2⟩ := h
   have h1 := Nat.eq_of_beq_eq_true h1
   obtain ⟨xs, fuel, rfl, he, hl, hxl, hm⟩ := DataW.trod_struct hu hd
   cases he
   obtain ⟨x, hx, hb⟩ := ydF (S := zkJ W) (fuel := fuel) (fun T' t' hq cs d ps => zzQ n T' t' hq fuel cs d ps) fs.toList 0 _ xs h2 (by rw [hl, h1]; omega) (yvC (by simp [hxl]) fun i f y hf hy => (hm i f (by simpa using hf)).trans hy)
   exact ⟨x, by simpa using hx, by simp only [Rows.uptoBulk]; omega⟩
  ·cases h
variable {b0 : Nat} {T E : TypeId} {v : Value}
theorem ytD {n : Nat} {e : Ty} (hu : P.underlying T = some (.slice E)) (he : tyOk P n E e = true) (hc : P.cellsOf E = tsz e) (hz : 0 < tsz e) (h : Value.okWide P W .any b0 T v) {d : DataW H} {ps : List MemPlace} (hd : DataW.Trod enc P W 0 (fun _ => true) true T v d ps) :
  ∃ xs : List (den e), @RdS (den e) (rpD e) (zkJ W) v xs ∧ dsz (.sl e) xs ≤ Rows.uptoBulk d := by
 obtain ⟨fuel, hf⟩ := hd
 have hv := ok_slice hu h
 have hcells : v.cells.toList = [v] := by
  rcases hv with rfl | ⟨a, len, cap, rfl⟩ <;> rfl
 rw [hcells] at hf
 rcases DataW.trod_slice hu hf with ⟨h1, h2⟩ | ⟨a, len, cap, elems, rest, m, rfl, h1, h2, _, hlc, _, hel, hget, _, _⟩
 ·simp only [List.cons.injEq, and_true] at h1
  subst h1
  cases h2
  exact ⟨[], ⟨[], .inl ⟨⟨none, rfl⟩, rfl, rfl⟩, rfl⟩, Nat.le_refl _⟩
 ·simp only [List.cons.injEq, and_true] at h1
  subst h1
  cases h2
  obtain ⟨hsp, cs, R, fz, hb, ho⟩ := ytY hu h
  obtain ⟨blk, off, spot⟩ := a
  dsimp only at hsp hb ho
  subst hsp
  have ad : ∀ j, (⟨blk, off, none⟩ : Addr).add j = ⟨blk, off + j, none⟩ := fun j => by simp [Addr.add]
  have each : ∀ i, i < len → ∃ y x, elems[i]? = some y ∧ rep e (zkJ W) (piece cs.toList (off + i * tsz e) (tsz e)) x ∧ dsz e x ≤ Rows.uptoBulk y.1 ∧ off + (i + 1) * tsz e ≤ cs.toList.length := fun i hi => by
   have hg := hget i hi
   obtain ⟨y, hy⟩ : ∃ y, elems[i]? = some y := ⟨_, List.getElem?_eq_getElem (by omega)⟩
   rw [hy] at hg
   obtain ⟨us, hus, hg⟩ := Option.bind_eq_some_iff.1 hg
   obtain ⟨_, hul, huc⟩ := World.cells?_some hus
   obtain ⟨x, hx, hdx⟩ := zzQ n E e he m us y.1 y.2 hg
   rw [hc, ad] at huc
   rw [hc] at hul
   have hcell : ∀ j, j < tsz e → cs.toList[off + i * tsz e + j]? = us[j]? := fun j hj => by
    have := huc j hj
    rw [show (⟨blk, off + i * tsz e, none⟩ : Addr).add j = ⟨blk, off + i * tsz e + j, none⟩ by simp [Addr.add]] at this
    simp only [World.cell?, hb, Option.isSome_none, if_neg (show ¬ (false = true) by decide)] at this
    simpa using this
   have hlen : off + (i + 1) * tsz e ≤ cs.toList.length := by
    have h1 := hcell (tsz e - 1) (by omega)
    rw [List.getElem?_eq_getElem (by omega : tsz e - 1 < us.length)] at h1
    have := (List.getElem?_eq_some_iff.1 h1).1
    rw [Nat.add_mul]; omega
   refine ⟨y, x, hy, ?_, hdx, hlen⟩
   have : piece cs.toList (off + i * tsz e) (tsz e) = us := by
    apply List.ext_getElem?
    intro j
    rw [zaF, List.getElem?_take]
    by_cases hj : j < tsz e
    ·rw [if_pos hj, List.getElem?_drop]; exact hcell j hj
    ·rw [if_neg hj, List.getElem?_eq_none (by omega)]
   rw [this]; exact hx
  have key : ∀ k, k ≤ len → ∃ xs : List (den e), xs.length = k ∧ @RL (den e) (rpD e) (zkJ W) (piece cs.toList off (k * tsz e)) xs ∧ (List.map (dsz e) xs).sum ≤ Rows.uptoBulkAll ((elems.take k).map (·.1)) := by
   intro k
   induction k with
   | zero => intro _; exact ⟨[], rfl, by simp [piece, RL], Nat.zero_le _⟩
   | succ k ih =>
    intro hk
    obtain ⟨xs, h1, h2, h3⟩ := ih (by omega)
    obtain ⟨y, x, g1, g2, g3, _⟩ := each k (by omega)
    refine ⟨xs ++ [x], by simp [h1], ?_, ?_⟩
    ·have e2 : piece cs.toList off ((k + 1) * tsz e) = piece cs.toList off (k * tsz e) ++ piece cs.toList (off + k * tsz e) (tsz e) := by
      rw [zaF, zaF, zaF, Nat.add_mul, Nat.one_mul, List.take_add, List.drop_drop]
     rw [e2]
     exact yoB h2 g2
    ·rw [List.take_add_one, g1]
     simp only [Option.toList_some, List.map_append, List.map_cons, List.map_nil, List.sum_append, List.sum_cons, List.sum_nil, yiZ, Rows.uptoBulkAll]
     omega
  obtain ⟨xs, h1, h2, h3⟩ := key len (Nat.le_refl _)
  have hfit : off + len * tsz e ≤ cs.toList.length := by
   rcases Nat.eq_zero_or_pos len with h0 | h0
   ·subst h0; rw [Array.length_toList]; omega
   ·obtain ⟨_, _, _, _, _, h4⟩ := each (len - 1) (by omega)
    rwa [Nat.sub_add_cancel h0] at h4
  refine ⟨xs, ⟨piece cs.toList off (len * tsz e), ?_, h2⟩, ?_⟩
  ·right
   refine ⟨blk, off, cap, cs.toList, R, fz, ?_, by rw [h1]; exact hlc, by simpa [zkJ] using hb, ?_, ?_⟩
   ·rw [h1]
   ·rw [h1]; show _ + _ * (rpD e).sz ≤ _; rw [zhC]; exact hfit
   ·rw [h1]; show piece _ _ (_ * (rpD e).sz) = _; rw [zhC]
  ·rw [List.take_of_length_le (by omega)] at h3
   show (List.map (dsz e) xs).sum + 1 ≤ _
   simp only [Rows.uptoBulk]
   omega
def xcQ (P : Program) (T : TypeId) (t : Ty) : Bool := match P.underlying T, t with
 | some (.slice E), .sl e => tyOk P 8 E e && (Nat.beq (P.cellsOf E) (tsz e) && Nat.blt 0 (tsz e))
 | _, t => tyOk P 8 T t
theorem argD_ok {t : Ty} (ha : xcQ P T t = true) (h : Value.okWide P W .any b0 T v) {d : DataW H} {ps : List MemPlace} (hd : DataW.Trod enc P W 0 (fun _ => true) true T v d ps) :
  ∃ x : den t, rep1 t (zkJ W) v x ∧ dsz t x ≤ Rows.uptoBulk d := by
 unfold xcQ at ha
 split at ha
 ·rename_i E e hu
  rw [Bool.and_eq_true, Bool.and_eq_true] at ha
  obtain ⟨h1, h2, h3⟩ := ha
  obtain ⟨xs, g1, g2⟩ := ytD hu h1 (Nat.eq_of_beq_eq_true h2) (by rw [zfY] at h3; simpa using h3) h hd
  exact ⟨xs, ⟨v, rfl, g1⟩, g2⟩
 ·obtain ⟨fuel, hf⟩ := hd
  obtain ⟨x, hx, hb⟩ := zzQ 8 T _ ha fuel _ _ _ hf
  refine ⟨x, ?_, hb⟩
  unfold rep1
  unfold tyOk at ha
  split at ha
  ·rename_i hu
   have hv : v.cells.toList = [v] := by
    simp only [Value.okWide, hu, Cell.okWide, Cell.ok] at h
    cases v <;> simp_all <;> rfl
   rw [hv] at hx
   rw [if_pos (show one (.i _) = true from rfl)]; exact hx
  ·rename_i hu
   have hv : v.cells.toList = [v] := by
    simp only [Value.okWide, hu, Cell.okWide, Cell.ok] at h
    cases v <;> simp_all <;> rfl
   rw [hv] at hx
   rw [if_pos (show one .b = true from rfl)]; exact hx
  ·rename_i hu
   have hv : v.cells.toList = [v] := by
    simp only [Value.okWide, hu, Cell.okWide, Cell.ok] at h
    cases v <;> simp_all <;> rfl
   rw [hv] at hx
   rw [if_pos (show one .s = true from rfl)]; exact hx
  ·rename_i hu hno
   exact (hno _ _ hu rfl).elim
  ·rename_i fs hu _
   rw [Bool.and_eq_true, Bool.and_eq_true] at ha
   simp only [Value.okWide, hu] at h
   obtain ⟨cs, rfl, _, _⟩ := h
   rw [if_neg (by simpa using ha.1.2)]
   exact ⟨cs.toList, by simp, hx⟩
  ·cases ha
def posT : Ty → Bool
 | .un => false
 | .pr a c => posT a || posT c
 | _ => true
theorem ygI : ∀ {e : Ty}, posT e = true → ∀ x : den e, 1 ≤ dsz e x
 | .i _, _, _ => Nat.le_refl 1
 | .b, _, _ => Nat.le_refl 1
 | .s, _, _ => Nat.le_add_left 1 _
 | .er, _, _ => Nat.le_refl 1
 | .sl _, _, _ => Nat.le_add_left 1 _
 | .mp _ _, _, _ => Nat.le_refl 1
 | .pr a c, h, x => by
  show 1 ≤ dsz a x.1 + dsz c x.2
  have h : (posT a || posT c) = true := h
  rw [Bool.or_eq_true] at h
  rcases h with h | h
  ·have := ygI h x.1; omega
  ·have := ygI h x.2; omega
theorem ynR {e : Ty} (he : posT e = true) : ∀ xs : List (den e), xs.length + 1 ≤ dsz (.sl e) xs
 | [] => Nat.le_refl 1
 | x :: xs => by
  have h1 := ygI he x
  have h2 : xs.length + 1 ≤ (List.map (dsz e) xs).sum + 1 := ynR he xs
  show (x :: xs).length + 1 ≤ (List.map (dsz e) (x :: xs)).sum + 1
  simp only [List.length_cons, List.map_cons, List.sum_cons]
  omega
theorem xfN {t : Ty} {S : Mem} {E : List EI} {v : Value} {x : den t} (h : rep1 t S v x) : VR S E (svOf t x) v := ymJ (l := [t]) h
end
end Go.Proofs.YtmkomlbiaebddaaGreatDoor.Am
namespace Go.Proofs.YtmkomlbiaebddaaGreatDoor.Am
open Go Go.RowKit
abbrev KeyT : Type := Bs × Bs × Bs × Int
abbrev CrT : Type := Bs × Bs × Bs × Bs × Int × Int × Int × List KeyT
theorem yxL (n a b : Int) : zeN zaB n a b = some (decide (a ≤ n) && decide (n ≤ b)) := by
 unfold zeN
 by_cases h : n ≥ a
 ·rw [zaY h]; simp [show a ≤ n from h]
 ·rw [zbE h]; simp [show ¬ a ≤ n from h]
theorem yoV (u : Nat) (hu : u < 1000000000000000) : zeJ zaB (Lib.decDigits u) = some (.inr ()) := by
 have hl := zkW 15 u (by decide) hu
 have ht : zaB.trim (Lib.decDigits u) tenL = some [] := yeD u hu
 unfold zeJ
 by_cases h0 : u = 0
 ·subst h0
  rw [show Lib.decDigits 0 = [48] by rw [zjE]; rfl] at ht ⊢
  rw [show zaB.trim ([48] : Bs) ([48, 49, 50, 51, 52, 53, 54, 55, 56, 57] : Bs) = some [] from ht]
  rfl
 ·obtain ⟨b, l, h1, h2⟩ := ydS u h0
  rw [h1] at hl ht ⊢
  rw [show ((b :: l : Bs) == []) = false from rfl]
  simp only [cond_false]
  rw [zbE (by simp only [List.length_cons] at hl ⊢; omega), show idx (b :: l) 0 = some b from rfl, zaA]
  have : ((b.toNat : Int) == ((48 : UInt8).toNat : Int)) = false := beq_eq_false_iff_ne.2 fun e => h2 (UInt8.toNat_inj.1 (by exact_mod_cast e))
  rw [this]
  simp only [cond_false]
  rw [show zaB.trim (b :: l) ([48, 49, 50, 51, 52, 53, 54, 55, 56, 57] : Bs) = some [] from ht, zaA]
  rfl
theorem ylV (u : Nat) (hu : u < 1000000000000000) : zeB zaB (Lib.decDigits u) = some ((u : Int), true) := by
 unfold zeB
 rw [yoV u hu, zaA]
 simp only []
 rw [show zaB.atoi (Lib.decDigits u) = some ((u : Int), false) from zvX u hu, zaA]
 rfl
theorem zyF (u : Nat) (hu : u < 1000000000000000) : zfH zaB (Lib.decDigits u) = some (.inr ()) := by
 have hl := zkW 15 u (by decide) hu
 have ht : zaB.trim (Lib.decDigits u) tenL = some [] := yeD u hu
 unfold zfH
 by_cases h0 : u = 0
 ·subst h0
  rw [show Lib.decDigits 0 = [48] by rw [zjE]; rfl] at ht ⊢
  rw [show zaB.trim ([48] : Bs) ([48, 49, 50, 51, 52, 53, 54, 55, 56, 57] : Bs) = some [] from ht]
  rfl
 ·obtain ⟨b, l, h1, h2⟩ := ydS u h0
  rw [h1] at hl ht ⊢
  rw [show ((b :: l : Bs) == []) = false from rfl]
  simp only [cond_false]
  rw [zbE (by simp only [List.length_cons] at hl ⊢; omega), show idx (b :: l) 0 = some b from rfl, zaA]
  have : ((b.toNat : Int) == ((48 : UInt8).toNat : Int)) = false := beq_eq_false_iff_ne.2 fun e => h2 (UInt8.toNat_inj.1 (by exact_mod_cast e))
  rw [this]
  simp only [cond_false]
  rw [show zaB.trim (b :: l) ([48, 49, 50, 51, 52, 53, 54, 55, 56, 57] : Bs) = some [] from ht, zaA]
  rfl
theorem yjP (u : Nat) (hu : u < 1000000000000000) (most : Int) (hm : (u : Int) ≤ most) : zbD zaB (Lib.decDigits u) most = some (u : Int) := by
 unfold zbD
 rw [zyF u hu, zaA]
 simp only []
 rw [show zaB.atoi (Lib.decDigits u) = some ((u : Int), false) from zvX u hu, zaA, zbE (by simp only []; omega)]
theorem zvA : ∀ (a b : List Bs), zfW (a ++ b) = zfW a ++ zfW b
 | [], _ => rfl
 | t :: a, b => by
  show Lib.decDigits t.length ++ 58 :: (t ++ zfW (a ++ b)) = (Lib.decDigits t.length ++ 58 :: (t ++ zfW a)) ++ zfW b
  rw [zvA a b]; simp
theorem yzM (ts : List Bs) (hl : (zfW ts).length < 4294967281) (hn : ts.length < 1099511627776) : zfM ts = some (zfW ts) := by
 have key : ∀ (k : Nat), (zfW (ts.take k)).length ≤ (zfW ts).length := fun k => by
  have := zvA (ts.take k) (ts.drop k)
  rw [List.take_append_drop] at this
  rw [this, List.length_append]; omega
 have h : iter (zeO ts) ((((0 : Nat) : Int)), zfW (ts.take 0)) = some (zfW ts) := by
  refine zbS (fun k => ((k : Int), zfW (ts.take k))) ts.length hn (zfW ts) (fun k hk => ?_) ?_
  ·have ht : ts.take (k + 1) = ts.take k ++ [ts[k]] := by rw [List.take_succ_eq_append_getElem hk]
   have e : zfW (ts.take (k + 1)) = zfW (ts.take k) ++ (Lib.decDigits ts[k].length ++ 58 :: ts[k]) := by
    rw [ht, zvA]; simp [zfW]
   have h1 := key (k + 1)
   rw [e] at h1
   simp only [List.length_append, List.length_cons] at h1
   unfold zeO
   simp only []
   rw [zaY (by omega), zdC rfl hk, zaA, zvT _ (by omega), zaA, zdO (by simp only [List.length_cons, List.length_nil]; omega), zaA, zdO (by simp only [List.length_append, List.length_cons, List.length_nil]; omega), zaA]
   unfold zdF
   rw [show zgC (zfW (ts.take k)) = some _ from rfl, zaA, zdO (by simp only [List.length_append, List.length_cons, List.length_nil]; omega), zaA, zaA, zcP (by omega) (by omega), e]
   simp
  ·unfold zeO
   simp only []
   rw [zbE (by omega), List.take_length]
 unfold zfM
 have h : iter (zeO ts) ((0 : Int), ([] : Bs)) = some (zfW ts) := h
 rw [h, zaA, zaA, zrY (decide_eq_true (by omega)), zaA]
section
variable {γ : Type}
def yuA (es : List (Bs × γ)) : Prop := es.Pairwise fun x y => x.1 < y.1
theorem zzR {a b : Bs} : keqS a b = true ↔ a = b := by unfold keqS; exact beq_iff_eq
theorem xcJ {a b : Bs} (h : a ≠ b) : keqS a b = false := by
 cases hb : keqS a b with
 | false => rfl
 | true => exact absurd (zzR.1 hb) h
theorem zzU {a b : Bs} : kltS a b = true ↔ a < b := by unfold kltS; rw [bytesLess_eq, decide_eq_true_eq]
theorem ygS : ∀ {es : List (Bs × γ)}, yuA es → ∀ {k v}, (k, v) ∈ es → mget keqS es k = some v
 | (k', v') :: m, h, k, v, hm => by
  unfold mget
  rcases List.mem_cons.1 hm with e | hm
  ·cases e
   rw [zzR.2 rfl]; rfl
  ·have hlt := (List.pairwise_cons.1 h).1 _ hm
   have : k' ≠ k := fun e => by subst e; exact absurd hlt (List.lt_irrefl _)
   rw [xcJ this]
   exact ygS (List.pairwise_cons.1 h).2 hm
theorem yiF : ∀ {es : List (Bs × γ)} {k}, mhas keqS es k = true ↔ ∃ v, (k, v) ∈ es
 | [], k => by simp [mhas]
 | (k', v') :: m, k => by
  unfold mhas
  rw [Bool.or_eq_true, zzR, yiF (es := m)]
  constructor
  ·rintro (rfl | ⟨v, hv⟩)
   ·exact ⟨v', List.mem_cons_self⟩
   ·exact ⟨v, List.mem_cons_of_mem _ hv⟩
  ·rintro ⟨v, hv⟩
   rcases List.mem_cons.1 hv with e | hv
   ·cases e; exact .inl rfl
   ·exact .inr ⟨v, hv⟩
theorem xcX {a b : Bs} (h : ¬ a < b) (hn : a ≠ b) : b < a :=
 Classical.byContradiction fun h2 => hn (List.le_antisymm (List.not_lt.1 h2) (List.not_lt.1 h))
theorem ymL {es : List (Bs × γ)} {k : Bs} {v : γ} (h : ∀ p ∈ es, p.1 < k) : mset keqS kltS es k v = es ++ [(k, v)] := by
 have hn : mhas keqS es k = false := by
  cases hk : mhas keqS es k with
  | false => rfl
  | true =>
   obtain ⟨v', hv⟩ := yiF.1 hk
   exact absurd (h _ hv) (List.lt_irrefl _)
 unfold mset
 rw [hn]
 simp only [cond_false]
 clear hn
 induction es with
 | nil => rfl
 | cons p m ih =>
  obtain ⟨k', v'⟩ := p
  have h1 : kltS k' k = true := zzU.2 (h _ List.mem_cons_self)
  unfold mins
  rw [h1]
  simp only [cond_true, List.cons_append, ih fun p hp => h p (List.mem_cons_of_mem _ hp)]
end
end Go.Proofs.YtmkomlbiaebddaaGreatDoor.Am
