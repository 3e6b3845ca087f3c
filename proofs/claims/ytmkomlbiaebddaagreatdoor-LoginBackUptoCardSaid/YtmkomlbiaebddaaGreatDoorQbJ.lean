/- A machine over plain values: contracts of package hash and of people.Form. What some functions compute, over plain values, and that they do. Package otp: the steps of a window, one behind the other, as an iterator hands them on. Package otp: the code of a step is there; the last step of a window that has a code. Package otp: Find, by the kit's law of a range over a function. What is left open: operations that laws speak of. Conditions: none; definitions, and that they are there. A machine over plain values: library functions told by hand. A machine over plain values: slices.Sorted of maps.Keys. DERIVED: THE SHELF's CONTRACTS AT THIS DUMP, IN PLAIN WORDS (tools/lay-plain.mjs out of 'TryzSrtl.lean', which tools/lay-shelf.mjs wrote): THE SAME DECLARATIONS UNDER THE SAME NAMES: 'import', 'namespace', 'open', 'def', 'theorem' AND NOTHING ELSE: no command of the shelf's: FOR A HAND-IN. Each laying: the table of numbers ('.._ren') and one theorem, a field a fact of the dump's own or the kernel's comparison; each contract: ONE APPLICATION. slices.Sorted of maps.Keys at this program: the kit's contracts laid. Conditions: as each theorem says. -/
import Derived.KernelRfl
import Derived.RangeFuncNested
import Derived.RangeFuncBound
import Derived.RangeFuncCalls
import Derived.RangeFuncLeaves
import Derived.Shelf.Abstract
import Derived.Shelf.RegionOpen
import Derived.WalkKit
import Derived.OwnWalkIn
import Derived.TacticsInMore
import Derived.LoopNIn
import Derived.LoopIn
import Derived.Test.YtmkomlbiaebddaaGreatDoorProg
import Derived.Sort.KeysCollected
import Derived.Sort.Walk0
import Derived.Shelf.SlIter.Nil
import Derived.Shelf.SortM.Plain
import Derived.Shelf.SortM.SortNone
import Derived.Ground.GgzProg
import Derived.Ground.SlgmProg
import Derived.Test.YtmkomlbiaebddaaGreatDoorQbI
namespace Go.Proofs.YtmkomlbiaebddaaGreatDoor.Am
open Go Go.RowKit
section
variable {G : List (Nat × Obj)}
def macP (key s : Bs) : Option Bs := bif decide (key.length ≤ 68719470000) && decide (s.length ≤ 68719460000) then some (macF key s) else none
def zvT : PC := ⟨[.h .s, .h .s], [.s], fun x => macP x.1 x.2, false⟩
theorem yaD : PCok Tryz.prog G 53 zvT := pc2 (t1 := .s) (t2 := .s) (rts := [.s]) rfl rfl rfl (isFn Tryz.func53 (by kernel_rfl) (by kernel_rfl)) fun _ _ x1 x2 y _ hS h => by
 unfold macP at h
 obtain ⟨hb, h⟩ := zaG h
 simp only [Bool.and_eq_true, decide_eq_true_eq] at hb
 cases h
 exact yqO hS (xdU hb.1 hb.2)
def yrS (x y : Bs) : Option Bool := bif decide (x.length ≤ 68719476736) && decide (y.length ≤ 68719476736) then some (x == y) else none
def yjG : PC := ⟨[.h .s, .h .s], [.b], fun x => yrS x.1 x.2, false⟩
theorem yjJ : PCok Tryz.prog G 49 yjG := pc2 (t1 := .s) (t2 := .s) (rts := [.b]) rfl rfl rfl (isFn Tryz.func49 (by kernel_rfl) (by kernel_rfl)) fun _ _ x1 x2 y _ hS h => by
 unfold yrS at h
 obtain ⟨hb, h⟩ := zaG h
 simp only [Bool.and_eq_true, decide_eq_true_eq] at hb
 cases h
 exact ybS hS (yoO hb.1 hb.2)
def ydB : PC := ⟨[.h (.sl .s)], [.s], ziW, false⟩
theorem ydC [zqO G] : PCok Tryz.prog G 40 ydB := by
 refine ⟨isFn Tryz.func40 (by kernel_rfl) (by kernel_rfl), fun S0 w0 us (x : List Bs) (y : Bs) hG hS ha hy => ?_⟩
 have ha : A2 (VR S0 []) [svOf (.sl .s) x] us := ha
 cases ha with
 | cons q1 q2 =>
  cases q2
  rename_i u
  have q1 : rep (.sl .s) S0 [u] x := q1
  obtain ⟨u', hu, hr⟩ := q1
  cases hu
  exact (yfH hS (zqO.gv S0 hG) hr hy).mono fun e w' ⟨he, hx⟩ => ⟨hx, _, he, zwD (l := [.s]) rfl, fun h => by cases h⟩
end
def τWkC : TE := [(3, ⟨.int .i64, 1, [.v (.i .i64) (show Int from 0)], (.i .i64), 8⟩),
 (5, ⟨.int .u8, 1, [.v (.i .u8) (show UInt8 from 0)], (.i .u8), 1⟩),
 (9, ⟨.s, 1, [.v .s (show Bs from [])], .s, 16⟩),
 (100, ⟨.sl 5, 1, [.nils], (.sl (.i .u8)), 24⟩),
 (102, ⟨.int .u64, 1, [.v (.i .u64) (show UInt64 from 0)], (.i .u64), 8⟩),
 (133, ⟨.int .u32, 1, [.v (.i .u32) (show UInt32 from 0)], (.i .u32), 4⟩)]
theorem τ_okWkC : TEok Tryz.prog τWkC := yrR (by kernel_rfl) (by kernel_rfl)
theorem yhZ : Tryz.prog.follows .mixedOrders = true := by kernel_rfl
section
variable {tabs : List (Nat × Obj)} [zqO tabs]
def zxU (v0 : UInt64) (v2 : Int) (v3 : Bs) : Option ((Int × Bs) ⊕ Bs) :=
 bif decide (v2 ≥ 0) then ((chk (decide ((0 : Int) ≤ w64 ((8 : Int) * v2)))).bind fun _ => let v4 : UInt8 := i8 ((i64 (shrI .u64 (v0.toNat : Int) (w64 ((8 : Int) * v2)))).toNat : Int)
 (app v3 ([v4] : Bs)).bind fun v5 => some (.inl (w64 (v2 - 1), v5))) else some (.inr v3)
def zwK (v0 : UInt64) (v1 : Int) : Option Bs :=
 (iter (fun x => zxU v0 x.1 x.2) (w64 (v1 - 1), ([] : Bs))).bind fun v6 => some v6
def ydN : SC := ⟨⟨[(0, .nils), (1, (.h (.i .u64))), (2, hI)], []⟩, 1, [(none, ⟨[(0, (.own 0))], [.osl (.i .u8) 5]⟩)], fun x => zwK x.1 x.2⟩
theorem ypN : SCok Tryz.prog tabs 54 ydN := wit (G := tabs) <| ywV (η := [(200002, .loop [.sl 0 (.i .u8) 5] ⟨[(0, (.own 0)), (7, hI)], [.osl (.i .u8) 5]⟩ [1, 6] [(some 0, ⟨[(0, (.own 0))], [.osl (.i .u8) 5]⟩)])]) (Γ := ⟨[], [], false⟩) yhZ τ_okWkC (ctok trivial trivial) Tryz.func54 (isFn Tryz.func54) (by kernel_rfl) (by kernel_rfl) (by kernel_rfl)
def ztU (v0 : Bs) (v1 : UInt64) (v2 : Int) : Option ((UInt64 × Int) ⊕ UInt64) :=
 bif decide (v2 < (v0.length : Int)) then ((chk (decide ((0 : Int) ≤ ((8 : UInt64).toNat : Int)))).bind fun _ => (idx v0 v2).bind fun v3 => let v4 : UInt64 := (i64 (shlI .u64 (v1.toNat : Int) ((8 : UInt64).toNat : Int))) ||| (i64 (v3.toNat : Int))
 some (.inl (v4, w64 (v2 + 1)))) else some (.inr v1)
def zsC (v0 : Bs) : Option (UInt64) :=
 (iter (fun x => ztU v0 x.1 x.2) ((0 : UInt64), (0 : Int))).bind fun v5 => some v5
def zyU : PC := ⟨[hS], [(.i .u64)], fun x => zsC x, false⟩
theorem yhP : PCok Tryz.prog tabs 55 zyU := wit (G := tabs) <| ylB (η := [(200003, .loop [] ⟨[(3, (.h (.i .u64))), (7, hI)], []⟩ [0, 2, 6] [(some 0, ⟨[(3, (.h (.i .u64)))], []⟩)])]) (Γ := ⟨[], [], false⟩) yhZ τ_okWkC (ctok trivial trivial) Tryz.func55 (isFn Tryz.func55) (by kernel_rfl) rfl (by kernel_rfl)
def zkE (v0 : Bs) (v1 : Int) : Option Bs :=
 (zwK (i64 v1) (8 : Int)).bind fun v2 => (macP v0 v2).bind fun v3 => (idx v3 (31 : Int)).bind fun v4 => let v5 : UInt8 := i8 (((v4 &&& (15 : UInt8)).toNat : Int) + ((4 : UInt8).toNat : Int))
 (sub3 v3 ((v4 &&& (15 : UInt8)).toNat : Int) (v5.toNat : Int)).bind fun v6 => (zsC v6).bind fun v7 => (chk (decide ((0 : Int) < ((1000000 : UInt64).toNat : Int)))).bind fun _ => let v8 : UInt64 := i64 (Int.tmod ((v7 &&& (2147483647 : UInt64)).toNat : Int) ((1000000 : UInt64).toNat : Int))
 (ycV (w64 ((w64 (v8.toNat : Int)) + 1000000))).bind fun v9 => (subL v9 (1 : Int)).bind fun v10 => some v10
def ymN : PC := ⟨[hS, hI], [.s], fun x => zkE x.1 x.2, false⟩
theorem yaH : PCok Tryz.prog tabs 23 ymN := wit (G := tabs) <| ylB (η := []) (Γ := ⟨[(53, zvT), (55, zyU), (39, ztN)], [(54, ydN)], false⟩) yhZ τ_okWkC (ctok ⟨yaD, ⟨yhP, ⟨zuG, trivial⟩⟩⟩ ⟨ypN, trivial⟩) Tryz.func23 (isFn Tryz.func23) (by kernel_rfl) rfl (by kernel_rfl)
def zfQ (v0 : UInt64) (v3 : Int) (v4 : Bs) : Option ((Int × Bs) ⊕ Bs) :=
 bif decide (v3 ≥ 0) then ((chk (decide ((0 : Int) ≤ w64 ((8 : Int) * v3)))).bind fun _ => let v5 : UInt8 := i8 ((i64 (shrI .u64 (v0.toNat : Int) (w64 ((8 : Int) * v3)))).toNat : Int)
 (app v4 ([v5] : Bs)).bind fun v6 => some (.inl (w64 (v3 - 1), v6))) else some (.inr v4)
def zuI (v0 : UInt64) (v1 : Int) (v2 : Bs) : Option Bs :=
 (iter (fun x => zfQ v0 x.1 x.2) (w64 (v1 - 1), v2)).bind fun v7 => some v7
def ycJ : SC := ⟨⟨[(0, (.own 0)), (1, (.h (.i .u64))), (2, hI)], [.osl (.i .u8) 5]⟩, 1, [(none, ⟨[(0, (.own 1))], [.dead, .osl (.i .u8) 5]⟩)], fun x => zuI x.1 x.2.1 x.2.2⟩
theorem ymE : SCok Tryz.prog tabs 118 ycJ := wit (G := tabs) <| ywV (η := [(200002, .loop [] ⟨[(0, (.own 1)), (7, hI)], [.dead, .osl (.i .u8) 5]⟩ [1, 6] [(some 0, ⟨[(0, (.own 1))], [.dead, .osl (.i .u8) 5]⟩)])]) (Γ := ⟨[], [], false⟩) yhZ τ_okWkC (ctok trivial trivial) Tryz.func118 (isFn Tryz.func118) (by kernel_rfl) (by kernel_rfl) (by kernel_rfl)
def ybZ (v2 : Int) : Option (Bool) :=
 bif decide (v2 < 1) then some true else some (decide (v2 > 64))
def ztS (v2 : Int) (v3 : Int) : Option ((Bs × Int) ⊕ Unit) :=
 (ybZ v2).bind fun v4 => bif v4 then some (.inl (([] : Bs), (40 : Int))) else (bif decide (v3 < 1) then some (.inl (([] : Bs), (41 : Int))) else (bif decide (v3 > 96) then some (.inl (([] : Bs), (41 : Int))) else some (.inr ())))
def zjQ (v15 : Bs) (v16 : Bs) (v17 : Int) (v18 : Bs) (v19 : Bs) : Option ((Int × Bs × Bs) ⊕ ((Bs × Bs))) :=
 bif decide (v17 < (v15.length : Int)) then ((chk (decide ((0 : Int) ≤ v17) && decide (v17 < (v19.length : Int)))).bind fun _ => (idx v19 v17).bind fun v20 => (idx v16 v17).bind fun v21 => (chk (decide ((0 : Int) ≤ v17) && decide (v17 < (v19.length : Int)))).bind fun _ => (setL v19 v17 (v20 ^^^ v21)).bind fun v22 => some (.inl (w64 (v17 + 1), v18, v22))) else some (.inr (v18, v19))
def zjR (v0 : Bs) (v2 : Int) (v12 : Bs) (v13 : Int) (v14 : Bs) (v15 : Bs) : Option ((Bs × Int × Bs × Bs) ⊕ ((Bs × Bs))) :=
 bif decide (v13 < (w64 (v2 - 1))) then ((macP v0 v12).bind fun v16 => (iter (fun x => zjQ v15 v16 x.1 x.2.1 x.2.2) ((0 : Int), v14, v15)).bind fun v23 => some (.inl (v16, w64 (v13 + 1), v23))) else some (.inr (v14, v15))
def zkI (v0 : Bs) (v1 : Bs) (v2 : Int) (v3 : Int) (v8 : UInt32) (v9 : Bs) : Option ((UInt32 × Bs) ⊕ Bs) :=
 bif decide ((v9.length : Int) < v3) then ((zuI (i64 (v8.toNat : Int)) (4 : Int) v1).bind fun v10 => (macP v0 v10).bind fun v11 => (iter (fun x => zjR v0 v2 x.1 x.2.1 x.2.2.1 x.2.2.2) (v11, (0 : Int), v9, v11)).bind fun v24 => (app v24.1 v24.2).bind fun v25 => some (.inl (i32 ((v8.toNat : Int) + ((1 : UInt32).toNat : Int)), v25))) else some (.inr v9)
def zfR (v0 : Bs) (v1 : Bs) (v2 : Int) (v3 : Int) : Option (Bs × Int) :=
 (ztS v2 v3).bind fun v5 => match v5 with
 | .inl v6 => (some v6)
 | .inr v7 => ((iter (fun x => zkI v0 v1 v2 v3 x.1 x.2) ((1 : UInt32), ([] : Bs))).bind fun v26 => (subH v26 v3).bind fun v27 => some (v27, (0 : Int)))
def ybF : PC := ⟨[hS, hS, hI, hI], [.s, (.i .i64)], fun x => zfR x.1 x.2.1 x.2.2.1 x.2.2.2, false⟩
theorem ycE : PCok Tryz.prog tabs 92 ybF := wit (G := tabs) <| ylB (η := [(2300002, .join [] [0, 1, 2, 3] [(none, ⟨[(15, hB)], []⟩)]),
 (2000005, .join [] [0, 1, 2, 3] [(some 1000000, ⟨[(8, hS), (9, hI)], []⟩), (none, ⟨[], []⟩)]),
 (200015, .loop [] ⟨[(10, (.own 0)), (13, (.own 1)), (54, hI)], [.osl (.i .u8) 5, .osl (.i .u8) 5]⟩ [0, 1, 2, 3, 11, 12, 46, 47, 53] [(some 5, ⟨[(10, (.own 0)), (13, (.own 1))], [.osl (.i .u8) 5, .osl (.i .u8) 5]⟩)]),
 (200012, .loop [] ⟨[(10, (.own 0)), (12, hS), (13, (.own 1)), (47, hI)], [.osl (.i .u8) 5, .osl (.i .u8) 5]⟩ [0, 1, 2, 3, 11, 46] [(some 3, ⟨[(10, (.own 0)), (13, (.own 1))], [.osl (.i .u8) 5, .osl (.i .u8) 5]⟩)]),
 (200007, .loop [.sl 10 (.i .u8) 5] ⟨[(10, (.own 0)), (11, (.h (.i .u32)))], [.osl (.i .u8) 5]⟩ [0, 1, 2, 3] [(some 1, ⟨[(10, (.own 0))], [.osl (.i .u8) 5]⟩)]),
 (4000017, .sch [(.pu, 0, []), (.pu, 1, []), (.pu, 2, []), (.pu, 3, []), (.pu, 4, []), (.pu, 5, []), (.pu, 6, []), (.pu, 7, []), (.pu, 8, []), (.mn, 9, [0, 1])])]) (Γ := ⟨[(53, zvT)], [(118, ycJ)], false⟩) yhZ τ_okWkC (ctok ⟨yaD, trivial⟩ ⟨ymE, trivial⟩) Tryz.func92 (isFn Tryz.func92) (by kernel_rfl) rfl (by kernel_rfl)
end
end Go.Proofs.YtmkomlbiaebddaaGreatDoor.Am
namespace Go.Proofs.YtmkomlbiaebddaaGreatDoor.Fd
open Go Go.Proofs Go.RowKit Go.Shelf
attribute [local go_sem] Oper.semAt_some
def downL : Int → Nat → List Int
 | _, 0 => []
 | hi, n + 1 => hi :: downL (hi - 1) n
def loS (step window : Int) : Int := if step - window < 0 then 0 else step - window
def stepsL (step window : Int) : List Int := bif decide (step < 0) || decide (1099511627776 < step) || decide (window < 0) || decide (10 < window) then [] else downL (step + window) (step + window - loS step window + 1).toNat
theorem stepsL_in {step window : Int} (h1 : ¬ step < 0) (h2 : ¬ 1099511627776 < step) (h3 : ¬ window < 0) (h4 : ¬ 10 < window) : stepsL step window = downL (step + window) (step + window - loS step window + 1).toNat := by
 unfold stepsL
 simp [h1, h2, h3, h4]
theorem yqH {step window : Int} (h : step < 0 ∨ 1099511627776 < step ∨ window < 0 ∨ 10 < window) : stepsL step window = [] := by
 unfold stepsL
 have : (decide (step < 0) || decide (1099511627776 < step) || decide (window < 0) || decide (10 < window)) = true := by simp; omega
 rw [this]; rfl
set_option maxRecDepth 100000 in
set_option maxHeartbeats 2000000 in
theorem ysA (F : Fence) (n : Nat) (hf : F.fn 123) (hro : F.round = none) (hn : 1 ≤ n) (l bs bw n₀ : Nat) (step window : Int) (J Jx : List Int → World → Prop)
  (hY : ∀ pre x W, J pre W → pre.length < (stepsL step window).length → YieldAt F (n - 1) Tryz.prog l #[.int .i64 x] W fun e W' =>
   (e = .returned (.bool true) ∧ J (pre ++ [x]) W' ∧ Below n₀ W W') ∨ (e = .returned (.bool false) ∧ Jx (pre ++ [x]) W'))
  (W : World) (hs0 : bs < n₀) (hw0 : bw < n₀) (hs : W.cell? ⟨bs, 0, none⟩ = some (.int .i64 step)) (hw : W.cell? ⟨bw, 0, none⟩ = some (.int .i64 window)) (h0 : J [] W) :
  CallsIn F n Tryz.prog 123 #[.func (.yield l) #[] #[], .pointer (some ⟨bs, 0, none⟩), .pointer (some ⟨bw, 0, none⟩)] W fun e W' => (∃ v, e = .returned v) ∧
   ((∃ ys, ys = stepsL step window ∧ J ys W') ∨ (∃ pre, pre <+: stepsL step window ∧ Jx pre W')) := by
 refine callsIn_of_wp Tryz.func123 rfl hf ?_ hro
 simp only [Tryz.ntmps123, List.size_toArray, List.length_cons, List.length_nil, Nat.reduceAdd, Nat.reduceSub, Array.replicate_succ, Array.replicate_zero, List.push_toArray, List.append_toArray, List.nil_append, List.cons_append]
 gi_wp2
 all_goals first
  | (refine bodyPost_ret (results_none rfl _ _ _) rfl ?_
     have hnil : stepsL step window = [] := yqH (by omega)
     first
      | exact ⟨⟨_, rfl⟩, .inl ⟨_, rfl, by rw [hnil]; exact h0⟩⟩
      | exact ⟨⟨_, rfl⟩, .inl (by rw [hnil]; exact h0)⟩)
  | skip
 have hin : ¬ step < 0 ∧ ¬ 1099511627776 < step ∧ ¬ window < 0 ∧ ¬ 10 < window := by omega
 have hL := stepsL_in hin.1 hin.2.1 hin.2.2.1 hin.2.2.2
 have hlo : 0 ≤ loS step window ∧ loS step window ≤ step + window ∧ (loS step window = if step - window < 0 then 0 else step - window) := by unfold loS; split <;> omega
 have d1 : decide (step < 0) = false := decide_eq_false hin.1
 have d2 : decide (1099511627776 < step) = false := decide_eq_false hin.2.1
 have d3 : decide (window < 0) = false := decide_eq_false hin.2.2.1
 have d4 : decide (10 < window) = false := decide_eq_false hin.2.2.2
 simp only [d1, d2, d3, d4, Bool.or_false]
 gi_loopw [4] (fun p wr => ∃ (pre : List Int) (s : Int) (c : Nat), p = .int .i64 s ∧ stepsL step window = pre ++ downL s c ∧ s = loS step window + (c : Int) - 1 ∧ s ≤ step + window ∧ J pre wr ∧ Below n₀ W wr)
  (fun p wr => (intOf p - loS step window + 1).toNat)
 case atStart =>
  exact ⟨[], step + window, _, rfl, hL, by omega, Int.le_refl _, h0, Below.refl _ _⟩
 case round =>
  obtain ⟨pre, s, c, rfl, hx, hsc, hsh, hJs, hbel⟩ := hrel
  have hs' := (hbel.cell (p := ⟨bs, 0, none⟩) hs0).trans hs
  have hw' := (hbel.cell (p := ⟨bw, 0, none⟩) hw0).trans hw
  have hlb : -1 ≤ s := by omega
  clear hL h0 hs hw d1 d2 d3 d4
  cases c with
  | zero =>
   have k1 : s < 0 ∨ s < step - window := by
    obtain ⟨h1, h2, h3⟩ := hlo
    split at h3 <;> omega
   clear hlo hsc
   gi_wp2
   all_goals
    refine ⟨fun _ h => (by cases h), ?_⟩
    gi_wp2
    go_end0
    exact ⟨⟨_, rfl⟩, .inl ⟨pre, by rw [hx]; simp [downL], hJs⟩⟩
  | succ c =>
   have k1 : 0 ≤ s := by omega
   have k2 : step - window ≤ s := by
    obtain ⟨h1, h2, h3⟩ := hlo
    split at h3 <;> omega
   have hsc' : Unit → s = loS step window + ((c + 1 : Nat) : Int) - 1 := fun _ => hsc
   clear hlo hsc
   obtain ⟨fn, tmps, assign, body, hy, hR⟩ := hY pre s wr hJs (by rw [hx]; simp [downL])
   gi_wp2
   all_goals
    refine hR.mono ?_
    rintro e W3 (⟨rfl, hJ3, hk3⟩ | ⟨rfl, hJx3⟩)
    ·gi_wp2
     go_roundw
     case rel =>
      have := hsc' ()
      have := hsc' ()
      exact ⟨pre ++ [s], s - 1, c, rfl, by rw [hx]; simp [downL], by omega, by omega, hJ3, hbel.trans hk3⟩
     case measure =>
      have := hsc' ()
      simp [intOf]
      omega
    ·gi_wp2
     go_end0
     exact ⟨⟨_, rfl⟩, .inr ⟨pre ++ [s], ⟨downL (s - 1) c, by rw [hx]; simp [downL]⟩, hJx3⟩⟩
theorem steps_in (F : Fence) (n : Nat) (hf : F.fn 96) (hro : F.round = none) (step window : Int) (w : World) :
  CallsIn F n Tryz.prog 96 #[.int .i64 step, .int .i64 window] w fun e w' => e = .returned (.func (.func 123) #[] #[.pointer (some ⟨w.heap.size, 0, none⟩), .pointer (some ⟨w.heap.size + 1, 0, none⟩)]) ∧ w' = (w.alloc (.cells #[.int .i64 step] 3)).alloc (.cells #[.int .i64 window] 3) := by
 refine callsIn_of_wp Tryz.func96 rfl hf ?_ hro
 simp only [Tryz.ntmps96, List.size_toArray, List.length_cons, List.length_nil, Nat.reduceAdd, Nat.reduceSub, Array.replicate_succ, Array.replicate_zero, List.push_toArray, List.append_toArray, List.nil_append, List.cons_append]
 gi_wp2
 go_ret
 exact ⟨rfl, rfl⟩
theorem steps_stops (F : Fence) (n : Nat) (hf : F.fn 123) (hro : F.round = none) (hn : 1 ≤ n) (bs bw n₀ : Nat) (step window : Int) (w : World) (hs0 : bs < n₀) (hw0 : bw < n₀) (hn0 : n₀ ≤ w.heap.size)
  (hs : w.cell? ⟨bs, 0, none⟩ = some (.int .i64 step)) (hw : w.cell? ⟨bw, 0, none⟩ = some (.int .i64 window)) :
  SeqStopsK F n Tryz.prog 123 #[.pointer (some ⟨bs, 0, none⟩), .pointer (some ⟨bw, 0, none⟩)] (fun x : Int => #[Value.int .i64 x]) (Below n₀) (fun ys => ys = stepsL step window) (fun pre => pre <+: stepsL step window) (stepsL step window).length w := fun l J Jx W hW _ _ hY h0 =>
 ysA F n hf hro hn l bs bw n₀ step window J Jx hY W hs0 hw0 ((hW.cell (p := ⟨bs, 0, none⟩) (by simp; omega)).trans hs) ((hW.cell (p := ⟨bw, 0, none⟩) (by simp; omega)).trans hw) h0
end Go.Proofs.YtmkomlbiaebddaaGreatDoor.Fd
namespace Go.Proofs.YtmkomlbiaebddaaGreatDoor.Am
open Go Go.Proofs Go.RowKit Go.Shelf
attribute [local go_sem] Oper.semAt_some
theorem zmE {σ β : Type} {body : σ → Option (σ ⊕ β)} (I : σ → Prop) (m : σ → Nat) (G : β → Prop) (hr : ∀ s, I s → (∃ s', body s = some (.inl s') ∧ I s' ∧ m s' < m s) ∨ ∃ b, body s = some (.inr b) ∧ G b) {s : σ} (hs : I s) (hm : m s < 1099511627776) : ∃ b, iter body s = some b ∧ G b := ykC I m G hr FU s hs (by unfold FU; exact hm)
theorem yvD (x : Int) : -9223372036854775808 ≤ w64 x ∧ w64 x ≤ 9223372036854775807 := by
 have e : w64 x = (x + 9223372036854775808) % 18446744073709551616 - 9223372036854775808 := by
  simp only [w64, IntKind.wrap, IntKind.signed, IntKind.bits]
  simp
  try omega
 omega
theorem app_ok {α : Type} {a b : List α} (h : a.length + b.length ≤ 68719476736) : app a b = some (a ++ b) := by
 unfold app
 rw [zbE (by unfold LIM; omega)]
theorem xdV (x : UInt64) : ∃ r, zwK x 8 = some r ∧ r.length = 8 := by
 have h := zmE (body := fun (y : Int × Bs) => zxU x y.1 y.2) (fun y => -1 ≤ y.1 ∧ y.1 ≤ 7 ∧ (y.2.length : Int) = 7 - y.1) (fun y => (y.1 + 1).toNat) (fun r => r.length = 8) (fun y hy => by
  obtain ⟨i, l⟩ := y
  obtain ⟨h1, h2, h3⟩ := hy
  simp only at h1 h2 h3
  unfold zxU
  simp only
  by_cases hi : i ≥ 0
  ·left
   rw [zbE hi, zbB (by omega) (by omega), zgY (by simp; omega), zaA]
   rw [app_ok (by simp; omega), zaA]
   refine ⟨_, rfl, ?_, ?_⟩
   ·simp only [List.length_append, List.length_cons, List.length_nil]
    rw [zbB (by omega) (by omega)]
    omega
   ·simp only []
    rw [zbB (by omega) (by omega)]
    omega
  ·right
   rw [zaV hi]
   exact ⟨l, rfl, by omega⟩) (s := (w64 (8 - 1), [])) (by simp [zbB]) (by simp [zbB])
 obtain ⟨r, h1, h2⟩ := h
 refine ⟨r, ?_, h2⟩
 unfold zwK
 rw [h1, zaA]
theorem xdB {l : Bs} (h : l.length ≤ 1000) : ∃ r, zsC l = some r := by
 have h := zmE (body := fun (y : UInt64 × Int) => ztU l y.1 y.2) (fun y => 0 ≤ y.2 ∧ y.2 ≤ (l.length : Int)) (fun y => (l.length - y.2).toNat) (fun _ => True) (fun y hy => by
  obtain ⟨v, i⟩ := y
  obtain ⟨h1, h2⟩ := hy
  simp only at h1 h2
  unfold ztU
  simp only
  by_cases hi : i < (l.length : Int)
  ·left
   obtain ⟨k, rfl⟩ : ∃ k : Nat, i = k := ⟨i.toNat, by omega⟩
   rw [zbE hi, zgY (by simp), zaA, zcN rfl (by omega), zaA]
   refine ⟨(_, w64 ((k : Int) + 1)), rfl, ?_, ?_⟩
   ·simp only []
    rw [zbB (by omega) (by omega)]
    omega
   ·simp only []
    rw [zbB (by omega) (by omega)]
    omega
  ·right
   rw [zaV hi]
   exact ⟨v, rfl, trivial⟩) (s := ((0 : UInt64), (0 : Int))) (by simp) (by simp; omega)
 obtain ⟨r, h1, _⟩ := h
 refine ⟨r, ?_⟩
 unfold zsC
 rw [h1, zaA]
theorem yfM : ∀ (f u : Nat), (decF f u).length ≤ f
 | 0, _ => by simp [decF]
 | f + 1, u => by
  unfold decF
  cases Nat.blt u 10 with
  | true => simp
  | false =>
   have := yfM f (u / 10)
   simp only [cond_false, List.length_append, List.length_cons, List.length_nil]
   omega
theorem yzD {f u : Nat} (h : 0 < f) : 0 < (decF f u).length := by
 cases f with
 | zero => omega
 | succ f =>
  unfold decF
  cases Nat.blt u 10 <;> simp
theorem xeF {n : Int} (h0 : -9223372036854775808 ≤ n) (h1 : n ≤ 9223372036854775807) : ycV n = some (ycS n) := by
 unfold ycV
 rw [ykB (by simp; omega)]
theorem ytA (n : Int) : 1 ≤ (ycS n).length ∧ (ycS n).length ≤ 21 := by
 unfold ycS
 cases decide (n < 0) with
 | true =>
  have := yfM 20 n.natAbs
  simp only [cond_true, List.length_cons]; omega
 | false =>
  have := yfM 20 n.toNat
  have := yzD (f := 20) (u := n.toNat) (by omega)
  simp only [cond_false]; omega
theorem xdY {secret : Bs} (h : secret.length ≤ 68719470000) (s : Int) : ∃ c, zkE secret s = some c ∧ c.length ≤ 21 := by
 obtain ⟨b, hb, hbl⟩ := xdV (i64 s)
 have hm : macP secret b = some (macF secret b) := by unfold macP; rw [ykB (by simp; omega)]
 have hml := zpM secret b
 unfold zkE
 rw [hb, zaA, hm, zaA, zcN (j := 31) (i := 31) rfl (by omega), zaA]
 generalize (macF secret b)[31]'_ = v4
 have h15 : (v4 &&& (15 : UInt8)).toNat ≤ 15 := by rw [UInt8.toNat_and]; exact Nat.and_le_right
 generalize (v4 &&& (15 : UInt8)).toNat = g at h15
 have h5 : ((i8 ((g : Int) + ((4 : UInt8).toNat : Int))).toNat : Int) = (g : Int) + 4 := by
  rw [← ztM, show ((4 : UInt8).toNat : Int) = 4 from rfl]
  simp only [IntKind.wrap, IntKind.signed, IntKind.bits]
  simp
  omega
 simp only []
 rw [h5]
 have h6 : sub3 (macF secret b) (g : Int) ((g : Int) + 4) = some (((macF secret b).take ((g : Int) + 4).toNat).drop (g : Int).toNat) := by
  unfold sub3
  rw [ykB (by simp; omega)]
 rw [h6, zaA]
 obtain ⟨r, hr⟩ := xdB (l := ((macF secret b).take ((g : Int) + 4).toNat).drop (g : Int).toNat) (by simp only [List.length_drop, List.length_take]; omega)
 rw [hr, zaA, zgY (by simp), zaA]
 generalize (i64 (Int.tmod ((r &&& (2147483647 : UInt64)).toNat : Int) ((1000000 : UInt64).toNat : Int))) = v8
 have hw := yvD ((w64 (v8.toNat : Int)) + 1000000)
 rw [xeF hw.1 hw.2, zaA]
 have hl := ytA (w64 ((w64 (v8.toNat : Int)) + 1000000))
 have h7 : subL (ycS (w64 ((w64 (v8.toNat : Int)) + 1000000))) 1 = some ((ycS (w64 ((w64 (v8.toNat : Int)) + 1000000))).drop 1) := by
  unfold subL
  rw [ykB (by simp; omega)]; rfl
 rw [h7, zaA]
 exact ⟨_, rfl, by simp only [List.length_drop]; omega⟩
def codeF (secret : Bs) (s : Int) : Bs := (zkE secret s).getD []
theorem ymH {secret : Bs} (h : secret.length ≤ 68719470000) (s : Int) : zkE secret s = some (codeF secret s) ∧ (codeF secret s).length ≤ 21 := by
 obtain ⟨c, h1, h2⟩ := xdY h s
 unfold codeF
 rw [h1]
 exact ⟨rfl, h2⟩
def zvK (f : Int → Bs) (code : Bs) : List Int → Int × Bool
 | [] => (0, false)
 | s :: l => bif f s == code then (s, true) else zvK f code l
def yiD (secret code : Bs) (step window : Int) : Option (Int × Bool) := bif decide (secret.length ≤ 68719470000) && decide (code.length ≤ 68719476736) then some (zvK (codeF secret) code (Fd.stepsL step window)) else none
end Go.Proofs.YtmkomlbiaebddaaGreatDoor.Am
namespace Go.Proofs.YtmkomlbiaebddaaGreatDoor.Am
open Go Go.Proofs Go.RowKit Go.Shelf
attribute [local go_sem] Oper.semAt_some
theorem yiT {W : World} {B : Nat} {v : Value} {t : TypeId} (h : W.heap[B]? = some (.cells #[v] t (0, 0))) : W.cell? ⟨B, 0, none⟩ = some v ∧ W.frozen? ⟨B, 0, none⟩ = false := by
 constructor <;> simp [World.cell?, World.frozen?, h]
theorem zrF (W : World) (v : Value) (t : TypeId) : (W.alloc (.cells #[v] t)).cell? ⟨W.heap.size, 0, none⟩ = some v ∧ (W.alloc (.cells #[v] t)).frozen? ⟨W.heap.size, 0, none⟩ = false :=
 yiT (World.alloc_heap_new W _)
theorem zbL {W : World} {a : Addr} {v : Value} (o : Obj) (h : W.cell? a = some v) : (W.alloc o).cell? a = some v := cell_kept h (World.grownBy_alloc W o none) (fun r e => by cases e)
theorem zkY {W : World} {a : Addr} {v : Value} (o : Obj) (h : W.cell? a = some v) (hf : W.frozen? a = false) : (W.alloc o).frozen? a = false := (frozen_kept h (World.grownBy_alloc W o none) (fun r e => by cases e)).trans hf
theorem ynQ {G : List (Nat × Obj)} {S : Mem} {w W : World} (hG : GS G S) (hS : Sub S w) (hB : Below w.heap.size w W) : GS G (ztC W) := fun p hp => by
 have h1 := hS _ _ (hG p hp)
 exact (hB.block _ (Array.getElem?_eq_some_iff.1 h1).1).trans h1
theorem ynG {W : World} {b o : Nat} {v : Value} (h : W.cell? ⟨b, o, none⟩ = some v) : b < W.heap.size := by
 unfold World.cell? at h
 split at h
 ·rename_i hb; exact (Array.getElem?_eq_some_iff.1 hb).1
 ·cases h
theorem zwL {W W' : World} {b o : Nat} {v : Value} (h : Ext W W') (hc : W.cell? ⟨b, o, none⟩ = some v) : W'.cell? ⟨b, o, none⟩ = some v := (h.cells.1 b o (ynG hc)).trans hc
theorem ydI {W W' : World} {b o : Nat} {v : Value} (h : Ext W W') (hc : W.cell? ⟨b, o, none⟩ = some v) (hf : W.frozen? ⟨b, o, none⟩ = false) : W'.frozen? ⟨b, o, none⟩ = false := (h.cells.2 b o (ynG hc)).trans hf
theorem yiF {W W' : World} (h : Ext W W') : KeepsOthers W W' := ⟨h.size, fun b o hb _ => (h.block b (Array.getElem?_eq_some_iff.1 hb).1).trans hb⟩
section
variable {G : List (Nat × Obj)} [zqO G]
theorem yqG {secret : Bs} (hs : secret.length ≤ 68719470000) (x : Int) {W : World} (hG : GS G (ztC W)) :
  Calls Tryz.prog 23 #[str secret, .int .i64 x] W fun e w' => e = .returned (str (codeF secret x)) ∧ Ext W w' := by
 refine ((yaH (tabs := G)).ok (ztC W) W [str secret, .int .i64 x] (secret, x) (codeF secret x) hG (yeK W) (.cons (rfl : [_] = [_]) (.cons (rfl : [_] = [_]) .nil)) (ymH hs x).1).mono fun e w' ⟨hx, v, he, hr, _⟩ => ?_
 have hr : rep .s _ [v] (codeF secret x) := hr
 have hr : [v] = [str (codeF secret x)] := hr
 rw [he, (List.cons.inj hr).1]
 exact ⟨rfl, hx⟩
theorem ypQ {x y : Bs} (hx : x.length ≤ 68719476736) (hy : y.length ≤ 68719476736) {W : World} :
  Calls Tryz.prog 49 #[str x, str y] W fun e w' => e = .returned (.bool (x == y)) ∧ Ext W w' := ybS (yeK W) (yoO hx hy)
theorem ynW {f : Int → Bs} {code : Bs} : ∀ {l : List Int}, (∀ y ∈ l, f y ≠ code) → zvK f code l = (0, false)
 | [], _ => rfl
 | s :: l, h => by
  unfold zvK
  rw [beq_false_of_ne (h s (List.mem_cons_self ..)), cond_false, ynW fun y hy => h y (List.mem_cons_of_mem _ hy)]
theorem yiJ {f : Int → Bs} {code : Bs} {x : Int} {r : List Int} (hx : f x = code) : ∀ {l : List Int}, (∀ y ∈ l, f y ≠ code) → zvK f code (l ++ x :: r) = (x, true)
 | [], _ => by simp [zvK, hx]
 | s :: l, h => by
  simp only [List.cons_append]
  unfold zvK
  rw [beq_false_of_ne (h s (List.mem_cons_self ..)), cond_false, yiJ hx fun y hy => h y (List.mem_cons_of_mem _ hy)]
set_option maxRecDepth 100000 in
set_option maxHeartbeats 2000000 in
theorem find_c {S : Mem} {w : World} (hG : GS G S) (hS : Sub S w) {secret code : Bs} (hs : secret.length ≤ 68719470000) (hc : code.length ≤ 68719476736) (step window : Int) :
  Calls Tryz.prog 52 #[str secret, str code, .int .i64 step, .int .i64 window] w fun e w' => e = .returned (.tuple #[.int .i64 (zvK (codeF secret) code (Fd.stepsL step window)).1, .bool (zvK (codeF secret) code (Fd.stepsL step window)).2]) ∧ Ext w w' := by
 refine (callsIn_wide (n := 5)).1 ?_
 refine callsIn_of_wp_marks Tryz.func52 rfl trivial ?_ rfl
 simp only [Tryz.ntmps52, List.size_toArray, List.length_cons, List.length_nil, Nat.reduceAdd, Nat.reduceSub, Array.replicate_succ, Array.replicate_zero, List.push_toArray, List.append_toArray, List.nil_append, List.cons_append]
 gi_wp2_with (refine ⟨trivial, ?_⟩; gi_at_call 96; refine (Fd.steps_in Fence.wide _ trivial rfl _ _ _).mono ?_; rintro e w' ⟨rfl, rfl⟩)
 obtain ⟨W0, hW0⟩ : ∃ W0, ((((((w.alloc (.cells #[str secret] 9)).alloc (.cells #[str code] 9)).alloc (.cells #[Value.int .i64 0] 3)).alloc (.cells #[.bool false] 4)).alloc (.cells #[Value.int .i64 step] 3)).alloc (.cells #[Value.int .i64 window] 3)) = W0 := ⟨_, rfl⟩
 have hs0 : W0.heap.size = w.heap.size + 6 := by rw [← hW0]; simp
 have hB0 : Below w.heap.size w W0 := by
  rw [← hW0]
  exact ((((((Below.refl _ w).alloc (Nat.le_refl _) _).alloc (by simp) _).alloc (by simp; omega) _).alloc (by simp; omega) _).alloc (by simp; omega) _).alloc (by simp; omega) _
 have c0 := zrF w (str secret) 9
 have c1 := zrF (w.alloc (.cells #[str secret] 9)) (str code) 9
 have c2 := zrF ((w.alloc (.cells #[str secret] 9)).alloc (.cells #[str code] 9)) (.int .i64 0) 3
 have c3 := zrF (((w.alloc (.cells #[str secret] 9)).alloc (.cells #[str code] 9)).alloc (.cells #[Value.int .i64 0] 3)) (.bool false) 4
 have c4 := zrF ((((w.alloc (.cells #[str secret] 9)).alloc (.cells #[str code] 9)).alloc (.cells #[Value.int .i64 0] 3)).alloc (.cells #[.bool false] 4)) (.int .i64 step) 3
 have c5 := zrF (((((w.alloc (.cells #[str secret] 9)).alloc (.cells #[str code] 9)).alloc (.cells #[Value.int .i64 0] 3)).alloc (.cells #[.bool false] 4)).alloc (.cells #[Value.int .i64 step] 3)) (.int .i64 window) 3
 simp only [World.size_alloc] at c1 c2 c3 c4 c5
 have e0 : W0.cell? ⟨w.heap.size, 0, none⟩ = some (str secret) := by rw [← hW0]; exact zbL _ (zbL _ (zbL _ (zbL _ (zbL _ c0.1))))
 have e1 : W0.cell? ⟨w.heap.size + 1, 0, none⟩ = some (str code) := by rw [← hW0]; exact zbL _ (zbL _ (zbL _ (zbL _ c1.1)))
 have e2 : W0.cell? ⟨w.heap.size + 1 + 1, 0, none⟩ = some (.int .i64 0) ∧ W0.frozen? ⟨w.heap.size + 1 + 1, 0, none⟩ = false := by rw [← hW0]; exact ⟨zbL _ (zbL _ (zbL _ c2.1)), zkY _ (zbL _ (zbL _ c2.1)) (zkY _ (zbL _ c2.1) (zkY _ c2.1 c2.2))⟩
 have e3 : W0.cell? ⟨w.heap.size + 1 + 1 + 1, 0, none⟩ = some (.bool false) ∧ W0.frozen? ⟨w.heap.size + 1 + 1 + 1, 0, none⟩ = false := by rw [← hW0]; exact ⟨zbL _ (zbL _ c3.1), zkY _ (zbL _ c3.1) (zkY _ c3.1 c3.2)⟩
 have e4 : W0.cell? ⟨w.heap.size + 1 + 1 + 1 + 1, 0, none⟩ = some (.int .i64 step) := by rw [← hW0]; exact zbL _ c4.1
 have e5 : W0.cell? ⟨w.heap.size + 1 + 1 + 1 + 1 + 1, 0, none⟩ = some (.int .i64 window) := by rw [← hW0]; exact c5.1
 clear c0 c1 c2 c3 c4 c5
 rw [hW0]
 clear hW0
 refine wpIn_rangeFunc_ownF rfl (by omega) (gf := 123) (lb := #[.pointer (some ⟨w.heap.size + 1 + 1 + 1 + 1, 0, none⟩), .pointer (some ⟨w.heap.size + 1 + 1 + 1 + 1 + 1, 0, none⟩)]) rfl trivial (enters_of Tryz.func123 (by kernel_rfl) rfl)
  (Fd.steps_stops Fence.wide _ trivial rfl (by omega) (w.heap.size + 1 + 1 + 1 + 1) (w.heap.size + 1 + 1 + 1 + 1 + 1) W0.heap.size step window W0 (by omega) (by omega) (Nat.le_refl _) e4 e5) belowK_t (belowK_b (Nat.le_refl _)) (Below.refl _ _) (fun _ => rfl)
  (fun pre W => (W0.heap.size ≤ W.heap.size ∧ (∀ y ∈ pre, codeF secret y ≠ code) ∧ W.cell? ⟨w.heap.size, 0, none⟩ = some (str secret) ∧ W.cell? ⟨w.heap.size + 1, 0, none⟩ = some (str code) ∧ (W.cell? ⟨w.heap.size + 1 + 1, 0, none⟩ = some (.int .i64 0) ∧ W.frozen? ⟨w.heap.size + 1 + 1, 0, none⟩ = false) ∧ (W.cell? ⟨w.heap.size + 1 + 1 + 1, 0, none⟩ = some (.bool false) ∧ W.frozen? ⟨w.heap.size + 1 + 1 + 1, 0, none⟩ = false)) ∧ Below w.heap.size w W)
  (fun c pre W => (c = .ret ∧ (∃ pre0 x, pre = pre0 ++ [x] ∧ (∀ y ∈ pre0, codeF secret y ≠ code) ∧ codeF secret x = code ∧ W.cell? ⟨w.heap.size + 1 + 1, 0, none⟩ = some (.int .i64 x)) ∧ W.cell? ⟨w.heap.size + 1 + 1 + 1, 0, none⟩ = some (.bool true)) ∧ Below w.heap.size w W)
  (OwnFrom.and (Own.from (fun s A B row hs hg hr => ⟨Nat.le_trans hs.1 hg.size, hs.2.1, cell_kept hs.2.2.1 hg hr, cell_kept hs.2.2.2.1 hg hr, ⟨cell_kept hs.2.2.2.2.1.1 hg hr, (frozen_kept hs.2.2.2.2.1.1 hg hr).trans hs.2.2.2.2.1.2⟩, ⟨cell_kept hs.2.2.2.2.2.1 hg hr, (frozen_kept hs.2.2.2.2.2.1 hg hr).trans hs.2.2.2.2.2.2⟩⟩) _) (ownFrom_below (Nat.le_refl _) (by omega)))
  (fun c => OwnFrom.and (Own.from (fun s A B row hs hg hr => by
   obtain ⟨h1, ⟨p0, x, h2, h3, h4, h5⟩, h6⟩ := hs
   exact ⟨h1, ⟨p0, x, h2, h3, h4, cell_kept h5 hg hr⟩, cell_kept h6 hg hr⟩) _) (ownFrom_below (Nat.le_refl _) (by omega)))
  ⟨⟨Nat.le_refl _, by simp, e0, e1, e2, e3⟩, hB0⟩
  (fun x => { tmps := #[str secret, str code, .int .i64 step, .int .i64 window, .pointer (some ⟨w.heap.size, 0, none⟩), .pointer (some ⟨w.heap.size + 1, 0, none⟩), undef, undef, .pointer (some ⟨w.heap.size + 1 + 1, 0, none⟩), .pointer (some ⟨w.heap.size + 1 + 1 + 1, 0, none⟩), .int .i64 x, .int .i64 step, .int .i64 window, .func (.func 123) #[] #[.pointer (some ⟨w.heap.size + 1 + 1 + 1 + 1, 0, none⟩), .pointer (some ⟨w.heap.size + 1 + 1 + 1 + 1 + 1, 0, none⟩)], .int .i64 x, undef, undef, undef, undef, undef, undef], defers := [] }) ?assign ?body ?done ?stop
 case assign =>
  intro l x W K hK
  gi_wp2
  exact hK
 case body =>
  rintro l pre x W ⟨⟨hW0, hp, h0, h1, ⟨h2, g2⟩, h3, g3⟩, hB⟩ _
  have hmx : Tryz.prog.follows .mixedOrders = true := by kernel_rfl
  have hd : 1 ≤ 5 - 1 - 1 := by omega
  gi_wp2
  gi_region_with_o (first
   | (refine ⟨trivial, ?_⟩; gi_at_call 23; refine (CallsIn.inRound l (callsIn_wide.2 (yqG (G := G) hs x (by first | exact ynQ hG hS hB | exact ynQ hG hS hB.drew)))).mono ?_; rintro e w' ⟨rfl, hx1⟩; have k1 := zwL hx1 h1)
   | (refine ⟨trivial, ?_⟩; gi_at_call 49; refine (CallsIn.inRound l (callsIn_wide.2 (ypQ (Nat.le_trans (ymH hs x).2 (by omega)) hc))).mono ?_; rintro e w' ⟨rfl, hx2⟩))
  all_goals
   have hxx := (Ext.drew W).trans (hx1.trans hx2)
   have m2 := zwL hxx h2
   have n2 := ydI hxx h2 g2
   have m3 := zwL hxx h3
   have n3 := ydI hxx h3 g3
   clear k1 hx1 hx2
   gi_wp2
   ·rename_i hx
    have ne : (⟨w.heap.size + 1 + 1 + 1, 0, none⟩ : Addr) ≠ ⟨w.heap.size + 1 + 1, 0, none⟩ := fun e => by injection e; omega
    exact ⟨(yiF hxx).trans ((KeepsOthers.setCell _ _ _).trans (KeepsOthers.setCell _ _ _)),
     ⟨rfl, ⟨pre, x, rfl, hp, eq_of_beq hx, (World.cell?_setCell_other _ _ _ _ ne).trans (World.cell?_setCell_same _ _ _ m2)⟩, World.cell?_setCell_same _ _ _ ((World.cell?_setCell_other _ _ _ _ ne.symm).trans m3)⟩,
     ((hB.trans (Below.mono hxx hB.size)).setCell (p := ⟨w.heap.size + 1 + 1, 0, none⟩) (by simp; omega) _).setCell (p := ⟨w.heap.size + 1 + 1 + 1, 0, none⟩) (by simp; omega) _⟩
   ·rename_i hx
    refine ⟨yiF hxx, Below.mono hxx ?_, ⟨Nat.le_trans hW0 hxx.size, fun y hy => (List.mem_append.1 hy).elim (hp y) (fun e e' => by simp at e; subst e; simp [e'] at hx), zwL hxx h0, zwL hxx h1, ⟨m2, n2⟩, m3, n3⟩, hB.trans (Below.mono hxx hB.size)⟩
    exact hW0
 case done =>
  rintro D ys W hD rfl ⟨⟨_, hne, h0, h1, ⟨h2, g2⟩, h3, g3⟩, hB⟩ hK
  gi_wp2
  have ne : (⟨w.heap.size + 1 + 1 + 1, 0, none⟩ : Addr) ≠ ⟨w.heap.size + 1 + 1, 0, none⟩ := fun e => by injection e; omega
  have hK' := ((KeepsOthers.setCell W ⟨w.heap.size + 1 + 1, 0, none⟩ (.int .i64 0)).trans (KeepsOthers.setCell _ ⟨w.heap.size + 1 + 1 + 1, 0, none⟩ (.bool false))).same D _ hK rfl
  have q2 := (World.cell?_setCell_other _ ⟨w.heap.size + 1 + 1 + 1, 0, none⟩ _ (.bool false) ne).trans (World.cell?_setCell_same _ _ (.int .i64 0) h2)
  have q3 := World.cell?_setCell_same (W.setCell ⟨w.heap.size + 1 + 1, 0, none⟩ (.int .i64 0)) _ (.bool false) ((World.cell?_setCell_other _ _ _ _ ne.symm).trans h3)
  refine ⟨by simp, .inl ⟨_, _, rfl, run_takeDeferred hK', ?_⟩⟩
  have r2 := cell_kept q2 (grownBy_putObj' _ D (.deferred none)) (fun r e => by cases e; exact ⟨_, hK', rfl⟩)
  have r3 := cell_kept q3 (grownBy_putObj' _ D (.deferred none)) (fun r e => by cases e; exact ⟨_, hK', rfl⟩)
  refine ⟨.tuple #[.int .i64 0, .bool false], ?_, by rw [ynW hne], ((hB.setCell (p := ⟨w.heap.size + 1 + 1, 0, none⟩) (by simp; omega) _).setCell (p := ⟨w.heap.size + 1 + 1 + 1, 0, none⟩) (by simp; omega) _).trans (belowK_b (w := w) (Nat.le_refl _) _ D _ _ (by omega) hK' rfl rfl)⟩
  simp [results, Tryz.f52, go_sem, r2, r3]
 case stop =>
  rintro D c pre W hD ⟨post, hpre⟩ ⟨⟨rfl, ⟨p0, x, rfl, h2, h3, h4⟩, h5⟩, hB⟩ hK
  gi_wp2
  refine ⟨by simp, .inl ⟨_, _, rfl, run_takeDeferred hK, ?_⟩⟩
  have r2 := cell_kept h4 (grownBy_putObj' _ D (.deferred none)) (fun r e => by cases e; exact ⟨_, hK, rfl⟩)
  have r3 := cell_kept h5 (grownBy_putObj' _ D (.deferred none)) (fun r e => by cases e; exact ⟨_, hK, rfl⟩)
  have hf : zvK (codeF secret) code (Fd.stepsL step window) = (x, true) := by
   rw [← hpre, List.append_assoc]
   exact yiJ h3 h2
  refine ⟨.tuple #[.int .i64 x, .bool true], ?_, by rw [hf], hB.trans (belowK_b (w := w) (Nat.le_refl _) W D _ _ (by omega) hK rfl rfl)⟩
  simp [results, Tryz.f52, go_sem, r2, r3]
def ylE : PC := ⟨[.h .s, .h .s, .h (.i .i64), .h (.i .i64)], [.i .i64, .b], fun x => yiD x.1 x.2.1 x.2.2.1 x.2.2.2, false⟩
theorem ykZ : PCok Tryz.prog G 52 ylE := by
 refine ⟨isFn Tryz.func52 (by kernel_rfl) (by kernel_rfl), fun S0 w0 us (x : Bs × Bs × Int × Int) (y : Int × Bool) hG hS ha hy => ?_⟩
 have ha : A2 (VR S0 []) [svOf .s x.1, svOf .s x.2.1, svOf (.i .i64) x.2.2.1, svOf (.i .i64) x.2.2.2] us := ha
 have hy : yiD x.1 x.2.1 x.2.2.1 x.2.2.2 = some y := hy
 unfold yiD at hy
 obtain ⟨hb, hy⟩ := zaG hy
 simp only [Bool.and_eq_true, decide_eq_true_eq] at hb
 cases hy
 cases ha with
 | cons q1 q2 =>
  cases q2 with
  | cons q2 q3 =>
   cases q3 with
   | cons q3 q4 =>
    cases q4 with
    | cons q4 q5 =>
     cases q5
     rw [zqD (t := .s) rfl q1, zqD (t := .s) rfl q2, zqD (t := .i .i64) rfl q3, zqD (t := .i .i64) rfl q4]
     exact (find_c hG hS hb.1 hb.2 x.2.2.1 x.2.2.2).mono fun e w' ⟨he, hx⟩ => ⟨hx, _, he, zwD (l := [.i .i64, .b]) (x := zvK (codeF x.1) x.2.1 (Fd.stepsL x.2.2.1 x.2.2.2)) rfl, fun h => by cases h⟩
end
end Go.Proofs.YtmkomlbiaebddaaGreatDoor.Am
namespace Go.Proofs.YtmkomlbiaebddaaGreatDoor.Am
open Go Go.RowKit
structure Ops where
 stretch : Bs → Bs → Int → Int → Option (Bs × Int)
 code : Bs → Int → Option Bs
 find : Bs → Bs → Int → Int → Option (Int × Bool)
 same : Bs → Bs → Option (Bool)
 itoa : Int → Option Bs
 atoi : Bs → Option (Int × Bool)
 trim : Bs → Bs → Option Bs
 cut : Bs → Bs → Option (Bs × Bs × Bool)
 form : (List Bs) → Option Bs
def yeQ (o : Ops) : PC := ⟨[(.h .s), (.h .s), (.h (.i .i64)), (.h (.i .i64))], [.s, (.i .i64)], fun x => o.stretch x.1 x.2.1 x.2.2.1 x.2.2.2, false⟩
def ylT (o : Ops) : PC := ⟨[(.h .s), (.h (.i .i64))], [.s], fun x => o.code x.1 x.2, false⟩
def yrD (o : Ops) : PC := ⟨[(.h .s), (.h .s), (.h (.i .i64)), (.h (.i .i64))], [(.i .i64), .b], fun x => o.find x.1 x.2.1 x.2.2.1 x.2.2.2, false⟩
def yrG (o : Ops) : PC := ⟨[(.h .s), (.h .s)], [.b], fun x => o.same x.1 x.2, false⟩
def yvW (o : Ops) : PC := ⟨[(.h (.i .i64))], [.s], fun x => o.itoa x, false⟩
def ymL (o : Ops) : PC := ⟨[(.h .s)], [(.i .i64), .er], fun x => o.atoi x, false⟩
def ygW (o : Ops) : PC := ⟨[(.h .s), (.h .s)], [.s], fun x => o.trim x.1 x.2, false⟩
def xbE (o : Ops) : PC := ⟨[(.h .s), (.h .s)], [.s, .s, .b], fun x => o.cut x.1 x.2, false⟩
def ysM (o : Ops) : PC := ⟨[(.h (.sl .s))], [.s], fun x => o.form x, false⟩
class zpI (G : List (Nat × Obj)) (o : Ops) : Prop where
 stretch : PCok Tryz.prog G 92 (yeQ o)
 code : PCok Tryz.prog G 23 (ylT o)
 find : PCok Tryz.prog G 52 (yrD o)
 same : PCok Tryz.prog G 49 (yrG o)
 itoa : PCok Tryz.prog G 39 (yvW o)
 atoi : PCok Tryz.prog G 110 (ymL o)
 trim : PCok Tryz.prog G 109 (ygW o)
 cut : PCok Tryz.prog G 106 (xbE o)
 form : PCok Tryz.prog G 40 (ysM o)
theorem witO {p : Prop} {G : List (Nat × Obj)} {o : Ops} [zqO G] [zpI G o] (h : p) : p := h
def zaC : Ops := ⟨zfR, zkE, yiD, yrS, ycV, yqB, yjC, cutP, ziW⟩
instance yoK {G : List (Nat × Obj)} [zqO G] : zpI G zaC := ⟨ycE, yaH, ykZ, yjJ, zuG, ybJ, yaL, ycY, ydC⟩
section
variable {τ : TE} {P : Program} {G : List (Nat × Obj)}
theorem ywW {f : FuncId} {fn : Func} {c : Code} {e : Ty} {T : TypeId} (hm : P.follows .mixedOrders = true) (hτ : TEok P τ) (hf : P.funcs[f]? = some fn) (hfn : IsFn P f) (hb : fn.body = some c) (hl : Nat.ble 1 fn.ntmps = true) (hr : Nat.beq fn.results.toList.length 1 = true)
  (h1 : run 0 fn.ntmps τ ⟨[], [], false⟩ [] c ⟨[(0, .nils)], []⟩ (finS τ fn 0 [(none, ⟨[(0, .nils)], []⟩)]) = some ())
  (h2 : ∀ xs : List (den e), run 0 fn.ntmps τ ⟨[], [], false⟩ [] c ⟨[(0, .nn e xs)], []⟩ (finS τ fn 0 [(none, ⟨[(0, .own 0)], [.osl e T]⟩)]) = Option.bind (app [] xs) fun r => some r) :
  SCok P G f ⟨⟨[(0, .h (.sl e))], []⟩, 1, [(none, ⟨[(0, .own 0)], [.osl e T]⟩)], fun xs => app [] xs⟩ := by
 refine ⟨hfn, fun S0 w0 us E0 L0 (xs : List (den e)) (d : List (den e)) _ hul R hy => ?_⟩
 have hy : app [] xs = some d := hy
 have hul : us.length = 1 := hul
 have hle : us.length ≤ fn.ntmps := by rw [hul]; exact Nat.le_of_ble_eq_true hl
 obtain ⟨u, rfl⟩ : ∃ u, us = [u] := by
  match us, hul with
  | [u], _ => exact ⟨u, rfl⟩
 have hu : VB S0 E0 (.v (.sl e) xs) u := R.sl 0
 obtain ⟨v, hv, hrd⟩ := hu
 injection hv with hv
 subst hv
 have re : ∀ {x : SV}, VR S0 E0 x u → RelV ⟨S0, zbN L0, w0⟩ S0 E0 L0 ⟨[(0, x)], []⟩ (fun t => [u].getD t undef) w0 := fun {x} hx => ⟨R.hs, R.lL, R.lE, R.obj, fun t => by
  cases t with
  | zero => exact hx
  | succ t => trivial⟩
 by_cases hn : ∃ n c, u = .slice none n c
 ·have hu0 : u = .slice none 0 0 ∧ xs = [] := by
   obtain ⟨cs, k1, k2⟩ := hrd
   obtain ⟨n, c', hn⟩ := hn
   rcases k1 with ⟨k1, k3, _⟩ | ⟨b', o, c2, ds, T2, fz, k1, _⟩
   ·exact ⟨k1, List.eq_nil_of_length_eq_zero k3⟩
   ·rw [hn] at k1; cases k1
  obtain ⟨rfl, rfl⟩ := hu0
  have hd : d = [] := ymD hy
  subst hd
  refine (ylN hm hτ (ctok (G := []) (pc := []) (sc := []) (k := false) trivial trivial _ (fun _ h => by cases h)) hf hb hle hr (re (x := .nils) rfl) h1).mono fun e' w' ⟨v, he, S', E', L', σo, V', ho, hS, hP, R', hv0, hn0, hres⟩ => ?_
  have hσ : σo = ⟨[(0, .nils)], []⟩ := by
   have := ho (γ := St) fun _ σ => some σ
   exact (osi this).symm
  subst hσ
  have hl' : L'.length = 0 := R'.lL
  have hE' : E'.length = 0 := R'.lE
  have e1 : L' = [] := List.eq_nil_of_length_eq_zero hl'
  have e2 : E' = [] := List.eq_nil_of_length_eq_zero hE'
  subst e1; subst e2
  have h0 : V' 0 = .slice none 0 0 := R'.sl 0
  refine ⟨v, he, S', [.osl 0 (.slice none 0 0) (tsz e)], [.osl (.slice none 0 0) 0 (tsz e) [] [] T], ⟨[(0, .own 0 0)], [.osl 0 e T []]⟩, V', fun k => ?_, hS, fun k e hk => absurd hk (Nat.not_lt_zero k), ⟨HS.nil R'.hs _ _, rfl, rfl, fun i o h => ?_, fun t => ?_⟩, ?_, Nat.zero_le _, hres⟩
  ·show k (exOf none) _ = _
   have : (Shp.put (⟨[(0, .own 0)], [.osl e T]⟩ : Shp) ([] : List (den e))) = ⟨[(0, .own 0 0)], [.osl 0 e T []]⟩ := by
    obtain ⟨q, hq⟩ := zhI e
    have e0 : ∀ y : den (.sl e), zlE [.osl e T] [.v (.sl e) y] = [.osl 0 e T y] := fun y => by
     rw [zlE, hq]; rfl
    have e1 : zlE [.osl e T] [.v (.sl e) ([] : List (den e))] = [.osl 0 e T []] := e0 _
    exact congrArg (fun hp => (⟨[(0, .own 0 0)], hp⟩ : St)) e1
   rw [this]; rfl
  ·cases i with
   | zero => cases h; exact ⟨_, _, rfl, rfl, .slice none 0 0, .slice none 0 0, [], [], rfl, rfl, rfl, .inl rfl⟩
   | succ i => cases h
  ·cases t with
   | zero => exact VR.ofC (show VC S' _ (.own 0 0) (V' 0) by rw [h0]; exact ⟨rfl, _, rfl, fun r v s he => by cases he; exact ⟨Nat.le_refl 0, fun _ => rfl⟩⟩)
   | succ t => trivial
  ·intro i ver e' T' xs h
   cases i with
   | zero => cases h; rfl
   | succ i => cases h
 ·exact (ylN hm hτ (ctok (G := []) (pc := []) (sc := []) (k := false) trivial trivial _ (fun _ h => by cases h)) hf hb hle hr (re (x := .nn e xs) ⟨hrd, fun n c h => hn ⟨n, c, h⟩⟩) ((h2 xs).trans (by rw [hy]; rfl))).mono fun _ _ h => h
def finC (τ : TE) (f : Func) (e : Ty) (ex : Ex) (σ : St) : Option (List (den e)) := match ex with
 | .exit _ => none
 | _ => match zxM τ σ f.results.toList with
  | some [.cl e' xs] => match tyEq e' e with
   | some ⟨h⟩ => some (zlD (by rw [h] : Ty.sl e' = Ty.sl e) (show den (.sl e') from xs))
   | none => none
  | _ => none
theorem ymU {f : FuncId} {fn : Func} {c : Code} {e : Ty} (hm : P.follows .mixedOrders = true) (hτ : TEok P τ) (hf : P.funcs[f]? = some fn) (hfn : IsFn P f) (hb : fn.body = some c) (hl : Nat.ble 1 fn.ntmps = true)
  (h1 : ∀ xs : List (den e), run 0 fn.ntmps τ ⟨[], [], false⟩ [] c ⟨[(0, .v (.sl e) xs)], []⟩ (finC τ fn e) = Option.bind (chk (decide ((xs.length : Int) = (xs.length : Int)))) fun _ => Option.bind (subH xs (xs.length : Int)) fun r => some r) :
  PCok P G f ⟨[.h (.sl e)], [.sl e], fun xs => some xs, true⟩ := by
 refine ⟨hfn, fun S0 w0 us (xs : List (den e)) (y : List (den e)) _ hS ha hy => ?_⟩
 have hxy : xs = y := osi hy
 subst hxy
 have ha : A2 (VR S0 []) [SV.v (.sl e) xs] us := ha
 have h2 : run 0 fn.ntmps τ ⟨[], [], false⟩ [] c ⟨[(0, .v (.sl e) xs)], []⟩ (finC τ fn e) = some xs := by
  rw [h1 xs]
  have h3 : subH xs (xs.length : Int) = some xs := by
   unfold subH
   simp
  simp [chk, h3]
 have hul : us.length = 1 := by rw [← ha.len]; rfl
 refine enter hf hb rfl (by rw [hul]; exact hl) ?_
 have R0 : Rel fn.ntmps ⟨S0, [], w0⟩ S0 [] [] ⟨argS 0 [SV.v (.sl e) xs], []⟩ (argm us 0) w0 := by
  refine ⟨HS.start hS, rfl, rfl, fun i o h => by simp at h, fun t => ?_⟩
  show VR S0 [] (lkS (argS 0 [SV.v (.sl e) xs]) t) (bif Nat.blt t fn.ntmps then look (argm us 0) t else undef)
  cases ht : Nat.blt t fn.ntmps with
  | true => exact yrE 0 t ha
  | false =>
   rw [zlX] at ht
   have h1 := of_decide_eq_false ht
   have h2 := Nat.le_of_ble_eq_true hl
   rw [ycA (by simp; omega)]
   trivial
 refine zsX hm hτ (ctok (G := []) (pc := []) (sc := []) (k := false) trivial trivial _ (fun _ h => by cases h)) c R0 (finC τ fn e) xs _ h2 fun ex σ' S' E' L' m' w' h1 _ _ _ R1 => ?_
 have key : ∀ (_ : (match zxM τ σ' fn.results.toList with
   | some [.cl e' xs] => match tyEq e' e with
    | some ⟨h⟩ => some (zlD (by rw [h] : Ty.sl e' = Ty.sl e) (show den (.sl e') from xs))
    | none => none
   | _ => none) = some xs), (fr fn.ntmps m').defers = [] ∧ ∃ v, (results fn (fr fn.ntmps m').tmps).run P w' = .ok v w' ∧ Ext w0 w' ∧ repR (gr S0 w0 w') [.sl e] v xs ∧ ∃ a n, v = .slice a n n := fun h1 => by
  split at h1
  ·rename_i e' ys hl1
   split at h1
   ·rename_i hh _
    subst hh
    have hys : ys = xs := osi h1
    subst hys
    obtain ⟨vs, h3, h4⟩ := zzP (P := P) hτ R1 hl1
    obtain ⟨v, rfl, h5⟩ := h3.one
    obtain ⟨h5, a, h6⟩ := (show VB S' E' (.cl e' ys) v from h5)
    refine ⟨rfl, v, ?_, R1.hs.toExt, ⟨v, rfl, RdS.mono h5 R1.hs.gr⟩, a, _, h6⟩
    rw [zrD, Array.mapM_eq_mapM_toList]
    simp only [Sem.run_bind, Sem.run_map, h4, Result.andThen_ok, Sem.run_pure]
    rfl
   ·cases h1
  ·cases h1
 cases ex with
 | normal =>
  obtain ⟨h2, v, h3, h4, h5, h6⟩ := key h1
  exact ⟨h2, v, h3, h4, v, rfl, h5, fun _ => h6⟩
 | ret =>
  obtain ⟨h2, v, h3, h4, h5, h6⟩ := key h1
  exact ⟨h2, v, h3, h4, v, rfl, h5, fun _ => h6⟩
 | exit i => cases h1
end
end Go.Proofs.YtmkomlbiaebddaaGreatDoor.Am
namespace Go.Proofs.YtmkomlbiaebddaaGreatDoor.Am
open Go Go.RowKit Go.Maps Go.Sort
open Go.WideElems (Fit rd rg)
def zyR : List Bs → Bool
 | x :: y :: l => Op.bytesLess x y && zyR (y :: l)
 | _ => true
def yaS {α : Type} (es : List (Bs × α)) : Bool := decide (es.length ≤ 1048576) && (es.all (fun p => decide (p.1.length ≤ 68719476736)) && zyR (es.map (·.1)))
def ybV {α : Type} (es : List (Bs × α)) : Option (List Bs × List (Bs × α)) := bif yaS es then some (es.map (·.1), es) else none
theorem yeX : ∀ {l : List Bs}, zyR l = true → l.Pairwise fun x y => x < y
 | [], _ => .nil
 | [x], _ => List.pairwise_singleton _ _
 | x :: y :: l, h => by
  unfold zyR at h
  rw [Bool.and_eq_true, bytesLess_eq, decide_eq_true_eq] at h
  have ih := yeX (l := y :: l) h.2
  refine List.pairwise_cons.2 ⟨fun z hz => ?_, ih⟩
  rcases List.mem_cons.1 hz with rfl | hz
  ·exact h.1
  ·exact List.lt_trans h.1 ((List.pairwise_cons.1 ih).1 z hz)
theorem ypH {l : List Bs} (h : zyR l = true) : l.mergeSort (fun x y => decide (x ≤ y)) = l := by
 refine List.mergeSort_of_pairwise ((yeX h).imp fun {a b} hab => ?_)
 simp only [decide_eq_true_eq]
 exact List.le_of_lt hab
def anyV : Value → Option (DataW Unit × List MemPlace) := fun _ => some (.nil, [])
section
variable {P : Program} {S : Mem}
theorem ymW {V : Ty} {kT : TypeId} (hk : P.underlying kT = some .string) : ∀ {l : List (Bs × den V)} {ents : List MapEntry}, A2 (fun (p : Bs × den V) en => rep1 .s S en.key p.1 ∧ rep1 V S en.val p.2) l ents → (∀ p ∈ l, p.1.length ≤ 68719476736) → ents.map (·.key) = l.map (fun p => str p.1) ∧ (∀ x ∈ ents, ∃ y, Go.WideElems.rd P kT anyV x = some y) ∧ (ents.map (Go.WideElems.rg P kT anyV)).map (fun p => strOf p.1) = l.map (·.1)
 | _, _, .nil, _ => ⟨rfl, fun _ h => (by cases h), rfl⟩
 | p :: l, en :: ents, .cons a r, hs => by
  obtain ⟨i1, i2, i3⟩ := ymW hk r fun q hq => hs q (List.mem_cons_of_mem _ hq)
  have hkey : en.key = str p.1 := by have h : [en.key] = [str p.1] := a.1; injection h
  have hp := hs p List.mem_cons_self
  have hr : Go.WideElems.rd P kT anyV en = some (.string p.1, .nil) := by
   unfold Go.WideElems.rd
   rw [hkey]
   have := Go.WideMaps.keyOf_string_mk (P := P) (k := kT) hk (s := ⟨p.1.toArray⟩) (by show p.1.toArray.size ≤ _; simp [maxLen]; omega)
   show (keyOf P kT (.string ⟨p.1.toArray⟩)).bind _ = _
   rw [this]
   rfl
  refine ⟨by rw [List.map_cons, List.map_cons, i1, hkey], fun x hx => ?_, ?_⟩
  ·rcases List.mem_cons.1 hx with rfl | hx
   ·exact ⟨_, hr⟩
   ·exact i2 x hx
  ·rw [List.map_cons, List.map_cons, List.map_cons, i3]
   congr 1
   unfold Go.WideElems.rg
   rw [hr]
   rfl
theorem yyU {V : Ty} {kT : TypeId} {w : World} {b ck : Nat} {es : List (Bs × den V)} {ents : List MapEntry} (hk : P.underlying kT = some .string) (hm : MR S .s V es ents) (hb : ∀ en ∈ ents, en.born < ck) (hh : w.heap[b]? = some (.map ents.toArray ck)) (ho : yaS es = true) :
  ∃ D0 : DataW Unit, w.ownsMap P kT anyV b es.length D0 ∧ Maps.size D0 = es.length ∧ (strKeys D0).Perm (es.map (·.1)) := by
 obtain ⟨(l : List (Bs × den V)), (hl : l.Perm es), hA⟩ := hm.perm
 unfold yaS at ho
 simp only [Bool.and_eq_true, decide_eq_true_eq, List.all_eq_true] at ho
 obtain ⟨h1, h2, h3⟩ := ho
 have hlen : ents.length = es.length := by rw [← hA.len]; exact hl.length_eq
 obtain ⟨k1, k2, k3⟩ := ymW hk hA fun p hp => h2 p (hl.mem_iff.1 hp)
 have hnd : (es.map (·.1)).Nodup := (yeX h3).imp fun {a b} hab e => by subst e; exact List.lt_irrefl _ hab
 refine ⟨_, ⟨ents.toArray, ck, hh, ⟨by simp [maxLen]; omega, ⟨by simpa using hb, by simpa using hm.nd, ?_⟩, by simpa using k2⟩, by simp [hlen], rfl⟩, ?_, ?_⟩
 ·have e1 : l.map (fun p => str p.1) = (l.map (·.1)).map str := by rw [List.map_map]; rfl
  simp only []
  rw [k1, e1]
  refine List.Pairwise.map _ (fun a b hab e => hab (ylX e)) ((hl.map _).nodup_iff.2 hnd)
 ·show ((ents.map (Go.WideElems.rg P kT anyV)).foldr DataW.insert []).length = _
  rw [length_sorted, List.length_map, hlen]
 ·show (((ents.map (Go.WideElems.rg P kT anyV)).foldr DataW.insert []).map fun p => strOf p.1).Perm _
  refine ((Go.WideShapes.sorted_perm _).map _).trans ?_
  rw [k3]
  exact hl.map _
theorem yvQ : ∀ (l : List Bs), @RL (den .s) (rpD .s) S (l.map encStr) l
 | [] => rfl
 | x :: l => ⟨[str x], l.map encStr, rfl, (rfl : [_] = [_]), yvQ l⟩
theorem row_rd {w' : World} {base n : Nat} {sT : TypeId} {v : Value} {ks : List Bs} (hn : ks.length = n) (hrow : w'.ownsRow base sT 1 v n (ks.map encStr)) (hm : ∀ b, base ≤ b → S b = w'.heap[b]?) : @RdS (den .s) (rpD .s) S v ks := by
 subst hn
 refine ⟨ks.map encStr, ?_, yvQ ks⟩
 obtain ⟨g1, g2⟩ := hrow
 show SlS S v ks.length 1 (ks.map encStr)
 rcases g2 with ⟨rfl, g3⟩ | ⟨gb, cap, cur, rfl, g3, g4, g5, g6, g7, g8⟩
 ·have : ks = [] := List.eq_nil_of_length_eq_zero g3
  subst this
  exact .inl ⟨rfl, rfl, rfl⟩
 ·refine .inr ⟨gb, 0, cap, cur.toList, sT, (0, 0), rfl, g5, ?_, ?_, ?_⟩
  ·rw [hm gb g3, g4]
  ·have : cur.toList.length = cap * 1 := by simpa using g7
   rw [this]; omega
  ·rw [zaM, List.drop_zero]; exact g8
theorem ysX {G : List (Nat × Obj)} {f g : FuncId} {mT kT sT : TypeId} {V : Ty} (hfn : IsFn P f) (hk : P.underlying kT = some .string)
  (hS : ∀ (Bm b nn : Nat) (D0 : DataW Unit) (w : World), Bm < w.heap.size → w.cell? ⟨Bm, 0, none⟩ = some (.map (some b)) → w.ownsMap P kT anyV b nn D0 → Maps.size D0 ≤ maxLen → Maps.size D0 * 16 ≤ 140737488355328 →
   Calls P f #[.func (.func g) #[] #[.pointer (some ⟨Bm, 0, none⟩)]] w fun e w' => ∃ (v : Value) (ss : List Bs), e = .returned v ∧ ss.Perm (strKeys D0) ∧ w'.ownsRow w.heap.size sT 1 v ss.length ((ss.mergeSort (fun x y => decide (x ≤ y))).map encStr) ∧ (v = .slice none 0 0 ↔ ss = []) ∧ Below w.heap.size w w') :
  SCok P G f ⟨⟨[(0, .fn g [] [.ptr 0 0])], [.blk mT [.mpr 1], .mp true .s V]⟩, 1, [(none, ⟨[(0, .h (.sl .s))], [.blk mT [.mpr 1], .mp true .s V]⟩)], fun (es : List (Bs × den V)) => ybV es⟩ := by
 refine ⟨hfn, fun S0 w0 us E0 L0 (es : List (Bs × den V)) d _ hul R hy => ?_⟩
 have hy : (bif yaS es then some (es.map (·.1), es) else none) = some d := hy
 obtain ⟨hok, hy⟩ := zaG hy
 have hd : d = (es.map (·.1), es) := (osi hy).symm
 subst hd
 have hul : us.length = 1 := hul
 obtain ⟨u, rfl⟩ : ∃ u, us = [u] := by
  match us, hul with
  | [u], _ => exact ⟨u, rfl⟩
 obtain ⟨q, hq⟩ := zhI (.mp .s V)
 have hput : (Shp.put (⟨[(0, .fn g [] [.ptr 0 0])], [.blk mT [.mpr 1], .mp true .s V]⟩ : Shp) es) = ⟨[(0, .fn g [] [.ptr 0 0])], [.blk mT [.mpr 1], .mp 0 .s V es]⟩ := by
  have e0 : ∀ y : den (.mp .s V), zlE [.blk mT [.mpr 1], .mp true .s V] [.v (.mp .s V) y] = [.blk mT [.mpr 1], .mp 0 .s V y] := fun y => by
   simp only [zlE, ycM, Sh.putC, Sh.putB, hq]
   rfl
  exact congrArg (fun hp => (⟨[(0, .fn g [] [.ptr 0 0])], hp⟩ : St)) (e0 es)
 have hput2 : (Shp.put (⟨[(0, .h (.sl .s))], [.blk mT [.mpr 1], .mp true .s V]⟩ : Shp) ((es.map (·.1), es) : List Bs × List (Bs × den V))) = ⟨[(0, .v (.sl .s) (es.map (·.1)))], [.blk mT [.mpr 1], .mp 0 .s V es]⟩ := by
  have e0 : ∀ y : den (.mp .s V), zlE [.blk mT [.mpr 1], .mp true .s V] [.v (.mp .s V) y] = [.blk mT [.mpr 1], .mp 0 .s V y] := fun y => by
   simp only [zlE, ycM, Sh.putC, Sh.putB, hq]
   rfl
  exact congrArg (fun hp => (⟨[(0, .v (.sl .s) (es.map (·.1)))], hp⟩ : St)) (e0 es)
 have R : RelV ⟨S0, zbN L0, w0⟩ S0 E0 L0 ⟨[(0, .fn g [] [.ptr 0 0])], [.blk mT [.mpr 1], .mp 0 .s V es]⟩ (fun t => [u].getD t undef) w0 := by rw [← hput]; exact R
 obtain ⟨r0, e0, a1, a2, b0, cs, rfl, rfl, a3⟩ := R.objN (i := 0) rfl
 obtain ⟨c, rfl, a4⟩ := a3.one
 obtain ⟨_, e1, a5, a6⟩ := (show VB S0 E0 (.mpr 1) c from a4)
 obtain ⟨r1, e1', c1, c2, b, ents, ck, rfl, rfl, c3, c4⟩ := R.objN (i := 1) rfl
 rw [c2] at a5; cases a5
 have hc := a6 _ _ _ _ rfl
 subst hc
 have hh0 : w0.heap[b0]? = some (.cells [Value.map (some b)].toArray mT (0, 0)) := R.hs.own 0 _ a1
 have hh1 : w0.heap[b]? = some (.map ents.toArray ck) := R.hs.own 1 _ c1
 have hu : u = .func (.func g) #[] #[.pointer (some ⟨b0, 0, none⟩)] := by
  obtain ⟨xs, ys, hu, h1, h2⟩ := (show VC S0 E0 (.fn g [] [.ptr 0 0]) u from R.sl 0)
  cases h1
  obtain ⟨y, rfl, h3⟩ := h2.one
  obtain ⟨b1, hy, e2, h4, h5⟩ := (show VB S0 E0 (.ptr 0 0) y from h3)
  rw [a2] at h4; cases h4
  cases h5 _ rfl
  rw [hu, hy]
 subst hu
 obtain ⟨D0, d1, d2, d3⟩ := yyU (S := S0) hk c3 c4 hh1 hok
 have hlen : es.length ≤ 1048576 := by unfold yaS at hok; simp only [Bool.and_eq_true, decide_eq_true_eq] at hok; exact hok.1
 have hrise : zyR (es.map (·.1)) = true := by unfold yaS at hok; simp only [Bool.and_eq_true] at hok; exact hok.2.2
 have hcell : w0.cell? ⟨b0, 0, none⟩ = some (.map (some b)) := by simp [World.cell?, hh0]
 refine (hS b0 b es.length D0 w0 (Array.getElem?_eq_some_iff.1 hh0).1 hcell d1 (by rw [d2]; simp [maxLen]; omega) (by rw [d2]; omega)).mono fun e w' ⟨v, ss, he, hp, hrow, hnil, hx⟩ => ?_
 have hx : Ext w0 w' := hx
 have hss : ss.mergeSort (fun x y => decide (x ≤ y)) = es.map (·.1) := by
  rw [← ypH hrise]
  exact mergeSort_of_perm (hp.trans d3)
 have hsl : ss.length = es.length := by rw [hp.length_eq, d3.length_eq, List.length_map]
 rw [hss, hsl] at hrow
 have R' := R.call hx
 have hv : VB (gr S0 w0 w') E0 (.v (.sl .s) (es.map (·.1))) v :=
  ⟨v, rfl, row_rd (List.length_map _) hrow fun b hb => by unfold Go.Proofs.YtmkomlbiaebddaaGreatDoor.gr; rw [if_neg (by omega)]⟩
 refine ⟨v, he, gr S0 w0 w', E0, L0, ⟨[(0, .v (.sl .s) (es.map (·.1)))], [.blk mT [.mpr 1], .mp 0 .s V es]⟩, fun _ => v, fun k => ?_, yjT R.hs.sub, Pin.refl _ _, ⟨R'.hs, R'.lL, R'.lE, R'.obj, fun t => ?_⟩, ?_, Nat.le_refl _, rfl⟩
 ·show k (exOf none) ((Shp.put _ _).app []) = _
  rw [hput2]; rfl
 ·cases t with
  | zero => exact VR.ofC (show VC _ _ (.v (.sl .s) (es.map (·.1))) v from hv)
  | succ t => trivial
 ·intro i ver e' T' xs h
  cases i with
  | zero => cases h
  | succ i =>
   cases i with
   | zero => cases h
   | succ i => cases h
end
end Go.Proofs.YtmkomlbiaebddaaGreatDoor.Am
namespace Go.Proofs
open Go.Shelf
def Tryz.keysA_ren : Go.Shelf.Ren := ⟨fun | 7 => 37 | 10 => 87 | n => n, fun | 23 => 77 | 26 => 9 | 3 => 74 | 28 => 83 | 0 => 0 | 27 => 82 | 33 => 89 | 4 => 4 | n => n, fun | n => n⟩
theorem Tryz.keysA : Go.Proofs.SlLaysZ.n7 Tryz.prog Tryz.keysA_ren := {
  mixed := by kernel_rfl
  f7 := ⟨Tryz.f37.name, by decide, Tryz.func37.trans (congrArg some (by kernel_rfl))⟩
  f10 := ⟨Tryz.f87.name, by decide, Tryz.func87.trans (congrArg some (by kernel_rfl))⟩
  t0 := Tryz.underlying0
  a0 := Tryz.isAgg0
  z0 := Tryz.sizeOf0
  v0 := Tryz.zeroValue0
  t4 := Tryz.underlying4
  a4 := Tryz.isAgg4
  z4 := Tryz.sizeOf4
  v4 := Tryz.zeroValue4
  t23 := Tryz.underlying77
  a23 := Tryz.isAgg77
  z23 := Tryz.sizeOf77
  v23 := Tryz.zeroValue77
  t26 := Tryz.underlying9
  a26 := Tryz.isAgg9
  z26 := Tryz.sizeOf9
  v26 := Tryz.zeroValue9
  t27 := Tryz.underlying82
  a27 := Tryz.isAgg82
  z27 := Tryz.sizeOf82
  v27 := Tryz.zeroValue82
  t28 := Tryz.underlying83
  a28 := Tryz.isAgg83
  z28 := Tryz.sizeOf83
  v28 := Tryz.zeroValue83
  t33 := Tryz.underlying89
  a33 := Tryz.isAgg89
  z33 := Tryz.sizeOf89
  v33 := Tryz.zeroValue89 }
def Tryz.sortedA_ren : Go.Shelf.Ren := ⟨fun | 6 => 36 | 8 => 85 | 9 => 86 | 11 => 113 | 13 => 115 | 12 => 114 | 23 => 149 | 24 => 150 | 14 => 140 | 15 => 141 | 16 => 142 | 17 => 143 | 18 => 144 | 19 => 145 | 20 => 146 | 21 => 147 | 22 => 148 | 25 => 175 | 26 => 176 | 27 => 177 | 28 => 178 | 29 => 179 | 30 => 180 | 31 => 195 | n => n, fun | 26 => 9 | 28 => 83 | 24 => 41 | 0 => 0 | 3 => 3 | 37 => 139 | 48 => 133 | 50 => 102 | 4 => 4 | 40 => 176 | 39 => 175 | 45 => 98 | 5 => 5 | 9 => 9 | 51 => 206 | 55 => 210 | 57 => 223 | 58 => 224 | 33 => 89 | n => n, fun | n => n⟩
theorem Tryz.sortedA : Go.Proofs.SlLaysZ.n6 Tryz.prog Tryz.sortedA_ren := {
  mixed := by kernel_rfl
  f6 := ⟨Tryz.f36.name, by decide, Tryz.func36.trans (congrArg some (by kernel_rfl))⟩
  f8 := ⟨Tryz.f85.name, by decide, Tryz.func85.trans (congrArg some (by kernel_rfl))⟩
  f11 := ⟨Tryz.f113.name, by decide, Tryz.func113.trans (congrArg some (by kernel_rfl))⟩
  t0 := Tryz.underlying0
  a0 := Tryz.isAgg0
  z0 := Tryz.sizeOf0
  v0 := Tryz.zeroValue0
  t24 := Tryz.underlying41
  a24 := Tryz.isAgg41
  z24 := Tryz.sizeOf41
  v24 := Tryz.zeroValue41
  t26 := Tryz.underlying9
  a26 := Tryz.isAgg9
  z26 := Tryz.sizeOf9
  v26 := Tryz.zeroValue9
  t28 := Tryz.underlying83
  a28 := Tryz.isAgg83
  z28 := Tryz.sizeOf83
  v28 := Tryz.zeroValue83
  i26 := by kernel_rfl }
def Tryz.sortA_ren : Go.Shelf.Ren := ⟨fun | 6 => 86 | 8 => 115 | 9 => 114 | 19 => 149 | 20 => 150 | 21 => 140 | 22 => 141 | 23 => 142 | 24 => 143 | 25 => 144 | 26 => 145 | 27 => 146 | 28 => 147 | 29 => 148 | 36 => 175 | 31 => 176 | 32 => 177 | 37 => 178 | 38 => 179 | 39 => 180 | 41 => 195 | n => n, fun | 27 => 41 | 29 => 9 | 3 => 3 | 32 => 139 | 26 => 41 | 0 => 0 | 44 => 133 | 46 => 102 | 4 => 4 | 36 => 176 | 35 => 175 | 41 => 98 | 5 => 5 | 9 => 9 | 53 => 206 | 57 => 210 | 63 => 223 | 64 => 224 | n => n, fun | n => n⟩
theorem Tryz.sortA : Go.Proofs.SlLaysM.n6 Tryz.prog Tryz.sortA_ren := {
  mixed := by kernel_rfl
  f6 := ⟨Tryz.f86.name, by decide, Tryz.func86.trans (congrArg some (by kernel_rfl))⟩
  f8 := Tryz.func115.trans (congrArg some (by kernel_rfl))
  f9 := ⟨Tryz.f114.name, by decide, Tryz.func114.trans (congrArg some (by kernel_rfl))⟩
  f19 := Tryz.func149.trans (congrArg some (by kernel_rfl))
  f20 := Tryz.func150.trans (congrArg some (by kernel_rfl))
  f21 := ⟨Tryz.f140.name, by decide, Tryz.func140.trans (congrArg some (by kernel_rfl))⟩
  f22 := ⟨Tryz.f141.name, by decide, Tryz.func141.trans (congrArg some (by kernel_rfl))⟩
  f23 := ⟨Tryz.f142.name, by decide, Tryz.func142.trans (congrArg some (by kernel_rfl))⟩
  f24 := ⟨Tryz.f143.name, by decide, Tryz.func143.trans (congrArg some (by kernel_rfl))⟩
  f25 := ⟨Tryz.f144.name, by decide, Tryz.func144.trans (congrArg some (by kernel_rfl))⟩
  f26 := ⟨Tryz.f145.name, by decide, Tryz.func145.trans (congrArg some (by kernel_rfl))⟩
  f27 := ⟨Tryz.f146.name, by decide, Tryz.func146.trans (congrArg some (by kernel_rfl))⟩
  f28 := ⟨Tryz.f147.name, by decide, Tryz.func147.trans (congrArg some (by kernel_rfl))⟩
  f29 := ⟨Tryz.f148.name, by decide, Tryz.func148.trans (congrArg some (by kernel_rfl))⟩
  f31 := Tryz.func176.trans (congrArg some (by kernel_rfl))
  f32 := Tryz.func177.trans (congrArg some (by kernel_rfl))
  f36 := ⟨Tryz.f175.name, by decide, Tryz.func175.trans (congrArg some (by kernel_rfl))⟩
  f37 := ⟨Tryz.f178.name, by decide, Tryz.func178.trans (congrArg some (by kernel_rfl))⟩
  f38 := ⟨Tryz.f179.name, by decide, Tryz.func179.trans (congrArg some (by kernel_rfl))⟩
  f39 := ⟨Tryz.f180.name, by decide, Tryz.func180.trans (congrArg some (by kernel_rfl))⟩
  f41 := ⟨Tryz.f195.name, by decide, Tryz.func195.trans (congrArg some (by kernel_rfl))⟩
  t0 := Tryz.underlying0
  a0 := Tryz.isAgg0
  z0 := Tryz.sizeOf0
  v0 := Tryz.zeroValue0
  t3 := Tryz.underlying3
  a3 := Tryz.isAgg3
  z3 := Tryz.sizeOf3
  v3 := Tryz.zeroValue3
  t4 := Tryz.underlying4
  a4 := Tryz.isAgg4
  z4 := Tryz.sizeOf4
  v4 := Tryz.zeroValue4
  t5 := Tryz.underlying5
  a5 := Tryz.isAgg5
  z5 := Tryz.sizeOf5
  v5 := Tryz.zeroValue5
  t9 := Tryz.underlying9
  a9 := Tryz.isAgg9
  z9 := Tryz.sizeOf9
  v9 := Tryz.zeroValue9
  t26 := Tryz.underlying41
  a26 := Tryz.isAgg41
  z26 := Tryz.sizeOf41
  v26 := Tryz.zeroValue41
  t27 := Tryz.underlying41
  a27 := Tryz.isAgg41
  z27 := Tryz.sizeOf41
  v27 := Tryz.zeroValue41
  t29 := Tryz.underlying9
  a29 := Tryz.isAgg9
  z29 := Tryz.sizeOf9
  v29 := Tryz.zeroValue9
  t32 := Tryz.underlying139
  a32 := Tryz.isAgg139
  z32 := Tryz.sizeOf139
  v32 := Tryz.zeroValue139
  t35 := Tryz.underlying175
  a35 := Tryz.isAgg175
  z35 := Tryz.sizeOf175
  v35 := Tryz.zeroValue175
  t36 := Tryz.underlying176
  a36 := Tryz.isAgg176
  z36 := Tryz.sizeOf176
  v36 := Tryz.zeroValue176
  t41 := Tryz.underlying98
  a41 := Tryz.isAgg98
  z41 := Tryz.sizeOf98
  v41 := Tryz.zeroValue98
  t44 := Tryz.underlying133
  a44 := Tryz.isAgg133
  z44 := Tryz.sizeOf133
  v44 := Tryz.zeroValue133
  t46 := Tryz.underlying102
  a46 := Tryz.isAgg102
  z46 := Tryz.sizeOf102
  v46 := Tryz.zeroValue102
  t53 := Tryz.underlying206
  a53 := Tryz.isAgg206
  z53 := Tryz.sizeOf206
  v53 := Tryz.zeroValue206
  t57 := Tryz.underlying210
  a57 := Tryz.isAgg210
  z57 := Tryz.sizeOf210
  v57 := Tryz.zeroValue210
  t63 := Tryz.underlying223
  a63 := Tryz.isAgg223
  z63 := Tryz.sizeOf223
  v63 := Tryz.zeroValue223
  t64 := Tryz.underlying224
  a64 := Tryz.isAgg224
  z64 := Tryz.sizeOf224
  v64 := Tryz.zeroValue224 }
end Go.Proofs
namespace Go.Proofs
open Go.RowKit Go.Maps Go.Sort Go.Shelf
theorem YtmkomlbiaebddaaGreatDoor.sortsA (m : Nat) : AnyZ.SortsIn Tryz.prog Tryz.sortedA_ren Fence.wide m :=
 ⟨fun blk off cap ss W hH hblk hsz => callsIn_wide.2 (AnyM.slices_Sort_string Tryz.sortA blk off cap ss W hH hblk hsz),
  fun p cap W => callsIn_wide.2 (AnyM.slices_Sort_string_none Tryz.sortA p cap W)⟩
theorem YtmkomlbiaebddaaGreatDoor.sortedK (Bm b nn : Nat) (D0 : DataW Unit) (w : World) (hB : Bm < w.heap.size) (hc : w.cell? ⟨Bm, 0, none⟩ = some (.map (some b))) (ho : w.ownsMap Tryz.prog 9 YtmkomlbiaebddaaGreatDoor.Am.anyV b nn D0) (hmax : Maps.size D0 ≤ maxLen) (hb : Maps.size D0 * 16 ≤ 140737488355328) :
  Calls Tryz.prog 36 #[.func (.func 87) #[] #[.pointer (some ⟨Bm, 0, none⟩)]] w fun e w' => ∃ (v : Value) (ss : List (List UInt8)), e = .returned v ∧ ss.Perm (strKeys D0) ∧ w'.ownsRow w.heap.size 9 1 v ss.length ((ss.mergeSort (fun x y => decide (x ≤ y))).map encStr) ∧ (v = .slice none 0 0 ↔ ss = []) ∧ Below w.heap.size w w' := by
 have hseq : SeqGives Fence.wide 2 Tryz.prog 87 #[.pointer (some ⟨Bm, 0, none⟩)] encStr (fun ss => ss.Perm (strKeys D0)) (Maps.size D0) w :=
  AnyZ.keys_gives (ρ := Tryz.keysA_ren) { Tryz.keysA with } Fence.wide _ trivial rfl (by omega) Bm b nn D0 _ hB hc ho
 have cS := AnyZ.sorted_in Tryz.sortedA Fence.wide 5 trivial trivial trivial trivial rfl (by omega) (YtmkomlbiaebddaaGreatDoor.sortsA _) (enters_of Tryz.func86 (by kernel_rfl) rfl) 87 #[.pointer (some ⟨Bm, 0, none⟩)] trivial (enters_of Tryz.func87 (by kernel_rfl) rfl) _ _ hmax hb _ hseq
 exact (callsIn_wide (n := 5)).1 cS
end Go.Proofs
namespace Go.Proofs.YtmkomlbiaebddaaGreatDoor.Am
open Go Go.RowKit
def τWkF : TE := [(3, ⟨.int .i64, 1, [.v (.i .i64) (show Int from 0)], (.i .i64), 8⟩),
 (9, ⟨.s, 1, [.v .s (show Bs from [])], .s, 16⟩),
 (22, ⟨.sl 24, 1, [.nils], (.sl (.pr .s .s)), 24⟩),
 (24, ⟨.st [(9, 0), (9, 1)], 2, [.v .s (show Bs from []), .v .s (show Bs from [])], (.pr .s .s), 32⟩),
 (25, ⟨.pt 79, 1, [.nilp], .un, 8⟩),
 (35, ⟨.sl 53, 1, [.nils], (.sl (.pr .s (.pr .s (.pr .s (.pr .s (.pr (.i .i64) (.pr (.i .i64) (.pr (.i .i64) (.sl (.pr .s (.pr .s (.pr .s (.i .i64))))))))))))), 24⟩),
 (41, ⟨.sl 9, 1, [.nils], (.sl .s), 24⟩),
 (51, ⟨.sl 58, 1, [.nils], (.sl (.pr .s (.pr .s (.pr .s (.i .i64))))), 24⟩),
 (53, ⟨.st [(9, 0), (9, 1), (9, 2), (9, 3), (3, 4), (3, 5), (3, 6), (51, 7)], 8, [.v .s (show Bs from []), .v .s (show Bs from []), .v .s (show Bs from []), .v .s (show Bs from []), .v (.i .i64) (show Int from 0), .v (.i .i64) (show Int from 0), .v (.i .i64) (show Int from 0), .nils], (.pr .s (.pr .s (.pr .s (.pr .s (.pr (.i .i64) (.pr (.i .i64) (.pr (.i .i64) (.sl (.pr .s (.pr .s (.pr .s (.i .i64)))))))))))), 112⟩),
 (58, ⟨.st [(9, 0), (9, 1), (9, 2), (3, 3)], 4, [.v .s (show Bs from []), .v .s (show Bs from []), .v .s (show Bs from []), .v (.i .i64) (show Int from 0)], (.pr .s (.pr .s (.pr .s (.i .i64)))), 56⟩),
 (74, ⟨.st [(53, 0)], 8, [.v .s (show Bs from []), .v .s (show Bs from []), .v .s (show Bs from []), .v .s (show Bs from []), .v (.i .i64) (show Int from 0), .v (.i .i64) (show Int from 0), .v (.i .i64) (show Int from 0), .nils], (.pr .s (.pr .s (.pr .s (.pr .s (.pr (.i .i64) (.pr (.i .i64) (.pr (.i .i64) (.sl (.pr .s (.pr .s (.pr .s (.i .i64)))))))))))), 112⟩),
 (77, ⟨.map 9 74, 1, [.nilm], (.mp .s (.pr .s (.pr .s (.pr .s (.pr .s (.pr (.i .i64) (.pr (.i .i64) (.pr (.i .i64) (.sl (.pr .s (.pr .s (.pr .s (.i .i64))))))))))))), 8⟩),
 (79, ⟨.st [(77, 0)], 1, [.nilm], (.pr (.mp .s (.pr .s (.pr .s (.pr .s (.pr .s (.pr (.i .i64) (.pr (.i .i64) (.pr (.i .i64) (.sl (.pr .s (.pr .s (.pr .s (.i .i64))))))))))))) .un), 8⟩),
 (125, ⟨.ifc, 1, [.v .er (show Bool from false)], .er, 16⟩)]
theorem τ_okWkF : TEok Tryz.prog τWkF := yrR (by kernel_rfl) (by kernel_rfl)
theorem yeB : Tryz.prog.follows .mixedOrders = true := by kernel_rfl
theorem zhU {G : List (Nat × Obj)} {o : Ops} [zqO G] [zpI G o] {Γ : CT} {η : HT} {f : FuncId} {fn : Func} {c : SC} (hΓ : ∀ B, GB G B → CTok Tryz.prog Γ B) (hf : Tryz.prog.funcs[f]? = some fn) (i : (fn.name == "runtime.NumGoroutine") = false := by kernel_rfl) (j : fn.body.isNone = false := by kernel_rfl) (l : Nat.ble c.I.sl.length fn.ntmps = true := by kernel_rfl) (r : Nat.beq fn.results.toList.length c.nr = true := by kernel_rfl) (e : fnS τWkF Γ η fn c.I c.outs = c.p := by kernel_rfl) : SCok Tryz.prog G f c := witO (G := G) (o := o) <| ywV yeB τ_okWkF hΓ hf (isFn hf i j) l r e
theorem zoQ {G : List (Nat × Obj)} {o : Ops} [zqO G] [zpI G o] {Γ : CT} {η : HT} {f : FuncId} {fn : Func} {c : PC} (hΓ : ∀ B, GB G B → CTok Tryz.prog Γ B) (hf : Tryz.prog.funcs[f]? = some fn) (i : (fn.name == "runtime.NumGoroutine") = false := by kernel_rfl) (j : fn.body.isNone = false := by kernel_rfl) (l : Nat.ble c.ash.length fn.ntmps = true := by kernel_rfl) (r : c.cl = false := by kernel_rfl) (e : fnP τWkF Γ η fn c.ash c.rts = c.p := by kernel_rfl) : PCok Tryz.prog G f c := witO (G := G) (o := o) <| ylB yeB τ_okWkF hΓ hf (isFn hf i j) l r e
abbrev zdB : Type := Bs × Bs × Bs × Int
abbrev ztO : Ty := .pr .s (.pr .s (.pr .s (.i .i64)))
abbrev zlU : Type := Bs × Bs × Bs × Bs × Int × Int × Int × List zdB
abbrev ybI : Ty := .pr .s (.pr .s (.pr .s (.pr .s (.pr (.i .i64) (.pr (.i .i64) (.pr (.i .i64) (.sl ztO)))))))
abbrev zcB : Type := Bs × Bs × Bs × Bs × Bs × Int × Int × Int × List zdB
abbrev zqL : OSh := .blk 74 [hS, hS, hS, hS, hI, hI, hI, (.h (.sl ztO))]
abbrev yfA : OSh := .blk 74 [hS, hS, hS, hS, hI, hI, hI, .nils]
abbrev ykI : OSh := .blk 58 [hS, hS, hS, hI]
abbrev ziV : OSh := .blk 79 [(.mpr 1)]
abbrev ycI : OSh := .mp false .s ybI
abbrev ypR : OSh := .blk 79 [(.mpr 3)]
abbrev yvY : OSh := .blk 79 [(.mpr 2)]
abbrev zhB : OSh := .mp true .s ybI
section
variable {tabs : List (Nat × Obj)} [zqO tabs] {o : Ops} [zpI tabs o]
def zlV (o : Ops) : Option ((List zcB)) :=
 some ([] : List zcB)
def zpW (o : Ops) : SC := ⟨⟨[], []⟩, 1, [(none, ⟨[(0, (.ptr 0 0))], [ziV, zhB]⟩)], fun _ => zlV o⟩
theorem ztH : SCok Tryz.prog tabs 16 (zpW o) := zhU (o := o) (η := []) (Γ := ⟨[], [], false⟩) (ctok trivial trivial) Tryz.func16
def zvI (o : Ops) (v0 : Bs) (v1 : Int) (v2 : Bs) : Option (Bool) :=
 bif (v0 != ([] : Bs)) then (bif decide ((v0.length : Int) ≤ v1) then ((o.trim v0 v2).bind fun v3 => some (v3 == ([] : Bs))) else (some false)) else (some false)
def zyV (o : Ops) : PC := ⟨[hS, hI, hS], [.b], fun x => zvI o x.1 x.2.1 x.2.2, false⟩
theorem yjI : PCok Tryz.prog tabs 91 (zyV o) := zoQ (o := o) (η := []) (Γ := ⟨[(109, (ygW o))], [], false⟩) (ctok ⟨(zpI.trim (G := tabs)), trivial⟩ trivial) Tryz.func91
def zgW (o : Ops) (v0 : Bs) : Option (Bool) :=
 (zvI o v0 (24 : Int) ([97, 98, 99, 100, 101, 102, 103, 104, 105, 106, 107, 108, 109, 110, 111, 112, 113, 114, 115, 116, 117, 118, 119, 120, 121, 122, 48, 49, 50, 51, 52, 53, 54, 55, 56, 57, 46, 95, 45] : Bs)).bind fun v1 => some v1
def zqH (o : Ops) : PC := ⟨[hS], [.b], fun x => zgW o x, false⟩
theorem zvE : PCok Tryz.prog tabs 42 (zqH o) := zoQ (o := o) (η := []) (Γ := ⟨[(91, (zyV o))], [], false⟩) (ctok ⟨yjI, trivial⟩ trivial) Tryz.func42
def zhL (o : Ops) (v0 : Int) (v1 : Int) (v2 : Int) : Option (Bool) :=
 bif decide (v0 ≥ v1) then (some (decide (v0 ≤ v2))) else (some false)
def zkC (o : Ops) : PC := ⟨[hI, hI, hI], [.b], fun x => zhL o x.1 x.2.1 x.2.2, false⟩
theorem zlN : PCok Tryz.prog tabs 43 (zkC o) := zoQ (o := o) (η := []) (Γ := ⟨[], [], false⟩) (ctok trivial trivial) Tryz.func43
def zeO (o : Ops) (v0 : Bs) (v1 : Bs) : Option Bs :=
 (o.stretch v0 v1 (4 : Int) (32 : Int)).bind fun v2 => some v2.1
def zkH (o : Ops) : PC := ⟨[hS, hS], [.s], fun x => zeO o x.1 x.2, false⟩
theorem zpZ : PCok Tryz.prog tabs 44 (zkH o) := zoQ (o := o) (η := []) (Γ := ⟨[(92, (yeQ o))], [], false⟩) (ctok ⟨(zpI.stretch (G := tabs)), trivial⟩ trivial) Tryz.func44
def zqB (o : Ops) (v0 : Bs) (v1 : Bs) (v2 : Bs) (v3 : List zcB) : Option ((Int × List zcB) ⊕ (List zcB)) :=
 (zgW o v0).bind fun v4 => bif (!v4) then some (.inl ((155 : Int), v3)) else (bif ((v1.length : Int) != 16) then some (.inl ((155 : Int), v3)) else ((zhL o (v2.length : Int) (1 : Int) (64 : Int)).bind fun v5 => bif (!v5) then some (.inl ((155 : Int), v3)) else some (.inr v3)))
def zkL (o : Ops) (v0 : Bs) (v8 : List zcB) (v9 : zlU) : Option ((Int × List zcB) ⊕ ((List zcB) × zlU)) :=
 bif (!(mhas keqS v8 v0)) then (bif decide ((v8.length : Int) ≥ 64) then some (.inl ((156 : Int), v8)) else some (.inr (v8, v9))) else some (.inr (v8, v9))
def zeP (o : Ops) (v0 : Bs) (v1 : Bs) (v2 : Bs) (v3 : List zcB) : Option ((Int × List zcB)) :=
 (zqB o v0 v1 v2 v3).bind fun v6 => match v6 with
 | .inl v7 => some v7
 | .inr v8 => (let v9 : zlU := zpF keqS v8 v0 (([] : Bs), ([] : Bs), ([] : Bs), ([] : Bs), (0 : Int), (0 : Int), (0 : Int), ([] : List zdB))
 (zkL o v0 v8 v9).bind fun v10 => match v10 with
 | .inl v11 => some v11
 | .inr v12 => ((zeO o v2 v1).bind fun v13 => let v14 : List zcB := mset keqS kltS v12.1 v0 (v0, v1, v13, v12.2.2.2.2.1, v12.2.2.2.2.2.1, (0 : Int), (0 : Int), v12.2.2.2.2.2.2.2.2)
 some ((0 : Int), v14)))
def zhX (o : Ops) : SC := ⟨⟨[(0, (.ptr 0 0)), (1, hS), (2, hS), (3, hS)], [ziV, zhB]⟩, 1, [(none, ⟨[(0, hI)], [ziV, ycI]⟩)], fun x => zeP o x.1 x.2.1 x.2.2.1 x.2.2.2⟩
theorem zkG : SCok Tryz.prog tabs 17 (zhX o) := zhU (o := o) (η := [(2000003, .join [] [1, 2, 3] [(some 1000000, ⟨[(8, hI)], [ziV, zhB]⟩), (none, ⟨[(0, (.ptr 0 0))], [ziV, zhB]⟩)]),
 (2000006, .join [] [1, 2, 3] [(some 1000000, ⟨[(8, hI)], [ziV, zhB]⟩), (none, ⟨[(0, (.ptr 0 0)), (9, (.ptr 2 0))], [ziV, zhB, zqL]⟩)]),
 (4000007, .sch [(.pu, 0, []), (.pu, 1, []), (.pu, 2, []), (.pu, 3, []), (.pu, 4, []), (.pu, 5, []), (.mn, 6, [0, 1, 2])])]) (Γ := ⟨[(42, (zqH o)), (43, (zkC o)), (44, (zkH o))], [], false⟩) (ctok ⟨zvE, ⟨zlN, ⟨zpZ, trivial⟩⟩⟩ trivial) Tryz.func17
def zmR (o : Ops) (v0 : Int) : Option (Bool) :=
 (zhL o v0 (0 : Int) (1099511627776 : Int)).bind fun v1 => some v1
def zsP (o : Ops) : PC := ⟨[hI], [.b], fun x => zmR o x, false⟩
theorem zwV : PCok Tryz.prog tabs 46 (zsP o) := zoQ (o := o) (η := []) (Γ := ⟨[(43, (zkC o))], [], false⟩) (ctok ⟨zlN, trivial⟩ trivial) Tryz.func46
def zhR (o : Ops) (v0 : Bs) (v1 : Bs) (v2 : Bs) (v3 : Bs) (v4 : Int) (v5 : Int) (v6 : Int) (v7 : List zdB) (v8 : Int) (v9 : Bs) : Option ((Bool × Bs × Bs × Bs × Bs × Int × Int × Int × (List zdB) × Int × Bs)) :=
 (zhL o (v9.length : Int) (1 : Int) (64 : Int)).bind fun v10 => bif v10 then ((zeO o v9 v1).bind fun v11 => (o.same v11 v2).bind fun v12 => some (v12, v0, v1, v2, v3, v4, v5, v6, v7, v8, v9)) else some (false, v0, v1, v2, v3, v4, v5, v6, v7, v8, v9)
def zlG (o : Ops) (v0 : Bs) (v1 : Bs) (v2 : Bs) (v3 : Bs) (v4 : Int) (v5 : Int) (v6 : Int) (v7 : List zdB) (v8 : Int) (v9 : Bs) : Option ((Int × Bs × Bs × Bs × Bs × Int × Int × Int × (List zdB) × Int × Bs) ⊕ (Bs × Bs × Bs × Bs × Int × Int × Int × (List zdB) × Int × Bs)) :=
 (zhR o v0 v1 v2 v3 v4 v5 v6 v7 v8 v9).bind fun v13 => bif v13.1 then some (.inl ((0 : Int), v13.2.1, v13.2.2.1, v13.2.2.2.1, v13.2.2.2.2.1, v13.2.2.2.2.2.1, (0 : Int), (0 : Int), v13.2.2.2.2.2.2.2.2)) else some (.inr v13.2)
def zfK (o : Ops) (v0 : Bs) (v1 : Bs) (v2 : Bs) (v3 : Bs) (v4 : Int) (v5 : Int) (v6 : Int) (v7 : List zdB) (v8 : Int) (v9 : Bs) : Option ((Int × Bs × Bs × Bs × Bs × Int × Int × Int × (List zdB) × Int × Bs)) :=
 bif decide (v8 < v6) then some ((152 : Int), v0, v1, v2, v3, v4, v5, v6, v7, v8, v9) else ((zlG o v0 v1 v2 v3 v4 v5 v6 v7 v8 v9).bind fun v14 => match v14 with
 | .inl v15 => some v15
 | .inr v16 => (bif ((w64 (v16.2.2.2.2.2.1 + 1)) == 5) then some ((151 : Int), v16.1, v16.2.1, v16.2.2.1, v16.2.2.2.1, v16.2.2.2.2.1, (0 : Int), w64 (v16.2.2.2.2.2.2.2.2.1 + 300), v16.2.2.2.2.2.2.2) else some ((151 : Int), v16.1, v16.2.1, v16.2.2.1, v16.2.2.2.1, v16.2.2.2.2.1, w64 (v16.2.2.2.2.2.1 + 1), v16.2.2.2.2.2.2)))
def zlJ (o : Ops) : SC := ⟨⟨[(0, (.ptr 0 0)), (1, (.ptr 1 0)), (2, (.ptr 2 0))], [zqL, .blk 3 [hI], .blk 9 [hS]]⟩, 1, [(none, ⟨[(0, hI)], [zqL, .blk 3 [hI], .blk 9 [hS]]⟩)], fun x => zfK o x.1 x.2.1 x.2.2.1 x.2.2.2.1 x.2.2.2.2.1 x.2.2.2.2.2.1 x.2.2.2.2.2.2.1 x.2.2.2.2.2.2.2.1 x.2.2.2.2.2.2.2.2.1 x.2.2.2.2.2.2.2.2.2⟩
theorem ztA : SCok Tryz.prog tabs 48 (zlJ o) := zhU (o := o) (η := [(2300004, .join [] [] [(none, ⟨[(0, (.ptr 0 0)), (1, (.ptr 1 0)), (29, hB)], [zqL, .blk 3 [hI], .blk 9 [hS]]⟩)]),
 (2000006, .join [] [] [(some 1000000, ⟨[(4, hI)], [zqL, .blk 3 [hI], .blk 9 [hS]]⟩), (none, ⟨[(0, (.ptr 0 0)), (1, (.ptr 1 0))], [zqL, .blk 3 [hI], .blk 9 [hS]]⟩)]),
 (4000001, .sch [(.pu, 0, []), (.pu, 1, []), (.pu, 2, []), (.pu, 3, []), (.pu, 4, []), (.pu, 5, []), (.pu, 6, [])]),
 (4000003, .sch [(.pu, 0, []), (.pu, 1, []), (.mn, 2, []), (.pu, 3, []), (.pu, 4, []), (.pu, 5, []), (.pu, 6, []), (.pu, 7, []), (.pu, 8, []), (.pu, 9, []), (.pu, 11, []), (.pu, 12, []), (.pu, 13, []), (.pu, 14, []), (.pu, 15, []), (.mn, 10, []), (.mn, 16, []), (.pu, 17, [])]),
 (4000008, .sch [(.pu, 0, []), (.pu, 1, [0]), (.pu, 2, [0]), (.pu, 3, [0]), (.pu, 4, []), (.pu, 5, []), (.pu, 6, []), (.mn, 7, [0]), (.pu, 8, []), (.pu, 9, []), (.pu, 10, []), (.mn, 11, [0])])]) (Γ := ⟨[(43, (zkC o)), (44, (zkH o)), (49, (yrG o))], [], false⟩) (ctok ⟨zlN, ⟨zpZ, ⟨(zpI.same (G := tabs)), trivial⟩⟩⟩ trivial) Tryz.func48
def zkP (o : Ops) (v0 : Bs) (v1 : Int) (v2 : Bs) (v3 : List zcB) : Option ((Int × Int × Bs × List zcB)) :=
 let v4 : zlU := zpF keqS v3 v0 (([] : Bs), ([] : Bs), ([] : Bs), ([] : Bs), (0 : Int), (0 : Int), (0 : Int), ([] : List zdB))
 bif (!(mhas keqS v3 v0)) then some ((150 : Int), v1, v2, v3) else ((zfK o v4.1 v4.2.1 v4.2.2.1 v4.2.2.2.1 v4.2.2.2.2.1 v4.2.2.2.2.2.1 v4.2.2.2.2.2.2.1 v4.2.2.2.2.2.2.2 v1 v2).bind fun v5 => let v6 : List zcB := mset keqS kltS v3 v0 (v5.2.1, v5.2.2.1, v5.2.2.2.1, v5.2.2.2.2.1, v5.2.2.2.2.2.1, v5.2.2.2.2.2.2.1, v5.2.2.2.2.2.2.2.1, v5.2.2.2.2.2.2.2.2.1)
 some (v5.1, v5.2.2.2.2.2.2.2.2.2.1, v5.2.2.2.2.2.2.2.2.2.2, v6))
def zoR (o : Ops) : SC := ⟨⟨[(0, (.ptr 0 0)), (1, hS), (2, (.fn 48 [] [(.ptr 1 0), (.ptr 2 0)]))], [ypR, .blk 3 [hI], .blk 9 [hS], zhB]⟩, 1, [(none, ⟨[(0, hI)], [ypR, .blk 3 [hI], .blk 9 [hS], ycI]⟩)], fun x => zkP o x.1 x.2.1 x.2.2.1 x.2.2.2⟩
theorem zvM : SCok Tryz.prog tabs 47 (zoR o) := zhU (o := o) (η := [(4000005, .sch [(.pu, 0, []), (.pu, 1, []), (.pu, 2, []), (.pu, 3, []), (.pu, 4, []), (.pu, 5, []), (.mn, 6, [0, 1, 2, 3, 4, 5])])]) (Γ := ⟨[], [(48, (zlJ o))], false⟩) (ctok trivial ⟨ztA, trivial⟩) Tryz.func47
def zaY (o : Ops) (v0 : Bs) (v1 : Bs) (v2 : Int) (v3 : List zcB) : Option ((Int × List zcB)) :=
 (zmR o v2).bind fun v4 => bif (!v4) then some ((1 : Int), v3) else ((zkP o v0 v2 v1 v3).bind fun v5 => some (v5.1, v5.2.2.2))
def zfX (o : Ops) : SC := ⟨⟨[(0, (.ptr 0 0)), (1, hS), (2, hS), (3, hI)], [ziV, zhB]⟩, 1, [(none, ⟨[(0, hI)], [ziV, ycI]⟩)], fun x => zaY o x.1 x.2.1 x.2.2.1 x.2.2.2⟩
theorem zjG : SCok Tryz.prog tabs 19 (zfX o) := zhU (o := o) (η := []) (Γ := ⟨[(46, (zsP o))], [(47, (zoR o))], false⟩) (ctok ⟨zwV, trivial⟩ ⟨zvM, trivial⟩) Tryz.func19
def zmQ (o : Ops) (v0 : Bs) (v1 : Bs) (v2 : Bs) (v3 : Bs) (v4 : Int) (v5 : Int) (v6 : Int) (v7 : List zdB) (v8 : Bs) (v9 : Int) (v10 : Int × Bool) : Option ((Int × Bs × Bs × Bs × Bs × Int × Int × Int × (List zdB) × Bs × Int) ⊕ (Bs × Bs × Bs × Bs × Int × Int × Int × (List zdB) × Bs × Int)) :=
 bif (!v10.2) then some (.inl ((153 : Int), v0, v1, v2, v3, v4, v5, v6, v7, v8, v9)) else (bif decide (v10.1 < v4) then some (.inl ((153 : Int), v0, v1, v2, v3, v4, v5, v6, v7, v8, v9)) else some (.inr (v0, v1, v2, v3, v4, v5, v6, v7, v8, v9)))
def zfW (o : Ops) (v0 : Bs) (v1 : Bs) (v2 : Bs) (v3 : Bs) (v4 : Int) (v5 : Int) (v6 : Int) (v7 : List zdB) (v8 : Bs) (v9 : Int) : Option ((Int × Bs × Bs × Bs × Bs × Int × Int × Int × (List zdB) × Bs × Int)) :=
 bif (v3 == ([] : Bs)) then some ((154 : Int), v0, v1, v2, v3, v4, v5, v6, v7, v8, v9) else ((chk (((30 : Int) != 0))).bind fun _ => (o.find v3 v8 (w64 (Int.tdiv v9 (30 : Int))) (1 : Int)).bind fun v10 => (zmQ o v0 v1 v2 v3 v4 v5 v6 v7 v8 v9 v10).bind fun v11 => match v11 with
 | .inl v12 => some v12
 | .inr v13 => some ((0 : Int), v13.1, v13.2.1, v13.2.2.1, v13.2.2.2.1, w64 (v10.1 + 1), v13.2.2.2.2.2))
def zmJ (o : Ops) : SC := ⟨⟨[(0, (.ptr 0 0)), (1, (.ptr 1 0)), (2, (.ptr 2 0))], [zqL, .blk 9 [hS], .blk 3 [hI]]⟩, 1, [(none, ⟨[(0, hI)], [zqL, .blk 9 [hS], .blk 3 [hI]]⟩)], fun x => zfW o x.1 x.2.1 x.2.2.1 x.2.2.2.1 x.2.2.2.2.1 x.2.2.2.2.2.1 x.2.2.2.2.2.2.1 x.2.2.2.2.2.2.2.1 x.2.2.2.2.2.2.2.2.1 x.2.2.2.2.2.2.2.2.2⟩
theorem zuB : SCok Tryz.prog tabs 51 (zmJ o) := zhU (o := o) (η := [(2000006, .join [] [5] [(some 1000000, ⟨[(4, hI)], [zqL, .blk 9 [hS], .blk 3 [hI]]⟩), (none, ⟨[(0, (.ptr 0 0))], [zqL, .blk 9 [hS], .blk 3 [hI]]⟩)]),
 (4000003, .sch [(.pu, 0, []), (.pu, 1, []), (.pu, 2, []), (.pu, 3, []), (.pu, 4, []), (.pu, 5, []), (.pu, 6, []), (.pu, 7, []), (.mn, 8, []), (.pu, 9, []), (.pu, 10, []), (.pu, 11, []), (.pu, 12, []), (.pu, 13, [])])]) (Γ := ⟨[(52, (yrD o))], [], false⟩) (ctok ⟨(zpI.find (G := tabs)), trivial⟩ trivial) Tryz.func51
def zjX (o : Ops) (v0 : Bs) (v1 : Bs) (v2 : Int) (v3 : List zcB) : Option ((Int × Bs × Int × List zcB)) :=
 let v4 : zlU := zpF keqS v3 v0 (([] : Bs), ([] : Bs), ([] : Bs), ([] : Bs), (0 : Int), (0 : Int), (0 : Int), ([] : List zdB))
 bif (!(mhas keqS v3 v0)) then some ((150 : Int), v1, v2, v3) else ((zfW o v4.1 v4.2.1 v4.2.2.1 v4.2.2.2.1 v4.2.2.2.2.1 v4.2.2.2.2.2.1 v4.2.2.2.2.2.2.1 v4.2.2.2.2.2.2.2 v1 v2).bind fun v5 => let v6 : List zcB := mset keqS kltS v3 v0 (v5.2.1, v5.2.2.1, v5.2.2.2.1, v5.2.2.2.2.1, v5.2.2.2.2.2.1, v5.2.2.2.2.2.2.1, v5.2.2.2.2.2.2.2.1, v5.2.2.2.2.2.2.2.2.1)
 some (v5.1, v5.2.2.2.2.2.2.2.2.2.1, v5.2.2.2.2.2.2.2.2.2.2, v6))
def znM (o : Ops) : SC := ⟨⟨[(0, (.ptr 0 0)), (1, hS), (2, (.fn 51 [] [(.ptr 1 0), (.ptr 2 0)]))], [ypR, .blk 9 [hS], .blk 3 [hI], zhB]⟩, 1, [(none, ⟨[(0, hI)], [ypR, .blk 9 [hS], .blk 3 [hI], ycI]⟩)], fun x => zjX o x.1 x.2.1 x.2.2.1 x.2.2.2⟩
theorem zuT : SCok Tryz.prog tabs 47 (znM o) := zhU (o := o) (η := [(4000005, .sch [(.pu, 0, []), (.pu, 1, []), (.pu, 2, []), (.pu, 3, []), (.pu, 4, []), (.pu, 5, []), (.mn, 6, [0, 1, 2, 3, 4, 5])])]) (Γ := ⟨[], [(51, (zmJ o))], false⟩) (ctok trivial ⟨zuB, trivial⟩) Tryz.func47
def zcE (o : Ops) (v0 : Bs) (v1 : Bs) (v2 : Int) (v3 : List zcB) : Option ((Int × List zcB)) :=
 (zmR o v2).bind fun v4 => bif (!v4) then some ((1 : Int), v3) else ((zjX o v0 v1 v2 v3).bind fun v5 => some (v5.1, v5.2.2.2))
def zgU (o : Ops) : SC := ⟨⟨[(0, (.ptr 0 0)), (1, hS), (2, hS), (3, hI)], [ziV, zhB]⟩, 1, [(none, ⟨[(0, hI)], [ziV, ycI]⟩)], fun x => zcE o x.1 x.2.1 x.2.2.1 x.2.2.2⟩
theorem zjS : SCok Tryz.prog tabs 22 (zgU o) := zhU (o := o) (η := []) (Γ := ⟨[(46, (zsP o))], [(47, (znM o))], false⟩) (ctok ⟨zwV, trivial⟩ ⟨zuT, trivial⟩) Tryz.func22
def ziN (o : Ops) (v0 : Bs) (v1 : Bs) (v2 : Bs) (v3 : Bs) (v4 : Int) (v5 : Int) (v6 : Int) (v7 : List zdB) (v8 : Bs) : Option ((Int × Bs × Bs × Bs × Bs × Int × Int × Int × (List zdB) × Bs)) :=
 (zhL o (v8.length : Int) (16 : Int) (64 : Int)).bind fun v9 => bif (!v9) then some ((155 : Int), v0, v1, v2, v3, v4, v5, v6, v7, v8) else some ((0 : Int), v0, v1, v2, v8, (0 : Int), v5, v6, v7, v8)
def zlK (o : Ops) : SC := ⟨⟨[(0, (.ptr 0 0)), (1, (.ptr 1 0))], [zqL, .blk 9 [hS]]⟩, 1, [(none, ⟨[(0, hI)], [zqL, .blk 9 [hS]]⟩)], fun x => ziN o x.1 x.2.1 x.2.2.1 x.2.2.2.1 x.2.2.2.2.1 x.2.2.2.2.2.1 x.2.2.2.2.2.2.1 x.2.2.2.2.2.2.2.1 x.2.2.2.2.2.2.2.2⟩
theorem ztF : SCok Tryz.prog tabs 50 (zlK o) := zhU (o := o) (η := []) (Γ := ⟨[(43, (zkC o))], [], false⟩) (ctok ⟨zlN, trivial⟩ trivial) Tryz.func50
def zjZ (o : Ops) (v0 : Bs) (v1 : Bs) (v2 : List zcB) : Option ((Int × Bs × List zcB)) :=
 let v3 : zlU := zpF keqS v2 v0 (([] : Bs), ([] : Bs), ([] : Bs), ([] : Bs), (0 : Int), (0 : Int), (0 : Int), ([] : List zdB))
 bif (!(mhas keqS v2 v0)) then some ((150 : Int), v1, v2) else ((ziN o v3.1 v3.2.1 v3.2.2.1 v3.2.2.2.1 v3.2.2.2.2.1 v3.2.2.2.2.2.1 v3.2.2.2.2.2.2.1 v3.2.2.2.2.2.2.2 v1).bind fun v4 => let v5 : List zcB := mset keqS kltS v2 v0 (v4.2.1, v4.2.2.1, v4.2.2.2.1, v4.2.2.2.2.1, v4.2.2.2.2.2.1, v4.2.2.2.2.2.2.1, v4.2.2.2.2.2.2.2.1, v4.2.2.2.2.2.2.2.2.1)
 some (v4.1, v4.2.2.2.2.2.2.2.2.2, v5))
def znO (o : Ops) : SC := ⟨⟨[(0, (.ptr 0 0)), (1, hS), (2, (.fn 50 [] [(.ptr 1 0)]))], [yvY, .blk 9 [hS], zhB]⟩, 1, [(none, ⟨[(0, hI)], [yvY, .blk 9 [hS], ycI]⟩)], fun x => zjZ o x.1 x.2.1 x.2.2⟩
theorem zuX : SCok Tryz.prog tabs 47 (znO o) := zhU (o := o) (η := [(4000005, .sch [(.pu, 0, []), (.pu, 1, []), (.pu, 2, []), (.pu, 3, []), (.pu, 4, []), (.pu, 5, []), (.mn, 6, [0, 1, 2, 3, 4])])]) (Γ := ⟨[], [(50, (zlK o))], false⟩) (ctok trivial ⟨ztF, trivial⟩) Tryz.func47
def zdS (o : Ops) (v0 : Bs) (v1 : Bs) (v2 : List zcB) : Option ((Int × List zcB)) :=
 (zjZ o v0 v1 v2).bind fun v3 => some (v3.1, v3.2.2)
def zfV (o : Ops) : SC := ⟨⟨[(0, (.ptr 0 0)), (1, hS), (2, hS)], [ziV, zhB]⟩, 1, [(none, ⟨[(0, hI)], [ziV, ycI]⟩)], fun x => zdS o x.1 x.2.1 x.2.2⟩
theorem zjK : SCok Tryz.prog tabs 20 (zfV o) := zhU (o := o) (η := []) (Γ := ⟨[], [(47, (znO o))], false⟩) (ctok trivial ⟨zuX, trivial⟩) Tryz.func20
def zvV (o : Ops) (v0 : List zcB) : Option ((List zcB)) :=
 some v0
def zyW (o : Ops) : SC := ⟨⟨[(0, (.mpr 0))], [zhB]⟩, 1, [(none, ⟨[(0, (.fn 87 [] [(.ptr 1 0)]))], [zhB, .blk 77 [(.mpr 0)]]⟩)], fun x => zvV o x⟩
theorem yhQ : SCok Tryz.prog tabs 37 (zyW o) := zhU (o := o) (η := []) (Γ := ⟨[], [], false⟩) (ctok trivial trivial) Tryz.func37
def yjO : SC := ⟨⟨[(0, (.fn 87 [] [(.ptr 0 0)]))], [.blk 77 [(.mpr 1)], zhB]⟩, 1, [(none, ⟨[(0, (.h (.sl .s)))], [.blk 77 [(.mpr 1)], zhB]⟩)], fun es => ybV es⟩
theorem ytU : SCok Tryz.prog tabs 36 yjO := wit (G := tabs) <| ysX (kT := 9) (isFn Tryz.func36) (by kernel_rfl) YtmkomlbiaebddaaGreatDoor.sortedK
def ygF : SC := ⟨⟨[(0, (.h (.sl ztO)))], []⟩, 1, [(none, ⟨[(0, (.own 0))], [.osl ztO 58]⟩)], fun xs => app [] xs⟩
theorem ynH : SCok Tryz.prog tabs 61 ygF := wit (G := tabs) <| ywW yeB τ_okWkF Tryz.func61 (isFn Tryz.func61) rfl (by kernel_rfl) (by kernel_rfl) (by kernel_rfl) (fun _ => by kernel_rfl)
def ykS : PC := ⟨[.h (.sl ztO)], [(.sl ztO)], fun xs => some xs, true⟩
theorem ytP : PCok Tryz.prog tabs 59 ykS := wit (G := tabs) <| ymU yeB τ_okWkF Tryz.func59 (isFn Tryz.func59) rfl (by kernel_rfl) (fun _ => by kernel_rfl)
def zlT (o : Ops) (v0 : zlU) : Option zlU :=
 (app ([] : List zdB) v0.2.2.2.2.2.2.2).bind fun v1 => some (v0.1, v0.2.1, v0.2.2.1, v0.2.2.2.1, v0.2.2.2.2.1, v0.2.2.2.2.2.1, v0.2.2.2.2.2.2.1, v1)
def zpQ (o : Ops) : PC := ⟨[(.h ybI)], [ybI], fun x => zlT o x, false⟩
theorem zwB : PCok Tryz.prog tabs 38 (zpQ o) := zoQ (o := o) (η := []) (Γ := ⟨[(59, ykS)], [(61, ygF)], false⟩) (ctok ⟨ytP, trivial⟩ ⟨ynH, trivial⟩) Tryz.func38
def zfF (o : Ops) (v3 : ((List Bs) × List zcB)) (v4 : Int) (v5 : List zcB) (v6 : List zlU) : Option ((Int × (List zcB) × List zlU) ⊕ (((List zcB) × List zlU))) :=
 bif decide (v4 < (v3.1.length : Int)) then ((idx v3.1 v4).bind fun v7 => let v8 : zlU := zpF keqS v5 v7 (([] : Bs), ([] : Bs), ([] : Bs), ([] : Bs), (0 : Int), (0 : Int), (0 : Int), ([] : List zdB))
 (zlT o v8).bind fun v9 => (app v6 ([v9] : List zlU)).bind fun v10 => some (.inl (w64 (v4 + 1), v5, v10))) else some (.inr (v5, v6))
def zgA (o : Ops) (v0 : List zcB) : Option (((List zcB) × List zlU)) :=
 (chk (decide ((0 : Int) ≤ (v0.length : Int)) && decide ((v0.length : Int) ≤ (LIM : Int)))).bind fun _ => (mkL (0 : Int) (([] : Bs), ([] : Bs), ([] : Bs), ([] : Bs), (0 : Int), (0 : Int), (0 : Int), ([] : List zdB))).bind fun v1 => (zvV o v0).bind fun v2 => (ybV v2).bind fun v3 => (iter (fun x => zfF o v3 x.1 x.2.1 x.2.2) ((0 : Int), v3.2, v1)).bind fun v11 => some v11
def zlB (o : Ops) : SC := ⟨⟨[(0, (.ptr 0 0))], [ziV, zhB]⟩, 1, [(none, ⟨[(0, (.own 2))], [ziV, zhB, .osl ybI 53]⟩)], fun x => zgA o x⟩
theorem zqA : SCok Tryz.prog tabs 14 (zlB o) := zhU (o := o) (η := [(200003, .loop [] ⟨[(0, (.ptr 0 0)), (3, (.own 2)), (19, hI)], [ziV, zhB, .osl ybI 53]⟩ [2, 17, 18] [(some 0, ⟨[(3, (.own 2))], [ziV, zhB, .osl ybI 53]⟩)])]) (Γ := ⟨[(38, (zpQ o))], [(37, (zyW o)), (36, yjO)], false⟩) (ctok ⟨zwB, trivial⟩ ⟨yhQ, ⟨ytU, trivial⟩⟩) Tryz.func14
def ynE : PC := ⟨[.h (.sl (.pr .s .s))], [(.sl (.pr .s .s))], fun xs => some xs, true⟩
theorem yyF : PCok Tryz.prog tabs 41 ynE := wit (G := tabs) <| ymU yeB τ_okWkF Tryz.func41 (isFn Tryz.func41) rfl (by kernel_rfl) (fun _ => by kernel_rfl)
def zeF (o : Ops) (v6 : zlU) (v11 : Int) (v12 : List zcB) (v13 : List (Bs × Bs)) (v14 : Bs) (v15 : Bs) (v16 : Bs) (v17 : Bs) (v18 : Int) (v19 : Int) (v20 : Int) (v21 : List zdB) (v22 : List Bs) (v23 : List zlU) : Option ((Int × (List zcB) × (List (Bs × Bs)) × Bs × Bs × Bs × Bs × Int × Int × Int × (List zdB) × (List Bs) × List zlU) ⊕ (((List zcB) × (List (Bs × Bs)) × Bs × Bs × Bs × Bs × Int × Int × Int × (List zdB) × (List Bs) × List zlU))) :=
 bif decide (v11 < (v6.2.2.2.2.2.2.2.length : Int)) then ((idx v6.2.2.2.2.2.2.2 v11).bind fun v24 => (o.itoa v24.2.2.2).bind fun v25 => (app v22 ([v24.1, v24.2.1, v24.2.2.1, v25] : List Bs)).bind fun v26 => some (.inl (w64 (v11 + 1), v12, v13, v14, v15, v16, v17, v18, v19, v20, v21, v26, v23))) else some (.inr (v12, v13, v14, v15, v16, v17, v18, v19, v20, v21, v22, v23))
def zeV (o : Ops) (v1 : ((List zcB) × List zlU)) (v2 : Int) (v3 : List zcB) (v4 : List (Bs × Bs)) (v5 : List zlU) : Option ((Int × (List zcB) × (List (Bs × Bs)) × List zlU) ⊕ (((List zcB) × List (Bs × Bs)))) :=
 bif decide (v2 < (v1.2.length : Int)) then ((chk (decide ((0 : Int) ≤ v2) && decide (v2 < (v5.length : Int)))).bind fun _ => (idx v5 v2).bind fun v6 => (o.itoa v6.2.2.2.2.1).bind fun v7 => (o.itoa v6.2.2.2.2.2.1).bind fun v8 => (o.itoa v6.2.2.2.2.2.2.1).bind fun v9 => (o.itoa (v6.2.2.2.2.2.2.2.length : Int)).bind fun v10 => (iter (fun x => zeF o v6 x.1 x.2.1 x.2.2.1 x.2.2.2.1 x.2.2.2.2.1 x.2.2.2.2.2.1 x.2.2.2.2.2.2.1 x.2.2.2.2.2.2.2.1 x.2.2.2.2.2.2.2.2.1 x.2.2.2.2.2.2.2.2.2.1 x.2.2.2.2.2.2.2.2.2.2.1 x.2.2.2.2.2.2.2.2.2.2.2.1 x.2.2.2.2.2.2.2.2.2.2.2.2) ((0 : Int), v3, v4, v6.1, v6.2.1, v6.2.2.1, v6.2.2.2.1, v6.2.2.2.2.1, v6.2.2.2.2.2.1, v6.2.2.2.2.2.2.1, v6.2.2.2.2.2.2.2, ([v6.2.1, v6.2.2.1, v6.2.2.2.1, v7, v8, v9, v10] : List Bs), v5)).bind fun v27 => (app ([108, 111, 103, 105, 110, 47] : Bs) v27.2.2.1).bind fun v28 => (o.form v27.2.2.2.2.2.2.2.2.2.2.1).bind fun v29 => (app v27.2.1 ([(v28, v29)] : List (Bs × Bs))).bind fun v30 => some (.inl (w64 (v2 + 1), v27.1, v30, v27.2.2.2.2.2.2.2.2.2.2.2))) else some (.inr (v3, v4))
def zbR (o : Ops) (v0 : List zcB) : Option (((List (Bs × Bs)) × List zcB)) :=
 (zgA o v0).bind fun v1 => (iter (fun x => zeV o v1 x.1 x.2.1 x.2.2.1 x.2.2.2) ((0 : Int), v1.1, ([] : List (Bs × Bs)), v1.2)).bind fun v31 => some (v31.2, v31.1)
def zjW (o : Ops) : SC := ⟨⟨[(0, (.ptr 0 0))], [ziV, zhB]⟩, 1, [(none, ⟨[(0, (.hc (.pr .s .s)))], [ziV, zhB]⟩)], fun x => zbR o x⟩
theorem zoN : SCok Tryz.prog tabs 15 (zjW o) := zhU (o := o) (η := [(200007, .loop [] ⟨[(3, (.own 2)), (5, (.ptr 3 0)), (6, (.own 4)), (10, (.own 5)), (39, hI)], [ziV, zhB, .osl (.pr .s .s) 24, .blk 53 [hS, hS, hS, hS, hI, hI, hI, (.h (.sl ztO))], .osl .s 9, .osl ybI 53]⟩ [2, 11, 12, 37, 38] [(some 2, ⟨[(3, (.own 2)), (5, (.ptr 3 0)), (6, (.own 4)), (10, (.own 5))], [ziV, zhB, .osl (.pr .s .s) 24, .blk 53 [hS, hS, hS, hS, hI, hI, hI, (.h (.sl ztO))], .osl .s 9, .osl ybI 53]⟩)]),
 (200003, .loop [.sl 3 (.pr .s .s) 24] ⟨[(3, (.own 2)), (10, (.own 3)), (12, hI)], [ziV, zhB, .osl (.pr .s .s) 24, .osl ybI 53]⟩ [2, 11] [(some 0, ⟨[(3, (.own 2))], [ziV, zhB, .osl (.pr .s .s) 24]⟩)]),
 (4000005, .sch [(.pu, 0, []), (.pu, 1, []), (.pu, 2, []), (.pu, 3, []), (.pu, 4, []), (.pu, 5, []), (.pu, 6, []), (.pu, 7, []), (.pu, 9, []), (.pu, 10, []), (.pu, 12, []), (.pu, 13, []), (.pu, 15, []), (.pu, 16, []), (.pu, 17, []), (.mn, 8, []), (.mn, 11, []), (.mn, 14, []), (.mn, 18, []), (.mn, 19, []), (.pu, 20, [])]),
 (4000009, .sch [(.pu, 0, []), (.pu, 1, []), (.pu, 2, []), (.pu, 3, []), (.pu, 4, []), (.pu, 5, []), (.pu, 6, []), (.pu, 7, []), (.pu, 8, []), (.mn, 9, []), (.mn, 10, []), (.mn, 11, [3, 4]), (.mn, 12, [])]),
 (4000011, .sch [(.pu, 0, []), (.pu, 1, []), (.pu, 2, []), (.pu, 3, []), (.pu, 4, []), (.mn, 5, []), (.pu, 6, []), (.mn, 7, []), (.mn, 8, [2]), (.mn, 9, [])])]) (Γ := ⟨[(39, (yvW o)), (40, (ysM o)), (41, ynE)], [(14, (zlB o))], false⟩) (ctok ⟨(zpI.itoa (G := tabs)), ⟨(zpI.form (G := tabs)), ⟨yyF, trivial⟩⟩⟩ ⟨zqA, trivial⟩) Tryz.func15
def zdK (o : Ops) (v0 : Bs) (v1 : Bs) : Option (Bool) :=
 bif decide ((v0.length : Int) ≥ (v1.length : Int)) then ((subH v0 (v1.length : Int)).bind fun v2 => some (v2 == v1)) else (some false)
def zfO (o : Ops) : PC := ⟨[hS, hS], [.b], fun x => zdK o x.1 x.2, false⟩
theorem zkT : PCok Tryz.prog tabs 129 (zfO o) := zoQ (o := o) (η := []) (Γ := ⟨[], [], false⟩) (ctok trivial trivial) Tryz.func129
def zdJ (o : Ops) (v0 : Bs) (v1 : Bs) : Option (Bs × Bool) :=
 (zdK o v0 v1).bind fun v2 => bif (!v2) then (some (v0, false)) else ((subL v0 (v1.length : Int)).bind fun v3 => some (v3, true))
def zfJ (o : Ops) : PC := ⟨[hS, hS], [.s, .b], fun x => zdJ o x.1 x.2, false⟩
theorem zkM : PCok Tryz.prog tabs 105 (zfJ o) := zoQ (o := o) (η := []) (Γ := ⟨[(129, (zfO o))], [], false⟩) (ctok ⟨zkT, trivial⟩ trivial) Tryz.func105
def zgT (o : Ops) (v0 : Bs) (v1 : Bs) : Option (Bs × Bool) :=
 (zdJ o v0 v1).bind fun v2 => some v2
def znR (o : Ops) : PC := ⟨[hS, hS], [.s, .b], fun x => zgT o x.1 x.2, false⟩
theorem zuV : PCok Tryz.prog tabs 76 (znR o) := zoQ (o := o) (η := []) (Γ := ⟨[(105, (zfJ o))], [], false⟩) (ctok ⟨zkM, trivial⟩ trivial) Tryz.func76
def znL (o : Ops) (v0 : Bs) : Option ((Int × Bool) ⊕ Unit) :=
 bif (v0 == ([] : Bs)) then some (.inl ((0 : Int), false)) else (bif decide ((v0.length : Int) > 15) then some (.inl ((0 : Int), false)) else ((idx v0 (0 : Int)).bind fun v1 => bif ((v1.toNat : Int) == ((48 : UInt8).toNat : Int)) then (bif (v0 != ([48] : Bs)) then some (.inl ((0 : Int), false)) else ((o.trim v0 ([48, 49, 50, 51, 52, 53, 54, 55, 56, 57] : Bs)).bind fun v2 => bif (v2 != ([] : Bs)) then some (.inl ((0 : Int), false)) else some (.inr ()))) else ((o.trim v0 ([48, 49, 50, 51, 52, 53, 54, 55, 56, 57] : Bs)).bind fun v3 => bif (v3 != ([] : Bs)) then some (.inl ((0 : Int), false)) else some (.inr ()))))
def zkQ (o : Ops) (v0 : Bs) : Option (Int × Bool) :=
 (znL o v0).bind fun v4 => match v4 with
 | .inl v5 => (some v5)
 | .inr v6 => ((o.atoi v0).bind fun v7 => some (v7.1, (!v7.2)))
def zsU (o : Ops) : PC := ⟨[hS], [(.i .i64), .b], fun x => zkQ o x, false⟩
theorem zzD : PCok Tryz.prog tabs 107 (zsU o) := zoQ (o := o) (η := [(2000003, .join [] [0] [(some 1000000, ⟨[(2, hI), (3, hB)], []⟩), (none, ⟨[], []⟩)]),
 (4000004, .sch [(.pu, 0, []), (.pu, 1, []), (.pu, 2, []), (.pu, 3, []), (.pu, 4, [])])]) (Γ := ⟨[(109, (ygW o)), (110, (ymL o))], [], false⟩) (ctok ⟨(zpI.trim (G := tabs)), ⟨(zpI.atoi (G := tabs)), trivial⟩⟩ trivial) Tryz.func107
def yoM : PC := ⟨[.h (.sl .s)], [(.sl .s)], fun xs => some xs, true⟩
theorem yxU : PCok Tryz.prog tabs 108 yoM := wit (G := tabs) <| ymU yeB τ_okWkF Tryz.func108 (isFn Tryz.func108) rfl (by kernel_rfl) (fun _ => by kernel_rfl)
def znA (o : Ops) (v2 : List Bs) (v3 : Bs × Bs × Bool) (v4 : Int × Bool) : Option (Bool ⊕ List Bs) :=
 bif (!v3.2.2) then some (.inl false) else (bif (!v4.2) then some (.inl false) else (bif decide (v4.1 > (v3.2.1.length : Int)) then some (.inl false) else some (.inr v2)))
def zmV (o : Ops) (v1 : Bs) (v2 : List Bs) : Option ((Bs × List Bs) ⊕ (Bool ⊕ List Bs)) :=
 bif (v1 != ([] : Bs)) then ((o.cut v1 ([58] : Bs)).bind fun v3 => (zkQ o v3.1).bind fun v4 => (znA o v2 v3 v4).bind fun v5 => match v5 with
 | .inl v6 => some (.inr (.inl v6))
 | .inr v7 => ((subH v3.2.1 v4.1).bind fun v8 => (app v7 ([v8] : List Bs)).bind fun v9 => (subL v3.2.1 v4.1).bind fun v10 => some (.inl (v10, v9)))) else some (.inr (.inr v2))
def zmD (o : Ops) (v0 : Bs) : Option (((List Bs) × Bool)) :=
 (iter (fun x => zmV o x.1 x.2) (v0, ([] : List Bs))).bind fun v11 => match v11 with
 | .inl v12 => some (([] : List Bs), v12)
 | .inr v13 => some (v13, true)
def ztZ (o : Ops) : SC := ⟨⟨[(0, hS)], []⟩, 2, [(none, ⟨[(0, (.h (.sl .s))), (1, hB)], []⟩)], fun x => zmD o x⟩
theorem ybH : SCok Tryz.prog tabs 77 (ztZ o) := zhU (o := o) (η := [(2000007, .join [] [6, 8] [(some 1000000, ⟨[(2, .nils), (3, hB)], []⟩), (none, ⟨[(4, (.own 0))], [.osl .s 9]⟩)]),
 (200002, .loop [.sl 4 .s 9] ⟨[(0, hS), (4, (.own 0))], [.osl .s 9]⟩ [] [(some 1000000, ⟨[(2, .nils), (3, hB)], []⟩), (some 0, ⟨[(4, (.own 0))], [.osl .s 9]⟩)])]) (Γ := ⟨[(106, (xbE o)), (107, (zsU o)), (108, yoM)], [], false⟩) (ctok ⟨(zpI.cut (G := tabs)), ⟨zzD, ⟨yxU, trivial⟩⟩⟩ trivial) Tryz.func77
def zpA (o : Ops) (v0 : Bs) : Option (Int ⊕ Unit) :=
 bif (v0 == ([] : Bs)) then some (.inl (-1 : Int)) else (bif decide ((v0.length : Int) > 15) then some (.inl (-1 : Int)) else ((idx v0 (0 : Int)).bind fun v2 => bif ((v2.toNat : Int) == ((48 : UInt8).toNat : Int)) then (bif (v0 != ([48] : Bs)) then some (.inl (-1 : Int)) else ((o.trim v0 ([48, 49, 50, 51, 52, 53, 54, 55, 56, 57] : Bs)).bind fun v3 => bif (v3 != ([] : Bs)) then some (.inl (-1 : Int)) else some (.inr ()))) else ((o.trim v0 ([48, 49, 50, 51, 52, 53, 54, 55, 56, 57] : Bs)).bind fun v4 => bif (v4 != ([] : Bs)) then some (.inl (-1 : Int)) else some (.inr ()))))
def zcY (o : Ops) (v0 : Bs) (v1 : Int) : Option (Int) :=
 (zpA o v0).bind fun v5 => match v5 with
 | .inl v6 => (some v6)
 | .inr v7 => ((o.atoi v0).bind fun v8 => bif decide (v8.1 > v1) then (some (-1 : Int)) else (some v8.1))
def zuA (o : Ops) : PC := ⟨[hS, hI], [(.i .i64)], fun x => zcY o x.1 x.2, false⟩
theorem yaE : PCok Tryz.prog tabs 78 (zuA o) := zoQ (o := o) (η := [(2000003, .join [] [0, 1] [(some 1000000, ⟨[(4, hI)], []⟩), (none, ⟨[], []⟩)])]) (Γ := ⟨[(109, (ygW o)), (110, (ymL o))], [], false⟩) (ctok ⟨(zpI.trim (G := tabs)), ⟨(zpI.atoi (G := tabs)), trivial⟩⟩ trivial) Tryz.func78
def zeR (o : Ops) (v0 : zdB) : Option (Bool) :=
 (zhL o (v0.1.length : Int) (1 : Int) (86 : Int)).bind fun v1 => bif v1 then (bif ((v0.2.1.length : Int) == 32) then (bif ((v0.2.2.1.length : Int) == 32) then ((zhL o v0.2.2.2 (0 : Int) (4294967295 : Int)).bind fun v2 => some v2) else (some false)) else (some false)) else (some false)
def zuC (o : Ops) : PC := ⟨[(.h ztO)], [.b], fun x => zeR o x, false⟩
theorem zyY : PCok Tryz.prog tabs 57 (zuC o) := zoQ (o := o) (η := []) (Γ := ⟨[(43, (zkC o))], [], false⟩) (ctok ⟨zlN, trivial⟩ trivial) Tryz.func57
def zmI (o : Ops) (v0 : zdB) (v1 : Bs) : Option ((Bool × Bs)) :=
 some ((v0.1 == v1), v1)
def zxJ (o : Ops) : SC := ⟨⟨[(0, (.h ztO)), (1, (.ptr 0 0))], [.blk 9 [hS]]⟩, 1, [(none, ⟨[(0, hB)], [.blk 9 [hS]]⟩)], fun x => zmI o x.1 x.2⟩
theorem yfD : SCok Tryz.prog tabs 100 (zxJ o) := zhU (o := o) (η := []) (Γ := ⟨[], [], false⟩) (ctok trivial trivial) Tryz.func100
def zbM (o : Ops) (v0 : List zdB) (v2 : Int) (v3 : Bs) : Option ((Int × Bs) ⊕ ((Int × Bs) ⊕ Bs)) :=
 bif decide (v2 < (v0.length : Int)) then ((idx v0 v2).bind fun v4 => (zmI o v4 v3).bind fun v5 => bif v5.1 then some (.inr (.inl (v2, v5.2))) else some (.inl (w64 (v2 + 1), v5.2))) else some (.inr (.inr v3))
def ziC (o : Ops) (v0 : List zdB) (v1 : Bs) : Option ((Int × Bs)) :=
 (iter (fun x => zbM o v0 x.1 x.2) ((0 : Int), v1)).bind fun v6 => match v6 with
 | .inl v7 => some v7
 | .inr v8 => some ((-1 : Int), v8)
def zoZ (o : Ops) : SC := ⟨⟨[(0, (.h (.sl ztO))), (1, (.fn 100 [] [(.ptr 0 0)]))], [.blk 9 [hS]]⟩, 1, [(none, ⟨[(0, hI)], [.blk 9 [hS]]⟩)], fun x => ziC o x.1 x.2⟩
theorem zvF : SCok Tryz.prog tabs 99 (zoZ o) := zhU (o := o) (η := [(200002, .loop [] ⟨[(1, (.fn 100 [] [(.ptr 0 0)])), (8, hI)], [.blk 9 [hS]]⟩ [0, 7] [(some 1000000, ⟨[(4, hI)], [.blk 9 [hS]]⟩), (some 0, ⟨[], [.blk 9 [hS]]⟩)])]) (Γ := ⟨[], [(100, (zxJ o))], false⟩) (ctok trivial ⟨yfD, trivial⟩) Tryz.func99
def zfZ (o : Ops) (v0 : List zdB) (v1 : Bs) : Option (Int) :=
 (ziC o v0 v1).bind fun v2 => some v2.1
def zoL (o : Ops) : PC := ⟨[(.h (.sl ztO)), hS], [(.i .i64)], fun x => zfZ o x.1 x.2, false⟩
theorem zrM : PCok Tryz.prog tabs 58 (zoL o) := zoQ (o := o) (η := []) (Γ := ⟨[], [(99, (zoZ o))], false⟩) (ctok trivial ⟨zvF, trivial⟩) Tryz.func58
def zrQ (o : Ops) (v1 : Bs × Bool) (v2 : ((List Bs) × Bool)) : Option ((Bool × Bs × Bs × Bs × Bs × Int × Int × Int) ⊕ (Bs × Bs × Bs × Bs × Int × Int × Int)) :=
 bif (!v1.2) then some (.inl (false, ([] : Bs), ([] : Bs), ([] : Bs), ([] : Bs), (0 : Int), (0 : Int), (0 : Int))) else (bif (!v2.2) then some (.inl (false, ([] : Bs), ([] : Bs), ([] : Bs), ([] : Bs), (0 : Int), (0 : Int), (0 : Int))) else (bif decide ((v2.1.length : Int) < 7) then some (.inl (false, ([] : Bs), ([] : Bs), ([] : Bs), ([] : Bs), (0 : Int), (0 : Int), (0 : Int))) else ((zgW o v1.1).bind fun v3 => bif (!v3) then some (.inl (false, ([] : Bs), ([] : Bs), ([] : Bs), ([] : Bs), (0 : Int), (0 : Int), (0 : Int))) else some (.inr (([] : Bs), ([] : Bs), ([] : Bs), ([] : Bs), (0 : Int), (0 : Int), (0 : Int))))))
def zsJ (o : Ops) (v1 : Bs × Bool) (v6 : Bs × Bs × Bs × Bs × Int × Int × Int) (v7 : Bs) (v8 : Bs) (v9 : Bs) (v13 : Int) (v14 : Int) (v15 : Int) (v17 : Int) (v18 : List Bs) : Option ((Bool × Bs × Bs × Bs × Bs × Int × Int × Int) ⊕ (Bs × Bs × Bs × Bs × Int × Int × Int × Bs × Bs × Bs × Bs × Int × Int × Int)) :=
 bif decide (v13 < 0) then some (.inl (false, ([] : Bs), ([] : Bs), ([] : Bs), ([] : Bs), (0 : Int), (0 : Int), (0 : Int))) else (bif decide (v14 < 0) then some (.inl (false, ([] : Bs), ([] : Bs), ([] : Bs), ([] : Bs), (0 : Int), (0 : Int), (0 : Int))) else (bif decide (v15 < 0) then some (.inl (false, ([] : Bs), ([] : Bs), ([] : Bs), ([] : Bs), (0 : Int), (0 : Int), (0 : Int))) else (bif decide (v17 < 0) then some (.inl (false, ([] : Bs), ([] : Bs), ([] : Bs), ([] : Bs), (0 : Int), (0 : Int), (0 : Int))) else (bif ((v18.length : Int) != (w64 ((4 : Int) * v17))) then some (.inl (false, ([] : Bs), ([] : Bs), ([] : Bs), ([] : Bs), (0 : Int), (0 : Int), (0 : Int))) else (bif ((v7.length : Int) != 16) then some (.inl (false, ([] : Bs), ([] : Bs), ([] : Bs), ([] : Bs), (0 : Int), (0 : Int), (0 : Int))) else (bif ((v8.length : Int) != 32) then some (.inl (false, ([] : Bs), ([] : Bs), ([] : Bs), ([] : Bs), (0 : Int), (0 : Int), (0 : Int))) else some (.inr (v6.1, v6.2.1, v6.2.2.1, v6.2.2.2.1, v6.2.2.2.2.1, v6.2.2.2.2.2.1, v6.2.2.2.2.2.2, v1.1, v7, v8, v9, v13, v14, v15))))))))
def zqP (o : Ops) (v23 : Bs) (v24 : Bs) (v25 : Bs) (v26 : Bs) (v27 : Int) (v28 : Int) (v29 : Int) (v30 : Bs) (v31 : Bs) (v32 : Bs) (v33 : Bs) (v34 : Int) (v35 : Int) (v36 : Int) (v37 : List zdB) (v38 : Bs) (v39 : Bs) (v40 : Bs) (v42 : Int) : Option ((Bool × Bs × Bs × Bs × Bs × Int × Int × Int) ⊕ (Bs × Bs × Bs × Bs × Int × Int × Int × Bs × Bs × Bs × Bs × Int × Int × Int × Bs × Bs × Bs × Int × List zdB)) :=
 (zeR o (v38, v39, v40, v42)).bind fun v43 => bif (!v43) then some (.inl (false, ([] : Bs), ([] : Bs), ([] : Bs), ([] : Bs), (0 : Int), (0 : Int), (0 : Int))) else ((zfZ o v37 v38).bind fun v44 => bif decide (v44 ≥ 0) then some (.inl (false, ([] : Bs), ([] : Bs), ([] : Bs), ([] : Bs), (0 : Int), (0 : Int), (0 : Int))) else some (.inr (v23, v24, v25, v26, v27, v28, v29, v30, v31, v32, v33, v34, v35, v36, v38, v39, v40, v42, v37)))
def zoC (o : Ops) (v22 : List Bs) (v23 : Bs) (v24 : Bs) (v25 : Bs) (v26 : Bs) (v27 : Int) (v28 : Int) (v29 : Int) (v30 : Bs) (v31 : Bs) (v32 : Bs) (v33 : Bs) (v34 : Int) (v35 : Int) (v36 : Int) (v37 : List zdB) : Option (((List Bs) × Bs × Bs × Bs × Bs × Int × Int × Int × zlU) ⊕ ((Bool × Bs × Bs × Bs × Bs × Int × Int × Int) ⊕ (Bs × Bs × Bs × Bs × Int × Int × Int × zlU))) :=
 bif decide ((v22.length : Int) > 0) then ((idx v22 (0 : Int)).bind fun v38 => (idx v22 (1 : Int)).bind fun v39 => (idx v22 (2 : Int)).bind fun v40 => (idx v22 (3 : Int)).bind fun v41 => (zcY o v41 (4294967295 : Int)).bind fun v42 => (zqP o v23 v24 v25 v26 v27 v28 v29 v30 v31 v32 v33 v34 v35 v36 v37 v38 v39 v40 v42).bind fun v45 => match v45 with
 | .inl v46 => some (.inr (.inl v46))
 | .inr v47 => ((app v47.2.2.2.2.2.2.2.2.2.2.2.2.2.2.2.2.2.2 ([(v47.2.2.2.2.2.2.2.2.2.2.2.2.2.2.1, v47.2.2.2.2.2.2.2.2.2.2.2.2.2.2.2.1, v47.2.2.2.2.2.2.2.2.2.2.2.2.2.2.2.2.1, v47.2.2.2.2.2.2.2.2.2.2.2.2.2.2.2.2.2.1)] : List zdB)).bind fun v48 => (subL v22 (4 : Int)).bind fun v49 => some (.inl (v49, v47.1, v47.2.1, v47.2.2.1, v47.2.2.2.1, v47.2.2.2.2.1, v47.2.2.2.2.2.1, v47.2.2.2.2.2.2.1, v47.2.2.2.2.2.2.2.1, v47.2.2.2.2.2.2.2.2.1, v47.2.2.2.2.2.2.2.2.2.1, v47.2.2.2.2.2.2.2.2.2.2.1, v47.2.2.2.2.2.2.2.2.2.2.2.1, v47.2.2.2.2.2.2.2.2.2.2.2.2.1, v47.2.2.2.2.2.2.2.2.2.2.2.2.2.1, v48)))) else some (.inr (.inr (v23, v24, v25, v26, v27, v28, v29, v30, v31, v32, v33, v34, v35, v36, v37)))
def zpS (o : Ops) (v0 : Bs × Bs) : Option (zlU × Bool) :=
 (zgT o v0.1 ([108, 111, 103, 105, 110, 47] : Bs)).bind fun v1 => (zmD o v0.2).bind fun v2 => (zrQ o v1 v2).bind fun v4 => match v4 with
 | .inl v5 => (some ((v5.2.1, v5.2.2.1, v5.2.2.2.1, v5.2.2.2.2.1, v5.2.2.2.2.2.1, v5.2.2.2.2.2.2.1, v5.2.2.2.2.2.2.2, ([] : List zdB)), v5.1))
 | .inr v6 => ((idx v2.1 (0 : Int)).bind fun v7 => (idx v2.1 (1 : Int)).bind fun v8 => (idx v2.1 (2 : Int)).bind fun v9 => (idx v2.1 (3 : Int)).bind fun v10 => (idx v2.1 (4 : Int)).bind fun v11 => (idx v2.1 (5 : Int)).bind fun v12 => (zcY o v10 (2199023255552 : Int)).bind fun v13 => (zcY o v11 (4 : Int)).bind fun v14 => (zcY o v12 (2199023255552 : Int)).bind fun v15 => (idx v2.1 (6 : Int)).bind fun v16 => (zcY o v16 (4 : Int)).bind fun v17 => (subL v2.1 (7 : Int)).bind fun v18 => (zsJ o v1 v6 v7 v8 v9 v13 v14 v15 v17 v18).bind fun v19 => match v19 with
 | .inl v20 => (some ((v20.2.1, v20.2.2.1, v20.2.2.2.1, v20.2.2.2.2.1, v20.2.2.2.2.2.1, v20.2.2.2.2.2.2.1, v20.2.2.2.2.2.2.2, ([] : List zdB)), v20.1))
 | .inr v21 => ((iter (fun x => zoC o x.1 x.2.1 x.2.2.1 x.2.2.2.1 x.2.2.2.2.1 x.2.2.2.2.2.1 x.2.2.2.2.2.2.1 x.2.2.2.2.2.2.2.1 x.2.2.2.2.2.2.2.2.1 x.2.2.2.2.2.2.2.2.2.1 x.2.2.2.2.2.2.2.2.2.2.1 x.2.2.2.2.2.2.2.2.2.2.2.1 x.2.2.2.2.2.2.2.2.2.2.2.2.1 x.2.2.2.2.2.2.2.2.2.2.2.2.2.1 x.2.2.2.2.2.2.2.2.2.2.2.2.2.2.1 x.2.2.2.2.2.2.2.2.2.2.2.2.2.2.2) (v18, v21.1, v21.2.1, v21.2.2.1, v21.2.2.2.1, v21.2.2.2.2.1, v21.2.2.2.2.2.1, v21.2.2.2.2.2.2.1, v21.2.2.2.2.2.2.2.1, v21.2.2.2.2.2.2.2.2.1, v21.2.2.2.2.2.2.2.2.2.1, v21.2.2.2.2.2.2.2.2.2.2.1, v21.2.2.2.2.2.2.2.2.2.2.2.1, v21.2.2.2.2.2.2.2.2.2.2.2.2.1, v21.2.2.2.2.2.2.2.2.2.2.2.2.2, ([] : List zdB))).bind fun v50 => match v50 with
 | .inl v51 => (some ((v51.2.1, v51.2.2.1, v51.2.2.2.1, v51.2.2.2.2.1, v51.2.2.2.2.2.1, v51.2.2.2.2.2.2.1, v51.2.2.2.2.2.2.2, ([] : List zdB)), v51.1))
 | .inr v52 => (bif (v52.2.2.2.2.2.2.2.2.2.2.1 == ([] : Bs)) then (some (v52.2.2.2.2.2.2.2, true)) else ((zhL o (v52.2.2.2.2.2.2.2.2.2.2.1.length : Int) (16 : Int) (64 : Int)).bind fun v53 => some (v52.2.2.2.2.2.2.2, v53)))))
def zxH (o : Ops) : PC := ⟨[(.h (.pr .s .s))], [ybI, .b], fun x => zpS o x, false⟩
theorem ygT : PCok Tryz.prog tabs 34 (zxH o) := zoQ (o := o) (η := [(2000005, .join [] [4, 6] [(some 1000000, ⟨[(2, (.ptr 0 0)), (3, hB)], [yfA]⟩), (none, ⟨[(2, (.ptr 0 0))], [yfA]⟩)]),
 (2100000, .join [] [6] [(some 1000000, ⟨[(2, (.ptr 0 0)), (3, hB)], [yfA]⟩), (none, ⟨[(2, (.ptr 0 0)), (8, (.ptr 1 0))], [yfA, .blk 53 [hS, hS, hS, hS, hI, hI, hI, .nils]]⟩)]),
 (2000015, .join [] [6] [(some 1000000, ⟨[(2, (.ptr 0 0)), (3, hB)], [yfA]⟩), (none, ⟨[(2, (.ptr 0 0)), (8, (.ptr 1 0)), (10, (.ptr 2 0))], [yfA, .blk 53 [hS, hS, hS, hS, hI, hI, hI, (.own 3)], ykI, .osl ztO 58]⟩)]),
 (200010, .loop [.cell 8 7 ztO 58] ⟨[(2, (.ptr 0 0)), (6, (.h (.sl .s))), (8, (.ptr 1 0))], [yfA, .blk 53 [hS, hS, hS, hS, hI, hI, hI, (.own 2)], .osl ztO 58]⟩ [] [(some 1000000, ⟨[(2, (.ptr 0 0)), (3, hB)], [yfA]⟩), (some 0, ⟨[(2, (.ptr 0 0)), (8, (.ptr 1 0))], [yfA, .blk 53 [hS, hS, hS, hS, hI, hI, hI, (.own 2)], .osl ztO 58]⟩)]),
 (4000005, .sch [(.pu, 0, []), (.pu, 1, []), (.pu, 2, []), (.pu, 3, []), (.pu, 4, []), (.pu, 5, []), (.pu, 6, []), (.pu, 7, []), (.pu, 8, []), (.pu, 9, []), (.pu, 10, []), (.pu, 11, []), (.pu, 12, []), (.pu, 14, []), (.pu, 15, []), (.pu, 16, []), (.pu, 18, []), (.pu, 19, []), (.pu, 20, []), (.la, 23, []), (.mn, 13, []), (.mn, 17, []), (.mn, 21, []), (.pu, 22, []), (.rv, 23, []), (.mn, 24, [1])]),
 (4000012, .sch [(.pu, 0, []), (.pu, 1, []), (.pu, 2, []), (.pu, 3, []), (.pu, 4, []), (.pu, 5, []), (.pu, 6, []), (.pu, 7, []), (.pu, 8, []), (.pu, 9, []), (.pu, 10, []), (.pu, 11, []), (.la, 14, []), (.mn, 12, []), (.pu, 13, []), (.rv, 14, []), (.mn, 15, [2, 3])]),
 (4000016, .sch [(.pu, 0, []), (.pu, 1, []), (.pu, 2, []), (.pu, 3, []), (.pu, 4, []), (.pu, 5, []), (.pu, 6, []), (.pu, 7, []), (.pu, 8, []), (.mn, 9, []), (.pu, 10, [0]), (.mn, 11, [0]), (.pu, 12, [])])]) (Γ := ⟨[(76, (znR o)), (42, (zqH o)), (78, (zuA o)), (57, (zuC o)), (58, (zoL o)), (43, (zkC o))], [(77, (ztZ o))], false⟩) (ctok ⟨zuV, ⟨zvE, ⟨yaE, ⟨zyY, ⟨zrM, ⟨zlN, trivial⟩⟩⟩⟩⟩⟩ ⟨ybH, trivial⟩) Tryz.func34
def zsB (o : Ops) (v0 : List (Bs × Bs)) (v2 : Int) (v3 : List zcB) (v4 : Bs × Bs) (v5 : zlU × Bool) : Option (Int ⊕ (Bs × Bs × Bs × Bs × Int × Int × Int × (List zdB) × List zcB)) :=
 bif (!v5.2) then some (.inl (155 : Int)) else (bif decide (v2 > 0) then ((idx v0 (w64 (v2 - 1))).bind fun v6 => bif (Op.bytesLess v4.1 v6.1 || v4.1 == v6.1) then some (.inl (155 : Int)) else some (.inr (v5.1.1, v5.1.2.1, v5.1.2.2.1, v5.1.2.2.2.1, v5.1.2.2.2.2.1, v5.1.2.2.2.2.2.1, v5.1.2.2.2.2.2.2.1, v5.1.2.2.2.2.2.2.2, v3))) else some (.inr (v5.1.1, v5.1.2.1, v5.1.2.2.1, v5.1.2.2.2.1, v5.1.2.2.2.2.1, v5.1.2.2.2.2.2.1, v5.1.2.2.2.2.2.2.1, v5.1.2.2.2.2.2.2.2, v3)))
def zkU (o : Ops) (v0 : List (Bs × Bs)) (v2 : Int) (v3 : List zcB) : Option ((Int × List zcB) ⊕ (Int ⊕ (List zcB))) :=
 bif decide (v2 < (v0.length : Int)) then ((idx v0 v2).bind fun v4 => (zpS o v4).bind fun v5 => (zsB o v0 v2 v3 v4 v5).bind fun v7 => match v7 with
 | .inl v8 => some (.inr (.inl v8))
 | .inr v9 => (let v10 : List zcB := mset keqS kltS v9.2.2.2.2.2.2.2.2 v9.1 (v9.1, v9.2.1, v9.2.2.1, v9.2.2.2.1, v9.2.2.2.2.1, v9.2.2.2.2.2.1, v9.2.2.2.2.2.2.1, v9.2.2.2.2.2.2.2.1)
 some (.inl (w64 (v2 + 1), v10)))) else some (.inr (.inr v3))
def zmH (o : Ops) (v0 : List (Bs × Bs)) : Option (Int ⊕ (Int × List zcB)) :=
 (zlV o).bind fun v1 => (iter (fun x => zkU o v0 x.1 x.2) ((0 : Int), v1)).bind fun v11 => match v11 with
 | .inl v12 => some (.inl v12)
 | .inr v13 => (bif decide ((v0.length : Int) > 64) then some (.inl (155 : Int)) else some (.inr ((0 : Int), v13)))
def zrP (o : Ops) : SC := ⟨⟨[(0, (.h (.sl (.pr .s .s))))], []⟩, 2, [(none, ⟨[(0, .nilp), (1, hI)], []⟩), (none, ⟨[(0, (.ptr 0 0)), (1, hI)], [ziV, zhB]⟩)], fun x => zmH o x⟩
theorem zxA : SCok Tryz.prog tabs 9 (zrP o) := zhU (o := o) (η := [(2000008, .join [] [0, 10, 11, 12] [(some 1000000, ⟨[(2, .nilp), (3, hI)], []⟩), (none, ⟨[(4, (.ptr 0 0)), (7, (.ptr 1 0))], [yvY, zqL, zhB]⟩)]),
 (200003, .loop [] ⟨[(4, (.ptr 0 0)), (12, hI)], [ziV, zhB]⟩ [0, 10, 11] [(some 1000000, ⟨[(2, .nilp), (3, hI)], []⟩), (some 0, ⟨[(4, (.ptr 0 0))], [ziV, zhB]⟩)]),
 (4000006, .sch [(.pu, 0, []), (.pu, 1, []), (.pu, 2, []), (.pu, 3, []), (.pu, 4, []), (.pu, 5, []), (.pu, 6, []), (.pu, 7, []), (.pu, 8, []), (.pu, 9, []), (.pu, 10, []), (.pu, 11, []), (.pu, 12, []), (.pu, 13, []), (.pu, 14, []), (.pu, 15, []), (.pu, 16, [])]),
 (4000008, .sch [(.pu, 0, []), (.pu, 1, []), (.pu, 2, []), (.pu, 3, []), (.pu, 4, []), (.pu, 5, []), (.pu, 6, []), (.pu, 7, []), (.mn, 8, [0, 1, 2])])]) (Γ := ⟨[(34, (zxH o))], [(16, (zpW o))], false⟩) (ctok ⟨ygT, trivial⟩ ⟨ztH, trivial⟩) Tryz.func9
def zkX (o : Ops) (v0 : Bs) (v1 : Bs) (v2 : Bs) (v3 : Bs) (v4 : Int) (v5 : Int) (v6 : Int) (v7 : List zdB) (v8 : Bs) (v9 : Bs) (v10 : Bs) (v11 : Int) : Option ((Int × Bs × Bs × Bs × Bs × Int × Int × Int × (List zdB) × zdB) ⊕ (Bs × Bs × Bs × Bs × Int × Int × Int × (List zdB) × zdB)) :=
 (zeR o (v8, v9, v10, v11)).bind fun v12 => bif (!v12) then some (.inl ((155 : Int), v0, v1, v2, v3, v4, v5, v6, v7, v8, v9, v10, v11)) else ((zfZ o v7 v8).bind fun v13 => bif decide (v13 ≥ 0) then some (.inl ((155 : Int), v0, v1, v2, v3, v4, v5, v6, v7, v8, v9, v10, v11)) else some (.inr (v0, v1, v2, v3, v4, v5, v6, v7, v8, v9, v10, v11)))
def zhQ (o : Ops) (v0 : Bs) (v1 : Bs) (v2 : Bs) (v3 : Bs) (v4 : Int) (v5 : Int) (v6 : Int) (v7 : List zdB) (v8 : Bs) (v9 : Bs) (v10 : Bs) (v11 : Int) : Option ((Int × Bs × Bs × Bs × Bs × Int × Int × Int × (List zdB) × zdB)) :=
 (zkX o v0 v1 v2 v3 v4 v5 v6 v7 v8 v9 v10 v11).bind fun v14 => match v14 with
 | .inl v15 => some v15
 | .inr v16 => (bif decide ((v16.2.2.2.2.2.2.2.1.length : Int) ≥ 4) then some ((156 : Int), v16) else ((app v16.2.2.2.2.2.2.2.1 ([v16.2.2.2.2.2.2.2.2] : List zdB)).bind fun v17 => some ((0 : Int), v16.1, v16.2.1, v16.2.2.1, v16.2.2.2.1, v16.2.2.2.2.1, v16.2.2.2.2.2.1, v16.2.2.2.2.2.2.1, v17, v16.2.2.2.2.2.2.2.2)))
def zkZ (o : Ops) : SC := ⟨⟨[(0, (.ptr 0 0)), (1, (.ptr 1 0))], [zqL, ykI]⟩, 1, [(none, ⟨[(0, hI)], [zqL, ykI]⟩)], fun x => zhQ o x.1 x.2.1 x.2.2.1 x.2.2.2.1 x.2.2.2.2.1 x.2.2.2.2.2.1 x.2.2.2.2.2.2.1 x.2.2.2.2.2.2.2.1 x.2.2.2.2.2.2.2.2.1 x.2.2.2.2.2.2.2.2.2.1 x.2.2.2.2.2.2.2.2.2.2.1 x.2.2.2.2.2.2.2.2.2.2.2⟩
theorem zsF : SCok Tryz.prog tabs 56 (zkZ o) := zhU (o := o) (η := [(2000003, .join [] [] [(some 1000000, ⟨[(3, hI)], [zqL, ykI]⟩), (none, ⟨[(0, (.ptr 0 0)), (1, (.ptr 1 0))], [zqL, ykI]⟩)]),
 (4000001, .sch [(.pu, 0, []), (.mn, 1, []), (.pu, 2, []), (.pu, 3, []), (.pu, 4, []), (.pu, 5, []), (.pu, 6, []), (.pu, 7, []), (.pu, 8, []), (.pu, 9, []), (.pu, 10, []), (.mn, 11, []), (.pu, 12, []), (.pu, 13, [])]),
 (4000005, .sch [(.pu, 0, []), (.pu, 1, []), (.pu, 2, []), (.pu, 3, []), (.pu, 4, []), (.pu, 5, []), (.pu, 7, []), (.la, 8, []), (.mn, 6, []), (.rv, 8, []), (.mn, 9, []), (.pu, 10, []), (.pu, 11, []), (.pu, 12, []), (.mn, 13, [0])])]) (Γ := ⟨[(57, (zuC o)), (58, (zoL o)), (59, ykS)], [], false⟩) (ctok ⟨zyY, ⟨zrM, ⟨ytP, trivial⟩⟩⟩ trivial) Tryz.func56
def zkA (o : Ops) (v0 : Bs) (v1 : Bs) (v2 : Bs) (v3 : Bs) (v4 : Int) (v5 : List zcB) : Option ((Int × Bs × Bs × Bs × Int × List zcB)) :=
 let v6 : zlU := zpF keqS v5 v0 (([] : Bs), ([] : Bs), ([] : Bs), ([] : Bs), (0 : Int), (0 : Int), (0 : Int), ([] : List zdB))
 bif (!(mhas keqS v5 v0)) then some ((150 : Int), v1, v2, v3, v4, v5) else ((zhQ o v6.1 v6.2.1 v6.2.2.1 v6.2.2.2.1 v6.2.2.2.2.1 v6.2.2.2.2.2.1 v6.2.2.2.2.2.2.1 v6.2.2.2.2.2.2.2 v1 v2 v3 v4).bind fun v7 => let v8 : List zcB := mset keqS kltS v5 v0 (v7.2.1, v7.2.2.1, v7.2.2.2.1, v7.2.2.2.2.1, v7.2.2.2.2.2.1, v7.2.2.2.2.2.2.1, v7.2.2.2.2.2.2.2.1, v7.2.2.2.2.2.2.2.2.1)
 some (v7.1, v7.2.2.2.2.2.2.2.2.2.1, v7.2.2.2.2.2.2.2.2.2.2.1, v7.2.2.2.2.2.2.2.2.2.2.2.1, v7.2.2.2.2.2.2.2.2.2.2.2.2, v8))
def znN (o : Ops) : SC := ⟨⟨[(0, (.ptr 0 0)), (1, hS), (2, (.fn 56 [] [(.ptr 1 0)]))], [yvY, ykI, zhB]⟩, 1, [(none, ⟨[(0, hI)], [yvY, ykI, ycI]⟩)], fun x => zkA o x.1 x.2.1 x.2.2.1 x.2.2.2.1 x.2.2.2.2.1 x.2.2.2.2.2⟩
theorem zuZ : SCok Tryz.prog tabs 47 (znN o) := zhU (o := o) (η := [(4000005, .sch [(.pu, 0, []), (.pu, 1, []), (.pu, 2, []), (.pu, 3, []), (.pu, 4, []), (.pu, 5, []), (.mn, 6, [0, 1, 2, 3, 4])])]) (Γ := ⟨[], [(56, (zkZ o))], false⟩) (ctok trivial ⟨zsF, trivial⟩) Tryz.func47
def zcD (o : Ops) (v0 : Bs) (v1 : zdB) (v2 : List zcB) : Option ((Int × List zcB)) :=
 (zkA o v0 v1.1 v1.2.1 v1.2.2.1 v1.2.2.2 v2).bind fun v3 => some (v3.1, v3.2.2.2.2.2)
def zfL (o : Ops) : SC := ⟨⟨[(0, (.ptr 0 0)), (1, hS), (2, (.h ztO))], [ziV, zhB]⟩, 1, [(none, ⟨[(0, hI)], [ziV, ycI]⟩)], fun x => zcD o x.1 x.2.1 x.2.2⟩
theorem ziI : SCok Tryz.prog tabs 25 (zfL o) := zhU (o := o) (η := []) (Γ := ⟨[], [(47, (znN o))], false⟩) (ctok trivial ⟨zuZ, trivial⟩) Tryz.func25
def zfC (o : Ops) (v0 : Bs) (v1 : Bs) (v2 : Bs) (v3 : Bs) (v4 : Int) (v5 : Int) (v6 : Int) (v7 : List zdB) (v8 : Bs) (v9 : Int) (v11 : zdB) : Option ((Int × Bs × Bs × Bs × Bs × Int × Int × Int × (List zdB) × Bs × Int) ⊕ (Bs × Bs × Bs × Bs × Int × Int × Int × (List zdB) × Bs × Int)) :=
 bif decide (v9 > 4294967295) then some (.inl ((153 : Int), v0, v1, v2, v3, v4, v5, v6, v7, v8, v9)) else (bif decide (v9 ≤ v11.2.2.2) then (bif (v9 != 0) then some (.inl ((153 : Int), v0, v1, v2, v3, v4, v5, v6, v7, v8, v9)) else (bif (v11.2.2.2 != 0) then some (.inl ((153 : Int), v0, v1, v2, v3, v4, v5, v6, v7, v8, v9)) else some (.inr (v0, v1, v2, v3, v4, v5, v6, v7, v8, v9)))) else some (.inr (v0, v1, v2, v3, v4, v5, v6, v7, v8, v9)))
def zfH (o : Ops) (v0 : Bs) (v1 : Bs) (v2 : Bs) (v3 : Bs) (v4 : Int) (v5 : Int) (v6 : Int) (v7 : List zdB) (v8 : Bs) (v9 : Int) : Option ((Int × Bs × Bs × Bs × Bs × Int × Int × Int × (List zdB) × Bs × Int)) :=
 (zfZ o v7 v8).bind fun v10 => bif decide (v10 < 0) then some ((154 : Int), v0, v1, v2, v3, v4, v5, v6, v7, v8, v9) else ((idx v7 v10).bind fun v11 => (zfC o v0 v1 v2 v3 v4 v5 v6 v7 v8 v9 v11).bind fun v12 => match v12 with
 | .inl v13 => some v13
 | .inr v14 => ((app ([] : List zdB) v14.2.2.2.2.2.2.2.1).bind fun v15 => (chk (decide ((0 : Int) ≤ v10) && decide (v10 < (v15.length : Int)))).bind fun _ => (idx v15 v10).bind fun v16 => (setL v15 v10 (v16.1, v16.2.1, v16.2.2.1, v14.2.2.2.2.2.2.2.2.2)).bind fun v17 => some ((0 : Int), v14.1, v14.2.1, v14.2.2.1, v14.2.2.2.1, v14.2.2.2.2.1, v14.2.2.2.2.2.1, v14.2.2.2.2.2.2.1, v17, v14.2.2.2.2.2.2.2.2)))
def zlL (o : Ops) : SC := ⟨⟨[(0, (.ptr 0 0)), (1, (.ptr 1 0)), (2, (.ptr 2 0))], [zqL, .blk 9 [hS], .blk 3 [hI]]⟩, 1, [(none, ⟨[(0, hI)], [zqL, .blk 9 [hS], .blk 3 [hI]]⟩)], fun x => zfH o x.1 x.2.1 x.2.2.1 x.2.2.2.1 x.2.2.2.2.1 x.2.2.2.2.2.1 x.2.2.2.2.2.2.1 x.2.2.2.2.2.2.2.1 x.2.2.2.2.2.2.2.2.1 x.2.2.2.2.2.2.2.2.2⟩
theorem ztB : SCok Tryz.prog tabs 60 (zlL o) := zhU (o := o) (η := [(2000007, .join [] [5] [(some 1000000, ⟨[(4, hI)], [zqL, .blk 9 [hS], .blk 3 [hI]]⟩), (none, ⟨[(0, (.ptr 0 0)), (2, (.ptr 2 0))], [zqL, .blk 9 [hS], .blk 3 [hI]]⟩)]),
 (4000001, .sch [(.pu, 0, []), (.pu, 1, []), (.pu, 2, []), (.pu, 3, []), (.pu, 4, []), (.pu, 5, []), (.mn, 6, []), (.pu, 7, [])]),
 (4000008, .sch [(.pu, 0, []), (.pu, 1, []), (.pu, 2, []), (.pu, 3, []), (.pu, 4, []), (.pu, 5, []), (.pu, 6, []), (.pu, 7, []), (.pu, 8, []), (.mn, 9, [0, 1, 2, 3, 4])])]) (Γ := ⟨[(58, (zoL o))], [(61, ygF)], false⟩) (ctok ⟨zrM, trivial⟩ ⟨ynH, trivial⟩) Tryz.func60
def zjU (o : Ops) (v0 : Bs) (v1 : Bs) (v2 : Int) (v3 : List zcB) : Option ((Int × Bs × Int × List zcB)) :=
 let v4 : zlU := zpF keqS v3 v0 (([] : Bs), ([] : Bs), ([] : Bs), ([] : Bs), (0 : Int), (0 : Int), (0 : Int), ([] : List zdB))
 bif (!(mhas keqS v3 v0)) then some ((150 : Int), v1, v2, v3) else ((zfH o v4.1 v4.2.1 v4.2.2.1 v4.2.2.2.1 v4.2.2.2.2.1 v4.2.2.2.2.2.1 v4.2.2.2.2.2.2.1 v4.2.2.2.2.2.2.2 v1 v2).bind fun v5 => let v6 : List zcB := mset keqS kltS v3 v0 (v5.2.1, v5.2.2.1, v5.2.2.2.1, v5.2.2.2.2.1, v5.2.2.2.2.2.1, v5.2.2.2.2.2.2.1, v5.2.2.2.2.2.2.2.1, v5.2.2.2.2.2.2.2.2.1)
 some (v5.1, v5.2.2.2.2.2.2.2.2.2.1, v5.2.2.2.2.2.2.2.2.2.2, v6))
def znP (o : Ops) : SC := ⟨⟨[(0, (.ptr 0 0)), (1, hS), (2, (.fn 60 [] [(.ptr 1 0), (.ptr 2 0)]))], [ypR, .blk 9 [hS], .blk 3 [hI], zhB]⟩, 1, [(none, ⟨[(0, hI)], [ypR, .blk 9 [hS], .blk 3 [hI], ycI]⟩)], fun x => zjU o x.1 x.2.1 x.2.2.1 x.2.2.2⟩
theorem zuU : SCok Tryz.prog tabs 47 (znP o) := zhU (o := o) (η := [(4000005, .sch [(.pu, 0, []), (.pu, 1, []), (.pu, 2, []), (.pu, 3, []), (.pu, 4, []), (.pu, 5, []), (.mn, 6, [0, 1, 2, 3, 4, 5])])]) (Γ := ⟨[], [(60, (zlL o))], false⟩) (ctok trivial ⟨ztB, trivial⟩) Tryz.func47
def zbK (o : Ops) (v0 : Bs) (v1 : Bs) (v2 : Int) (v3 : List zcB) : Option ((Int × List zcB)) :=
 (zjU o v0 v1 v2 v3).bind fun v4 => some (v4.1, v4.2.2.2)
def zfY (o : Ops) : SC := ⟨⟨[(0, (.ptr 0 0)), (1, hS), (2, hS), (3, hI)], [ziV, zhB]⟩, 1, [(none, ⟨[(0, hI)], [ziV, ycI]⟩)], fun x => zbK o x.1 x.2.1 x.2.2.1 x.2.2.2⟩
theorem zjE : SCok Tryz.prog tabs 27 (zfY o) := zhU (o := o) (η := []) (Γ := ⟨[], [(47, (znP o))], false⟩) (ctok trivial ⟨zuU, trivial⟩) Tryz.func27
def zsO (o : Ops) (v0 : (List zcB)) : Option (Bool ⊕ (List zcB)) :=
 (zeP o ([97, 110, 110] : Bs) ([48, 49, 50, 51, 52, 53, 54, 55, 56, 57, 97, 98, 99, 100, 101, 102] : Bs) ([112, 119] : Bs) v0).bind fun v1 => bif (v1.1 != 0) then some (.inl false) else ((zaY o ([97, 110, 110] : Bs) ([112, 119] : Bs) (0 : Int) v1.2).bind fun v2 => bif (v2.1 != 0) then some (.inl false) else ((zaY o ([97, 110, 110] : Bs) ([110, 111] : Bs) (0 : Int) v2.2).bind fun v3 => bif (v3.1 != 151) then some (.inl false) else ((zaY o ([98, 111, 98] : Bs) ([112, 119] : Bs) (0 : Int) v3.2).bind fun v4 => bif (v4.1 != 150) then some (.inl false) else ((zcE o ([97, 110, 110] : Bs) ([48, 48, 48, 48, 48, 48] : Bs) (0 : Int) v4.2).bind fun v5 => bif (v5.1 != 154) then some (.inl false) else some (.inr v5.2)))))
def zsD (o : Ops) (v9 : Int) (v10 : List zcB) : Option ((Int × List zcB) ⊕ ((List zcB))) :=
 bif decide (v9 < 4) then ((zaY o ([97, 110, 110] : Bs) ([110, 111] : Bs) (7 : Int) v10).bind fun v11 => some (.inl (w64 (v9 + 1), v11.2))) else some (.inr v10)
def zrN (o : Ops) (v12 : List zcB) (v13 : Bs) : Option (Bool ⊕ (List zcB)) :=
 (zaY o ([97, 110, 110] : Bs) ([112, 119] : Bs) (306 : Int) v12).bind fun v14 => bif (v14.1 != 152) then some (.inl false) else ((zaY o ([97, 110, 110] : Bs) ([112, 119] : Bs) (307 : Int) v14.2).bind fun v15 => bif (v15.1 != 0) then some (.inl false) else ((zdS o ([97, 110, 110] : Bs) ([48, 49, 50, 51, 52, 53, 54, 55, 56, 57, 97, 98, 99, 100, 101, 102] : Bs) v15.2).bind fun v16 => bif (v16.1 != 0) then some (.inl false) else ((zcE o ([97, 110, 110] : Bs) v13 (60 : Int) v16.2).bind fun v17 => bif (v17.1 != 0) then some (.inl false) else ((zcE o ([97, 110, 110] : Bs) v13 (60 : Int) v17.2).bind fun v18 => bif (v18.1 != 153) then some (.inl false) else some (.inr v18.2)))))
def zlM (o : Ops) : Option (Bool) :=
 (zlV o).bind fun v0 => (zsO o v0).bind fun v6 => match v6 with
 | .inl v7 => (some v7)
 | .inr v8 => ((iter (fun x => zsD o x.1 x.2) ((0 : Int), v8)).bind fun v12 => (o.code ([48, 49, 50, 51, 52, 53, 54, 55, 56, 57, 97, 98, 99, 100, 101, 102] : Bs) (2 : Int)).bind fun v13 => (zrN o v12 v13).bind fun v19 => match v19 with
 | .inl v20 => (some v20)
 | .inr v21 => ((zbR o v21).bind fun v22 => (zmH o v22.1).bind fun v23 => match v23 with
 | .inl v24 => ((zcD o ([97, 110, 110] : Bs) (([107] : Bs), ([48, 49, 50, 51, 52, 53, 54, 55, 56, 57, 97, 98, 99, 100, 101, 102, 48, 49, 50, 51, 52, 53, 54, 55, 56, 57, 97, 98, 99, 100, 101, 102] : Bs), ([48, 49, 50, 51, 52, 53, 54, 55, 56, 57, 97, 98, 99, 100, 101, 102, 48, 49, 50, 51, 52, 53, 54, 55, 56, 57, 97, 98, 99, 100, 101, 102] : Bs), (0 : Int)) v22.2).bind fun v26 => bif (v26.1 == 0) then ((zbK o ([97, 110, 110] : Bs) ([107] : Bs) (3 : Int) v26.2).bind fun v27 => bif (v27.1 == 0) then ((zbK o ([97, 110, 110] : Bs) ([107] : Bs) (3 : Int) v27.2).bind fun v28 => bif (v28.1 == 153) then (some false) else (some false)) else (some false)) else (some false))
 | .inr v25 => ((zcD o ([97, 110, 110] : Bs) (([107] : Bs), ([48, 49, 50, 51, 52, 53, 54, 55, 56, 57, 97, 98, 99, 100, 101, 102, 48, 49, 50, 51, 52, 53, 54, 55, 56, 57, 97, 98, 99, 100, 101, 102] : Bs), ([48, 49, 50, 51, 52, 53, 54, 55, 56, 57, 97, 98, 99, 100, 101, 102, 48, 49, 50, 51, 52, 53, 54, 55, 56, 57, 97, 98, 99, 100, 101, 102] : Bs), (0 : Int)) v22.2).bind fun v29 => bif (v29.1 == 0) then ((zbK o ([97, 110, 110] : Bs) ([107] : Bs) (3 : Int) v29.2).bind fun v30 => bif (v30.1 == 0) then ((zbK o ([97, 110, 110] : Bs) ([107] : Bs) (3 : Int) v30.2).bind fun v31 => bif (v31.1 == 153) then (bif (v25.1 == 0) then ((zgA o v25.2).bind fun v32 => some ((v32.2.length : Int) == 1)) else (some false)) else (some false)) else (some false)) else (some false))))
def zrY (o : Ops) : PC := ⟨[], [.b], fun _ => zlM o, false⟩
theorem zrS : PCok Tryz.prog tabs 12 (zrY o) := zoQ (o := o) (η := [(2000004, .join [] [] [(some 1000000, ⟨[(0, hB)], []⟩), (none, ⟨[(1, (.ptr 0 0))], [ziV, zhB]⟩)]),
 (200005, .loop [] ⟨[(1, (.ptr 0 0)), (2, hI)], [ziV, zhB]⟩ [] [(some 0, ⟨[(1, (.ptr 0 0))], [ziV, zhB]⟩)]),
 (2000011, .join [] [] [(some 1000000, ⟨[(0, hB)], []⟩), (none, ⟨[(1, (.ptr 0 0))], [ziV, zhB]⟩)])]) (Γ := ⟨[(23, (ylT o))], [(16, (zpW o)), (17, (zhX o)), (19, (zfX o)), (22, (zgU o)), (20, (zfV o)), (15, (zjW o)), (9, (zrP o)), (25, (zfL o)), (27, (zfY o)), (14, (zlB o))], false⟩) (ctok ⟨(zpI.code (G := tabs)), trivial⟩ ⟨ztH, ⟨zkG, ⟨zjG, ⟨zjS, ⟨zjK, ⟨zoN, ⟨zxA, ⟨ziI, ⟨zjE, ⟨zqA, trivial⟩⟩⟩⟩⟩⟩⟩⟩⟩⟩) Tryz.func12
end
end Go.Proofs.YtmkomlbiaebddaaGreatDoor.Am
