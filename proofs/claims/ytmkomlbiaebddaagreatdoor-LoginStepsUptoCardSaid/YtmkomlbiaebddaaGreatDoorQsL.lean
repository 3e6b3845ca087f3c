/- What some functions compute, over plain values, and that they do. The calls of logins whose answers the document fixes: what they come to, by reckoning. From a walk of a law to what is said of it: parts that the laws over texts share. What a law's arguments are, as plain values. A login with one user: plain laws. No step's code is taken twice: the plain law. Conditions: as each theorem says. -/
import Derived.KernelRfl
import Derived.Test.YtmkomlbiaebddaaGreatDoorRows
import Derived.Test.YtmkomlbiaebddaaGreatDoorTie
import Derived.Test.YtmkomlbiaebddaaGreatDoorCards
import Derived.ProofKit
import Derived.OpenShut
import Derived.Carry
import Derived.JoinedCond
import Derived.ChangeMaps5
import Derived.Deep.SlicePairs
import Derived.Deep.DeepHandedRow
import Derived.Lib.LaidTab
import Derived.SevenTiedAt
import Derived.Test.YtmkomlbiaebddaaGreatDoorQsK
namespace Go.Proofs.YtmkomlbiaebddaaGreatDoor.Am
open Go Go.RowKit
def τWkF : TE := [(3, ⟨.int .i64, 1, [.v (.i .i64) (show Int from 0)], (.i .i64), 8⟩),
  (9, ⟨.s, 1, [.v .s (show List UInt8 from [])], .s, 16⟩),
  (22, ⟨.sl 24, 1, [.nils], (.sl (.pr .s .s)), 24⟩),
  (24, ⟨.st [(9, 0), (9, 1)], 2, [.v .s (show List UInt8 from []), .v .s (show List UInt8 from [])], (.pr .s .s), 32⟩),
  (25, ⟨.pt 79, 1, [.nilp], .un, 8⟩),
  (35, ⟨.sl 53, 1, [.nils], (.sl (.pr .s (.pr .s (.pr .s (.pr .s (.pr (.i .i64) (.pr (.i .i64) (.pr (.i .i64) (.sl (.pr .s (.pr .s (.pr .s (.i .i64))))))))))))), 24⟩),
  (41, ⟨.sl 9, 1, [.nils], (.sl .s), 24⟩),
  (51, ⟨.sl 58, 1, [.nils], (.sl (.pr .s (.pr .s (.pr .s (.i .i64))))), 24⟩),
  (53, ⟨.st [(9, 0), (9, 1), (9, 2), (9, 3), (3, 4), (3, 5), (3, 6), (51, 7)], 8, [.v .s (show List UInt8 from []), .v .s (show List UInt8 from []), .v .s (show List UInt8 from []), .v .s (show List UInt8 from []), .v (.i .i64) (show Int from 0), .v (.i .i64) (show Int from 0), .v (.i .i64) (show Int from 0), .nils], (.pr .s (.pr .s (.pr .s (.pr .s (.pr (.i .i64) (.pr (.i .i64) (.pr (.i .i64) (.sl (.pr .s (.pr .s (.pr .s (.i .i64)))))))))))), 112⟩),
  (58, ⟨.st [(9, 0), (9, 1), (9, 2), (3, 3)], 4, [.v .s (show List UInt8 from []), .v .s (show List UInt8 from []), .v .s (show List UInt8 from []), .v (.i .i64) (show Int from 0)], (.pr .s (.pr .s (.pr .s (.i .i64)))), 56⟩),
  (74, ⟨.st [(53, 0)], 8, [.v .s (show List UInt8 from []), .v .s (show List UInt8 from []), .v .s (show List UInt8 from []), .v .s (show List UInt8 from []), .v (.i .i64) (show Int from 0), .v (.i .i64) (show Int from 0), .v (.i .i64) (show Int from 0), .nils], (.pr .s (.pr .s (.pr .s (.pr .s (.pr (.i .i64) (.pr (.i .i64) (.pr (.i .i64) (.sl (.pr .s (.pr .s (.pr .s (.i .i64)))))))))))), 112⟩),
  (77, ⟨.map 9 74, 1, [.nilm], (.mp .s (.pr .s (.pr .s (.pr .s (.pr .s (.pr (.i .i64) (.pr (.i .i64) (.pr (.i .i64) (.sl (.pr .s (.pr .s (.pr .s (.i .i64))))))))))))), 8⟩),
  (79, ⟨.st [(77, 0)], 1, [.nilm], (.pr (.mp .s (.pr .s (.pr .s (.pr .s (.pr .s (.pr (.i .i64) (.pr (.i .i64) (.pr (.i .i64) (.sl (.pr .s (.pr .s (.pr .s (.i .i64))))))))))))) .un), 8⟩),
  (125, ⟨.ifc, 1, [.v .er (show Bool from false)], .er, 16⟩)]
theorem τ_okWkF : TEok Tryz.prog τWkF := te_ok (by kernel_rfl) (by kernel_rfl)
theorem mixWkF : Tryz.prog.follows .mixedOrders = true := by kernel_rfl
abbrev KWkF0 : Type := (List UInt8) × (List UInt8) × (List UInt8) × Int
abbrev YWkF0 : Ty := .pr .s (.pr .s (.pr .s (.i .i64)))
abbrev KWkF1 : Type := (List UInt8) × (List UInt8) × (List UInt8) × (List UInt8) × Int × Int × Int × List KWkF0
abbrev YWkF1 : Ty := .pr .s (.pr .s (.pr .s (.pr .s (.pr (.i .i64) (.pr (.i .i64) (.pr (.i .i64) (.sl YWkF0)))))))
abbrev KWkF2 : Type := (List UInt8) × (List UInt8) × (List UInt8) × (List UInt8) × (List UInt8) × Int × Int × Int × List KWkF0
abbrev QWkF0 : OSh := .blk 74 [hS, hS, hS, hS, hI, hI, hI, (.h (.sl YWkF0))]
abbrev QWkF1 : OSh := .blk 74 [hS, hS, hS, hS, hI, hI, hI, .nils]
abbrev QWkF2 : OSh := .blk 58 [hS, hS, hS, hI]
abbrev QWkF3 : OSh := .blk 79 [(.mpr 1)]
abbrev QWkF4 : OSh := .mp false .s YWkF1
abbrev QWkF5 : OSh := .blk 79 [(.mpr 3)]
abbrev QWkF6 : OSh := .blk 79 [(.mpr 2)]
section
variable {tabs : List (Nat × Obj)} [TabOk tabs] {o : Ops} [OpsOk tabs o]
def login_New_s (o : Ops) : Option ((List KWkF2)) :=
  some ([] : List KWkF2)
def login_New_sc (o : Ops) : SC := ⟨⟨[], []⟩, 1, [(none, ⟨[(0, (.ptr 0 0))], [QWkF3, QWkF4]⟩)], fun _ => login_New_s o⟩
theorem login_New_sk : SCok Tryz.prog tabs 16 (login_New_sc o) := witO (G := tabs) (o := o) <| fn_sc (η := []) (Γ := ⟨[], [], false⟩) mixWkF τ_okWkF (ctok trivial trivial) Tryz.func16 (isFn Tryz.func16 (by kernel_rfl) (by kernel_rfl)) (by kernel_rfl) (by kernel_rfl) (by kernel_rfl)
def people_of_p (o : Ops) (v0 : List UInt8) (v1 : Int) (v2 : List UInt8) : Option (Bool) :=
  bif (v0 != ([] : List UInt8)) then (bif decide ((v0.length : Int) ≤ v1) then (Option.bind (o.trim v0 v2) fun v3 => some (v3 == ([] : List UInt8))) else (some false)) else (some false)
def people_of_pc (o : Ops) : PC := ⟨[hS, hI, hS], [.b], fun x => people_of_p o x.1 x.2.1 x.2.2, false⟩
theorem people_of_pk : PCok Tryz.prog tabs 91 (people_of_pc o) := witO (G := tabs) (o := o) <| fn_pc (η := []) (Γ := ⟨[(109, (oc_trim o))], [], false⟩) mixWkF τ_okWkF (ctok ⟨(OpsOk.trim (G := tabs)), trivial⟩ trivial) Tryz.func91 (isFn Tryz.func91 (by kernel_rfl) (by kernel_rfl)) (by kernel_rfl) rfl (by kernel_rfl)
def people_Name_p (o : Ops) (v0 : List UInt8) : Option (Bool) :=
  Option.bind (people_of_p o v0 (24 : Int) ([97, 98, 99, 100, 101, 102, 103, 104, 105, 106, 107, 108, 109, 110, 111, 112, 113, 114, 115, 116, 117, 118, 119, 120, 121, 122, 48, 49, 50, 51, 52, 53, 54, 55, 56, 57, 46, 95, 45] : List UInt8)) fun v1 => some v1
def people_Name_pc (o : Ops) : PC := ⟨[hS], [.b], fun x => people_Name_p o x, false⟩
theorem people_Name_pk : PCok Tryz.prog tabs 42 (people_Name_pc o) := witO (G := tabs) (o := o) <| fn_pc (η := []) (Γ := ⟨[(91, (people_of_pc o))], [], false⟩) mixWkF τ_okWkF (ctok ⟨people_of_pk, trivial⟩ trivial) Tryz.func42 (isFn Tryz.func42 (by kernel_rfl) (by kernel_rfl)) (by kernel_rfl) rfl (by kernel_rfl)
def login_in_p (o : Ops) (v0 : Int) (v1 : Int) (v2 : Int) : Option (Bool) :=
  bif decide (v0 ≥ v1) then (some (decide (v0 ≤ v2))) else (some false)
def login_in_pc (o : Ops) : PC := ⟨[hI, hI, hI], [.b], fun x => login_in_p o x.1 x.2.1 x.2.2, false⟩
theorem login_in_pk : PCok Tryz.prog tabs 43 (login_in_pc o) := witO (G := tabs) (o := o) <| fn_pc (η := []) (Γ := ⟨[], [], false⟩) mixWkF τ_okWkF (ctok trivial trivial) Tryz.func43 (isFn Tryz.func43 (by kernel_rfl) (by kernel_rfl)) (by kernel_rfl) rfl (by kernel_rfl)
def login_stretched_p (o : Ops) (v0 : List UInt8) (v1 : List UInt8) : Option (List UInt8) :=
  Option.bind (o.stretch v0 v1 (4 : Int) (32 : Int)) fun v2 => some v2.1
def login_stretched_pc (o : Ops) : PC := ⟨[hS, hS], [.s], fun x => login_stretched_p o x.1 x.2, false⟩
theorem login_stretched_pk : PCok Tryz.prog tabs 44 (login_stretched_pc o) := witO (G := tabs) (o := o) <| fn_pc (η := []) (Γ := ⟨[(92, (oc_stretch o))], [], false⟩) mixWkF τ_okWkF (ctok ⟨(OpsOk.stretch (G := tabs)), trivial⟩ trivial) Tryz.func44 (isFn Tryz.func44 (by kernel_rfl) (by kernel_rfl)) (by kernel_rfl) rfl (by kernel_rfl)
def login_Login_Set_j0 (o : Ops) (v0 : List UInt8) (v1 : List UInt8) (v2 : List UInt8) (v3 : List KWkF2) : Option ((Int × List KWkF2) ⊕ (List KWkF2)) :=
  Option.bind (people_Name_p o v0) fun v4 => bif (!v4) then some (.inl ((155 : Int), v3)) else (bif ((v1.length : Int) != (16 : Int)) then some (.inl ((155 : Int), v3)) else (Option.bind (login_in_p o (v2.length : Int) (1 : Int) (64 : Int)) fun v5 => bif (!v5) then some (.inl ((155 : Int), v3)) else some (.inr v3)))
def login_Login_Set_j1 (o : Ops) (v0 : List UInt8) (v8 : List KWkF2) (v9 : KWkF1) : Option ((Int × List KWkF2) ⊕ ((List KWkF2) × KWkF1)) :=
  bif (!(mhas keqS v8 v0)) then (bif decide ((v8.length : Int) ≥ (64 : Int)) then some (.inl ((156 : Int), v8)) else some (.inr (v8, v9))) else some (.inr (v8, v9))
def login_Login_Set_s (o : Ops) (v0 : List UInt8) (v1 : List UInt8) (v2 : List UInt8) (v3 : List KWkF2) : Option ((Int × List KWkF2)) :=
  Option.bind (login_Login_Set_j0 o v0 v1 v2 v3) fun v6 => match v6 with
  | .inl v7 => some v7
  | .inr v8 => (let v9 : KWkF1 := mgetD keqS v8 v0 (([] : List UInt8), ([] : List UInt8), ([] : List UInt8), ([] : List UInt8), (0 : Int), (0 : Int), (0 : Int), ([] : List KWkF0))
  Option.bind (login_Login_Set_j1 o v0 v8 v9) fun v10 => match v10 with
  | .inl v11 => some v11
  | .inr v12 => (Option.bind (login_stretched_p o v2 v1) fun v13 => let v14 : List KWkF2 := mset keqS kltS v12.1 v0 (v0, v1, v13, v12.2.2.2.2.1, v12.2.2.2.2.2.1, (0 : Int), (0 : Int), v12.2.2.2.2.2.2.2.2)
  some ((0 : Int), v14)))
def login_Login_Set_sc (o : Ops) : SC := ⟨⟨[(0, (.ptr 0 0)), (1, hS), (2, hS), (3, hS)], [QWkF3, QWkF4]⟩, 1, [(none, ⟨[(0, hI)], [QWkF3, QWkF4]⟩)], fun x => login_Login_Set_s o x.1 x.2.1 x.2.2.1 x.2.2.2⟩
theorem login_Login_Set_sk : SCok Tryz.prog tabs 17 (login_Login_Set_sc o) := witO (G := tabs) (o := o) <| fn_sc (η := [(2000003, .join [] [1, 2, 3] [(some 1000000, ⟨[(8, hI)], [QWkF3, QWkF4]⟩), (none, ⟨[(0, (.ptr 0 0))], [QWkF3, QWkF4]⟩)]),
  (2000006, .join [] [1, 2, 3] [(some 1000000, ⟨[(8, hI)], [QWkF3, QWkF4]⟩), (none, ⟨[(0, (.ptr 0 0)), (9, (.ptr 2 0))], [QWkF3, QWkF4, QWkF0]⟩)])]) (Γ := ⟨[(42, (people_Name_pc o)), (43, (login_in_pc o)), (44, (login_stretched_pc o))], [], false⟩) mixWkF τ_okWkF (ctok ⟨people_Name_pk, ⟨login_in_pk, ⟨login_stretched_pk, trivial⟩⟩⟩ trivial) Tryz.func17 (isFn Tryz.func17 (by kernel_rfl) (by kernel_rfl)) (by kernel_rfl) (by kernel_rfl) (by kernel_rfl)
def login_time_p (o : Ops) (v0 : Int) : Option (Bool) :=
  Option.bind (login_in_p o v0 (0 : Int) (1099511627776 : Int)) fun v1 => some v1
def login_time_pc (o : Ops) : PC := ⟨[hI], [.b], fun x => login_time_p o x, false⟩
theorem login_time_pk : PCok Tryz.prog tabs 46 (login_time_pc o) := witO (G := tabs) (o := o) <| fn_pc (η := []) (Γ := ⟨[(43, (login_in_pc o))], [], false⟩) mixWkF τ_okWkF (ctok ⟨login_in_pk, trivial⟩ trivial) Tryz.func46 (isFn Tryz.func46 (by kernel_rfl) (by kernel_rfl)) (by kernel_rfl) rfl (by kernel_rfl)
def login_Login_Check_1_j0 (o : Ops) (v0 : List UInt8) (v1 : List UInt8) (v2 : List UInt8) (v3 : List UInt8) (v4 : Int) (v5 : Int) (v6 : Int) (v7 : List KWkF0) (v8 : Int) (v9 : List UInt8) : Option ((Bool × (List UInt8) × (List UInt8) × (List UInt8) × (List UInt8) × Int × Int × Int × (List KWkF0) × Int × List UInt8)) :=
  Option.bind (login_in_p o (v9.length : Int) (1 : Int) (64 : Int)) fun v10 => bif v10 then (Option.bind (login_stretched_p o v9 v1) fun v11 => Option.bind (o.same v11 v2) fun v12 => some (v12, v0, v1, v2, v3, v4, v5, v6, v7, v8, v9)) else some (false, v0, v1, v2, v3, v4, v5, v6, v7, v8, v9)
def login_Login_Check_1_j1 (o : Ops) (v0 : List UInt8) (v1 : List UInt8) (v2 : List UInt8) (v3 : List UInt8) (v4 : Int) (v5 : Int) (v6 : Int) (v7 : List KWkF0) (v8 : Int) (v9 : List UInt8) : Option ((Int × (List UInt8) × (List UInt8) × (List UInt8) × (List UInt8) × Int × Int × Int × (List KWkF0) × Int × List UInt8) ⊕ ((List UInt8) × (List UInt8) × (List UInt8) × (List UInt8) × Int × Int × Int × (List KWkF0) × Int × List UInt8)) :=
  Option.bind (login_Login_Check_1_j0 o v0 v1 v2 v3 v4 v5 v6 v7 v8 v9) fun v13 => bif v13.1 then some (.inl ((0 : Int), v13.2.1, v13.2.2.1, v13.2.2.2.1, v13.2.2.2.2.1, v13.2.2.2.2.2.1, (0 : Int), (0 : Int), v13.2.2.2.2.2.2.2.2)) else some (.inr v13.2)
def login_Login_Check_1_s (o : Ops) (v0 : List UInt8) (v1 : List UInt8) (v2 : List UInt8) (v3 : List UInt8) (v4 : Int) (v5 : Int) (v6 : Int) (v7 : List KWkF0) (v8 : Int) (v9 : List UInt8) : Option ((Int × (List UInt8) × (List UInt8) × (List UInt8) × (List UInt8) × Int × Int × Int × (List KWkF0) × Int × List UInt8)) :=
  bif decide (v8 < v6) then some ((152 : Int), v0, v1, v2, v3, v4, v5, v6, v7, v8, v9) else (Option.bind (login_Login_Check_1_j1 o v0 v1 v2 v3 v4 v5 v6 v7 v8 v9) fun v14 => match v14 with
  | .inl v15 => some v15
  | .inr v16 => (bif ((w64 (v16.2.2.2.2.2.1 + (1 : Int))) == (5 : Int)) then some ((151 : Int), v16.1, v16.2.1, v16.2.2.1, v16.2.2.2.1, v16.2.2.2.2.1, (0 : Int), w64 (v16.2.2.2.2.2.2.2.2.1 + (300 : Int)), v16.2.2.2.2.2.2.2) else some ((151 : Int), v16.1, v16.2.1, v16.2.2.1, v16.2.2.2.1, v16.2.2.2.2.1, w64 (v16.2.2.2.2.2.1 + (1 : Int)), v16.2.2.2.2.2.2)))
def login_Login_Check_1_sc (o : Ops) : SC := ⟨⟨[(0, (.ptr 0 0)), (1, (.ptr 1 0)), (2, (.ptr 2 0))], [QWkF0, .blk 3 [hI], .blk 9 [hS]]⟩, 1, [(none, ⟨[(0, hI)], [QWkF0, .blk 3 [hI], .blk 9 [hS]]⟩)], fun x => login_Login_Check_1_s o x.1 x.2.1 x.2.2.1 x.2.2.2.1 x.2.2.2.2.1 x.2.2.2.2.2.1 x.2.2.2.2.2.2.1 x.2.2.2.2.2.2.2.1 x.2.2.2.2.2.2.2.2.1 x.2.2.2.2.2.2.2.2.2⟩
theorem login_Login_Check_1_sk : SCok Tryz.prog tabs 48 (login_Login_Check_1_sc o) := witO (G := tabs) (o := o) <| fn_sc (η := [(2300004, .join [] [] [(none, ⟨[(0, (.ptr 0 0)), (1, (.ptr 1 0)), (29, hB)], [QWkF0, .blk 3 [hI], .blk 9 [hS]]⟩)]),
  (2000006, .join [] [] [(some 1000000, ⟨[(4, hI)], [QWkF0, .blk 3 [hI], .blk 9 [hS]]⟩), (none, ⟨[(0, (.ptr 0 0)), (1, (.ptr 1 0))], [QWkF0, .blk 3 [hI], .blk 9 [hS]]⟩)]),
  (3000008, .reg 7 [0] 1)]) (Γ := ⟨[(43, (login_in_pc o)), (44, (login_stretched_pc o)), (49, (oc_same o))], [], false⟩) mixWkF τ_okWkF (ctok ⟨login_in_pk, ⟨login_stretched_pk, ⟨(OpsOk.same (G := tabs)), trivial⟩⟩⟩ trivial) Tryz.func48 (isFn Tryz.func48 (by kernel_rfl) (by kernel_rfl)) (by kernel_rfl) (by kernel_rfl) (by kernel_rfl)
def login_Login_with_s (o : Ops) (v0 : List UInt8) (v1 : Int) (v2 : List UInt8) (v3 : List KWkF2) : Option ((Int × Int × (List UInt8) × List KWkF2)) :=
  let v4 : KWkF1 := mgetD keqS v3 v0 (([] : List UInt8), ([] : List UInt8), ([] : List UInt8), ([] : List UInt8), (0 : Int), (0 : Int), (0 : Int), ([] : List KWkF0))
  bif (!(mhas keqS v3 v0)) then some ((150 : Int), v1, v2, v3) else (Option.bind (login_Login_Check_1_s o v4.1 v4.2.1 v4.2.2.1 v4.2.2.2.1 v4.2.2.2.2.1 v4.2.2.2.2.2.1 v4.2.2.2.2.2.2.1 v4.2.2.2.2.2.2.2 v1 v2) fun v5 => let v6 : List KWkF2 := mset keqS kltS v3 v0 (v5.2.1, v5.2.2.1, v5.2.2.2.1, v5.2.2.2.2.1, v5.2.2.2.2.2.1, v5.2.2.2.2.2.2.1, v5.2.2.2.2.2.2.2.1, v5.2.2.2.2.2.2.2.2.1)
  some (v5.1, v5.2.2.2.2.2.2.2.2.2.1, v5.2.2.2.2.2.2.2.2.2.2, v6))
def login_Login_with_sc (o : Ops) : SC := ⟨⟨[(0, (.ptr 0 0)), (1, hS), (2, (.fn 48 [] [(.ptr 1 0), (.ptr 2 0)]))], [QWkF5, .blk 3 [hI], .blk 9 [hS], QWkF4]⟩, 1, [(none, ⟨[(0, hI)], [QWkF5, .blk 3 [hI], .blk 9 [hS], QWkF4]⟩)], fun x => login_Login_with_s o x.1 x.2.1 x.2.2.1 x.2.2.2⟩
theorem login_Login_with_sk : SCok Tryz.prog tabs 47 (login_Login_with_sc o) := witO (G := tabs) (o := o) <| fn_sc (η := []) (Γ := ⟨[], [(48, (login_Login_Check_1_sc o))], false⟩) mixWkF τ_okWkF (ctok trivial ⟨login_Login_Check_1_sk, trivial⟩) Tryz.func47 (isFn Tryz.func47 (by kernel_rfl) (by kernel_rfl)) (by kernel_rfl) (by kernel_rfl) (by kernel_rfl)
def login_Login_Check_s (o : Ops) (v0 : List UInt8) (v1 : List UInt8) (v2 : Int) (v3 : List KWkF2) : Option ((Int × List KWkF2)) :=
  Option.bind (login_time_p o v2) fun v4 => bif (!v4) then some ((1 : Int), v3) else (Option.bind (login_Login_with_s o v0 v2 v1 v3) fun v5 => some (v5.1, v5.2.2.2))
def login_Login_Check_sc (o : Ops) : SC := ⟨⟨[(0, (.ptr 0 0)), (1, hS), (2, hS), (3, hI)], [QWkF3, QWkF4]⟩, 1, [(none, ⟨[(0, hI)], [QWkF3, QWkF4]⟩)], fun x => login_Login_Check_s o x.1 x.2.1 x.2.2.1 x.2.2.2⟩
theorem login_Login_Check_sk : SCok Tryz.prog tabs 19 (login_Login_Check_sc o) := witO (G := tabs) (o := o) <| fn_sc (η := []) (Γ := ⟨[(46, (login_time_pc o))], [(47, (login_Login_with_sc o))], false⟩) mixWkF τ_okWkF (ctok ⟨login_time_pk, trivial⟩ ⟨login_Login_with_sk, trivial⟩) Tryz.func19 (isFn Tryz.func19 (by kernel_rfl) (by kernel_rfl)) (by kernel_rfl) (by kernel_rfl) (by kernel_rfl)
def login_Login_Code_1_j0 (o : Ops) (v0 : List UInt8) (v1 : List UInt8) (v2 : List UInt8) (v3 : List UInt8) (v4 : Int) (v5 : Int) (v6 : Int) (v7 : List KWkF0) (v8 : List UInt8) (v9 : Int) (v10 : Int × Bool) : Option ((Int × (List UInt8) × (List UInt8) × (List UInt8) × (List UInt8) × Int × Int × Int × (List KWkF0) × (List UInt8) × Int) ⊕ ((List UInt8) × (List UInt8) × (List UInt8) × (List UInt8) × Int × Int × Int × (List KWkF0) × (List UInt8) × Int)) :=
  bif (!v10.2) then some (.inl ((153 : Int), v0, v1, v2, v3, v4, v5, v6, v7, v8, v9)) else (bif decide (v10.1 < v4) then some (.inl ((153 : Int), v0, v1, v2, v3, v4, v5, v6, v7, v8, v9)) else some (.inr (v0, v1, v2, v3, v4, v5, v6, v7, v8, v9)))
def login_Login_Code_1_s (o : Ops) (v0 : List UInt8) (v1 : List UInt8) (v2 : List UInt8) (v3 : List UInt8) (v4 : Int) (v5 : Int) (v6 : Int) (v7 : List KWkF0) (v8 : List UInt8) (v9 : Int) : Option ((Int × (List UInt8) × (List UInt8) × (List UInt8) × (List UInt8) × Int × Int × Int × (List KWkF0) × (List UInt8) × Int)) :=
  bif (v3 == ([] : List UInt8)) then some ((154 : Int), v0, v1, v2, v3, v4, v5, v6, v7, v8, v9) else (Option.bind (chk (((30 : Int) != (0 : Int)))) fun _ => Option.bind (o.find v3 v8 (w64 (Int.tdiv v9 (30 : Int))) (1 : Int)) fun v10 => Option.bind (login_Login_Code_1_j0 o v0 v1 v2 v3 v4 v5 v6 v7 v8 v9 v10) fun v11 => match v11 with
  | .inl v12 => some v12
  | .inr v13 => some ((0 : Int), v13.1, v13.2.1, v13.2.2.1, v13.2.2.2.1, w64 (v10.1 + (1 : Int)), v13.2.2.2.2.2))
def login_Login_Code_1_sc (o : Ops) : SC := ⟨⟨[(0, (.ptr 0 0)), (1, (.ptr 1 0)), (2, (.ptr 2 0))], [QWkF0, .blk 9 [hS], .blk 3 [hI]]⟩, 1, [(none, ⟨[(0, hI)], [QWkF0, .blk 9 [hS], .blk 3 [hI]]⟩)], fun x => login_Login_Code_1_s o x.1 x.2.1 x.2.2.1 x.2.2.2.1 x.2.2.2.2.1 x.2.2.2.2.2.1 x.2.2.2.2.2.2.1 x.2.2.2.2.2.2.2.1 x.2.2.2.2.2.2.2.2.1 x.2.2.2.2.2.2.2.2.2⟩
theorem login_Login_Code_1_sk : SCok Tryz.prog tabs 51 (login_Login_Code_1_sc o) := witO (G := tabs) (o := o) <| fn_sc (η := [(2000006, .join [] [5] [(some 1000000, ⟨[(4, hI)], [QWkF0, .blk 9 [hS], .blk 3 [hI]]⟩), (none, ⟨[(0, (.ptr 0 0))], [QWkF0, .blk 9 [hS], .blk 3 [hI]]⟩)])]) (Γ := ⟨[(52, (oc_find o))], [], false⟩) mixWkF τ_okWkF (ctok ⟨(OpsOk.find (G := tabs)), trivial⟩ trivial) Tryz.func51 (isFn Tryz.func51 (by kernel_rfl) (by kernel_rfl)) (by kernel_rfl) (by kernel_rfl) (by kernel_rfl)
def login_Login_with_s2 (o : Ops) (v0 : List UInt8) (v1 : List UInt8) (v2 : Int) (v3 : List KWkF2) : Option ((Int × (List UInt8) × Int × List KWkF2)) :=
  let v4 : KWkF1 := mgetD keqS v3 v0 (([] : List UInt8), ([] : List UInt8), ([] : List UInt8), ([] : List UInt8), (0 : Int), (0 : Int), (0 : Int), ([] : List KWkF0))
  bif (!(mhas keqS v3 v0)) then some ((150 : Int), v1, v2, v3) else (Option.bind (login_Login_Code_1_s o v4.1 v4.2.1 v4.2.2.1 v4.2.2.2.1 v4.2.2.2.2.1 v4.2.2.2.2.2.1 v4.2.2.2.2.2.2.1 v4.2.2.2.2.2.2.2 v1 v2) fun v5 => let v6 : List KWkF2 := mset keqS kltS v3 v0 (v5.2.1, v5.2.2.1, v5.2.2.2.1, v5.2.2.2.2.1, v5.2.2.2.2.2.1, v5.2.2.2.2.2.2.1, v5.2.2.2.2.2.2.2.1, v5.2.2.2.2.2.2.2.2.1)
  some (v5.1, v5.2.2.2.2.2.2.2.2.2.1, v5.2.2.2.2.2.2.2.2.2.2, v6))
def login_Login_with_s2c (o : Ops) : SC := ⟨⟨[(0, (.ptr 0 0)), (1, hS), (2, (.fn 51 [] [(.ptr 1 0), (.ptr 2 0)]))], [QWkF5, .blk 9 [hS], .blk 3 [hI], QWkF4]⟩, 1, [(none, ⟨[(0, hI)], [QWkF5, .blk 9 [hS], .blk 3 [hI], QWkF4]⟩)], fun x => login_Login_with_s2 o x.1 x.2.1 x.2.2.1 x.2.2.2⟩
theorem login_Login_with_s2k : SCok Tryz.prog tabs 47 (login_Login_with_s2c o) := witO (G := tabs) (o := o) <| fn_sc (η := []) (Γ := ⟨[], [(51, (login_Login_Code_1_sc o))], false⟩) mixWkF τ_okWkF (ctok trivial ⟨login_Login_Code_1_sk, trivial⟩) Tryz.func47 (isFn Tryz.func47 (by kernel_rfl) (by kernel_rfl)) (by kernel_rfl) (by kernel_rfl) (by kernel_rfl)
def login_Login_Code_s (o : Ops) (v0 : List UInt8) (v1 : List UInt8) (v2 : Int) (v3 : List KWkF2) : Option ((Int × List KWkF2)) :=
  Option.bind (login_time_p o v2) fun v4 => bif (!v4) then some ((1 : Int), v3) else (Option.bind (login_Login_with_s2 o v0 v1 v2 v3) fun v5 => some (v5.1, v5.2.2.2))
def login_Login_Code_sc (o : Ops) : SC := ⟨⟨[(0, (.ptr 0 0)), (1, hS), (2, hS), (3, hI)], [QWkF3, QWkF4]⟩, 1, [(none, ⟨[(0, hI)], [QWkF3, QWkF4]⟩)], fun x => login_Login_Code_s o x.1 x.2.1 x.2.2.1 x.2.2.2⟩
theorem login_Login_Code_sk : SCok Tryz.prog tabs 22 (login_Login_Code_sc o) := witO (G := tabs) (o := o) <| fn_sc (η := []) (Γ := ⟨[(46, (login_time_pc o))], [(47, (login_Login_with_s2c o))], false⟩) mixWkF τ_okWkF (ctok ⟨login_time_pk, trivial⟩ ⟨login_Login_with_s2k, trivial⟩) Tryz.func22 (isFn Tryz.func22 (by kernel_rfl) (by kernel_rfl)) (by kernel_rfl) (by kernel_rfl) (by kernel_rfl)
def login_Login_Enrol_1_s (o : Ops) (v0 : List UInt8) (v1 : List UInt8) (v2 : List UInt8) (v3 : List UInt8) (v4 : Int) (v5 : Int) (v6 : Int) (v7 : List KWkF0) (v8 : List UInt8) : Option ((Int × (List UInt8) × (List UInt8) × (List UInt8) × (List UInt8) × Int × Int × Int × (List KWkF0) × List UInt8)) :=
  Option.bind (login_in_p o (v8.length : Int) (16 : Int) (64 : Int)) fun v9 => bif (!v9) then some ((155 : Int), v0, v1, v2, v3, v4, v5, v6, v7, v8) else some ((0 : Int), v0, v1, v2, v8, (0 : Int), v5, v6, v7, v8)
def login_Login_Enrol_1_sc (o : Ops) : SC := ⟨⟨[(0, (.ptr 0 0)), (1, (.ptr 1 0))], [QWkF0, .blk 9 [hS]]⟩, 1, [(none, ⟨[(0, hI)], [QWkF0, .blk 9 [hS]]⟩)], fun x => login_Login_Enrol_1_s o x.1 x.2.1 x.2.2.1 x.2.2.2.1 x.2.2.2.2.1 x.2.2.2.2.2.1 x.2.2.2.2.2.2.1 x.2.2.2.2.2.2.2.1 x.2.2.2.2.2.2.2.2⟩
theorem login_Login_Enrol_1_sk : SCok Tryz.prog tabs 50 (login_Login_Enrol_1_sc o) := witO (G := tabs) (o := o) <| fn_sc (η := []) (Γ := ⟨[(43, (login_in_pc o))], [], false⟩) mixWkF τ_okWkF (ctok ⟨login_in_pk, trivial⟩ trivial) Tryz.func50 (isFn Tryz.func50 (by kernel_rfl) (by kernel_rfl)) (by kernel_rfl) (by kernel_rfl) (by kernel_rfl)
def login_Login_with_s3 (o : Ops) (v0 : List UInt8) (v1 : List UInt8) (v2 : List KWkF2) : Option ((Int × (List UInt8) × List KWkF2)) :=
  let v3 : KWkF1 := mgetD keqS v2 v0 (([] : List UInt8), ([] : List UInt8), ([] : List UInt8), ([] : List UInt8), (0 : Int), (0 : Int), (0 : Int), ([] : List KWkF0))
  bif (!(mhas keqS v2 v0)) then some ((150 : Int), v1, v2) else (Option.bind (login_Login_Enrol_1_s o v3.1 v3.2.1 v3.2.2.1 v3.2.2.2.1 v3.2.2.2.2.1 v3.2.2.2.2.2.1 v3.2.2.2.2.2.2.1 v3.2.2.2.2.2.2.2 v1) fun v4 => let v5 : List KWkF2 := mset keqS kltS v2 v0 (v4.2.1, v4.2.2.1, v4.2.2.2.1, v4.2.2.2.2.1, v4.2.2.2.2.2.1, v4.2.2.2.2.2.2.1, v4.2.2.2.2.2.2.2.1, v4.2.2.2.2.2.2.2.2.1)
  some (v4.1, v4.2.2.2.2.2.2.2.2.2, v5))
def login_Login_with_s3c (o : Ops) : SC := ⟨⟨[(0, (.ptr 0 0)), (1, hS), (2, (.fn 50 [] [(.ptr 1 0)]))], [QWkF6, .blk 9 [hS], QWkF4]⟩, 1, [(none, ⟨[(0, hI)], [QWkF6, .blk 9 [hS], QWkF4]⟩)], fun x => login_Login_with_s3 o x.1 x.2.1 x.2.2⟩
theorem login_Login_with_s3k : SCok Tryz.prog tabs 47 (login_Login_with_s3c o) := witO (G := tabs) (o := o) <| fn_sc (η := []) (Γ := ⟨[], [(50, (login_Login_Enrol_1_sc o))], false⟩) mixWkF τ_okWkF (ctok trivial ⟨login_Login_Enrol_1_sk, trivial⟩) Tryz.func47 (isFn Tryz.func47 (by kernel_rfl) (by kernel_rfl)) (by kernel_rfl) (by kernel_rfl) (by kernel_rfl)
def login_Login_Enrol_s (o : Ops) (v0 : List UInt8) (v1 : List UInt8) (v2 : List KWkF2) : Option ((Int × List KWkF2)) :=
  Option.bind (login_Login_with_s3 o v0 v1 v2) fun v3 => some (v3.1, v3.2.2)
def login_Login_Enrol_sc (o : Ops) : SC := ⟨⟨[(0, (.ptr 0 0)), (1, hS), (2, hS)], [QWkF3, QWkF4]⟩, 1, [(none, ⟨[(0, hI)], [QWkF3, QWkF4]⟩)], fun x => login_Login_Enrol_s o x.1 x.2.1 x.2.2⟩
theorem login_Login_Enrol_sk : SCok Tryz.prog tabs 20 (login_Login_Enrol_sc o) := witO (G := tabs) (o := o) <| fn_sc (η := []) (Γ := ⟨[], [(47, (login_Login_with_s3c o))], false⟩) mixWkF τ_okWkF (ctok trivial ⟨login_Login_with_s3k, trivial⟩) Tryz.func20 (isFn Tryz.func20 (by kernel_rfl) (by kernel_rfl)) (by kernel_rfl) (by kernel_rfl) (by kernel_rfl)
def maps_Keys_s (o : Ops) (v0 : List KWkF2) : Option ((List KWkF2)) :=
  some v0
def maps_Keys_sc (o : Ops) : SC := ⟨⟨[(0, (.mpr 0))], [QWkF4]⟩, 1, [(none, ⟨[(0, (.fn 87 [] [(.ptr 1 0)]))], [QWkF4, .blk 77 [(.mpr 0)]]⟩)], fun x => maps_Keys_s o x⟩
theorem maps_Keys_sk : SCok Tryz.prog tabs 37 (maps_Keys_sc o) := witO (G := tabs) (o := o) <| fn_sc (η := []) (Γ := ⟨[], [], false⟩) mixWkF τ_okWkF (ctok trivial trivial) Tryz.func37 (isFn Tryz.func37 (by kernel_rfl) (by kernel_rfl)) (by kernel_rfl) (by kernel_rfl) (by kernel_rfl)
def Sorted_sc : SC := ⟨⟨[(0, (.fn 87 [] [(.ptr 0 0)]))], [.blk 77 [(.mpr 1)], QWkF4]⟩, 1, [(none, ⟨[(0, (.h (.sl .s)))], [.blk 77 [(.mpr 1)], QWkF4]⟩)], fun es => sortedP es⟩
theorem Sorted_sk : SCok Tryz.prog tabs 36 Sorted_sc := wit (G := tabs) <| sorted_sc (kT := 9) (isFn Tryz.func36 (by kernel_rfl) (by kernel_rfl)) (by kernel_rfl) YtmkomlbiaebddaaGreatDoor.sortedK
def Clone_sc : SC := ⟨⟨[(0, (.h (.sl YWkF0)))], []⟩, 1, [(none, ⟨[(0, (.own 0))], [.osl YWkF0 58]⟩)], fun xs => app [] xs⟩
theorem Clone_sk : SCok Tryz.prog tabs 61 Clone_sc := wit (G := tabs) <| clone_sc mixWkF τ_okWkF Tryz.func61 (isFn Tryz.func61 (by kernel_rfl) (by kernel_rfl)) rfl (by kernel_rfl) (by kernel_rfl) (by kernel_rfl) (fun _ => by kernel_rfl)
def Clip_pc : PC := ⟨[.h (.sl YWkF0)], [(.sl YWkF0)], fun xs => some xs, true⟩
theorem Clip_pk : PCok Tryz.prog tabs 59 Clip_pc := wit (G := tabs) <| clip_pc mixWkF τ_okWkF Tryz.func59 (isFn Tryz.func59 (by kernel_rfl) (by kernel_rfl)) rfl (by kernel_rfl) (fun _ => by kernel_rfl)
def login_kept_told_p (o : Ops) (v0 : KWkF1) : Option KWkF1 :=
  Option.bind (app ([] : List KWkF0) v0.2.2.2.2.2.2.2) fun v1 => some (v0.1, v0.2.1, v0.2.2.1, v0.2.2.2.1, v0.2.2.2.2.1, v0.2.2.2.2.2.1, v0.2.2.2.2.2.2.1, v1)
def login_kept_told_pc (o : Ops) : PC := ⟨[(.h YWkF1)], [YWkF1], fun x => login_kept_told_p o x, false⟩
theorem login_kept_told_pk : PCok Tryz.prog tabs 38 (login_kept_told_pc o) := witO (G := tabs) (o := o) <| fn_pc (η := []) (Γ := ⟨[(59, Clip_pc)], [(61, Clone_sc)], false⟩) mixWkF τ_okWkF (ctok ⟨Clip_pk, trivial⟩ ⟨Clone_sk, trivial⟩) Tryz.func38 (isFn Tryz.func38 (by kernel_rfl) (by kernel_rfl)) (by kernel_rfl) rfl (by kernel_rfl)
def login_Login_All_b0 (o : Ops) (v3 : ((List (List UInt8)) × List KWkF2)) (v4 : Int) (v5 : List KWkF2) (v6 : List KWkF1) : Option ((Int × (List KWkF2) × List KWkF1) ⊕ (((List KWkF2) × List KWkF1))) :=
  bif decide (v4 < (v3.1.length : Int)) then (Option.bind (idx v3.1 v4) fun v7 => let v8 : KWkF1 := mgetD keqS v5 v7 (([] : List UInt8), ([] : List UInt8), ([] : List UInt8), ([] : List UInt8), (0 : Int), (0 : Int), (0 : Int), ([] : List KWkF0))
  Option.bind (login_kept_told_p o v8) fun v9 => Option.bind (app v6 ([v9] : List KWkF1)) fun v10 => some (.inl (w64 (v4 + (1 : Int)), v5, v10))) else some (.inr (v5, v6))
def login_Login_All_s (o : Ops) (v0 : List KWkF2) : Option (((List KWkF2) × List KWkF1)) :=
  Option.bind (chk (decide ((0 : Int) ≤ (v0.length : Int)) && decide ((v0.length : Int) ≤ (LIM : Int)))) fun _ => Option.bind (mkL (0 : Int) (([] : List UInt8), ([] : List UInt8), ([] : List UInt8), ([] : List UInt8), (0 : Int), (0 : Int), (0 : Int), ([] : List KWkF0))) fun v1 => Option.bind (maps_Keys_s o v0) fun v2 => Option.bind (sortedP v2) fun v3 => Option.bind (iter (fun x => login_Login_All_b0 o v3 x.1 x.2.1 x.2.2) ((0 : Int), v3.2, v1)) fun v11 => some v11
def login_Login_All_sc (o : Ops) : SC := ⟨⟨[(0, (.ptr 0 0))], [QWkF3, QWkF4]⟩, 1, [(none, ⟨[(0, (.own 2))], [QWkF3, QWkF4, .osl YWkF1 53]⟩)], fun x => login_Login_All_s o x⟩
theorem login_Login_All_sk : SCok Tryz.prog tabs 14 (login_Login_All_sc o) := witO (G := tabs) (o := o) <| fn_sc (η := [(200003, .loop [] ⟨[(0, (.ptr 0 0)), (3, (.own 2)), (19, hI)], [QWkF3, QWkF4, .osl YWkF1 53]⟩ [2, 17, 18] [(some 0, ⟨[(3, (.own 2))], [QWkF3, QWkF4, .osl YWkF1 53]⟩)])]) (Γ := ⟨[(38, (login_kept_told_pc o))], [(37, (maps_Keys_sc o)), (36, Sorted_sc)], false⟩) mixWkF τ_okWkF (ctok ⟨login_kept_told_pk, trivial⟩ ⟨maps_Keys_sk, ⟨Sorted_sk, trivial⟩⟩) Tryz.func14 (isFn Tryz.func14 (by kernel_rfl) (by kernel_rfl)) (by kernel_rfl) (by kernel_rfl) (by kernel_rfl)
def Clip_p2c : PC := ⟨[.h (.sl (.pr .s .s))], [(.sl (.pr .s .s))], fun xs => some xs, true⟩
theorem Clip_p2k : PCok Tryz.prog tabs 41 Clip_p2c := wit (G := tabs) <| clip_pc mixWkF τ_okWkF Tryz.func41 (isFn Tryz.func41 (by kernel_rfl) (by kernel_rfl)) rfl (by kernel_rfl) (fun _ => by kernel_rfl)
def login_Login_Rows_b02 (o : Ops) (v6 : KWkF1) (v11 : Int) (v12 : List KWkF2) (v13 : List ((List UInt8) × List UInt8)) (v14 : List UInt8) (v15 : List UInt8) (v16 : List UInt8) (v17 : List UInt8) (v18 : Int) (v19 : Int) (v20 : Int) (v21 : List KWkF0) (v22 : List (List UInt8)) (v23 : List KWkF1) : Option ((Int × (List KWkF2) × (List ((List UInt8) × List UInt8)) × (List UInt8) × (List UInt8) × (List UInt8) × (List UInt8) × Int × Int × Int × (List KWkF0) × (List (List UInt8)) × List KWkF1) ⊕ (((List KWkF2) × (List ((List UInt8) × List UInt8)) × (List UInt8) × (List UInt8) × (List UInt8) × (List UInt8) × Int × Int × Int × (List KWkF0) × (List (List UInt8)) × List KWkF1))) :=
  bif decide (v11 < (v6.2.2.2.2.2.2.2.length : Int)) then (Option.bind (idx v6.2.2.2.2.2.2.2 v11) fun v24 => Option.bind (o.itoa v24.2.2.2) fun v25 => Option.bind (app v22 ([v24.1, v24.2.1, v24.2.2.1, v25] : List (List UInt8))) fun v26 => some (.inl (w64 (v11 + (1 : Int)), v12, v13, v14, v15, v16, v17, v18, v19, v20, v21, v26, v23))) else some (.inr (v12, v13, v14, v15, v16, v17, v18, v19, v20, v21, v22, v23))
def login_Login_Rows_b1 (o : Ops) (v1 : ((List KWkF2) × List KWkF1)) (v2 : Int) (v3 : List KWkF2) (v4 : List ((List UInt8) × List UInt8)) (v5 : List KWkF1) : Option ((Int × (List KWkF2) × (List ((List UInt8) × List UInt8)) × List KWkF1) ⊕ (((List KWkF2) × List ((List UInt8) × List UInt8)))) :=
  bif decide (v2 < (v1.2.length : Int)) then (Option.bind (chk (decide ((0 : Int) ≤ v2) && decide (v2 < (v5.length : Int)))) fun _ => Option.bind (idx v5 v2) fun v6 => Option.bind (o.itoa v6.2.2.2.2.1) fun v7 => Option.bind (o.itoa v6.2.2.2.2.2.1) fun v8 => Option.bind (o.itoa v6.2.2.2.2.2.2.1) fun v9 => Option.bind (o.itoa (v6.2.2.2.2.2.2.2.length : Int)) fun v10 => Option.bind (iter (fun x => login_Login_Rows_b02 o v6 x.1 x.2.1 x.2.2.1 x.2.2.2.1 x.2.2.2.2.1 x.2.2.2.2.2.1 x.2.2.2.2.2.2.1 x.2.2.2.2.2.2.2.1 x.2.2.2.2.2.2.2.2.1 x.2.2.2.2.2.2.2.2.2.1 x.2.2.2.2.2.2.2.2.2.2.1 x.2.2.2.2.2.2.2.2.2.2.2.1 x.2.2.2.2.2.2.2.2.2.2.2.2) ((0 : Int), v3, v4, v6.1, v6.2.1, v6.2.2.1, v6.2.2.2.1, v6.2.2.2.2.1, v6.2.2.2.2.2.1, v6.2.2.2.2.2.2.1, v6.2.2.2.2.2.2.2, ([v6.2.1, v6.2.2.1, v6.2.2.2.1, v7, v8, v9, v10] : List (List UInt8)), v5)) fun v27 => Option.bind (app ([108, 111, 103, 105, 110, 47] : List UInt8) v27.2.2.1) fun v28 => Option.bind (o.form v27.2.2.2.2.2.2.2.2.2.2.1) fun v29 => Option.bind (app v27.2.1 ([(v28, v29)] : List ((List UInt8) × List UInt8))) fun v30 => some (.inl (w64 (v2 + (1 : Int)), v27.1, v30, v27.2.2.2.2.2.2.2.2.2.2.2))) else some (.inr (v3, v4))
def login_Login_Rows_s (o : Ops) (v0 : List KWkF2) : Option (((List ((List UInt8) × List UInt8)) × List KWkF2)) :=
  Option.bind (login_Login_All_s o v0) fun v1 => Option.bind (iter (fun x => login_Login_Rows_b1 o v1 x.1 x.2.1 x.2.2.1 x.2.2.2) ((0 : Int), v1.1, ([] : List ((List UInt8) × List UInt8)), v1.2)) fun v31 => some (v31.2, v31.1)
def login_Login_Rows_sc (o : Ops) : SC := ⟨⟨[(0, (.ptr 0 0))], [QWkF3, QWkF4]⟩, 1, [(none, ⟨[(0, (.hc (.pr .s .s)))], [QWkF3, QWkF4]⟩)], fun x => login_Login_Rows_s o x⟩
theorem login_Login_Rows_sk : SCok Tryz.prog tabs 15 (login_Login_Rows_sc o) := witO (G := tabs) (o := o) <| fn_sc (η := [(200007, .loop [] ⟨[(3, (.own 2)), (5, (.ptr 3 0)), (6, (.own 4)), (10, (.own 5)), (39, hI)], [QWkF3, QWkF4, .osl (.pr .s .s) 24, .blk 53 [hS, hS, hS, hS, hI, hI, hI, (.h (.sl YWkF0))], .osl .s 9, .osl YWkF1 53]⟩ [2, 11, 12, 37, 38] [(some 2, ⟨[(3, (.own 2)), (5, (.ptr 3 0)), (6, (.own 4)), (10, (.own 5))], [QWkF3, QWkF4, .osl (.pr .s .s) 24, .blk 53 [hS, hS, hS, hS, hI, hI, hI, (.h (.sl YWkF0))], .osl .s 9, .osl YWkF1 53]⟩)]),
  (200003, .loop [.sl 3 (.pr .s .s) 24] ⟨[(3, (.own 2)), (10, (.own 3)), (12, hI)], [QWkF3, QWkF4, .osl (.pr .s .s) 24, .osl YWkF1 53]⟩ [2, 11] [(some 0, ⟨[(3, (.own 2))], [QWkF3, QWkF4, .osl (.pr .s .s) 24]⟩)])]) (Γ := ⟨[(39, (oc_itoa o)), (40, (oc_form o)), (41, Clip_p2c)], [(14, (login_Login_All_sc o))], false⟩) mixWkF τ_okWkF (ctok ⟨(OpsOk.itoa (G := tabs)), ⟨(OpsOk.form (G := tabs)), ⟨Clip_p2k, trivial⟩⟩⟩ ⟨login_Login_All_sk, trivial⟩) Tryz.func15 (isFn Tryz.func15 (by kernel_rfl) (by kernel_rfl)) (by kernel_rfl) (by kernel_rfl) (by kernel_rfl)
def internal_stringslite_HasPrefix_p (o : Ops) (v0 : List UInt8) (v1 : List UInt8) : Option (Bool) :=
  bif decide ((v0.length : Int) ≥ (v1.length : Int)) then (Option.bind (subH v0 (v1.length : Int)) fun v2 => some (v2 == v1)) else (some false)
def internal_stringslite_HasPrefix_pc (o : Ops) : PC := ⟨[hS, hS], [.b], fun x => internal_stringslite_HasPrefix_p o x.1 x.2, false⟩
theorem internal_stringslite_HasPrefix_pk : PCok Tryz.prog tabs 129 (internal_stringslite_HasPrefix_pc o) := witO (G := tabs) (o := o) <| fn_pc (η := []) (Γ := ⟨[], [], false⟩) mixWkF τ_okWkF (ctok trivial trivial) Tryz.func129 (isFn Tryz.func129 (by kernel_rfl) (by kernel_rfl)) (by kernel_rfl) rfl (by kernel_rfl)
def internal_stringslite_CutPrefix_p (o : Ops) (v0 : List UInt8) (v1 : List UInt8) : Option ((List UInt8) × Bool) :=
  Option.bind (internal_stringslite_HasPrefix_p o v0 v1) fun v2 => bif (!v2) then (some (v0, false)) else (Option.bind (subL v0 (v1.length : Int)) fun v3 => some (v3, true))
def internal_stringslite_CutPrefix_pc (o : Ops) : PC := ⟨[hS, hS], [.s, .b], fun x => internal_stringslite_CutPrefix_p o x.1 x.2, false⟩
theorem internal_stringslite_CutPrefix_pk : PCok Tryz.prog tabs 105 (internal_stringslite_CutPrefix_pc o) := witO (G := tabs) (o := o) <| fn_pc (η := []) (Γ := ⟨[(129, (internal_stringslite_HasPrefix_pc o))], [], false⟩) mixWkF τ_okWkF (ctok ⟨internal_stringslite_HasPrefix_pk, trivial⟩ trivial) Tryz.func105 (isFn Tryz.func105 (by kernel_rfl) (by kernel_rfl)) (by kernel_rfl) rfl (by kernel_rfl)
def strings_CutPrefix_p (o : Ops) (v0 : List UInt8) (v1 : List UInt8) : Option ((List UInt8) × Bool) :=
  Option.bind (internal_stringslite_CutPrefix_p o v0 v1) fun v2 => some v2
def strings_CutPrefix_pc (o : Ops) : PC := ⟨[hS, hS], [.s, .b], fun x => strings_CutPrefix_p o x.1 x.2, false⟩
theorem strings_CutPrefix_pk : PCok Tryz.prog tabs 76 (strings_CutPrefix_pc o) := witO (G := tabs) (o := o) <| fn_pc (η := []) (Γ := ⟨[(105, (internal_stringslite_CutPrefix_pc o))], [], false⟩) mixWkF τ_okWkF (ctok ⟨internal_stringslite_CutPrefix_pk, trivial⟩ trivial) Tryz.func76 (isFn Tryz.func76 (by kernel_rfl) (by kernel_rfl)) (by kernel_rfl) rfl (by kernel_rfl)
def people_number_j0 (o : Ops) (v0 : List UInt8) : Option ((Int × Bool) ⊕ Unit) :=
  bif (v0 == ([] : List UInt8)) then some (.inl ((0 : Int), false)) else (bif decide ((v0.length : Int) > (15 : Int)) then some (.inl ((0 : Int), false)) else (Option.bind (idx v0 (0 : Int)) fun v1 => bif ((v1.toNat : Int) == ((48 : UInt8).toNat : Int)) then (bif (v0 != ([48] : List UInt8)) then some (.inl ((0 : Int), false)) else (Option.bind (o.trim v0 ([48, 49, 50, 51, 52, 53, 54, 55, 56, 57] : List UInt8)) fun v2 => bif (v2 != ([] : List UInt8)) then some (.inl ((0 : Int), false)) else some (.inr ()))) else (Option.bind (o.trim v0 ([48, 49, 50, 51, 52, 53, 54, 55, 56, 57] : List UInt8)) fun v3 => bif (v3 != ([] : List UInt8)) then some (.inl ((0 : Int), false)) else some (.inr ()))))
def people_number_p (o : Ops) (v0 : List UInt8) : Option (Int × Bool) :=
  Option.bind (people_number_j0 o v0) fun v4 => match v4 with
  | .inl v5 => (some v5)
  | .inr v6 => (Option.bind (o.atoi v0) fun v7 => some (v7.1, (!v7.2)))
def people_number_pc (o : Ops) : PC := ⟨[hS], [(.i .i64), .b], fun x => people_number_p o x, false⟩
theorem people_number_pk : PCok Tryz.prog tabs 107 (people_number_pc o) := witO (G := tabs) (o := o) <| fn_pc (η := [(2000003, .join [] [0] [(some 1000000, ⟨[(2, hI), (3, hB)], []⟩), (none, ⟨[], []⟩)])]) (Γ := ⟨[(109, (oc_trim o)), (110, (oc_atoi o))], [], false⟩) mixWkF τ_okWkF (ctok ⟨(OpsOk.trim (G := tabs)), ⟨(OpsOk.atoi (G := tabs)), trivial⟩⟩ trivial) Tryz.func107 (isFn Tryz.func107 (by kernel_rfl) (by kernel_rfl)) (by kernel_rfl) rfl (by kernel_rfl)
def Clip_p3c : PC := ⟨[.h (.sl .s)], [(.sl .s)], fun xs => some xs, true⟩
theorem Clip_p3k : PCok Tryz.prog tabs 108 Clip_p3c := wit (G := tabs) <| clip_pc mixWkF τ_okWkF Tryz.func108 (isFn Tryz.func108 (by kernel_rfl) (by kernel_rfl)) rfl (by kernel_rfl) (fun _ => by kernel_rfl)
def people_Texts_j04 (o : Ops) (v2 : List (List UInt8)) (v3 : (List UInt8) × (List UInt8) × Bool) (v4 : Int × Bool) : Option (Bool ⊕ List (List UInt8)) :=
  bif (!v3.2.2) then some (.inl false) else (bif (!v4.2) then some (.inl false) else (bif decide (v4.1 > (v3.2.1.length : Int)) then some (.inl false) else some (.inr v2)))
def people_Texts_b12 (o : Ops) (v1 : List UInt8) (v2 : List (List UInt8)) : Option (((List UInt8) × List (List UInt8)) ⊕ (Bool ⊕ List (List UInt8))) :=
  bif (v1 != ([] : List UInt8)) then (Option.bind (o.cut v1 ([58] : List UInt8)) fun v3 => Option.bind (people_number_p o v3.1) fun v4 => Option.bind (people_Texts_j04 o v2 v3 v4) fun v5 => match v5 with
  | .inl v6 => some (.inr (.inl v6))
  | .inr v7 => (Option.bind (subH v3.2.1 v4.1) fun v8 => Option.bind (app v7 ([v8] : List (List UInt8))) fun v9 => Option.bind (subL v3.2.1 v4.1) fun v10 => some (.inl (v10, v9)))) else some (.inr (.inr v2))
def people_Texts_s (o : Ops) (v0 : List UInt8) : Option (((List (List UInt8)) × Bool)) :=
  Option.bind (iter (fun x => people_Texts_b12 o x.1 x.2) (v0, ([] : List (List UInt8)))) fun v11 => match v11 with
  | .inl v12 => some (([] : List (List UInt8)), v12)
  | .inr v13 => some (v13, true)
def people_Texts_sc (o : Ops) : SC := ⟨⟨[(0, hS)], []⟩, 2, [(none, ⟨[(0, (.h (.sl .s))), (1, hB)], []⟩)], fun x => people_Texts_s o x⟩
theorem people_Texts_sk : SCok Tryz.prog tabs 77 (people_Texts_sc o) := witO (G := tabs) (o := o) <| fn_sc (η := [(2000007, .join [] [6, 8] [(some 1000000, ⟨[(2, .nils), (3, hB)], []⟩), (none, ⟨[(4, (.own 0))], [.osl .s 9]⟩)]),
  (200002, .loop [.sl 4 .s 9] ⟨[(0, hS), (4, (.own 0))], [.osl .s 9]⟩ [] [(some 1000000, ⟨[(2, .nils), (3, hB)], []⟩), (some 0, ⟨[(4, (.own 0))], [.osl .s 9]⟩)])]) (Γ := ⟨[(106, (oc_cut o)), (107, (people_number_pc o)), (108, Clip_p3c)], [], false⟩) mixWkF τ_okWkF (ctok ⟨(OpsOk.cut (G := tabs)), ⟨people_number_pk, ⟨Clip_p3k, trivial⟩⟩⟩ trivial) Tryz.func77 (isFn Tryz.func77 (by kernel_rfl) (by kernel_rfl)) (by kernel_rfl) (by kernel_rfl) (by kernel_rfl)
def login_number_j0 (o : Ops) (v0 : List UInt8) : Option (Int ⊕ Unit) :=
  bif (v0 == ([] : List UInt8)) then some (.inl (-1 : Int)) else (bif decide ((v0.length : Int) > (15 : Int)) then some (.inl (-1 : Int)) else (Option.bind (idx v0 (0 : Int)) fun v2 => bif ((v2.toNat : Int) == ((48 : UInt8).toNat : Int)) then (bif (v0 != ([48] : List UInt8)) then some (.inl (-1 : Int)) else (Option.bind (o.trim v0 ([48, 49, 50, 51, 52, 53, 54, 55, 56, 57] : List UInt8)) fun v3 => bif (v3 != ([] : List UInt8)) then some (.inl (-1 : Int)) else some (.inr ()))) else (Option.bind (o.trim v0 ([48, 49, 50, 51, 52, 53, 54, 55, 56, 57] : List UInt8)) fun v4 => bif (v4 != ([] : List UInt8)) then some (.inl (-1 : Int)) else some (.inr ()))))
def login_number_p (o : Ops) (v0 : List UInt8) (v1 : Int) : Option (Int) :=
  Option.bind (login_number_j0 o v0) fun v5 => match v5 with
  | .inl v6 => (some v6)
  | .inr v7 => (Option.bind (o.atoi v0) fun v8 => bif decide (v8.1 > v1) then (some (-1 : Int)) else (some v8.1))
def login_number_pc (o : Ops) : PC := ⟨[hS, hI], [(.i .i64)], fun x => login_number_p o x.1 x.2, false⟩
theorem login_number_pk : PCok Tryz.prog tabs 78 (login_number_pc o) := witO (G := tabs) (o := o) <| fn_pc (η := [(2000003, .join [] [0, 1] [(some 1000000, ⟨[(4, hI)], []⟩), (none, ⟨[], []⟩)])]) (Γ := ⟨[(109, (oc_trim o)), (110, (oc_atoi o))], [], false⟩) mixWkF τ_okWkF (ctok ⟨(OpsOk.trim (G := tabs)), ⟨(OpsOk.atoi (G := tabs)), trivial⟩⟩ trivial) Tryz.func78 (isFn Tryz.func78 (by kernel_rfl) (by kernel_rfl)) (by kernel_rfl) rfl (by kernel_rfl)
def login_may_p (o : Ops) (v0 : KWkF0) : Option (Bool) :=
  Option.bind (login_in_p o (v0.1.length : Int) (1 : Int) (86 : Int)) fun v1 => bif v1 then (bif ((v0.2.1.length : Int) == (32 : Int)) then (bif ((v0.2.2.1.length : Int) == (32 : Int)) then (Option.bind (login_in_p o v0.2.2.2 (0 : Int) (4294967295 : Int)) fun v2 => some v2) else (some false)) else (some false)) else (some false)
def login_may_pc (o : Ops) : PC := ⟨[(.h YWkF0)], [.b], fun x => login_may_p o x, false⟩
theorem login_may_pk : PCok Tryz.prog tabs 57 (login_may_pc o) := witO (G := tabs) (o := o) <| fn_pc (η := []) (Γ := ⟨[(43, (login_in_pc o))], [], false⟩) mixWkF τ_okWkF (ctok ⟨login_in_pk, trivial⟩ trivial) Tryz.func57 (isFn Tryz.func57 (by kernel_rfl) (by kernel_rfl)) (by kernel_rfl) rfl (by kernel_rfl)
def login_at_1_s (o : Ops) (v0 : KWkF0) (v1 : List UInt8) : Option ((Bool × List UInt8)) :=
  some ((v0.1 == v1), v1)
def login_at_1_sc (o : Ops) : SC := ⟨⟨[(0, (.h YWkF0)), (1, (.ptr 0 0))], [.blk 9 [hS]]⟩, 1, [(none, ⟨[(0, hB)], [.blk 9 [hS]]⟩)], fun x => login_at_1_s o x.1 x.2⟩
theorem login_at_1_sk : SCok Tryz.prog tabs 100 (login_at_1_sc o) := witO (G := tabs) (o := o) <| fn_sc (η := []) (Γ := ⟨[], [], false⟩) mixWkF τ_okWkF (ctok trivial trivial) Tryz.func100 (isFn Tryz.func100 (by kernel_rfl) (by kernel_rfl)) (by kernel_rfl) (by kernel_rfl) (by kernel_rfl)
def slices_IndexFunc_b0 (o : Ops) (v0 : List KWkF0) (v2 : Int) (v3 : List UInt8) : Option ((Int × List UInt8) ⊕ ((Int × List UInt8) ⊕ List UInt8)) :=
  bif decide (v2 < (v0.length : Int)) then (Option.bind (idx v0 v2) fun v4 => Option.bind (login_at_1_s o v4 v3) fun v5 => bif v5.1 then some (.inr (.inl (v2, v5.2))) else some (.inl (w64 (v2 + (1 : Int)), v5.2))) else some (.inr (.inr v3))
def slices_IndexFunc_s (o : Ops) (v0 : List KWkF0) (v1 : List UInt8) : Option ((Int × List UInt8)) :=
  Option.bind (iter (fun x => slices_IndexFunc_b0 o v0 x.1 x.2) ((0 : Int), v1)) fun v6 => match v6 with
  | .inl v7 => some v7
  | .inr v8 => some ((-1 : Int), v8)
def slices_IndexFunc_sc (o : Ops) : SC := ⟨⟨[(0, (.h (.sl YWkF0))), (1, (.fn 100 [] [(.ptr 0 0)]))], [.blk 9 [hS]]⟩, 1, [(none, ⟨[(0, hI)], [.blk 9 [hS]]⟩)], fun x => slices_IndexFunc_s o x.1 x.2⟩
theorem slices_IndexFunc_sk : SCok Tryz.prog tabs 99 (slices_IndexFunc_sc o) := witO (G := tabs) (o := o) <| fn_sc (η := [(200002, .loop [] ⟨[(1, (.fn 100 [] [(.ptr 0 0)])), (8, hI)], [.blk 9 [hS]]⟩ [0, 7] [(some 1000000, ⟨[(4, hI)], [.blk 9 [hS]]⟩), (some 0, ⟨[], [.blk 9 [hS]]⟩)])]) (Γ := ⟨[], [(100, (login_at_1_sc o))], false⟩) mixWkF τ_okWkF (ctok trivial ⟨login_at_1_sk, trivial⟩) Tryz.func99 (isFn Tryz.func99 (by kernel_rfl) (by kernel_rfl)) (by kernel_rfl) (by kernel_rfl) (by kernel_rfl)
def login_at_p (o : Ops) (v0 : List KWkF0) (v1 : List UInt8) : Option (Int) :=
  Option.bind (slices_IndexFunc_s o v0 v1) fun v2 => some v2.1
def login_at_pc (o : Ops) : PC := ⟨[(.h (.sl YWkF0)), hS], [(.i .i64)], fun x => login_at_p o x.1 x.2, false⟩
theorem login_at_pk : PCok Tryz.prog tabs 58 (login_at_pc o) := witO (G := tabs) (o := o) <| fn_pc (η := []) (Γ := ⟨[], [(99, (slices_IndexFunc_sc o))], false⟩) mixWkF τ_okWkF (ctok trivial ⟨slices_IndexFunc_sk, trivial⟩) Tryz.func58 (isFn Tryz.func58 (by kernel_rfl) (by kernel_rfl)) (by kernel_rfl) rfl (by kernel_rfl)
def login_read_j0 (o : Ops) (v1 : (List UInt8) × Bool) (v2 : ((List (List UInt8)) × Bool)) : Option ((Bool × (List UInt8) × (List UInt8) × (List UInt8) × (List UInt8) × Int × Int × Int) ⊕ ((List UInt8) × (List UInt8) × (List UInt8) × (List UInt8) × Int × Int × Int)) :=
  bif (!v1.2) then some (.inl (false, ([] : List UInt8), ([] : List UInt8), ([] : List UInt8), ([] : List UInt8), (0 : Int), (0 : Int), (0 : Int))) else (bif (!v2.2) then some (.inl (false, ([] : List UInt8), ([] : List UInt8), ([] : List UInt8), ([] : List UInt8), (0 : Int), (0 : Int), (0 : Int))) else (bif decide ((v2.1.length : Int) < (7 : Int)) then some (.inl (false, ([] : List UInt8), ([] : List UInt8), ([] : List UInt8), ([] : List UInt8), (0 : Int), (0 : Int), (0 : Int))) else (Option.bind (people_Name_p o v1.1) fun v3 => bif (!v3) then some (.inl (false, ([] : List UInt8), ([] : List UInt8), ([] : List UInt8), ([] : List UInt8), (0 : Int), (0 : Int), (0 : Int))) else some (.inr (([] : List UInt8), ([] : List UInt8), ([] : List UInt8), ([] : List UInt8), (0 : Int), (0 : Int), (0 : Int))))))
def login_read_j1 (o : Ops) (v1 : (List UInt8) × Bool) (v6 : (List UInt8) × (List UInt8) × (List UInt8) × (List UInt8) × Int × Int × Int) (v7 : List UInt8) (v8 : List UInt8) (v9 : List UInt8) (v11 : Int) (v13 : Int) (v15 : Int) (v17 : Int) (v18 : List (List UInt8)) : Option ((Bool × (List UInt8) × (List UInt8) × (List UInt8) × (List UInt8) × Int × Int × Int) ⊕ ((List UInt8) × (List UInt8) × (List UInt8) × (List UInt8) × Int × Int × Int × (List UInt8) × (List UInt8) × (List UInt8) × (List UInt8) × Int × Int × Int)) :=
  bif decide (v11 < (0 : Int)) then some (.inl (false, ([] : List UInt8), ([] : List UInt8), ([] : List UInt8), ([] : List UInt8), (0 : Int), (0 : Int), (0 : Int))) else (bif decide (v13 < (0 : Int)) then some (.inl (false, ([] : List UInt8), ([] : List UInt8), ([] : List UInt8), ([] : List UInt8), (0 : Int), (0 : Int), (0 : Int))) else (bif decide (v15 < (0 : Int)) then some (.inl (false, ([] : List UInt8), ([] : List UInt8), ([] : List UInt8), ([] : List UInt8), (0 : Int), (0 : Int), (0 : Int))) else (bif decide (v17 < (0 : Int)) then some (.inl (false, ([] : List UInt8), ([] : List UInt8), ([] : List UInt8), ([] : List UInt8), (0 : Int), (0 : Int), (0 : Int))) else (bif ((v18.length : Int) != (w64 ((4 : Int) * v17))) then some (.inl (false, ([] : List UInt8), ([] : List UInt8), ([] : List UInt8), ([] : List UInt8), (0 : Int), (0 : Int), (0 : Int))) else (bif ((v7.length : Int) != (16 : Int)) then some (.inl (false, ([] : List UInt8), ([] : List UInt8), ([] : List UInt8), ([] : List UInt8), (0 : Int), (0 : Int), (0 : Int))) else (bif ((v8.length : Int) != (32 : Int)) then some (.inl (false, ([] : List UInt8), ([] : List UInt8), ([] : List UInt8), ([] : List UInt8), (0 : Int), (0 : Int), (0 : Int))) else some (.inr (v6.1, v6.2.1, v6.2.2.1, v6.2.2.2.1, v6.2.2.2.2.1, v6.2.2.2.2.2.1, v6.2.2.2.2.2.2, v1.1, v7, v8, v9, v11, v13, v15))))))))
def login_read_j22 (o : Ops) (v23 : List UInt8) (v24 : List UInt8) (v25 : List UInt8) (v26 : List UInt8) (v27 : Int) (v28 : Int) (v29 : Int) (v30 : List UInt8) (v31 : List UInt8) (v32 : List UInt8) (v33 : List UInt8) (v34 : Int) (v35 : Int) (v36 : Int) (v37 : List KWkF0) (v38 : List UInt8) (v39 : List UInt8) (v40 : List UInt8) (v42 : Int) : Option ((Bool × (List UInt8) × (List UInt8) × (List UInt8) × (List UInt8) × Int × Int × Int) ⊕ ((List UInt8) × (List UInt8) × (List UInt8) × (List UInt8) × Int × Int × Int × (List UInt8) × (List UInt8) × (List UInt8) × (List UInt8) × Int × Int × Int × (List UInt8) × (List UInt8) × (List UInt8) × Int × List KWkF0)) :=
  Option.bind (login_may_p o (v38, v39, v40, v42)) fun v43 => bif (!v43) then some (.inl (false, ([] : List UInt8), ([] : List UInt8), ([] : List UInt8), ([] : List UInt8), (0 : Int), (0 : Int), (0 : Int))) else (Option.bind (login_at_p o v37 v38) fun v44 => bif decide (v44 ≥ (0 : Int)) then some (.inl (false, ([] : List UInt8), ([] : List UInt8), ([] : List UInt8), ([] : List UInt8), (0 : Int), (0 : Int), (0 : Int))) else some (.inr (v23, v24, v25, v26, v27, v28, v29, v30, v31, v32, v33, v34, v35, v36, v38, v39, v40, v42, v37)))
def login_read_b3 (o : Ops) (v22 : List (List UInt8)) (v23 : List UInt8) (v24 : List UInt8) (v25 : List UInt8) (v26 : List UInt8) (v27 : Int) (v28 : Int) (v29 : Int) (v30 : List UInt8) (v31 : List UInt8) (v32 : List UInt8) (v33 : List UInt8) (v34 : Int) (v35 : Int) (v36 : Int) (v37 : List KWkF0) : Option (((List (List UInt8)) × (List UInt8) × (List UInt8) × (List UInt8) × (List UInt8) × Int × Int × Int × KWkF1) ⊕ ((Bool × (List UInt8) × (List UInt8) × (List UInt8) × (List UInt8) × Int × Int × Int) ⊕ ((List UInt8) × (List UInt8) × (List UInt8) × (List UInt8) × Int × Int × Int × KWkF1))) :=
  bif decide ((v22.length : Int) > (0 : Int)) then (Option.bind (idx v22 (0 : Int)) fun v38 => Option.bind (idx v22 (1 : Int)) fun v39 => Option.bind (idx v22 (2 : Int)) fun v40 => Option.bind (idx v22 (3 : Int)) fun v41 => Option.bind (login_number_p o v41 (4294967295 : Int)) fun v42 => Option.bind (login_read_j22 o v23 v24 v25 v26 v27 v28 v29 v30 v31 v32 v33 v34 v35 v36 v37 v38 v39 v40 v42) fun v45 => match v45 with
  | .inl v46 => some (.inr (.inl v46))
  | .inr v47 => (Option.bind (app v47.2.2.2.2.2.2.2.2.2.2.2.2.2.2.2.2.2.2 ([(v47.2.2.2.2.2.2.2.2.2.2.2.2.2.2.1, v47.2.2.2.2.2.2.2.2.2.2.2.2.2.2.2.1, v47.2.2.2.2.2.2.2.2.2.2.2.2.2.2.2.2.1, v47.2.2.2.2.2.2.2.2.2.2.2.2.2.2.2.2.2.1)] : List KWkF0)) fun v48 => Option.bind (subL v22 (4 : Int)) fun v49 => some (.inl (v49, v47.1, v47.2.1, v47.2.2.1, v47.2.2.2.1, v47.2.2.2.2.1, v47.2.2.2.2.2.1, v47.2.2.2.2.2.2.1, v47.2.2.2.2.2.2.2.1, v47.2.2.2.2.2.2.2.2.1, v47.2.2.2.2.2.2.2.2.2.1, v47.2.2.2.2.2.2.2.2.2.2.1, v47.2.2.2.2.2.2.2.2.2.2.2.1, v47.2.2.2.2.2.2.2.2.2.2.2.2.1, v47.2.2.2.2.2.2.2.2.2.2.2.2.2.1, v48)))) else some (.inr (.inr (v23, v24, v25, v26, v27, v28, v29, v30, v31, v32, v33, v34, v35, v36, v37)))
def login_read_p (o : Ops) (v0 : (List UInt8) × List UInt8) : Option (KWkF1 × Bool) :=
  Option.bind (strings_CutPrefix_p o v0.1 ([108, 111, 103, 105, 110, 47] : List UInt8)) fun v1 => Option.bind (people_Texts_s o v0.2) fun v2 => Option.bind (login_read_j0 o v1 v2) fun v4 => match v4 with
  | .inl v5 => (some ((v5.2.1, v5.2.2.1, v5.2.2.2.1, v5.2.2.2.2.1, v5.2.2.2.2.2.1, v5.2.2.2.2.2.2.1, v5.2.2.2.2.2.2.2, ([] : List KWkF0)), v5.1))
  | .inr v6 => (Option.bind (idx v2.1 (0 : Int)) fun v7 => Option.bind (idx v2.1 (1 : Int)) fun v8 => Option.bind (idx v2.1 (2 : Int)) fun v9 => Option.bind (idx v2.1 (3 : Int)) fun v10 => Option.bind (login_number_p o v10 (2199023255552 : Int)) fun v11 => Option.bind (idx v2.1 (4 : Int)) fun v12 => Option.bind (login_number_p o v12 (4 : Int)) fun v13 => Option.bind (idx v2.1 (5 : Int)) fun v14 => Option.bind (login_number_p o v14 (2199023255552 : Int)) fun v15 => Option.bind (idx v2.1 (6 : Int)) fun v16 => Option.bind (login_number_p o v16 (4 : Int)) fun v17 => Option.bind (subL v2.1 (7 : Int)) fun v18 => Option.bind (login_read_j1 o v1 v6 v7 v8 v9 v11 v13 v15 v17 v18) fun v19 => match v19 with
  | .inl v20 => (some ((v20.2.1, v20.2.2.1, v20.2.2.2.1, v20.2.2.2.2.1, v20.2.2.2.2.2.1, v20.2.2.2.2.2.2.1, v20.2.2.2.2.2.2.2, ([] : List KWkF0)), v20.1))
  | .inr v21 => (Option.bind (iter (fun x => login_read_b3 o x.1 x.2.1 x.2.2.1 x.2.2.2.1 x.2.2.2.2.1 x.2.2.2.2.2.1 x.2.2.2.2.2.2.1 x.2.2.2.2.2.2.2.1 x.2.2.2.2.2.2.2.2.1 x.2.2.2.2.2.2.2.2.2.1 x.2.2.2.2.2.2.2.2.2.2.1 x.2.2.2.2.2.2.2.2.2.2.2.1 x.2.2.2.2.2.2.2.2.2.2.2.2.1 x.2.2.2.2.2.2.2.2.2.2.2.2.2.1 x.2.2.2.2.2.2.2.2.2.2.2.2.2.2.1 x.2.2.2.2.2.2.2.2.2.2.2.2.2.2.2) (v18, v21.1, v21.2.1, v21.2.2.1, v21.2.2.2.1, v21.2.2.2.2.1, v21.2.2.2.2.2.1, v21.2.2.2.2.2.2.1, v21.2.2.2.2.2.2.2.1, v21.2.2.2.2.2.2.2.2.1, v21.2.2.2.2.2.2.2.2.2.1, v21.2.2.2.2.2.2.2.2.2.2.1, v21.2.2.2.2.2.2.2.2.2.2.2.1, v21.2.2.2.2.2.2.2.2.2.2.2.2.1, v21.2.2.2.2.2.2.2.2.2.2.2.2.2, ([] : List KWkF0))) fun v50 => match v50 with
  | .inl v51 => (some ((v51.2.1, v51.2.2.1, v51.2.2.2.1, v51.2.2.2.2.1, v51.2.2.2.2.2.1, v51.2.2.2.2.2.2.1, v51.2.2.2.2.2.2.2, ([] : List KWkF0)), v51.1))
  | .inr v52 => (bif (v52.2.2.2.2.2.2.2.2.2.2.1 == ([] : List UInt8)) then (some (v52.2.2.2.2.2.2.2, true)) else (Option.bind (login_in_p o (v52.2.2.2.2.2.2.2.2.2.2.1.length : Int) (16 : Int) (64 : Int)) fun v53 => some (v52.2.2.2.2.2.2.2, v53)))))
def login_read_pc (o : Ops) : PC := ⟨[(.h (.pr .s .s))], [YWkF1, .b], fun x => login_read_p o x, false⟩
theorem login_read_pk : PCok Tryz.prog tabs 34 (login_read_pc o) := witO (G := tabs) (o := o) <| fn_pc (η := [(2000005, .join [] [4, 6] [(some 1000000, ⟨[(2, (.ptr 0 0)), (3, hB)], [QWkF1]⟩), (none, ⟨[(2, (.ptr 0 0))], [QWkF1]⟩)]),
  (2100000, .join [] [6] [(some 1000000, ⟨[(2, (.ptr 0 0)), (3, hB)], [QWkF1]⟩), (none, ⟨[(2, (.ptr 0 0)), (8, (.ptr 1 0))], [QWkF1, .blk 53 [hS, hS, hS, hS, hI, hI, hI, .nils]]⟩)]),
  (2000015, .join [] [6] [(some 1000000, ⟨[(2, (.ptr 0 0)), (3, hB)], [QWkF1]⟩), (none, ⟨[(2, (.ptr 0 0)), (8, (.ptr 1 0)), (10, (.ptr 2 0))], [QWkF1, .blk 53 [hS, hS, hS, hS, hI, hI, hI, (.own 3)], QWkF2, .osl YWkF0 58]⟩)]),
  (200010, .loop [.cell 8 7 YWkF0 58] ⟨[(2, (.ptr 0 0)), (6, (.h (.sl .s))), (8, (.ptr 1 0))], [QWkF1, .blk 53 [hS, hS, hS, hS, hI, hI, hI, (.own 2)], .osl YWkF0 58]⟩ [] [(some 1000000, ⟨[(2, (.ptr 0 0)), (3, hB)], [QWkF1]⟩), (some 0, ⟨[(2, (.ptr 0 0)), (8, (.ptr 1 0))], [QWkF1, .blk 53 [hS, hS, hS, hS, hI, hI, hI, (.own 2)], .osl YWkF0 58]⟩)]),
  (3000005, .rega 23),
  (3000012, .rega 14)]) (Γ := ⟨[(76, (strings_CutPrefix_pc o)), (42, (people_Name_pc o)), (78, (login_number_pc o)), (57, (login_may_pc o)), (58, (login_at_pc o)), (43, (login_in_pc o))], [(77, (people_Texts_sc o))], false⟩) mixWkF τ_okWkF (ctok ⟨strings_CutPrefix_pk, ⟨people_Name_pk, ⟨login_number_pk, ⟨login_may_pk, ⟨login_at_pk, ⟨login_in_pk, trivial⟩⟩⟩⟩⟩⟩ ⟨people_Texts_sk, trivial⟩) Tryz.func34 (isFn Tryz.func34 (by kernel_rfl) (by kernel_rfl)) (by kernel_rfl) rfl (by kernel_rfl)
def login_Load_j0 (o : Ops) (v0 : List ((List UInt8) × List UInt8)) (v2 : Int) (v3 : List KWkF2) (v4 : (List UInt8) × List UInt8) (v5 : KWkF1 × Bool) : Option (Int ⊕ ((List UInt8) × (List UInt8) × (List UInt8) × (List UInt8) × Int × Int × Int × (List KWkF0) × List KWkF2)) :=
  bif (!v5.2) then some (.inl (155 : Int)) else (bif decide (v2 > (0 : Int)) then (Option.bind (idx v0 (w64 (v2 - (1 : Int)))) fun v6 => bif (Op.bytesLess v4.1 v6.1 || v4.1 == v6.1) then some (.inl (155 : Int)) else some (.inr (v5.1.1, v5.1.2.1, v5.1.2.2.1, v5.1.2.2.2.1, v5.1.2.2.2.2.1, v5.1.2.2.2.2.2.1, v5.1.2.2.2.2.2.2.1, v5.1.2.2.2.2.2.2.2, v3))) else some (.inr (v5.1.1, v5.1.2.1, v5.1.2.2.1, v5.1.2.2.2.1, v5.1.2.2.2.2.1, v5.1.2.2.2.2.2.1, v5.1.2.2.2.2.2.2.1, v5.1.2.2.2.2.2.2.2, v3)))
def login_Load_b1 (o : Ops) (v0 : List ((List UInt8) × List UInt8)) (v2 : Int) (v3 : List KWkF2) : Option ((Int × List KWkF2) ⊕ (Int ⊕ (List KWkF2))) :=
  bif decide (v2 < (v0.length : Int)) then (Option.bind (idx v0 v2) fun v4 => Option.bind (login_read_p o v4) fun v5 => Option.bind (login_Load_j0 o v0 v2 v3 v4 v5) fun v7 => match v7 with
  | .inl v8 => some (.inr (.inl v8))
  | .inr v9 => (let v10 : List KWkF2 := mset keqS kltS v9.2.2.2.2.2.2.2.2 v9.1 (v9.1, v9.2.1, v9.2.2.1, v9.2.2.2.1, v9.2.2.2.2.1, v9.2.2.2.2.2.1, v9.2.2.2.2.2.2.1, v9.2.2.2.2.2.2.2.1)
  some (.inl (w64 (v2 + (1 : Int)), v10)))) else some (.inr (.inr v3))
def login_Load_s (o : Ops) (v0 : List ((List UInt8) × List UInt8)) : Option (Int ⊕ (Int × List KWkF2)) :=
  Option.bind (login_New_s o) fun v1 => Option.bind (iter (fun x => login_Load_b1 o v0 x.1 x.2) ((0 : Int), v1)) fun v11 => match v11 with
  | .inl v12 => some (.inl v12)
  | .inr v13 => (bif decide ((v0.length : Int) > (64 : Int)) then some (.inl (155 : Int)) else some (.inr ((0 : Int), v13)))
def login_Load_sc (o : Ops) : SC := ⟨⟨[(0, (.h (.sl (.pr .s .s))))], []⟩, 2, [(none, ⟨[(0, .nilp), (1, hI)], []⟩), (none, ⟨[(0, (.ptr 0 0)), (1, hI)], [QWkF3, QWkF4]⟩)], fun x => login_Load_s o x⟩
theorem login_Load_sk : SCok Tryz.prog tabs 9 (login_Load_sc o) := witO (G := tabs) (o := o) <| fn_sc (η := [(2000008, .join [] [0, 10, 11, 12] [(some 1000000, ⟨[(2, .nilp), (3, hI)], []⟩), (none, ⟨[(4, (.ptr 0 0)), (7, (.ptr 1 0))], [QWkF6, QWkF0, QWkF4]⟩)]),
  (200003, .loop [] ⟨[(4, (.ptr 0 0)), (12, hI)], [QWkF3, QWkF4]⟩ [0, 10, 11] [(some 1000000, ⟨[(2, .nilp), (3, hI)], []⟩), (some 0, ⟨[(4, (.ptr 0 0))], [QWkF3, QWkF4]⟩)])]) (Γ := ⟨[(34, (login_read_pc o))], [(16, (login_New_sc o))], false⟩) mixWkF τ_okWkF (ctok ⟨login_read_pk, trivial⟩ ⟨login_New_sk, trivial⟩) Tryz.func9 (isFn Tryz.func9 (by kernel_rfl) (by kernel_rfl)) (by kernel_rfl) (by kernel_rfl) (by kernel_rfl)
def login_Login_AddKey_1_j0 (o : Ops) (v0 : List UInt8) (v1 : List UInt8) (v2 : List UInt8) (v3 : List UInt8) (v4 : Int) (v5 : Int) (v6 : Int) (v7 : List KWkF0) (v8 : List UInt8) (v9 : List UInt8) (v10 : List UInt8) (v11 : Int) : Option ((Int × (List UInt8) × (List UInt8) × (List UInt8) × (List UInt8) × Int × Int × Int × (List KWkF0) × KWkF0) ⊕ ((List UInt8) × (List UInt8) × (List UInt8) × (List UInt8) × Int × Int × Int × (List KWkF0) × KWkF0)) :=
  Option.bind (login_may_p o (v8, v9, v10, v11)) fun v12 => bif (!v12) then some (.inl ((155 : Int), v0, v1, v2, v3, v4, v5, v6, v7, v8, v9, v10, v11)) else (Option.bind (login_at_p o v7 v8) fun v13 => bif decide (v13 ≥ (0 : Int)) then some (.inl ((155 : Int), v0, v1, v2, v3, v4, v5, v6, v7, v8, v9, v10, v11)) else some (.inr (v0, v1, v2, v3, v4, v5, v6, v7, v8, v9, v10, v11)))
def login_Login_AddKey_1_s (o : Ops) (v0 : List UInt8) (v1 : List UInt8) (v2 : List UInt8) (v3 : List UInt8) (v4 : Int) (v5 : Int) (v6 : Int) (v7 : List KWkF0) (v8 : List UInt8) (v9 : List UInt8) (v10 : List UInt8) (v11 : Int) : Option ((Int × (List UInt8) × (List UInt8) × (List UInt8) × (List UInt8) × Int × Int × Int × (List KWkF0) × KWkF0)) :=
  Option.bind (login_Login_AddKey_1_j0 o v0 v1 v2 v3 v4 v5 v6 v7 v8 v9 v10 v11) fun v14 => match v14 with
  | .inl v15 => some v15
  | .inr v16 => (bif decide ((v16.2.2.2.2.2.2.2.1.length : Int) ≥ (4 : Int)) then some ((156 : Int), v16) else (Option.bind (app v16.2.2.2.2.2.2.2.1 ([v16.2.2.2.2.2.2.2.2] : List KWkF0)) fun v17 => some ((0 : Int), v16.1, v16.2.1, v16.2.2.1, v16.2.2.2.1, v16.2.2.2.2.1, v16.2.2.2.2.2.1, v16.2.2.2.2.2.2.1, v17, v16.2.2.2.2.2.2.2.2)))
def login_Login_AddKey_1_sc (o : Ops) : SC := ⟨⟨[(0, (.ptr 0 0)), (1, (.ptr 1 0))], [QWkF0, QWkF2]⟩, 1, [(none, ⟨[(0, hI)], [QWkF0, QWkF2]⟩)], fun x => login_Login_AddKey_1_s o x.1 x.2.1 x.2.2.1 x.2.2.2.1 x.2.2.2.2.1 x.2.2.2.2.2.1 x.2.2.2.2.2.2.1 x.2.2.2.2.2.2.2.1 x.2.2.2.2.2.2.2.2.1 x.2.2.2.2.2.2.2.2.2.1 x.2.2.2.2.2.2.2.2.2.2.1 x.2.2.2.2.2.2.2.2.2.2.2⟩
theorem login_Login_AddKey_1_sk : SCok Tryz.prog tabs 56 (login_Login_AddKey_1_sc o) := witO (G := tabs) (o := o) <| fn_sc (η := [(2000003, .join [] [] [(some 1000000, ⟨[(3, hI)], [QWkF0, QWkF2]⟩), (none, ⟨[(0, (.ptr 0 0)), (1, (.ptr 1 0))], [QWkF0, QWkF2]⟩)]),
  (3000005, .regn 9)]) (Γ := ⟨[(57, (login_may_pc o)), (58, (login_at_pc o)), (59, Clip_pc)], [], false⟩) mixWkF τ_okWkF (ctok ⟨login_may_pk, ⟨login_at_pk, ⟨Clip_pk, trivial⟩⟩⟩ trivial) Tryz.func56 (isFn Tryz.func56 (by kernel_rfl) (by kernel_rfl)) (by kernel_rfl) (by kernel_rfl) (by kernel_rfl)
def login_Login_with_s4 (o : Ops) (v0 : List UInt8) (v1 : List UInt8) (v2 : List UInt8) (v3 : List UInt8) (v4 : Int) (v5 : List KWkF2) : Option ((Int × (List UInt8) × (List UInt8) × (List UInt8) × Int × List KWkF2)) :=
  let v6 : KWkF1 := mgetD keqS v5 v0 (([] : List UInt8), ([] : List UInt8), ([] : List UInt8), ([] : List UInt8), (0 : Int), (0 : Int), (0 : Int), ([] : List KWkF0))
  bif (!(mhas keqS v5 v0)) then some ((150 : Int), v1, v2, v3, v4, v5) else (Option.bind (login_Login_AddKey_1_s o v6.1 v6.2.1 v6.2.2.1 v6.2.2.2.1 v6.2.2.2.2.1 v6.2.2.2.2.2.1 v6.2.2.2.2.2.2.1 v6.2.2.2.2.2.2.2 v1 v2 v3 v4) fun v7 => let v8 : List KWkF2 := mset keqS kltS v5 v0 (v7.2.1, v7.2.2.1, v7.2.2.2.1, v7.2.2.2.2.1, v7.2.2.2.2.2.1, v7.2.2.2.2.2.2.1, v7.2.2.2.2.2.2.2.1, v7.2.2.2.2.2.2.2.2.1)
  some (v7.1, v7.2.2.2.2.2.2.2.2.2.1, v7.2.2.2.2.2.2.2.2.2.2.1, v7.2.2.2.2.2.2.2.2.2.2.2.1, v7.2.2.2.2.2.2.2.2.2.2.2.2, v8))
def login_Login_with_s4c (o : Ops) : SC := ⟨⟨[(0, (.ptr 0 0)), (1, hS), (2, (.fn 56 [] [(.ptr 1 0)]))], [QWkF6, QWkF2, QWkF4]⟩, 1, [(none, ⟨[(0, hI)], [QWkF6, QWkF2, QWkF4]⟩)], fun x => login_Login_with_s4 o x.1 x.2.1 x.2.2.1 x.2.2.2.1 x.2.2.2.2.1 x.2.2.2.2.2⟩
theorem login_Login_with_s4k : SCok Tryz.prog tabs 47 (login_Login_with_s4c o) := witO (G := tabs) (o := o) <| fn_sc (η := []) (Γ := ⟨[], [(56, (login_Login_AddKey_1_sc o))], false⟩) mixWkF τ_okWkF (ctok trivial ⟨login_Login_AddKey_1_sk, trivial⟩) Tryz.func47 (isFn Tryz.func47 (by kernel_rfl) (by kernel_rfl)) (by kernel_rfl) (by kernel_rfl) (by kernel_rfl)
def login_Login_AddKey_s (o : Ops) (v0 : List UInt8) (v1 : KWkF0) (v2 : List KWkF2) : Option ((Int × List KWkF2)) :=
  Option.bind (login_Login_with_s4 o v0 v1.1 v1.2.1 v1.2.2.1 v1.2.2.2 v2) fun v3 => some (v3.1, v3.2.2.2.2.2)
def login_Login_AddKey_sc (o : Ops) : SC := ⟨⟨[(0, (.ptr 0 0)), (1, hS), (2, (.h YWkF0))], [QWkF3, QWkF4]⟩, 1, [(none, ⟨[(0, hI)], [QWkF3, QWkF4]⟩)], fun x => login_Login_AddKey_s o x.1 x.2.1 x.2.2⟩
theorem login_Login_AddKey_sk : SCok Tryz.prog tabs 25 (login_Login_AddKey_sc o) := witO (G := tabs) (o := o) <| fn_sc (η := []) (Γ := ⟨[], [(47, (login_Login_with_s4c o))], false⟩) mixWkF τ_okWkF (ctok trivial ⟨login_Login_with_s4k, trivial⟩) Tryz.func25 (isFn Tryz.func25 (by kernel_rfl) (by kernel_rfl)) (by kernel_rfl) (by kernel_rfl) (by kernel_rfl)
def login_Login_Count_1_j0 (o : Ops) (v0 : List UInt8) (v1 : List UInt8) (v2 : List UInt8) (v3 : List UInt8) (v4 : Int) (v5 : Int) (v6 : Int) (v7 : List KWkF0) (v8 : List UInt8) (v9 : Int) (v11 : KWkF0) : Option ((Int × (List UInt8) × (List UInt8) × (List UInt8) × (List UInt8) × Int × Int × Int × (List KWkF0) × (List UInt8) × Int) ⊕ ((List UInt8) × (List UInt8) × (List UInt8) × (List UInt8) × Int × Int × Int × (List KWkF0) × (List UInt8) × Int)) :=
  bif decide (v9 > (4294967295 : Int)) then some (.inl ((153 : Int), v0, v1, v2, v3, v4, v5, v6, v7, v8, v9)) else (bif decide (v9 ≤ v11.2.2.2) then (bif (v9 != (0 : Int)) then some (.inl ((153 : Int), v0, v1, v2, v3, v4, v5, v6, v7, v8, v9)) else (bif (v11.2.2.2 != (0 : Int)) then some (.inl ((153 : Int), v0, v1, v2, v3, v4, v5, v6, v7, v8, v9)) else some (.inr (v0, v1, v2, v3, v4, v5, v6, v7, v8, v9)))) else some (.inr (v0, v1, v2, v3, v4, v5, v6, v7, v8, v9)))
def login_Login_Count_1_s (o : Ops) (v0 : List UInt8) (v1 : List UInt8) (v2 : List UInt8) (v3 : List UInt8) (v4 : Int) (v5 : Int) (v6 : Int) (v7 : List KWkF0) (v8 : List UInt8) (v9 : Int) : Option ((Int × (List UInt8) × (List UInt8) × (List UInt8) × (List UInt8) × Int × Int × Int × (List KWkF0) × (List UInt8) × Int)) :=
  Option.bind (login_at_p o v7 v8) fun v10 => bif decide (v10 < (0 : Int)) then some ((154 : Int), v0, v1, v2, v3, v4, v5, v6, v7, v8, v9) else (Option.bind (idx v7 v10) fun v11 => Option.bind (login_Login_Count_1_j0 o v0 v1 v2 v3 v4 v5 v6 v7 v8 v9 v11) fun v12 => match v12 with
  | .inl v13 => some v13
  | .inr v14 => (Option.bind (app ([] : List KWkF0) v14.2.2.2.2.2.2.2.1) fun v15 => Option.bind (chk (decide ((0 : Int) ≤ v10) && decide (v10 < (v15.length : Int)))) fun _ => Option.bind (idx v15 v10) fun v16 => Option.bind (setL v15 v10 (v16.1, v16.2.1, v16.2.2.1, v14.2.2.2.2.2.2.2.2.2)) fun v17 => some ((0 : Int), v14.1, v14.2.1, v14.2.2.1, v14.2.2.2.1, v14.2.2.2.2.1, v14.2.2.2.2.2.1, v14.2.2.2.2.2.2.1, v17, v14.2.2.2.2.2.2.2.2)))
def login_Login_Count_1_sc (o : Ops) : SC := ⟨⟨[(0, (.ptr 0 0)), (1, (.ptr 1 0)), (2, (.ptr 2 0))], [QWkF0, .blk 9 [hS], .blk 3 [hI]]⟩, 1, [(none, ⟨[(0, hI)], [QWkF0, .blk 9 [hS], .blk 3 [hI]]⟩)], fun x => login_Login_Count_1_s o x.1 x.2.1 x.2.2.1 x.2.2.2.1 x.2.2.2.2.1 x.2.2.2.2.2.1 x.2.2.2.2.2.2.1 x.2.2.2.2.2.2.2.1 x.2.2.2.2.2.2.2.2.1 x.2.2.2.2.2.2.2.2.2⟩
theorem login_Login_Count_1_sk : SCok Tryz.prog tabs 60 (login_Login_Count_1_sc o) := witO (G := tabs) (o := o) <| fn_sc (η := [(2000007, .join [] [5] [(some 1000000, ⟨[(4, hI)], [QWkF0, .blk 9 [hS], .blk 3 [hI]]⟩), (none, ⟨[(0, (.ptr 0 0)), (2, (.ptr 2 0))], [QWkF0, .blk 9 [hS], .blk 3 [hI]]⟩)])]) (Γ := ⟨[(58, (login_at_pc o))], [(61, Clone_sc)], false⟩) mixWkF τ_okWkF (ctok ⟨login_at_pk, trivial⟩ ⟨Clone_sk, trivial⟩) Tryz.func60 (isFn Tryz.func60 (by kernel_rfl) (by kernel_rfl)) (by kernel_rfl) (by kernel_rfl) (by kernel_rfl)
def login_Login_with_s5 (o : Ops) (v0 : List UInt8) (v1 : List UInt8) (v2 : Int) (v3 : List KWkF2) : Option ((Int × (List UInt8) × Int × List KWkF2)) :=
  let v4 : KWkF1 := mgetD keqS v3 v0 (([] : List UInt8), ([] : List UInt8), ([] : List UInt8), ([] : List UInt8), (0 : Int), (0 : Int), (0 : Int), ([] : List KWkF0))
  bif (!(mhas keqS v3 v0)) then some ((150 : Int), v1, v2, v3) else (Option.bind (login_Login_Count_1_s o v4.1 v4.2.1 v4.2.2.1 v4.2.2.2.1 v4.2.2.2.2.1 v4.2.2.2.2.2.1 v4.2.2.2.2.2.2.1 v4.2.2.2.2.2.2.2 v1 v2) fun v5 => let v6 : List KWkF2 := mset keqS kltS v3 v0 (v5.2.1, v5.2.2.1, v5.2.2.2.1, v5.2.2.2.2.1, v5.2.2.2.2.2.1, v5.2.2.2.2.2.2.1, v5.2.2.2.2.2.2.2.1, v5.2.2.2.2.2.2.2.2.1)
  some (v5.1, v5.2.2.2.2.2.2.2.2.2.1, v5.2.2.2.2.2.2.2.2.2.2, v6))
def login_Login_with_s5c (o : Ops) : SC := ⟨⟨[(0, (.ptr 0 0)), (1, hS), (2, (.fn 60 [] [(.ptr 1 0), (.ptr 2 0)]))], [QWkF5, .blk 9 [hS], .blk 3 [hI], QWkF4]⟩, 1, [(none, ⟨[(0, hI)], [QWkF5, .blk 9 [hS], .blk 3 [hI], QWkF4]⟩)], fun x => login_Login_with_s5 o x.1 x.2.1 x.2.2.1 x.2.2.2⟩
theorem login_Login_with_s5k : SCok Tryz.prog tabs 47 (login_Login_with_s5c o) := witO (G := tabs) (o := o) <| fn_sc (η := []) (Γ := ⟨[], [(60, (login_Login_Count_1_sc o))], false⟩) mixWkF τ_okWkF (ctok trivial ⟨login_Login_Count_1_sk, trivial⟩) Tryz.func47 (isFn Tryz.func47 (by kernel_rfl) (by kernel_rfl)) (by kernel_rfl) (by kernel_rfl) (by kernel_rfl)
def login_Login_Count_s (o : Ops) (v0 : List UInt8) (v1 : List UInt8) (v2 : Int) (v3 : List KWkF2) : Option ((Int × List KWkF2)) :=
  Option.bind (login_Login_with_s5 o v0 v1 v2 v3) fun v4 => some (v4.1, v4.2.2.2)
def login_Login_Count_sc (o : Ops) : SC := ⟨⟨[(0, (.ptr 0 0)), (1, hS), (2, hS), (3, hI)], [QWkF3, QWkF4]⟩, 1, [(none, ⟨[(0, hI)], [QWkF3, QWkF4]⟩)], fun x => login_Login_Count_s o x.1 x.2.1 x.2.2.1 x.2.2.2⟩
theorem login_Login_Count_sk : SCok Tryz.prog tabs 27 (login_Login_Count_sc o) := witO (G := tabs) (o := o) <| fn_sc (η := []) (Γ := ⟨[], [(47, (login_Login_with_s5c o))], false⟩) mixWkF τ_okWkF (ctok trivial ⟨login_Login_with_s5k, trivial⟩) Tryz.func27 (isFn Tryz.func27 (by kernel_rfl) (by kernel_rfl)) (by kernel_rfl) (by kernel_rfl) (by kernel_rfl)
def seneschallaw15_fixed_j0 (o : Ops) (v0 : (List KWkF2)) : Option (Bool ⊕ (List KWkF2)) :=
  Option.bind (login_Login_Set_s o ([97, 110, 110] : List UInt8) ([48, 49, 50, 51, 52, 53, 54, 55, 56, 57, 97, 98, 99, 100, 101, 102] : List UInt8) ([112, 119] : List UInt8) v0) fun v1 => bif (v1.1 != (0 : Int)) then some (.inl false) else (Option.bind (login_Login_Check_s o ([97, 110, 110] : List UInt8) ([112, 119] : List UInt8) (0 : Int) v1.2) fun v2 => bif (v2.1 != (0 : Int)) then some (.inl false) else (Option.bind (login_Login_Check_s o ([97, 110, 110] : List UInt8) ([110, 111] : List UInt8) (0 : Int) v2.2) fun v3 => bif (v3.1 != (151 : Int)) then some (.inl false) else (Option.bind (login_Login_Check_s o ([98, 111, 98] : List UInt8) ([112, 119] : List UInt8) (0 : Int) v3.2) fun v4 => bif (v4.1 != (150 : Int)) then some (.inl false) else (Option.bind (login_Login_Code_s o ([97, 110, 110] : List UInt8) ([48, 48, 48, 48, 48, 48] : List UInt8) (0 : Int) v4.2) fun v5 => bif (v5.1 != (154 : Int)) then some (.inl false) else some (.inr v5.2)))))
def seneschallaw15_fixed_b1 (o : Ops) (v9 : Int) (v10 : List KWkF2) : Option ((Int × List KWkF2) ⊕ ((List KWkF2))) :=
  bif decide (v9 < (4 : Int)) then (Option.bind (login_Login_Check_s o ([97, 110, 110] : List UInt8) ([110, 111] : List UInt8) (7 : Int) v10) fun v11 => some (.inl (w64 (v9 + (1 : Int)), v11.2))) else some (.inr v10)
def seneschallaw15_fixed_j2 (o : Ops) (v12 : List KWkF2) (v13 : List UInt8) : Option (Bool ⊕ (List KWkF2)) :=
  Option.bind (login_Login_Check_s o ([97, 110, 110] : List UInt8) ([112, 119] : List UInt8) (306 : Int) v12) fun v14 => bif (v14.1 != (152 : Int)) then some (.inl false) else (Option.bind (login_Login_Check_s o ([97, 110, 110] : List UInt8) ([112, 119] : List UInt8) (307 : Int) v14.2) fun v15 => bif (v15.1 != (0 : Int)) then some (.inl false) else (Option.bind (login_Login_Enrol_s o ([97, 110, 110] : List UInt8) ([48, 49, 50, 51, 52, 53, 54, 55, 56, 57, 97, 98, 99, 100, 101, 102] : List UInt8) v15.2) fun v16 => bif (v16.1 != (0 : Int)) then some (.inl false) else (Option.bind (login_Login_Code_s o ([97, 110, 110] : List UInt8) v13 (60 : Int) v16.2) fun v17 => bif (v17.1 != (0 : Int)) then some (.inl false) else (Option.bind (login_Login_Code_s o ([97, 110, 110] : List UInt8) v13 (60 : Int) v17.2) fun v18 => bif (v18.1 != (153 : Int)) then some (.inl false) else some (.inr v18.2)))))
def seneschallaw15_fixed_p (o : Ops) : Option (Bool) :=
  Option.bind (login_New_s o) fun v0 => Option.bind (seneschallaw15_fixed_j0 o v0) fun v6 => match v6 with
  | .inl v7 => (some v7)
  | .inr v8 => (Option.bind (iter (fun x => seneschallaw15_fixed_b1 o x.1 x.2) ((0 : Int), v8)) fun v12 => Option.bind (o.code ([48, 49, 50, 51, 52, 53, 54, 55, 56, 57, 97, 98, 99, 100, 101, 102] : List UInt8) (2 : Int)) fun v13 => Option.bind (seneschallaw15_fixed_j2 o v12 v13) fun v19 => match v19 with
  | .inl v20 => (some v20)
  | .inr v21 => (Option.bind (login_Login_Rows_s o v21) fun v22 => Option.bind (login_Load_s o v22.1) fun v23 => match v23 with
  | .inl v24 => (Option.bind (login_Login_AddKey_s o ([97, 110, 110] : List UInt8) (([107] : List UInt8), ([48, 49, 50, 51, 52, 53, 54, 55, 56, 57, 97, 98, 99, 100, 101, 102, 48, 49, 50, 51, 52, 53, 54, 55, 56, 57, 97, 98, 99, 100, 101, 102] : List UInt8), ([48, 49, 50, 51, 52, 53, 54, 55, 56, 57, 97, 98, 99, 100, 101, 102, 48, 49, 50, 51, 52, 53, 54, 55, 56, 57, 97, 98, 99, 100, 101, 102] : List UInt8), (0 : Int)) v22.2) fun v26 => bif (v26.1 == (0 : Int)) then (Option.bind (login_Login_Count_s o ([97, 110, 110] : List UInt8) ([107] : List UInt8) (3 : Int) v26.2) fun v27 => bif (v27.1 == (0 : Int)) then (Option.bind (login_Login_Count_s o ([97, 110, 110] : List UInt8) ([107] : List UInt8) (3 : Int) v27.2) fun v28 => bif (v28.1 == (153 : Int)) then (some false) else (some false)) else (some false)) else (some false))
  | .inr v25 => (Option.bind (login_Login_AddKey_s o ([97, 110, 110] : List UInt8) (([107] : List UInt8), ([48, 49, 50, 51, 52, 53, 54, 55, 56, 57, 97, 98, 99, 100, 101, 102, 48, 49, 50, 51, 52, 53, 54, 55, 56, 57, 97, 98, 99, 100, 101, 102] : List UInt8), ([48, 49, 50, 51, 52, 53, 54, 55, 56, 57, 97, 98, 99, 100, 101, 102, 48, 49, 50, 51, 52, 53, 54, 55, 56, 57, 97, 98, 99, 100, 101, 102] : List UInt8), (0 : Int)) v22.2) fun v29 => bif (v29.1 == (0 : Int)) then (Option.bind (login_Login_Count_s o ([97, 110, 110] : List UInt8) ([107] : List UInt8) (3 : Int) v29.2) fun v30 => bif (v30.1 == (0 : Int)) then (Option.bind (login_Login_Count_s o ([97, 110, 110] : List UInt8) ([107] : List UInt8) (3 : Int) v30.2) fun v31 => bif (v31.1 == (153 : Int)) then (bif (v25.1 == (0 : Int)) then (Option.bind (login_Login_All_s o v25.2) fun v32 => some ((v32.2.length : Int) == (1 : Int))) else (some false)) else (some false)) else (some false)) else (some false))))
def seneschallaw15_fixed_pc (o : Ops) : PC := ⟨[], [.b], fun _ => seneschallaw15_fixed_p o, false⟩
theorem seneschallaw15_fixed_pk : PCok Tryz.prog tabs 12 (seneschallaw15_fixed_pc o) := witO (G := tabs) (o := o) <| fn_pc (η := [(2000004, .join [] [] [(some 1000000, ⟨[(0, hB)], []⟩), (none, ⟨[(1, (.ptr 0 0))], [QWkF3, QWkF4]⟩)]),
  (200005, .loop [] ⟨[(1, (.ptr 0 0)), (2, hI)], [QWkF3, QWkF4]⟩ [] [(some 0, ⟨[(1, (.ptr 0 0))], [QWkF3, QWkF4]⟩)]),
  (2000011, .join [] [] [(some 1000000, ⟨[(0, hB)], []⟩), (none, ⟨[(1, (.ptr 0 0))], [QWkF3, QWkF4]⟩)])]) (Γ := ⟨[(23, (oc_code o))], [(16, (login_New_sc o)), (17, (login_Login_Set_sc o)), (19, (login_Login_Check_sc o)), (22, (login_Login_Code_sc o)), (20, (login_Login_Enrol_sc o)), (15, (login_Login_Rows_sc o)), (9, (login_Load_sc o)), (25, (login_Login_AddKey_sc o)), (27, (login_Login_Count_sc o)), (14, (login_Login_All_sc o))], false⟩) mixWkF τ_okWkF (ctok ⟨(OpsOk.code (G := tabs)), trivial⟩ ⟨login_New_sk, ⟨login_Login_Set_sk, ⟨login_Login_Check_sk, ⟨login_Login_Code_sk, ⟨login_Login_Enrol_sk, ⟨login_Login_Rows_sk, ⟨login_Load_sk, ⟨login_Login_AddKey_sk, ⟨login_Login_Count_sk, ⟨login_Login_All_sk, trivial⟩⟩⟩⟩⟩⟩⟩⟩⟩⟩) Tryz.func12 (isFn Tryz.func12 (by kernel_rfl) (by kernel_rfl)) (by kernel_rfl) rfl (by kernel_rfl)
end
end Go.Proofs.YtmkomlbiaebddaaGreatDoor.Am
namespace Go.Proofs.YtmkomlbiaebddaaGreatDoor.Am
open Go Go.RowKit
theorem PCok.le {P : Program} {G : List (Nat × Obj)} {f : FuncId} {ss : List Sh} {rts : List Ty} {p q : prodD (ss.flatMap Sh.tys) → Option (prodD rts)} {cl : Bool} (h : PCok P G f ⟨ss, rts, p, cl⟩) (hq : ∀ x y, q x = some y → p x = some y) : PCok P G f ⟨ss, rts, q, cl⟩ :=
  ⟨h.fn, fun S w us a y hG hS hA hy => h.ok S w us a y hG hS hA (hq _ _ hy)⟩
def saltL : List UInt8 := [48, 49, 50, 51, 52, 53, 54, 55, 56, 57, 97, 98, 99, 100, 101, 102]
def h1L : List UInt8 := [203, 145, 18, 174, 100, 177, 43, 92, 37, 138, 87, 148, 67, 127, 45, 80, 80, 106, 194, 30, 232, 60, 205, 156, 95, 106, 145, 13, 111, 64, 155, 109]
def h2L : List UInt8 := [204, 254, 54, 6, 152, 86, 196, 46, 19, 80, 206, 200, 100, 190, 97, 140, 65, 216, 130, 209, 20, 113, 137, 185, 50, 162, 35, 218, 137, 137, 142, 120]
def c2L : List UInt8 := [49, 49, 55, 53, 55, 56]
theorem st_pw : hash_Stretch_p [112, 119] saltL 4 32 = some (h1L, 0) := of_decide_eq_true (by kernel_rfl)
theorem st_no : hash_Stretch_p [110, 111] saltL 4 32 = some (h2L, 0) := of_decide_eq_true (by kernel_rfl)
theorem cd_2 : otp_Code_p saltL 2 = some c2L := of_decide_eq_true (by kernel_rfl)
theorem fd_2 : findP saltL c2L 2 1 = some (2, true) := of_decide_eq_true (by kernel_rfl)
def tabStretch (p s : List UInt8) (r n : Int) : Option (List UInt8 × Int) := bif (s == saltL) && (decide (r = 4) && decide (n = 32)) then (bif p == [112, 119] then some (h1L, 0) else (bif p == [110, 111] then some (h2L, 0) else none)) else none
def tabCode (s : List UInt8) (n : Int) : Option (List UInt8) := bif (s == saltL) && decide (n = 2) then some c2L else none
def tabFind (s c : List UInt8) (n w : Int) : Option (Int × Bool) := bif ((s == saltL) && (c == c2L)) && (decide (n = 2) && decide (w = 1)) then some (2, true) else none
def tabOps : Ops := { realOps with stretch := tabStretch, code := tabCode, find := tabFind }
theorem tabStretch_le {p s : List UInt8} {r n : Int} {y : List UInt8 × Int} (h : tabStretch p s r n = some y) : hash_Stretch_p p s r n = some y := by
  unfold tabStretch at h
  obtain ⟨hb, g⟩ := bif_none h
  clear h
  simp only [Bool.and_eq_true, decide_eq_true_eq, beq_iff_eq] at hb
  obtain ⟨rfl, rfl, rfl⟩ := hb
  cases h1 : p == [112, 119] with
  | true =>
    rw [h1] at g
    cases eq_of_beq h1
    exact st_pw.trans g
  | false =>
    rw [h1] at g
    obtain ⟨hn, k⟩ := bif_none (show (bif p == [110, 111] then some (h2L, (0 : Int)) else none) = some y from g)
    cases eq_of_beq hn
    exact st_no.trans k
theorem tabCode_le {s : List UInt8} {n : Int} {y : List UInt8} (h : tabCode s n = some y) : otp_Code_p s n = some y := by
  unfold tabCode at h
  obtain ⟨hb, h⟩ := bif_none h
  simp only [Bool.and_eq_true, decide_eq_true_eq, beq_iff_eq] at hb
  obtain ⟨rfl, rfl⟩ := hb
  exact cd_2.trans h
theorem tabFind_le {s c : List UInt8} {n w : Int} {y : Int × Bool} (h : tabFind s c n w = some y) : findP s c n w = some y := by
  unfold tabFind at h
  obtain ⟨hb, h⟩ := bif_none h
  simp only [Bool.and_eq_true, decide_eq_true_eq, beq_iff_eq] at hb
  obtain ⟨⟨rfl, rfl⟩, rfl, rfl⟩ := hb
  exact fd_2.trans h
instance tabOk {G : List (Nat × Obj)} [TabOk G] : OpsOk G tabOps :=
  { (realOk (G := G)) with
    stretch := PCok.le (realOk (G := G)).stretch fun _ _ h => tabStretch_le h
    code := PCok.le (realOk (G := G)).code fun _ _ h => tabCode_le h
    find := PCok.le (realOk (G := G)).find fun _ _ h => tabFind_le h }
theorem fixed_eq : seneschallaw15_fixed_p tabOps = some true := of_decide_eq_true (by kernel_rfl)
def fixed_pc : PC := ⟨[], [.b], fun _ => some true, false⟩
theorem fixed_pk {G : List (Nat × Obj)} [TabOk G] : PCok Tryz.prog G 12 fixed_pc :=
  PCok.le (seneschallaw15_fixed_pk (tabs := G) (o := tabOps)) fun _ _ h => fixed_eq.trans h
end Go.Proofs.YtmkomlbiaebddaaGreatDoor.Am
namespace Go.Proofs.YtmkomlbiaebddaaGreatDoor.Am
open Go Go.RowKit
def τWkS : TE := [(3, ⟨.int .i64, 1, [.v (.i .i64) (show Int from 0)], (.i .i64), 8⟩),
  (9, ⟨.s, 1, [.v .s (show List UInt8 from [])], .s, 16⟩),
  (25, ⟨.pt 79, 1, [.nilp], .un, 8⟩),
  (47, ⟨.sl 3, 1, [.nils], (.sl (.i .i64)), 24⟩),
  (53, ⟨.st [(9, 0), (9, 1), (9, 2), (9, 3), (3, 4), (3, 5), (3, 6), (51, 7)], 8, [.v .s (show List UInt8 from []), .v .s (show List UInt8 from []), .v .s (show List UInt8 from []), .v .s (show List UInt8 from []), .v (.i .i64) (show Int from 0), .v (.i .i64) (show Int from 0), .v (.i .i64) (show Int from 0), .nils], (.pr .s (.pr .s (.pr .s (.pr .s (.pr (.i .i64) (.pr (.i .i64) (.pr (.i .i64) (.sl (.pr .s (.pr .s (.pr .s (.i .i64)))))))))))), 112⟩),
  (74, ⟨.st [(53, 0)], 8, [.v .s (show List UInt8 from []), .v .s (show List UInt8 from []), .v .s (show List UInt8 from []), .v .s (show List UInt8 from []), .v (.i .i64) (show Int from 0), .v (.i .i64) (show Int from 0), .v (.i .i64) (show Int from 0), .nils], (.pr .s (.pr .s (.pr .s (.pr .s (.pr (.i .i64) (.pr (.i .i64) (.pr (.i .i64) (.sl (.pr .s (.pr .s (.pr .s (.i .i64)))))))))))), 112⟩),
  (77, ⟨.map 9 74, 1, [.nilm], (.mp .s (.pr .s (.pr .s (.pr .s (.pr .s (.pr (.i .i64) (.pr (.i .i64) (.pr (.i .i64) (.sl (.pr .s (.pr .s (.pr .s (.i .i64))))))))))))), 8⟩),
  (79, ⟨.st [(77, 0)], 1, [.nilm], (.pr (.mp .s (.pr .s (.pr .s (.pr .s (.pr .s (.pr (.i .i64) (.pr (.i .i64) (.pr (.i .i64) (.sl (.pr .s (.pr .s (.pr .s (.i .i64))))))))))))) .un), 8⟩)]
theorem τ_okWkS : TEok Tryz.prog τWkS := te_ok (by kernel_rfl) (by kernel_rfl)
theorem mixWkS : Tryz.prog.follows .mixedOrders = true := by kernel_rfl
abbrev KWkS0 : Type := (List UInt8) × (List UInt8) × (List UInt8) × (List UInt8) × Int × Int × Int × List ((List UInt8) × (List UInt8) × (List UInt8) × Int)
abbrev YWkS0 : Ty := .pr .s (.pr .s (.pr .s (.pr .s (.pr (.i .i64) (.pr (.i .i64) (.pr (.i .i64) (.sl (.pr .s (.pr .s (.pr .s (.i .i64)))))))))))
abbrev KWkS1 : Type := (List UInt8) × KWkS0
abbrev QWkS0 : OSh := .blk 79 [(.mpr 1)]
abbrev QWkS1 : OSh := .mp false .s YWkS0
section
variable {tabs : List (Nat × Obj)} [TabOk tabs] {o : Ops} [OpsOk tabs o]
def seneschallaw15_place_p (o : Ops) (v0 : Int) (v1 : Int) : Option (Int) :=
  Option.bind (chk (decide ((0 : Int) < v1))) fun _ => bif decide ((Int.tmod v0 v1) < (0 : Int)) then (some (w64 ((Int.tmod v0 v1) + v1))) else (some (Int.tmod v0 v1))
def seneschallaw15_place_pc (o : Ops) : PC := ⟨[hI, hI], [(.i .i64)], fun x => seneschallaw15_place_p o x.1 x.2, false⟩
theorem seneschallaw15_place_pk : PCok Tryz.prog tabs 21 (seneschallaw15_place_pc o) := witO (G := tabs) (o := o) <| fn_pc (η := []) (Γ := ⟨[], [], false⟩) mixWkS τ_okWkS (ctok trivial trivial) Tryz.func21 (isFn Tryz.func21 (by kernel_rfl) (by kernel_rfl)) (by kernel_rfl) rfl (by kernel_rfl)
def login_Login_Get_s (o : Ops) (v0 : List UInt8) (v1 : List KWkS1) : Option ((KWkS0 × Bool × List KWkS1)) :=
  let v2 : KWkS0 := mgetD keqS v1 v0 (([] : List UInt8), ([] : List UInt8), ([] : List UInt8), ([] : List UInt8), (0 : Int), (0 : Int), (0 : Int), ([] : List ((List UInt8) × (List UInt8) × (List UInt8) × Int)))
  Option.bind (login_kept_told_p o v2) fun v3 => some (v3, mhas keqS v1 v0, v1)
def login_Login_Get_sc (o : Ops) : SC := ⟨⟨[(0, (.ptr 0 0)), (1, hS)], [QWkS0, QWkS1]⟩, 2, [(none, ⟨[(0, (.h YWkS0)), (1, hB)], [QWkS0, QWkS1]⟩)], fun x => login_Login_Get_s o x.1 x.2⟩
theorem login_Login_Get_sk : SCok Tryz.prog tabs 24 (login_Login_Get_sc o) := witO (G := tabs) (o := o) <| fn_sc (η := []) (Γ := ⟨[(38, (login_kept_told_pc o))], [], false⟩) mixWkS τ_okWkS (ctok ⟨login_kept_told_pk, trivial⟩ trivial) Tryz.func24 (isFn Tryz.func24 (by kernel_rfl) (by kernel_rfl)) (by kernel_rfl) (by kernel_rfl) (by kernel_rfl)
def seneschallaw15_LoginSteps_j0 (o : Ops) (v2 : (List KWkS1)) : Option (Bool ⊕ (List KWkS1)) :=
  Option.bind (login_Login_Set_s o ([97, 110, 110] : List UInt8) ([48, 49, 50, 51, 52, 53, 54, 55, 56, 57, 97, 98, 99, 100, 101, 102] : List UInt8) ([112, 119] : List UInt8) v2) fun v3 => bif (v3.1 != (0 : Int)) then some (.inl false) else some (.inr v3.2)
def seneschallaw15_LoginSteps_j1 (o : Ops) (v10 : Int) (v11 : Int) (v15 : Int) (v19 : (Int × List KWkS1)) (v20 : (KWkS0 × Bool × List KWkS1)) : Option (Bool ⊕ ((List UInt8) × (List UInt8) × (List UInt8) × (List UInt8) × Int × Int × Int × (List ((List UInt8) × (List UInt8) × (List UInt8) × Int)) × List KWkS1)) :=
  bif (!v20.2.1) then some (.inl false) else (bif (v19.1 != (0 : Int)) then (bif (v20.1.2.2.2.2.1 != v11) then some (.inl false) else (bif (v19.1 == (0 : Int)) then (bif decide (v20.1.2.2.2.2.1 ≤ v11) then some (.inl false) else (Option.bind (chk (((30 : Int) != (0 : Int)))) fun _ => let v21 : Int := w64 (Int.tdiv (w64 (v10 + (w64 (Int.tdiv v15 (10 : Int))))) (30 : Int))
  bif decide (v20.1.2.2.2.2.1 > (w64 (v21 + (2 : Int)))) then some (.inl false) else some (.inr (v20.1.1, v20.1.2.1, v20.1.2.2.1, v20.1.2.2.2.1, v20.1.2.2.2.2.1, v20.1.2.2.2.2.2.1, v20.1.2.2.2.2.2.2.1, v20.1.2.2.2.2.2.2.2, v20.2.2)))) else some (.inr (v20.1.1, v20.1.2.1, v20.1.2.2.1, v20.1.2.2.2.1, v20.1.2.2.2.2.1, v20.1.2.2.2.2.2.1, v20.1.2.2.2.2.2.2.1, v20.1.2.2.2.2.2.2.2, v20.2.2)))) else (bif (v19.1 == (0 : Int)) then (bif decide (v20.1.2.2.2.2.1 ≤ v11) then some (.inl false) else (Option.bind (chk (((30 : Int) != (0 : Int)))) fun _ => let v22 : Int := w64 (Int.tdiv (w64 (v10 + (w64 (Int.tdiv v15 (10 : Int))))) (30 : Int))
  bif decide (v20.1.2.2.2.2.1 > (w64 (v22 + (2 : Int)))) then some (.inl false) else some (.inr (v20.1.1, v20.1.2.1, v20.1.2.2.1, v20.1.2.2.2.1, v20.1.2.2.2.2.1, v20.1.2.2.2.2.2.1, v20.1.2.2.2.2.2.2.1, v20.1.2.2.2.2.2.2.2, v20.2.2)))) else some (.inr (v20.1.1, v20.1.2.1, v20.1.2.2.1, v20.1.2.2.2.1, v20.1.2.2.2.2.1, v20.1.2.2.2.2.2.1, v20.1.2.2.2.2.2.2.1, v20.1.2.2.2.2.2.2.2, v20.2.2))))
def seneschallaw15_LoginSteps_j2 (o : Ops) (v0 : List UInt8) (v10 : Int) (v15 : Int) (v16 : Int) (v19 : (Int × List KWkS1)) (v25 : (List UInt8) × (List UInt8) × (List UInt8) × (List UInt8) × Int × Int × Int × (List ((List UInt8) × (List UInt8) × (List UInt8) × Int)) × List KWkS1) : Option ((Bool × (List UInt8) × (List UInt8) × (List UInt8) × (List UInt8) × Int × Int × Int × (List ((List UInt8) × (List UInt8) × (List UInt8) × Int)) × List KWkS1)) :=
  bif (v19.1 == (0 : Int)) then (Option.bind (o.code v0 (w64 ((w64 (v16 + (Int.tmod v15 (10 : Int)))) - (4 : Int)))) fun v26 => Option.bind (login_Login_Code_s o ([97, 110, 110] : List UInt8) v26 (w64 (v10 + (w64 (Int.tdiv v15 (10 : Int))))) v25.2.2.2.2.2.2.2.2) fun v27 => some ((v27.1 == (0 : Int)), v25.1, v25.2.1, v25.2.2.1, v25.2.2.2.1, v25.2.2.2.2.1, v25.2.2.2.2.2.1, v25.2.2.2.2.2.2.1, v25.2.2.2.2.2.2.2.1, v27.2)) else some (false, v25)
def seneschallaw15_LoginSteps_b3 (o : Ops) (v0 : List UInt8) (v1 : List Int) (v10 : Int) (v11 : Int) (v12 : Int) (v13 : List KWkS1) : Option ((Int × Int × Int × List KWkS1) ⊕ (Bool ⊕ Unit)) :=
  bif decide (v12 < (v1.length : Int)) then (Option.bind (idx v1 v12) fun v14 => Option.bind (seneschallaw15_place_p o v14 (1000 : Int)) fun v15 => Option.bind (chk (((10 : Int) != (0 : Int)))) fun _ => Option.bind (chk (((30 : Int) != (0 : Int)))) fun _ => let v16 : Int := w64 (Int.tdiv (w64 (v10 + (w64 (Int.tdiv v15 (10 : Int))))) (30 : Int))
  Option.bind (chk (decide ((0 : Int) < (10 : Int)))) fun _ => let v17 : Bool := decide ((w64 ((w64 (v16 + (Int.tmod v15 (10 : Int)))) - (4 : Int))) < (0 : Int))
  bif v17 then some (.inl (w64 (v10 + (w64 (Int.tdiv v15 (10 : Int)))), v11, w64 (v12 + (1 : Int)), v13)) else (Option.bind (o.code v0 (w64 ((w64 (v16 + (Int.tmod v15 (10 : Int)))) - (4 : Int)))) fun v18 => Option.bind (login_Login_Code_s o ([97, 110, 110] : List UInt8) v18 (w64 (v10 + (w64 (Int.tdiv v15 (10 : Int))))) v13) fun v19 => Option.bind (login_Login_Get_s o ([97, 110, 110] : List UInt8) v19.2) fun v20 => Option.bind (seneschallaw15_LoginSteps_j1 o v10 v11 v15 v19 v20) fun v23 => match v23 with
  | .inl v24 => some (.inr (.inl v24))
  | .inr v25 => (Option.bind (seneschallaw15_LoginSteps_j2 o v0 v10 v15 v16 v19 v25) fun v28 => bif v28.1 then (Option.bind (login_Login_Get_s o ([97, 110, 110] : List UInt8) v28.2.2.2.2.2.2.2.2.2) fun v29 => bif decide (v29.1.2.2.2.2.1 ≤ v28.2.2.2.2.2.1) then some (.inr (.inl false)) else some (.inl (w64 (v10 + (w64 (Int.tdiv v15 (10 : Int)))), v29.1.2.2.2.2.1, w64 (v12 + (1 : Int)), v29.2.2))) else some (.inl (w64 (v10 + (w64 (Int.tdiv v15 (10 : Int)))), v28.2.2.2.2.2.1, w64 (v12 + (1 : Int)), v28.2.2.2.2.2.2.2.2.2))))) else some (.inr (.inr ()))
def seneschallaw15_LoginSteps_p (o : Ops) (v0 : List UInt8) (v1 : List Int) : Option (Bool) :=
  Option.bind (login_New_s o) fun v2 => Option.bind (seneschallaw15_LoginSteps_j0 o v2) fun v4 => match v4 with
  | .inl v5 => (some v5)
  | .inr v6 => (Option.bind (login_Login_Enrol_s o ([97, 110, 110] : List UInt8) v0 v6) fun v7 => bif (v7.1 != (0 : Int)) then (bif decide ((v0.length : Int) < (16 : Int)) then (Option.bind (some true) fun v8 => some v8) else (bif decide ((v0.length : Int) > (64 : Int)) then (Option.bind (some true) fun v9 => some v9) else (some false))) else (Option.bind (iter (fun x => seneschallaw15_LoginSteps_b3 o v0 v1 x.1 x.2.1 x.2.2.1 x.2.2.2) ((0 : Int), (0 : Int), (0 : Int), v7.2)) fun v30 => match v30 with
  | .inl v31 => (some v31)
  | .inr v32 => (Option.bind (some true) fun v33 => some v33)))
def seneschallaw15_LoginSteps_pc (o : Ops) : PC := ⟨[hS, (.h (.sl (.i .i64)))], [.b], fun x => seneschallaw15_LoginSteps_p o x.1 x.2, false⟩
theorem seneschallaw15_LoginSteps_pk : PCok Tryz.prog tabs 5 (seneschallaw15_LoginSteps_pc o) := witO (G := tabs) (o := o) <| fn_pc (η := [(2000004, .join [] [0, 1] [(some 1000000, ⟨[(4, hB)], []⟩), (none, ⟨[(5, (.ptr 0 0))], [QWkS0, QWkS1]⟩)]),
  (2000018, .join [] [0, 1, 6, 8, 10, 11] [(some 1000000, ⟨[(4, hB)], []⟩), (none, ⟨[(5, (.ptr 0 0)), (12, (.ptr 1 0))], [.blk 79 [(.mpr 2)], .blk 53 [hS, hS, hS, hS, hI, hI, hI, (.h (.sl (.pr .s (.pr .s (.pr .s (.i .i64))))))], QWkS1]⟩)]),
  (2300019, .join [] [0, 1, 6, 8] [(none, ⟨[(5, (.ptr 0 0)), (12, (.ptr 1 0)), (113, hB)], [.blk 79 [(.mpr 2)], .blk 53 [hS, hS, hS, hS, hI, hI, hI, (.h (.sl (.pr .s (.pr .s (.pr .s (.i .i64))))))], QWkS1]⟩)]),
  (200008, .loop [] ⟨[(5, (.ptr 0 0)), (6, hI), (7, hI), (8, hI)], [QWkS0, QWkS1]⟩ [0, 1] [(some 1000000, ⟨[(4, hB)], []⟩), (some 0, ⟨[], []⟩)])]) (Γ := ⟨[(12, fixed_pc), (21, (seneschallaw15_place_pc o)), (23, (oc_code o))], [(16, (login_New_sc o)), (17, (login_Login_Set_sc o)), (20, (login_Login_Enrol_sc o)), (22, (login_Login_Code_sc o)), (24, (login_Login_Get_sc o))], false⟩) mixWkS τ_okWkS (ctok ⟨fixed_pk, ⟨seneschallaw15_place_pk, ⟨(OpsOk.code (G := tabs)), trivial⟩⟩⟩ ⟨login_New_sk, ⟨login_Login_Set_sk, ⟨login_Login_Enrol_sk, ⟨login_Login_Code_sk, ⟨login_Login_Get_sk, trivial⟩⟩⟩⟩⟩) Tryz.func5 (isFn Tryz.func5 (by kernel_rfl) (by kernel_rfl)) (by kernel_rfl) rfl (by kernel_rfl)
end
end Go.Proofs.YtmkomlbiaebddaaGreatDoor.Am
namespace Go.Proofs.YtmkomlbiaebddaaGreatDoor
open Go Go.RowKit Go.ChangeShapes Go.WideShapes Go.ChangeAt
section
variable {H : Type} {enc : TypeId × Value → H} {P : Program} {W W' : World}
theorem ext_trodAll (hl : laidOutB P = true) (hx : Below W.heap.size W W') : ∀ {ts : List TypeId} {vs : List Value} {ds : List (DataW H)} {ps : List MemPlace}, ts.all (fun t => P.readableRec t && decide (t < P.types.size)) = true →
    DataW.TrodAll enc P W 0 (fun _ => true) true ts vs ds ps → (∀ x ∈ ps, x.block < W.heap.size) → DataW.TrodAll enc P W' 0 (fun b => decide (b < W.heap.size)) true ts vs ds ps
  | [], vs, ds, ps, _, h, _ => by
    obtain ⟨rfl, rfl, rfl⟩ := trodAll_nil h
    exact trodAll_mk0
  | t :: ts, vs, ds, ps, ha, h, hlt => by
    obtain ⟨v, vs', d, ds', p, q, rfl, rfl, rfl, h0, hr⟩ := trodAll_cons h
    simp only [List.all_cons, Bool.and_eq_true, decide_eq_true_eq] at ha
    exact trodAll_cons_mk (Below.trod hl ha.1.1 ha.1.2 h0 hx fun x hx => hlt x (List.mem_append.2 (.inl hx)))
      (ext_trodAll hl hx ha.2 hr fun x hx => hlt x (List.mem_append.2 (.inr hx)))
theorem trodAll_length : ∀ {ts : List TypeId} {vs : List Value} {ds : List (DataW H)} {ps : List MemPlace} {w : World} {b : Nat} {sp : Nat → Bool} {hd : Bool}, DataW.TrodAll enc P w b sp hd ts vs ds ps → vs.length = ts.length ∧ ds.length = ts.length
  | [], vs, ds, ps, _, _, _, _, h => by
    obtain ⟨rfl, rfl, rfl⟩ := trodAll_nil h
    exact ⟨rfl, rfl⟩
  | t :: ts, vs, ds, ps, _, _, _, _, h => by
    obtain ⟨v, vs', d, ds', p, q, rfl, rfl, rfl, h0, hr⟩ := trodAll_cons h
    have := trodAll_length hr
    simp [this.1, this.2]
theorem law_post {f : Func} {s : ChangeSpec} {args : Array Value} {ds gs : List (DataW H)} {before : List MemPlace} {B : TypeId} {n : Nat} (hl : laidOutB P = true) (hv : s.vars = [])
    (hp : f.params.toList.all (fun t => P.readableRec t && decide (t < P.types.size)) = true) (hn : f.params.toList.length = n) (hB : P.underlying B = some .bool) (hr : f.resultTypes = #[B])
    (hfn : ∀ ds : List (DataW H), ds.length = n → (s.fn H (ds ++ [])).results = [.lit (.bool true)] ∧ (s.fn H (ds ++ [])).args = ds ∧ (s.fn H (ds ++ [])).vars = [])
    (hW : DataW.Whole enc P f.params.toList s.vars false W args.toList ds gs before) (hx : Ext W W') : s.post enc P f false true false false W args (.bool true) W' := by
  have hW' := hW
  obtain ⟨p, q, hA, hV, rfl, _, _⟩ := hW
  rw [hv] at hV
  obtain ⟨rfl, rfl⟩ := trodVars_none hV
  have hA : DataW.TrodAll enc P W 0 (fun _ => true) true f.params.toList args.toList ds p := hA
  have hlen := trodAll_length hA
  obtain ⟨f1, f2, f3⟩ := hfn ds (hlen.2.trans hn)
  refine ⟨ds, [], p ++ [], [], p, [], hW', ?_, ?_, ?_, Below.frame hx _, fun h => by cases h⟩
  · rw [f1, hr]
    exact trodAll_mk1 (shut_bool hB _)
  · rw [f2]
    exact ext_trodAll hl hx hp hA fun x hxp => by simpa using hW'.lt x (by simp [hxp])
  · rw [f3, hv]; exact rfl
variable {b0 : Nat} {T E : TypeId} {v : Value}
theorem rowAt_le {fits : TypeId → Bool} : ∀ {d : Nat} {e : TypeId} {count off n : Nat}, rowAt P fits d e count off n = true → off ≤ count * P.cellsOf e
  | 0, _, _, _, _, h => by simp [rowAt] at h
  | d + 1, e, count, off, n, h => by
    unfold rowAt at h
    by_cases hs : P.cellsOf e = 0
    · simp [hs] at h
    · have hd := Nat.div_add_mod off (P.cellsOf e)
      have hm := Nat.mod_lt off (Nat.pos_of_ne_zero hs)
      simp only [hs, if_false, Bool.or_eq_true, Bool.and_eq_true, decide_eq_true_eq, beq_iff_eq] at h
      rcases h with ⟨⟨h1, h2⟩, _⟩ | ⟨h1, _⟩
      · have h3 : P.cellsOf e * (off / P.cellsOf e) ≤ P.cellsOf e * count := Nat.mul_le_mul_left _ (by omega)
        rw [Nat.mul_comm count]; omega
      · have h3 : P.cellsOf e * (off / P.cellsOf e + 1) ≤ P.cellsOf e * count := Nat.mul_le_mul_left _ (by omega)
        rw [Nat.mul_add, Nat.mul_one] at h3
        rw [Nat.mul_comm count]; omega
theorem liesAt_le : ∀ {d : Nat} {e : TypeId} {count off : Nat} {u : TypeId} {n : Nat}, liesAt P d e count off u n = true → off ≤ count * P.cellsOf e
  | 0, _, _, _, _, _, h => by simp [liesAt] at h
  | d + 1, e, count, off, u, n, h => by
    unfold liesAt at h
    rw [Bool.or_eq_true] at h
    rcases h with h | h
    · exact rowAt_le h
    · split at h
      · exact liesAt_le h
      · cases h
theorem ok_place {a : Addr} {len cap : Nat} (hu : P.underlying T = some (.slice E)) (h : Value.okWide P W .any b0 T (.slice (some a) len cap)) :
    a.spot = none ∧ ∃ cs R fz, W.heap[a.block]? = some (.cells cs R fz) ∧ a.off ≤ cs.size := by
  simp only [Value.okWide, Cell.okWide, Cell.ok, hu] at h
  obtain ⟨_, _, _, h2, row, cells, h3, h4⟩ := h
  refine ⟨h2, ?_⟩
  unfold World.shape? at h3
  split at h3
  · rename_i c elem fz hb
    simp only [Option.some.injEq, Prod.mk.injEq] at h3
    obtain ⟨rfl, rfl⟩ := h3
    have h5 := liesAt_le h4
    have h6 := Nat.div_mul_le_self c.size (P.cellsOf elem)
    exact ⟨c, _, fz, hb, by omega⟩
  · cases h3
theorem ok_slice (hu : P.underlying T = some (.slice E)) (h : Value.okWide P W .any b0 T v) : v = .slice none 0 0 ∨ ∃ a len cap, v = .slice (some a) len cap := by
  simp only [Value.okWide, Cell.okWide, Cell.ok, hu] at h
  cases v with
  | slice a len cap =>
    cases a with
    | none =>
      left
      cases len with
      | zero => cases cap with
        | zero => rfl
        | succ n => simp at h
      | succ n => simp at h
    | some a => exact .inr ⟨a, len, cap, rfl⟩
  | _ => simp at h
theorem bulk_app {l r : List (DataW H)} : Rows.uptoBulkAll (l ++ r) = Rows.uptoBulkAll l + Rows.uptoBulkAll r := by
  induction l with
  | nil => simp [Rows.uptoBulkAll]
  | cons x l ih => simp only [List.cons_append, Rows.uptoBulkAll, ih]; omega
end
end Go.Proofs.YtmkomlbiaebddaaGreatDoor
namespace Go.Proofs.YtmkomlbiaebddaaGreatDoor.Am
open Go Go.RowKit Go.ChangeShapes Go.WideShapes Go.ChangeAt
def dsz : (t : Ty) → den t → Nat
  | .s, x => List.length x + 1
  | .pr a c, x => dsz a x.1 + dsz c x.2
  | .un, _ => 0
  | .sl e, x => (List.map (dsz e) x).sum + 1
  | _, _ => 1
def fOk (q : TypeId → Ty → Bool) (c : TypeId → Nat) : List Field → Nat → Ty → Bool
  | [], _, t => match t with
    | .un => true
    | _ => false
  | [f], off, t => (q f.type t && (Nat.beq f.offset off && Nat.beq (c f.type) (tsz t))) || (match t with
    | .pr a .un => q f.type a && (Nat.beq f.offset off && Nat.beq (c f.type) (tsz a))
    | _ => false)
  | f :: g :: fs, off, t => match t with
    | .pr a r => (q f.type a && (Nat.beq f.offset off && Nat.beq (c f.type) (tsz a))) && fOk q c (g :: fs) (off + tsz a) r
    | _ => false
def tyOk (P : Program) : Nat → TypeId → Ty → Bool
  | 0, _, _ => false
  | n + 1, T, t => match P.underlying T, t with
    | some (.int k), .i k' => (ikEq k k').isSome
    | some .bool, .b => true
    | some .string, .s => true
    | some (.struct fs), t => (Nat.beq (P.cellsOf T) (tsz t) && !(one t)) && fOk (tyOk P n) P.cellsOf fs.toList 0 t
    | _, _ => false
section
variable {H : Type} {enc : TypeId × Value → H} {P : Program} {W : World} {sp : Nat → Bool} {S : Mem}
theorem toI_wf : ∀ {k : IntKind} {n : Int}, (Lit.int k n).wf = true → toI k (ofI k n) = n := fun {k n} h => by
  rw [toI_ofI]
  cases k <;> simp [Lit.wf, IntKind.has, IntKind.min, IntKind.max, IntKind.signed, IntKind.bits] at h <;> simp [IntKind.wrap, IntKind.signed, IntKind.bits] <;> omega
theorem rep_split {a c : Ty} {cs : List Value} {x : den a} {y : den c} (hx : rep a S (cs.take (tsz a)) x) (hy : rep c S (cs.drop (tsz a)) y) : rep (.pr a c) S cs (x, y) :=
  ⟨_, _, (List.take_append_drop (tsz a) cs).symm, hx, hy⟩
theorem rep_un : rep .un S ([] : List Value) () := rfl
theorem fields_ok {q : TypeId → Ty → Bool} {fuel : Nat} (hq : ∀ (T : TypeId) (t : Ty), q T t = true → ∀ cs d ps, DataW.trod enc P W 0 sp true fuel T cs = some (d, ps) → ∃ x : den t, rep t S cs x ∧ dsz t x ≤ Rows.uptoBulk d) {cs : List Value} :
    ∀ (fs : List Field) (off : Nat) (t : Ty) (xs : List (DataW H × List MemPlace)), fOk q P.cellsOf fs off t = true → cs.length = off + tsz t →
      A2 (fun (f : Field) y => DataW.trod enc P W 0 sp true fuel f.type ((cs.drop f.offset).take (P.cellsOf f.type)) = some y) fs xs →
      ∃ x : den t, rep t S (cs.drop off) x ∧ dsz t x ≤ Rows.uptoBulkAll (xs.map (·.1))
  | [], off, t, xs, h, hl, hA => by
    cases t <;> simp only [fOk] at h <;> try (cases h; done)
    cases hA
    refine ⟨(), ?_, Nat.zero_le _⟩
    rw [List.drop_eq_nil_of_le (by rw [hl]; exact Nat.le_refl _)]
    exact rep_un
  | [f], off, t, xs, h, hl, hA => by
    cases hA with
    | @cons _ y _ _ h1 h2 =>
      cases h2
      simp only [fOk, Bool.or_eq_true] at h
      rcases h with h | h
      · rw [Bool.and_eq_true, Bool.and_eq_true] at h
        obtain ⟨h0, h2, h3⟩ := h
        have h2 := Nat.eq_of_beq_eq_true h2
        have h3 := Nat.eq_of_beq_eq_true h3
        obtain ⟨x, hx, hd⟩ := hq _ _ h0 _ _ _ h1
        refine ⟨x, ?_, by simp only [List.map_cons, List.map_nil, Rows.uptoBulkAll]; omega⟩
        rw [h2, h3, List.take_of_length_le (by rw [List.length_drop]; omega)] at hx
        exact hx
      · cases t with
        | pr a c =>
          cases c with
          | un =>
            rw [Bool.and_eq_true, Bool.and_eq_true] at h
            obtain ⟨h0, h2, h3⟩ := h
            have h2 := Nat.eq_of_beq_eq_true h2
            have h3 := Nat.eq_of_beq_eq_true h3
            obtain ⟨x, hx, hd⟩ := hq _ _ h0 _ _ _ h1
            rw [h2, h3] at hx
            have hl : cs.length = off + tsz a := hl
            refine ⟨(x, ()), rep_split hx ?_, by simp only [List.map_cons, List.map_nil, Rows.uptoBulkAll]; show dsz a x + 0 ≤ _; omega⟩
            rw [List.drop_eq_nil_of_le (by rw [List.length_drop]; omega)]
            exact rep_un
          | _ => simp at h
        | _ => simp at h
  | f :: g :: fs, off, t, xs, h, hl, hA => by
    cases t with
    | pr a r =>
      simp only [fOk] at h
      rw [Bool.and_eq_true, Bool.and_eq_true, Bool.and_eq_true] at h
      obtain ⟨⟨h1, h2, h3⟩, h4⟩ := h
      have h2 := Nat.eq_of_beq_eq_true h2
      have h3 := Nat.eq_of_beq_eq_true h3
      have hl : cs.length = off + (tsz a + tsz r) := hl
      cases hA with
      | @cons _ y _ ys g1 g2 =>
        obtain ⟨x, hx, hd⟩ := hq _ _ h1 _ _ _ g1
        obtain ⟨z, hz, he⟩ := fields_ok hq (g :: fs) (off + tsz a) r ys h4 (by omega) g2
        rw [h2, h3] at hx
        refine ⟨(x, z), rep_split hx (by rw [List.drop_drop]; exact hz), ?_⟩
        simp only [List.map_cons, Rows.uptoBulkAll]
        show dsz a x + dsz r z ≤ _
        omega
    | _ => simp [fOk] at h
theorem A2_get {α β : Type} {R : α → β → Prop} : ∀ {l : List α} {m : List β}, l.length = m.length → (∀ (i : Nat) (a : α) (b : β), l[i]? = some a → m[i]? = some b → R a b) → A2 R l m
  | [], [], _, _ => .nil
  | [], _ :: _, h, _ => by cases h
  | _ :: _, [], h, _ => by cases h
  | a :: l, b :: m, h, hR => .cons (hR 0 a b rfl rfl) (A2_get (by simpa using h) fun i a b ha hb => hR (i + 1) a b (by simpa using ha) (by simpa using hb))
theorem flat_ok : ∀ (n : Nat) (T : TypeId) (t : Ty), tyOk P n T t = true → ∀ (fuel : Nat) (cs : List Value) (d : DataW H) (ps : List MemPlace), DataW.trod enc P W 0 sp true fuel T cs = some (d, ps) → ∃ x : den t, rep t S cs x ∧ dsz t x ≤ Rows.uptoBulk d
  | 0, _, _, h, _, _, _, _, _ => by cases h
  | n + 1, T, t, h, fuel, cs, d, ps, hd => by
    unfold tyOk at h
    split at h
    · rename_i k k' hu
      obtain ⟨hk, _⟩ := Option.isSome_iff_exists.1 h
      obtain rfl := hk.down
      obtain ⟨m, rfl, he, hw⟩ := DataW.trod_int hu hd
      cases he
      exact ⟨ofI _ m, (by show [Value.int _ m] = [.int _ (toI _ (ofI _ m))]; rw [toI_wf hw]), Nat.le_refl 1⟩
    · rename_i hu
      obtain ⟨b, rfl, he⟩ := DataW.trod_bool hu hd
      cases he
      exact ⟨b, rfl, Nat.le_refl 1⟩
    · rename_i hu
      obtain ⟨s, rfl, he, _⟩ := DataW.trod_string hu hd
      cases he
      exact ⟨s.data.toList, (by show [Value.string s] = [str s.data.toList]; simp [str]), Nat.le_refl _⟩
    · rename_i fs hu
      rw [Bool.and_eq_true, Bool.and_eq_true] at h
      obtain ⟨⟨h1, _⟩, h2⟩ := h
      have h1 := Nat.eq_of_beq_eq_true h1
      obtain ⟨xs, fuel, rfl, he, hl, hxl, hm⟩ := DataW.trod_struct hu hd
      cases he
      obtain ⟨x, hx, hb⟩ := fields_ok (S := S) (fuel := fuel) (fun T' t' hq cs d ps => flat_ok n T' t' hq fuel cs d ps) fs.toList 0 _ xs h2 (by rw [hl, h1]; omega) (A2_get (by simp [hxl]) fun i f y hf hy => (hm i f (by simpa using hf)).trans hy)
      exact ⟨x, by simpa using hx, by simp only [Rows.uptoBulk]; omega⟩
    · cases h
theorem rl_app {e : Ty} : ∀ {xs : List (den e)} {cs ds : List Value} {x : den e}, @RL (den e) (rpD e) S cs xs → rep e S ds x → @RL (den e) (rpD e) S (cs ++ ds) (xs ++ [x])
  | [], cs, ds, x, h, hx => by
    have h : cs = [] := h
    subst h
    exact ⟨ds, [], by simp, hx, rfl⟩
  | y :: xs, cs, ds, x, h, hx => by
    obtain ⟨c, d, rfl, h1, h2⟩ := h
    exact ⟨c, d ++ ds, by simp, h1, rl_app h2 hx⟩
variable {b0 : Nat} {T E : TypeId} {v : Value}
theorem slice_ok {n : Nat} {e : Ty} (hu : P.underlying T = some (.slice E)) (he : tyOk P n E e = true) (hc : P.cellsOf E = tsz e) (hz : 0 < tsz e) (h : Value.okWide P W .any b0 T v) {d : DataW H} {ps : List MemPlace} (hd : DataW.Trod enc P W 0 (fun _ => true) true T v d ps) :
    ∃ xs : List (den e), @RdS (den e) (rpD e) (memOf W) v xs ∧ dsz (.sl e) xs ≤ Rows.uptoBulk d := by
  obtain ⟨fuel, hf⟩ := hd
  have hv := ok_slice hu h
  have hcells : v.cells.toList = [v] := by
    rcases hv with rfl | ⟨a, len, cap, rfl⟩ <;> rfl
  rw [hcells] at hf
  rcases DataW.trod_slice hu hf with ⟨h1, h2⟩ | ⟨a, len, cap, elems, rest, m, rfl, h1, h2, _, hlc, _, hel, hget, _, _⟩
  · simp only [List.cons.injEq, and_true] at h1
    subst h1
    cases h2
    exact ⟨[], ⟨[], .inl ⟨rfl, rfl, rfl⟩, rfl⟩, Nat.le_refl _⟩
  · simp only [List.cons.injEq, and_true] at h1
    subst h1
    cases h2
    obtain ⟨hsp, cs, R, fz, hb, ho⟩ := ok_place hu h
    obtain ⟨blk, off, spot⟩ := a
    dsimp only at hsp hb ho
    subst hsp
    have ad : ∀ j, (⟨blk, off, none⟩ : Addr).add j = ⟨blk, off + j, none⟩ := fun j => by simp [Addr.add]
    have each : ∀ i, i < len → ∃ y x, elems[i]? = some y ∧ rep e (memOf W) (piece cs.toList (off + i * tsz e) (tsz e)) x ∧ dsz e x ≤ Rows.uptoBulk y.1 ∧ off + (i + 1) * tsz e ≤ cs.toList.length := fun i hi => by
      have hg := hget i hi
      obtain ⟨y, hy⟩ : ∃ y, elems[i]? = some y := ⟨_, List.getElem?_eq_getElem (by omega)⟩
      rw [hy] at hg
      obtain ⟨us, hus, hg⟩ := Option.bind_eq_some_iff.1 hg
      obtain ⟨_, hul, huc⟩ := World.cells?_some hus
      obtain ⟨x, hx, hdx⟩ := flat_ok (S := memOf W) n E e he m us y.1 y.2 hg
      rw [hc, ad] at huc
      rw [hc] at hul
      have hcell : ∀ j, j < tsz e → cs.toList[off + i * tsz e + j]? = us[j]? := fun j hj => by
        have := huc j hj
        rw [show (⟨blk, off + i * tsz e, none⟩ : Addr).add j = ⟨blk, off + i * tsz e + j, none⟩ by simp [Addr.add]] at this
        simp only [World.cell?, hb, Option.isSome_none, if_neg (show ¬ (false = true) by decide)] at this
        simpa using this
      have hlen : off + (i + 1) * tsz e ≤ cs.toList.length := by
        have h1 := hcell (tsz e - 1) (by omega)
        rw [List.getElem?_eq_getElem (by omega : tsz e - 1 < us.length)] at h1
        have := (List.getElem?_eq_some_iff.1 h1).1
        rw [Nat.add_mul]; omega
      refine ⟨y, x, hy, ?_, hdx, hlen⟩
      have : piece cs.toList (off + i * tsz e) (tsz e) = us := by
        apply List.ext_getElem?
        intro j
        rw [piece_eq, List.getElem?_take]
        by_cases hj : j < tsz e
        · rw [if_pos hj, List.getElem?_drop]; exact hcell j hj
        · rw [if_neg hj, List.getElem?_eq_none (by omega)]
      rw [this]; exact hx
    have key : ∀ k, k ≤ len → ∃ xs : List (den e), xs.length = k ∧ @RL (den e) (rpD e) (memOf W) (piece cs.toList off (k * tsz e)) xs ∧ (List.map (dsz e) xs).sum ≤ Rows.uptoBulkAll ((elems.take k).map (·.1)) := by
      intro k
      induction k with
      | zero => intro _; exact ⟨[], rfl, by simp [piece, RL], Nat.zero_le _⟩
      | succ k ih =>
        intro hk
        obtain ⟨xs, h1, h2, h3⟩ := ih (by omega)
        obtain ⟨y, x, g1, g2, g3, _⟩ := each k (by omega)
        refine ⟨xs ++ [x], by simp [h1], ?_, ?_⟩
        · have e2 : piece cs.toList off ((k + 1) * tsz e) = piece cs.toList off (k * tsz e) ++ piece cs.toList (off + k * tsz e) (tsz e) := by
            rw [piece_eq, piece_eq, piece_eq, Nat.add_mul, Nat.one_mul, List.take_add, List.drop_drop]
          rw [e2]
          exact rl_app h2 g2
        · rw [List.take_add_one, g1]
          simp only [Option.toList_some, List.map_append, List.map_cons, List.map_nil, List.sum_append, List.sum_cons, List.sum_nil, bulk_app, Rows.uptoBulkAll]
          omega
    obtain ⟨xs, h1, h2, h3⟩ := key len (Nat.le_refl _)
    have hfit : off + len * tsz e ≤ cs.toList.length := by
      rcases Nat.eq_zero_or_pos len with h0 | h0
      · subst h0; rw [Array.length_toList]; omega
      · obtain ⟨_, _, _, _, _, h4⟩ := each (len - 1) (by omega)
        rwa [Nat.sub_add_cancel h0] at h4
    refine ⟨xs, ⟨piece cs.toList off (len * tsz e), ?_, h2⟩, ?_⟩
    · right
      refine ⟨blk, off, cap, cs.toList, R, fz, ?_, by rw [h1]; exact hlc, by simpa [memOf] using hb, ?_, ?_⟩
      · rw [h1]
      · rw [h1]; show _ + _ * (rpD e).sz ≤ _; rw [sz_eq]; exact hfit
      · rw [h1]; show piece _ _ (_ * (rpD e).sz) = _; rw [sz_eq]
    · rw [List.take_of_length_le (by omega)] at h3
      show (List.map (dsz e) xs).sum + 1 ≤ _
      simp only [Rows.uptoBulk]
      omega
def argOk (P : Program) (T : TypeId) (t : Ty) : Bool := match P.underlying T, t with
  | some (.slice E), .sl e => tyOk P 8 E e && (Nat.beq (P.cellsOf E) (tsz e) && Nat.blt 0 (tsz e))
  | _, t => tyOk P 8 T t
theorem argD_ok {t : Ty} (ha : argOk P T t = true) (h : Value.okWide P W .any b0 T v) {d : DataW H} {ps : List MemPlace} (hd : DataW.Trod enc P W 0 (fun _ => true) true T v d ps) :
    ∃ x : den t, rep1 t (memOf W) v x ∧ dsz t x ≤ Rows.uptoBulk d := by
  unfold argOk at ha
  split at ha
  · rename_i E e hu
    rw [Bool.and_eq_true, Bool.and_eq_true] at ha
    obtain ⟨h1, h2, h3⟩ := ha
    obtain ⟨xs, g1, g2⟩ := slice_ok hu h1 (Nat.eq_of_beq_eq_true h2) (by rw [nat_blt] at h3; simpa using h3) h hd
    exact ⟨xs, ⟨v, rfl, g1⟩, g2⟩
  · obtain ⟨fuel, hf⟩ := hd
    obtain ⟨x, hx, hb⟩ := flat_ok (S := memOf W) 8 T _ ha fuel _ _ _ hf
    refine ⟨x, ?_, hb⟩
    unfold rep1
    unfold tyOk at ha
    split at ha
    · rename_i hu
      have hv : v.cells.toList = [v] := by
        simp only [Value.okWide, hu, Cell.okWide, Cell.ok] at h
        cases v <;> simp_all <;> rfl
      rw [hv] at hx
      rw [if_pos (show one (.i _) = true from rfl)]; exact hx
    · rename_i hu
      have hv : v.cells.toList = [v] := by
        simp only [Value.okWide, hu, Cell.okWide, Cell.ok] at h
        cases v <;> simp_all <;> rfl
      rw [hv] at hx
      rw [if_pos (show one .b = true from rfl)]; exact hx
    · rename_i hu
      have hv : v.cells.toList = [v] := by
        simp only [Value.okWide, hu, Cell.okWide, Cell.ok] at h
        cases v <;> simp_all <;> rfl
      rw [hv] at hx
      rw [if_pos (show one .s = true from rfl)]; exact hx
    · rename_i fs hu _
      rw [Bool.and_eq_true, Bool.and_eq_true] at ha
      simp only [Value.okWide, hu] at h
      obtain ⟨cs, rfl, _, _⟩ := h
      rw [if_neg (by simpa using ha.1.2)]
      exact ⟨cs.toList, by simp, hx⟩
    · cases ha
def posT : Ty → Bool
  | .un => false
  | .pr a c => posT a || posT c
  | _ => true
theorem dsz_pos : ∀ {e : Ty}, posT e = true → ∀ x : den e, 1 ≤ dsz e x
  | .i _, _, _ => Nat.le_refl 1
  | .b, _, _ => Nat.le_refl 1
  | .s, _, _ => Nat.le_add_left 1 _
  | .er, _, _ => Nat.le_refl 1
  | .sl _, _, _ => Nat.le_add_left 1 _
  | .mp _ _, _, _ => Nat.le_refl 1
  | .pr a c, h, x => by
    show 1 ≤ dsz a x.1 + dsz c x.2
    have h : (posT a || posT c) = true := h
    rw [Bool.or_eq_true] at h
    rcases h with h | h
    · have := dsz_pos h x.1; omega
    · have := dsz_pos h x.2; omega
theorem dsz_len {e : Ty} (he : posT e = true) : ∀ xs : List (den e), xs.length + 1 ≤ dsz (.sl e) xs
  | [] => Nat.le_refl 1
  | x :: xs => by
    have h1 := dsz_pos he x
    have h2 : xs.length + 1 ≤ (List.map (dsz e) xs).sum + 1 := dsz_len he xs
    show (x :: xs).length + 1 ≤ (List.map (dsz e) (x :: xs)).sum + 1
    simp only [List.length_cons, List.map_cons, List.sum_cons]
    omega
theorem rep1_vr {t : Ty} {S : Mem} {E : List EI} {v : Value} {x : den t} (h : rep1 t S v x) : VR S E (svOf t x) v := repR_sv (l := [t]) h
end
end Go.Proofs.YtmkomlbiaebddaaGreatDoor.Am
namespace Go.Proofs.YtmkomlbiaebddaaGreatDoor.Am
open Go Go.RowKit
abbrev annL : List UInt8 := [97, 110, 110]
abbrev KeyT : Type := (List UInt8) × (List UInt8) × (List UInt8) × Int
abbrev CrT : Type := (List UInt8) × (List UInt8) × (List UInt8) × (List UInt8) × Int × Int × Int × List KeyT
def crA (l : List KeyT) : CrT := (annL, saltL, h1L, [], 0, 0, 0, l)
def esA (l : List KeyT) : List ((List UInt8) × CrT) := [(annL, crA l)]
theorem stretched_pw : login_stretched_p realOps [112, 119] saltL = some h1L := by
  unfold login_stretched_p
  rw [show realOps.stretch [112, 119] saltL 4 32 = some (h1L, 0) from st_pw, some_bind]
theorem set_ann : login_Login_Set_s realOps annL saltL [112, 119] [] = some (0, esA []) := by
  unfold login_Login_Set_s
  rw [show login_Login_Set_j0 realOps annL saltL [112, 119] [] = some (.inr []) by kernel_rfl, some_bind]
  simp only []
  rw [show login_Login_Set_j1 realOps annL ([] : List ((List UInt8) × CrT)) (mgetD keqS [] annL (([] : List UInt8), ([] : List UInt8), ([] : List UInt8), ([] : List UInt8), (0 : Int), (0 : Int), (0 : Int), ([] : List KeyT))) = some (.inr ([], (([] : List UInt8), ([] : List UInt8), ([] : List UInt8), ([] : List UInt8), (0 : Int), (0 : Int), (0 : Int), ([] : List KeyT)))) from rfl, some_bind]
  simp only []
  rw [stretched_pw, some_bind]
  rfl
theorem in_ok (n a b : Int) : login_in_p realOps n a b = some (decide (a ≤ n) && decide (n ≤ b)) := by
  unfold login_in_p
  by_cases h : n ≥ a
  · rw [dec_t h]; simp [show a ≤ n from h]
  · rw [dec_f h]; simp [show ¬ a ≤ n from h]
end Go.Proofs.YtmkomlbiaebddaaGreatDoor.Am
namespace Go.Proofs.YtmkomlbiaebddaaGreatDoor.Am
open Go Go.RowKit
def crS (secret : List UInt8) (s : Int) : CrT := (annL, saltL, h1L, secret, s, 0, 0, [])
def esS (secret : List UInt8) (s : Int) : List ((List UInt8) × CrT) := [(annL, crS secret s)]
theorem get_S (a : List UInt8) (s : Int) (z : CrT) : mgetD keqS (esS a s) annL z = crS a s := rfl
theorem has_S (a : List UInt8) (s : Int) : mhas keqS (esS a s) annL = true := rfl
theorem set_S (a : List UInt8) (s : Int) (c : CrT) : mset keqS kltS (esS a s) annL c = [(annL, c)] := rfl
theorem enrol_ann (a : List UInt8) : login_Login_Enrol_s realOps annL a (esS [] 0) = some (bif decide (16 ≤ (a.length : Int)) && decide ((a.length : Int) ≤ 64) then (0, esS a 0) else (155, esS [] 0)) := by
  have h1 : login_Login_Enrol_1_s realOps annL saltL h1L [] 0 0 0 [] a = some (bif decide (16 ≤ (a.length : Int)) && decide ((a.length : Int) ≤ 64) then (0, annL, saltL, h1L, a, 0, 0, 0, [], a) else (155, annL, saltL, h1L, [], 0, 0, 0, [], a)) := by
    unfold login_Login_Enrol_1_s
    rw [in_ok, some_bind]
    cases decide (16 ≤ (a.length : Int)) && decide ((a.length : Int) ≤ 64) <;> rfl
  unfold login_Login_Enrol_s login_Login_with_s3
  simp only [get_S, has_S, set_S, Bool.not_true, cond_false, crS]
  rw [h1, some_bind, some_bind]
  cases decide (16 ≤ (a.length : Int)) && decide ((a.length : Int) ≤ 64) <;> rfl
theorem get_ann (a : List UInt8) (s : Int) : login_Login_Get_s realOps annL (esS a s) = some (crS a s, true, esS a s) := by
  unfold login_Login_Get_s
  simp only [get_S, has_S]
  rw [show login_kept_told_p realOps (crS a s) = some (crS a s) from rfl, some_bind]
theorem downL_le : ∀ {n : Nat} {hi x : Int}, x ∈ Fd.downL hi n → x ≤ hi
  | 0, _, _, h => by cases h
  | n + 1, hi, x, h => by
    rcases List.mem_cons.1 h with rfl | h
    · exact Int.le_refl _
    · have := downL_le h; omega
theorem downL_ge : ∀ {n : Nat} {hi x : Int}, x ∈ Fd.downL hi n → 0 ≤ hi - (n : Int) + 1 → 0 ≤ x
  | 0, _, _, h, _ => by cases h
  | n + 1, hi, x, h, hn => by
    rcases List.mem_cons.1 h with rfl | h
    · omega
    · exact downL_ge h (by omega)
theorem findF_mem {f : Int → List UInt8} {code : List UInt8} : ∀ {l : List Int} {r : Int}, findF f code l = (r, true) → r ∈ l
  | [], _, h => by cases h
  | s :: l, r, h => by
    unfold findF at h
    cases hb : f s == code with
    | true => rw [hb] at h; cases h; exact List.mem_cons_self ..
    | false => rw [hb] at h; exact List.mem_cons_of_mem _ (findF_mem h)
theorem code_step {a c : List UInt8} (ha : a ≠ []) (hl : a.length ≤ 64) (hc : c.length ≤ 21) {now s : Int} (hn : 0 ≤ now) (hm : now ≤ 1099511627776) :
    ∃ e s', login_Login_Code_s realOps annL c now (esS a s) = some (e, esS a s') ∧ (e = 0 → s < s' ∧ s' ≤ now / 30 + 2) ∧ (e ≠ 0 → s' = s) := by
  have ht : login_time_p realOps now = some true := by
    unfold login_time_p
    rw [in_ok, some_bind, decide_eq_true hn, decide_eq_true hm]; rfl
  have hd : w64 (Int.tdiv now 30) = now / 30 := by rw [Int.tdiv_eq_ediv_of_nonneg hn]; exact w64_of (by omega) (by omega)
  have hf : realOps.find a c (now / 30) 1 = some (findF (codeF a) c (Fd.stepsL (now / 30) 1)) := by
    show findP a c (now / 30) 1 = _
    unfold findP
    rw [cond_t (by simp; omega)]
  have hle : ∀ r, findF (codeF a) c (Fd.stepsL (now / 30) 1) = (r, true) → r ≤ now / 30 + 1 := fun r h => by
    have := findF_mem h
    rw [Fd.stepsL_in (by omega) (by omega) (by omega) (by omega)] at this
    exact downL_le this
  have key : ∃ e s', login_Login_Code_1_s realOps annL saltL h1L a s 0 0 [] c now = some (e, annL, saltL, h1L, a, s', 0, 0, [], c, now) ∧ (e = 0 → s < s' ∧ s' ≤ now / 30 + 2) ∧ (e ≠ 0 → s' = s) := by
    unfold login_Login_Code_1_s
    rw [cond_f (show (a == ([] : List UInt8)) = false from beq_false_of_ne ha), chk_ok (c := ((30 : Int) != 0)) rfl, some_bind, hd, hf, some_bind]
    rcases hr : findF (codeF a) c (Fd.stepsL (now / 30) 1) with ⟨r, b⟩
    unfold login_Login_Code_1_j0
    cases b with
    | false => exact ⟨153, s, rfl, fun h => absurd h (by decide), fun _ => rfl⟩
    | true =>
      have h1 := hle r hr
      simp only [Bool.not_true, cond_false]
      by_cases h2 : r < s
      · rw [dec_t h2]; exact ⟨153, s, rfl, fun h => absurd h (by decide), fun _ => rfl⟩
      · rw [dec_f h2]
        refine ⟨0, w64 (r + 1), rfl, fun _ => ?_, fun h => absurd rfl h⟩
        have h3 : 0 ≤ r := by
          have := findF_mem hr
          rw [Fd.stepsL_in (by omega) (by omega) (by omega) (by omega)] at this
          exact downL_ge this (by unfold Fd.loS; split <;> omega)
        rw [w64_of (by omega) (by omega)]
        omega
  obtain ⟨e, s', k1, k2, k3⟩ := key
  refine ⟨e, s', ?_, k2, k3⟩
  unfold login_Login_Code_s login_Login_with_s2
  rw [ht, some_bind]
  simp only [get_S, has_S, set_S, Bool.not_true, cond_false, crS]
  rw [k1, some_bind, some_bind]
  rfl
theorem place_ok (v : Int) : ∃ n, seneschallaw15_place_p realOps v 1000 = some n ∧ 0 ≤ n ∧ n < 1000 := by
  unfold seneschallaw15_place_p
  rw [chk_ok (by decide), some_bind]
  have h1 := Int.tmod_lt_of_pos v (show (0 : Int) < 1000 by decide)
  have h2 : -1000 < Int.tmod v 1000 := Int.lt_tmod_of_pos v (by decide)
  by_cases h : Int.tmod v 1000 < 0
  · rw [dec_t h]
    exact ⟨_, rfl, by rw [w64_of (by omega) (by omega)]; omega, by rw [w64_of (by omega) (by omega)]; omega⟩
  · rw [dec_f h]
    exact ⟨_, rfl, by omega, by omega⟩
theorem steps_loop {a : List UInt8} (ha : a ≠ []) (hl : a.length ≤ 64) (tries : List Int) (hc : tries.length ≤ 1048576) :
    iter (fun x => seneschallaw15_LoginSteps_b3 realOps a tries x.1 x.2.1 x.2.2.1 x.2.2.2) ((0 : Int), (0 : Int), (0 : Int), esS a 0) = some (.inr ()) := by
  have h := iter_len (body := fun (x : Int × Int × Int × List (List UInt8 × CrT)) => seneschallaw15_LoginSteps_b3 realOps a tries x.1 x.2.1 x.2.2.1 x.2.2.2)
    (fun x => 0 ≤ x.2.2.1 ∧ x.2.2.1 ≤ (tries.length : Int) ∧ 0 ≤ x.1 ∧ x.1 ≤ 100 * x.2.2.1 ∧ x.2.2.2 = esS a x.2.1) (fun x => (tries.length - x.2.2.1).toNat) (fun b => b = .inr ()) (fun x hx => by
      obtain ⟨now, next, i, es⟩ := x
      obtain ⟨h1, h2, h3, h4, h5⟩ := hx
      simp only at h1 h2 h3 h4 h5
      subst h5
      unfold seneschallaw15_LoginSteps_b3
      simp only []
      by_cases hi : i < (tries.length : Int)
      · left
        obtain ⟨j, rfl⟩ : ∃ j : Nat, i = j := ⟨i.toNat, by omega⟩
        have hj : idx tries (j : Int) = some (tries[j]'(by omega)) := idx_ok rfl (by omega)
        generalize tries[j]'(by omega) = v at hj
        obtain ⟨n, hp, hn0, hn1⟩ := place_ok v
        have hdiv : w64 (Int.tdiv n 10) = n / 10 := by rw [Int.tdiv_eq_ediv_of_nonneg hn0]; exact w64_of (by omega) (by omega)
        have hnow : w64 (now + n / 10) = now + n / 10 := w64_of (by omega) (by omega)
        have hi1 : w64 ((j : Int) + 1) = (j : Int) + 1 := w64_of (by omega) (by omega)
        rw [dec_t hi, hj, some_bind, hp, some_bind, chk_ok (c := ((10 : Int) != 0)) rfl, some_bind, chk_ok (c := ((30 : Int) != 0)) rfl, some_bind, hdiv, hnow, hi1]
        generalize hN : now + n / 10 = N
        have hN0 : 0 ≤ N := by omega
        have hN1 : N ≤ 100 * ((j : Int) + 1) := by omega
        have hN2 : N ≤ 1099511627776 := by omega
        have hd30 : w64 (Int.tdiv N 30) = N / 30 := by rw [Int.tdiv_eq_ediv_of_nonneg hN0]; exact w64_of (by omega) (by omega)
        have hwN : w64 N = N := w64_of (by omega) (by omega)
        rw [hd30]
        rw [chk_ok (c := decide ((0 : Int) < 10)) rfl, some_bind]
        cases decide (w64 (w64 (N / 30 + Int.tmod n 10) - 4) < 0) with
        | true => exact ⟨_, rfl, ⟨by simp only []; omega, by simp only []; omega, hN0, hN1, rfl⟩, by simp only []; omega⟩
        | false =>
          simp only [cond_false]
          generalize w64 (w64 (N / 30 + Int.tmod n 10) - 4) = st
          obtain ⟨hcode, hclen⟩ := code_eq (secret := a) (by omega) st
          rw [show realOps.code a st = some (codeF a st) from hcode, some_bind]
          obtain ⟨e, s', k1, k2, k3⟩ := code_step ha hl hclen hN0 hN2 (s := next)
          rw [k1, some_bind, get_ann, some_bind]
          have hw2 : w64 (N / 30 + 2) = N / 30 + 2 := w64_of (by omega) (by omega)
          by_cases he : e = 0
          · subst he
            obtain ⟨q1, q2⟩ := k2 rfl
            have hj1 : seneschallaw15_LoginSteps_j1 realOps now next n (0, esS a s') (crS a s', true, esS a s') = some (.inr (annL, saltL, h1L, a, s', 0, 0, [], esS a s')) := by
              unfold seneschallaw15_LoginSteps_j1
              simp only [hdiv, hN, hwN, hd30, hw2]
              rw [chk_ok (c := ((30 : Int) != 0)) rfl, some_bind]
              simp only [Bool.not_true, cond_false, bne_self_eq_false, BEq.rfl, cond_true]
              rw [dec_f (p := (crS a s').2.2.2.2.1 ≤ next) (by show ¬ s' ≤ next; omega), dec_f (p := (crS a s').2.2.2.2.1 > N / 30 + 2) (by show ¬ s' > N / 30 + 2; omega)]
              rfl
            rw [hj1, some_bind]
            simp only []
            have hj2 : ∃ e2 s2, seneschallaw15_LoginSteps_j2 realOps a now n (N / 30) (0, esS a s') (annL, saltL, h1L, a, s', 0, 0, [], esS a s') = some ((e2 == (0 : Int)), annL, saltL, h1L, a, s', 0, 0, [], esS a s2) ∧ (e2 = 0 → s' < s2) ∧ (e2 ≠ 0 → s2 = s') := by
              unfold seneschallaw15_LoginSteps_j2
              simp only [hdiv, hN, hwN, BEq.rfl, cond_true]
              generalize w64 (w64 (N / 30 + Int.tmod n 10) - 4) = st2
              obtain ⟨hcode2, hclen2⟩ := code_eq (secret := a) (by omega) st2
              rw [show realOps.code a st2 = some (codeF a st2) from hcode2, some_bind]
              obtain ⟨e2, s2, m1, m2, m3⟩ := code_step ha hl hclen2 hN0 hN2 (s := s')
              rw [show login_Login_Code_s realOps ([97, 110, 110] : List UInt8) (codeF a st2) N (esS a s') = some (e2, esS a s2) from m1, some_bind]
              exact ⟨e2, s2, rfl, fun h => (m2 h).1, m3⟩
            obtain ⟨e2, s2, m1, m2, m3⟩ := hj2
            rw [m1, some_bind]
            simp only []
            by_cases he2 : e2 = 0
            · subst he2
              have := m2 rfl
              simp only [BEq.rfl, cond_true]
              rw [get_ann, some_bind, dec_f (p := (crS a s2).2.2.2.2.1 ≤ s') (by show ¬ s2 ≤ s'; omega)]
              exact ⟨_, rfl, ⟨by simp only []; omega, by simp only []; omega, hN0, hN1, rfl⟩, by simp only []; omega⟩
            · have := m3 he2
              subst this
              rw [show (e2 == (0 : Int)) = false from beq_false_of_ne he2]
              simp only [cond_false]
              exact ⟨_, rfl, ⟨by simp only []; omega, by simp only []; omega, hN0, hN1, rfl⟩, by simp only []; omega⟩
          · have := k3 he
            subst this
            have hne : (e != (0 : Int)) = true := bne_iff_ne.2 he
            have hnb : (e == (0 : Int)) = false := beq_false_of_ne he
            have hj1 : seneschallaw15_LoginSteps_j1 realOps now s' n (e, esS a s') (crS a s', true, esS a s') = some (.inr (annL, saltL, h1L, a, s', 0, 0, [], esS a s')) := by
              unfold seneschallaw15_LoginSteps_j1
              simp only [hne, hnb, crS, Bool.not_true, cond_false, cond_true, bne_self_eq_false]
            rw [hj1, some_bind]
            simp only []
            have hj2 : seneschallaw15_LoginSteps_j2 realOps a now n (N / 30) (e, esS a s') (annL, saltL, h1L, a, s', 0, 0, [], esS a s') = some (false, annL, saltL, h1L, a, s', 0, 0, [], esS a s') := by
              unfold seneschallaw15_LoginSteps_j2
              simp only [hnb, cond_false]
            rw [hj2, some_bind]
            simp only [cond_false]
            exact ⟨_, rfl, ⟨by simp only []; omega, by simp only []; omega, hN0, hN1, rfl⟩, by simp only []; omega⟩
      · right
        rw [dec_f hi]
        exact ⟨_, rfl, rfl⟩) (s := ((0 : Int), (0 : Int), (0 : Int), esS a 0)) ⟨by simp, by simp, by simp, by simp, rfl⟩ (by simp; omega)
  obtain ⟨b, h1, rfl⟩ := h
  exact h1
theorem loginSteps_plain (a : List UInt8) (tries : List Int) (hc : tries.length ≤ 1048576) : seneschallaw15_LoginSteps_p realOps a tries = some true := by
  unfold seneschallaw15_LoginSteps_p
  rw [show login_New_s realOps = some [] from rfl, some_bind]
  unfold seneschallaw15_LoginSteps_j0
  rw [show login_Login_Set_s realOps ([97, 110, 110] : List UInt8) ([48, 49, 50, 51, 52, 53, 54, 55, 56, 57, 97, 98, 99, 100, 101, 102] : List UInt8) ([112, 119] : List UInt8) [] = some (0, esS [] 0) from set_ann, some_bind]
  simp only [bne_self_eq_false, cond_false]
  rw [some_bind]
  simp only []
  rw [enrol_ann]
  by_cases h1 : 16 ≤ (a.length : Int)
  · by_cases h2 : (a.length : Int) ≤ 64
    · rw [decide_eq_true h1, decide_eq_true h2]
      simp only [Bool.and_self, cond_true]
      rw [some_bind]
      simp only [bne_self_eq_false, cond_false]
      rw [steps_loop (by intro h; subst h; simp at h1) (by omega) tries hc, some_bind]
      rfl
    · rw [decide_eq_true h1, decide_eq_false h2]
      simp only [Bool.and_false, cond_false]
      rw [some_bind]
      simp only [show ((155 : Int) != 0) = true from rfl, cond_true]
      rw [dec_f (by omega), dec_t (by omega)]; rfl
  · rw [decide_eq_false h1]
    simp only [Bool.false_and, cond_false]
    rw [some_bind]
    simp only [show ((155 : Int) != 0) = true from rfl, cond_true]
    rw [dec_t (by omega)]; rfl
theorem loginSteps_uses (a : List UInt8) (tries : List Int) (hk : dsz .s a + dsz (.sl (.i .i64)) tries ≤ 1048576) : seneschallaw15_LoginSteps_p realOps a tries = some true :=
  loginSteps_plain a tries (Nat.le_of_lt (Nat.lt_of_lt_of_le (Nat.lt_of_succ_le (dsz_len (e := .i .i64) rfl tries)) (Nat.le_trans (Nat.le_add_left _ _) hk)))
end Go.Proofs.YtmkomlbiaebddaaGreatDoor.Am
