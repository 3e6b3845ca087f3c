/- What some functions compute, over plain values, and that they do. The calls of logins whose answers the document fixes: what they come to, by reckoning. Conditions: as each theorem says. -/
import Derived.KernelRfl
import Derived.Test.YtmkomlbiaebddaaGreatDoorQlK
namespace Go.Proofs.YtmkomlbiaebddaaGreatDoor
open Go Go.RowKit
end Go.Proofs.YtmkomlbiaebddaaGreatDoor
namespace Go.Proofs.YtmkomlbiaebddaaGreatDoor.Am
open Go Go.RowKit
def τWkF : TE := [(3, ⟨.int .i64, 1, [.v (.i .i64) (show Int from 0)], (.i .i64), 8⟩),
 (9, ⟨.s, 1, [.v .s (show List UInt8 from [])], .s, 16⟩),
 (22, ⟨.sl 24, 1, [.nils], (.sl (.pr .s .s)), 24⟩),
 (24, ⟨.st [(9, 0), (9, 1)], 2, [.v .s (show List UInt8 from []), .v .s (show List UInt8 from [])], (.pr .s .s), 32⟩),
 (25, ⟨.pt 79, 1, [.nilp], .un, 8⟩),
 (35, ⟨.sl 53, 1, [.nils], (.sl (.pr .s (.pr .s (.pr .s (.pr .s (.pr (.i .i64) (.pr (.i .i64) (.pr (.i .i64) (.sl (.pr .s (.pr .s (.pr .s (.i .i64))))))))))))), 24⟩),
 (41, ⟨.sl 9, 1, [.nils], (.sl .s), 24⟩),
 (51, ⟨.sl 58, 1, [.nils], (.sl (.pr .s (.pr .s (.pr .s (.i .i64))))), 24⟩),
 (53, ⟨.st [(9, 0), (9, 1), (9, 2), (9, 3), (3, 4), (3, 5), (3, 6), (51, 7)], 8, [.v .s (show List UInt8 from []), .v .s (show List UInt8 from []), .v .s (show List UInt8 from []), .v .s (show List UInt8 from []), .v (.i .i64) (show Int from 0), .v (.i .i64) (show Int from 0), .v (.i .i64) (show Int from 0), .nils], (.pr .s (.pr .s (.pr .s (.pr .s (.pr (.i .i64) (.pr (.i .i64) (.pr (.i .i64) (.sl (.pr .s (.pr .s (.pr .s (.i .i64)))))))))))), 112⟩),
 (58, ⟨.st [(9, 0), (9, 1), (9, 2), (3, 3)], 4, [.v .s (show List UInt8 from []), .v .s (show List UInt8 from []), .v .s (show List UInt8 from []), .v (.i .i64) (show Int from 0)], (.pr .s (.pr .s (.pr .s (.i .i64)))), 56⟩),
 (74, ⟨.st [(53, 0)], 8, [.v .s (show List UInt8 from []), .v .s (show List UInt8 from []), .v .s (show List UInt8 from []), .v .s (show List UInt8 from []), .v (.i .i64) (show Int from 0), .v (.i .i64) (show Int from 0), .v (.i .i64) (show Int from 0), .nils], (.pr .s (.pr .s (.pr .s (.pr .s (.pr (.i .i64) (.pr (.i .i64) (.pr (.i .i64) (.sl (.pr .s (.pr .s (.pr .s (.i .i64)))))))))))), 112⟩),
 (77, ⟨.map 9 74, 1, [.nilm], (.mp .s (.pr .s (.pr .s (.pr .s (.pr .s (.pr (.i .i64) (.pr (.i .i64) (.pr (.i .i64) (.sl (.pr .s (.pr .s (.pr .s (.i .i64))))))))))))), 8⟩),
 (79, ⟨.st [(77, 0)], 1, [.nilm], (.pr (.mp .s (.pr .s (.pr .s (.pr .s (.pr .s (.pr (.i .i64) (.pr (.i .i64) (.pr (.i .i64) (.sl (.pr .s (.pr .s (.pr .s (.i .i64))))))))))))) .un), 8⟩),
 (125, ⟨.ifc, 1, [.v .er (show Bool from false)], .er, 16⟩)]
theorem τ_okWkF : TEok Tryz.prog τWkF := te_ok (by kernel_rfl) (by kernel_rfl)
theorem mixWkF : Tryz.prog.follows .mixedOrders = true := by kernel_rfl
abbrev KWkF0 : Type := (List UInt8) × (List UInt8) × (List UInt8) × Int
abbrev YWkF0 : Ty := .pr .s (.pr .s (.pr .s (.i .i64)))
abbrev KWkF1 : Type := (List UInt8) × (List UInt8) × (List UInt8) × (List UInt8) × Int × Int × Int × List KWkF0
abbrev YWkF1 : Ty := .pr .s (.pr .s (.pr .s (.pr .s (.pr (.i .i64) (.pr (.i .i64) (.pr (.i .i64) (.sl YWkF0)))))))
abbrev KWkF2 : Type := (List UInt8) × (List UInt8) × (List UInt8) × (List UInt8) × (List UInt8) × Int × Int × Int × List KWkF0
abbrev QWkF0 : OSh := .blk 74 [hS, hS, hS, hS, hI, hI, hI, (.h (.sl YWkF0))]
abbrev QWkF1 : OSh := .blk 74 [hS, hS, hS, hS, hI, hI, hI, .nils]
abbrev QWkF2 : OSh := .blk 58 [hS, hS, hS, hI]
abbrev QWkF3 : OSh := .blk 79 [(.mpr 1)]
abbrev QWkF4 : OSh := .mp false .s YWkF1
abbrev QWkF5 : OSh := .blk 79 [(.mpr 3)]
abbrev QWkF6 : OSh := .blk 79 [(.mpr 2)]
section
variable {tabs : List (Nat × Obj)} [TabOk tabs] {o : Ops} [OpsOk tabs o]
def login_New_s (o : Ops) : Option ((List KWkF2)) :=
 some ([] : List KWkF2)
def login_New_sc (o : Ops) : SC := ⟨⟨[], []⟩, 1, [(none, ⟨[(0, (.ptr 0 0))], [QWkF3, QWkF4]⟩)], fun _ => login_New_s o⟩
theorem login_New_sk : SCok Tryz.prog tabs 16 (login_New_sc o) := witO (G := tabs) (o := o) <| fn_sc (η := []) (Γ := ⟨[], [], false⟩) mixWkF τ_okWkF (ctok trivial trivial) Tryz.func16 (isFn Tryz.func16 (by kernel_rfl) (by kernel_rfl)) (by kernel_rfl) (by kernel_rfl) (by kernel_rfl)
def people_of_p (o : Ops) (v0 : List UInt8) (v1 : Int) (v2 : List UInt8) : Option (Bool) :=
 bif (v0 != ([] : List UInt8)) then (bif decide ((v0.length : Int) ≤ v1) then (Option.bind (o.trim v0 v2) fun v3 => some (v3 == ([] : List UInt8))) else (some false)) else (some false)
def people_of_pc (o : Ops) : PC := ⟨[hS, hI, hS], [.b], fun x => people_of_p o x.1 x.2.1 x.2.2, false⟩
theorem people_of_pk : PCok Tryz.prog tabs 91 (people_of_pc o) := witO (G := tabs) (o := o) <| fn_pc (η := []) (Γ := ⟨[(109, (oc_trim o))], [], false⟩) mixWkF τ_okWkF (ctok ⟨(OpsOk.trim (G := tabs)), trivial⟩ trivial) Tryz.func91 (isFn Tryz.func91 (by kernel_rfl) (by kernel_rfl)) (by kernel_rfl) rfl (by kernel_rfl)
def people_Name_p (o : Ops) (v0 : List UInt8) : Option (Bool) :=
 Option.bind (people_of_p o v0 (24 : Int) ([97, 98, 99, 100, 101, 102, 103, 104, 105, 106, 107, 108, 109, 110, 111, 112, 113, 114, 115, 116, 117, 118, 119, 120, 121, 122, 48, 49, 50, 51, 52, 53, 54, 55, 56, 57, 46, 95, 45] : List UInt8)) fun v1 => some v1
def people_Name_pc (o : Ops) : PC := ⟨[hS], [.b], fun x => people_Name_p o x, false⟩
theorem people_Name_pk : PCok Tryz.prog tabs 42 (people_Name_pc o) := witO (G := tabs) (o := o) <| fn_pc (η := []) (Γ := ⟨[(91, (people_of_pc o))], [], false⟩) mixWkF τ_okWkF (ctok ⟨people_of_pk, trivial⟩ trivial) Tryz.func42 (isFn Tryz.func42 (by kernel_rfl) (by kernel_rfl)) (by kernel_rfl) rfl (by kernel_rfl)
def login_in_p (o : Ops) (v0 : Int) (v1 : Int) (v2 : Int) : Option (Bool) :=
 bif decide (v0 ≥ v1) then (some (decide (v0 ≤ v2))) else (some false)
def login_in_pc (o : Ops) : PC := ⟨[hI, hI, hI], [.b], fun x => login_in_p o x.1 x.2.1 x.2.2, false⟩
theorem login_in_pk : PCok Tryz.prog tabs 43 (login_in_pc o) := witO (G := tabs) (o := o) <| fn_pc (η := []) (Γ := ⟨[], [], false⟩) mixWkF τ_okWkF (ctok trivial trivial) Tryz.func43 (isFn Tryz.func43 (by kernel_rfl) (by kernel_rfl)) (by kernel_rfl) rfl (by kernel_rfl)
def login_stretched_p (o : Ops) (v0 : List UInt8) (v1 : List UInt8) : Option (List UInt8) :=
 Option.bind (o.stretch v0 v1 (4 : Int) (32 : Int)) fun v2 => some v2.1
def login_stretched_pc (o : Ops) : PC := ⟨[hS, hS], [.s], fun x => login_stretched_p o x.1 x.2, false⟩
theorem login_stretched_pk : PCok Tryz.prog tabs 44 (login_stretched_pc o) := witO (G := tabs) (o := o) <| fn_pc (η := []) (Γ := ⟨[(92, (oc_stretch o))], [], false⟩) mixWkF τ_okWkF (ctok ⟨(OpsOk.stretch (G := tabs)), trivial⟩ trivial) Tryz.func44 (isFn Tryz.func44 (by kernel_rfl) (by kernel_rfl)) (by kernel_rfl) rfl (by kernel_rfl)
def login_Login_Set_j0 (o : Ops) (v0 : List UInt8) (v1 : List UInt8) (v2 : List UInt8) (v3 : List KWkF2) : Option ((Int × List KWkF2) ⊕ (List KWkF2)) :=
 Option.bind (people_Name_p o v0) fun v4 => bif (!v4) then some (.inl ((155 : Int), v3)) else (bif ((v1.length : Int) != (16 : Int)) then some (.inl ((155 : Int), v3)) else (Option.bind (login_in_p o (v2.length : Int) (1 : Int) (64 : Int)) fun v5 => bif (!v5) then some (.inl ((155 : Int), v3)) else some (.inr v3)))
def login_Login_Set_j1 (o : Ops) (v0 : List UInt8) (v8 : List KWkF2) (v9 : KWkF1) : Option ((Int × List KWkF2) ⊕ ((List KWkF2) × KWkF1)) :=
 bif (!(mhas keqS v8 v0)) then (bif decide ((v8.length : Int) ≥ (64 : Int)) then some (.inl ((156 : Int), v8)) else some (.inr (v8, v9))) else some (.inr (v8, v9))
def login_Login_Set_s (o : Ops) (v0 : List UInt8) (v1 : List UInt8) (v2 : List UInt8) (v3 : List KWkF2) : Option ((Int × List KWkF2)) :=
 Option.bind (login_Login_Set_j0 o v0 v1 v2 v3) fun v6 => match v6 with
 | .inl v7 => some v7
 | .inr v8 => (let v9 : KWkF1 := mgetD keqS v8 v0 (([] : List UInt8), ([] : List UInt8), ([] : List UInt8), ([] : List UInt8), (0 : Int), (0 : Int), (0 : Int), ([] : List KWkF0))
 Option.bind (login_Login_Set_j1 o v0 v8 v9) fun v10 => match v10 with
 | .inl v11 => some v11
 | .inr v12 => (Option.bind (login_stretched_p o v2 v1) fun v13 => let v14 : List KWkF2 := mset keqS kltS v12.1 v0 (v0, v1, v13, v12.2.2.2.2.1, v12.2.2.2.2.2.1, (0 : Int), (0 : Int), v12.2.2.2.2.2.2.2.2)
 some ((0 : Int), v14)))
def login_Login_Set_sc (o : Ops) : SC := ⟨⟨[(0, (.ptr 0 0)), (1, hS), (2, hS), (3, hS)], [QWkF3, QWkF4]⟩, 1, [(none, ⟨[(0, hI)], [QWkF3, QWkF4]⟩)], fun x => login_Login_Set_s o x.1 x.2.1 x.2.2.1 x.2.2.2⟩
theorem login_Login_Set_sk : SCok Tryz.prog tabs 17 (login_Login_Set_sc o) := witO (G := tabs) (o := o) <| fn_sc (η := [(2000003, .join [] [1, 2, 3] [(some 1000000, ⟨[(8, hI)], [QWkF3, QWkF4]⟩), (none, ⟨[(0, (.ptr 0 0))], [QWkF3, QWkF4]⟩)]),
 (2000006, .join [] [1, 2, 3] [(some 1000000, ⟨[(8, hI)], [QWkF3, QWkF4]⟩), (none, ⟨[(0, (.ptr 0 0)), (9, (.ptr 2 0))], [QWkF3, QWkF4, QWkF0]⟩)])]) (Γ := ⟨[(42, (people_Name_pc o)), (43, (login_in_pc o)), (44, (login_stretched_pc o))], [], false⟩) mixWkF τ_okWkF (ctok ⟨people_Name_pk, ⟨login_in_pk, ⟨login_stretched_pk, trivial⟩⟩⟩ trivial) Tryz.func17 (isFn Tryz.func17 (by kernel_rfl) (by kernel_rfl)) (by kernel_rfl) (by kernel_rfl) (by kernel_rfl)
def login_time_p (o : Ops) (v0 : Int) : Option (Bool) :=
 Option.bind (login_in_p o v0 (0 : Int) (1099511627776 : Int)) fun v1 => some v1
def login_time_pc (o : Ops) : PC := ⟨[hI], [.b], fun x => login_time_p o x, false⟩
theorem login_time_pk : PCok Tryz.prog tabs 46 (login_time_pc o) := witO (G := tabs) (o := o) <| fn_pc (η := []) (Γ := ⟨[(43, (login_in_pc o))], [], false⟩) mixWkF τ_okWkF (ctok ⟨login_in_pk, trivial⟩ trivial) Tryz.func46 (isFn Tryz.func46 (by kernel_rfl) (by kernel_rfl)) (by kernel_rfl) rfl (by kernel_rfl)
def login_Login_Check_1_j0 (o : Ops) (v0 : List UInt8) (v1 : List UInt8) (v2 : List UInt8) (v3 : List UInt8) (v4 : Int) (v5 : Int) (v6 : Int) (v7 : List KWkF0) (v8 : Int) (v9 : List UInt8) : Option ((Bool × (List UInt8) × (List UInt8) × (List UInt8) × (List UInt8) × Int × Int × Int × (List KWkF0) × Int × List UInt8)) :=
 Option.bind (login_in_p o (v9.length : Int) (1 : Int) (64 : Int)) fun v10 => bif v10 then (Option.bind (login_stretched_p o v9 v1) fun v11 => Option.bind (o.same v11 v2) fun v12 => some (v12, v0, v1, v2, v3, v4, v5, v6, v7, v8, v9)) else some (false, v0, v1, v2, v3, v4, v5, v6, v7, v8, v9)
def login_Login_Check_1_j1 (o : Ops) (v0 : List UInt8) (v1 : List UInt8) (v2 : List UInt8) (v3 : List UInt8) (v4 : Int) (v5 : Int) (v6 : Int) (v7 : List KWkF0) (v8 : Int) (v9 : List UInt8) : Option ((Int × (List UInt8) × (List UInt8) × (List UInt8) × (List UInt8) × Int × Int × Int × (List KWkF0) × Int × List UInt8) ⊕ ((List UInt8) × (List UInt8) × (List UInt8) × (List UInt8) × Int × Int × Int × (List KWkF0) × Int × List UInt8)) :=
 Option.bind (login_Login_Check_1_j0 o v0 v1 v2 v3 v4 v5 v6 v7 v8 v9) fun v13 => bif v13.1 then some (.inl ((0 : Int), v13.2.1, v13.2.2.1, v13.2.2.2.1, v13.2.2.2.2.1, v13.2.2.2.2.2.1, (0 : Int), (0 : Int), v13.2.2.2.2.2.2.2.2)) else some (.inr v13.2)
def login_Login_Check_1_s (o : Ops) (v0 : List UInt8) (v1 : List UInt8) (v2 : List UInt8) (v3 : List UInt8) (v4 : Int) (v5 : Int) (v6 : Int) (v7 : List KWkF0) (v8 : Int) (v9 : List UInt8) : Option ((Int × (List UInt8) × (List UInt8) × (List UInt8) × (List UInt8) × Int × Int × Int × (List KWkF0) × Int × List UInt8)) :=
 bif decide (v8 < v6) then some ((152 : Int), v0, v1, v2, v3, v4, v5, v6, v7, v8, v9) else (Option.bind (login_Login_Check_1_j1 o v0 v1 v2 v3 v4 v5 v6 v7 v8 v9) fun v14 => match v14 with
 | .inl v15 => some v15
 | .inr v16 => (bif ((w64 (v16.2.2.2.2.2.1 + (1 : Int))) == (5 : Int)) then some ((151 : Int), v16.1, v16.2.1, v16.2.2.1, v16.2.2.2.1, v16.2.2.2.2.1, (0 : Int), w64 (v16.2.2.2.2.2.2.2.2.1 + (300 : Int)), v16.2.2.2.2.2.2.2) else some ((151 : Int), v16.1, v16.2.1, v16.2.2.1, v16.2.2.2.1, v16.2.2.2.2.1, w64 (v16.2.2.2.2.2.1 + (1 : Int)), v16.2.2.2.2.2.2)))
def login_Login_Check_1_sc (o : Ops) : SC := ⟨⟨[(0, (.ptr 0 0)), (1, (.ptr 1 0)), (2, (.ptr 2 0))], [QWkF0, .blk 3 [hI], .blk 9 [hS]]⟩, 1, [(none, ⟨[(0, hI)], [QWkF0, .blk 3 [hI], .blk 9 [hS]]⟩)], fun x => login_Login_Check_1_s o x.1 x.2.1 x.2.2.1 x.2.2.2.1 x.2.2.2.2.1 x.2.2.2.2.2.1 x.2.2.2.2.2.2.1 x.2.2.2.2.2.2.2.1 x.2.2.2.2.2.2.2.2.1 x.2.2.2.2.2.2.2.2.2⟩
theorem login_Login_Check_1_sk : SCok Tryz.prog tabs 48 (login_Login_Check_1_sc o) := witO (G := tabs) (o := o) <| fn_sc (η := [(2300004, .join [] [] [(none, ⟨[(0, (.ptr 0 0)), (1, (.ptr 1 0)), (29, hB)], [QWkF0, .blk 3 [hI], .blk 9 [hS]]⟩)]),
 (2000006, .join [] [] [(some 1000000, ⟨[(4, hI)], [QWkF0, .blk 3 [hI], .blk 9 [hS]]⟩), (none, ⟨[(0, (.ptr 0 0)), (1, (.ptr 1 0))], [QWkF0, .blk 3 [hI], .blk 9 [hS]]⟩)]),
 (3000008, .reg 7 [0] 1)]) (Γ := ⟨[(43, (login_in_pc o)), (44, (login_stretched_pc o)), (49, (oc_same o))], [], false⟩) mixWkF τ_okWkF (ctok ⟨login_in_pk, ⟨login_stretched_pk, ⟨(OpsOk.same (G := tabs)), trivial⟩⟩⟩ trivial) Tryz.func48 (isFn Tryz.func48 (by kernel_rfl) (by kernel_rfl)) (by kernel_rfl) (by kernel_rfl) (by kernel_rfl)
def login_Login_with_s (o : Ops) (v0 : List UInt8) (v1 : Int) (v2 : List UInt8) (v3 : List KWkF2) : Option ((Int × Int × (List UInt8) × List KWkF2)) :=
 let v4 : KWkF1 := mgetD keqS v3 v0 (([] : List UInt8), ([] : List UInt8), ([] : List UInt8), ([] : List UInt8), (0 : Int), (0 : Int), (0 : Int), ([] : List KWkF0))
 bif (!(mhas keqS v3 v0)) then some ((150 : Int), v1, v2, v3) else (Option.bind (login_Login_Check_1_s o v4.1 v4.2.1 v4.2.2.1 v4.2.2.2.1 v4.2.2.2.2.1 v4.2.2.2.2.2.1 v4.2.2.2.2.2.2.1 v4.2.2.2.2.2.2.2 v1 v2) fun v5 => let v6 : List KWkF2 := mset keqS kltS v3 v0 (v5.2.1, v5.2.2.1, v5.2.2.2.1, v5.2.2.2.2.1, v5.2.2.2.2.2.1, v5.2.2.2.2.2.2.1, v5.2.2.2.2.2.2.2.1, v5.2.2.2.2.2.2.2.2.1)
 some (v5.1, v5.2.2.2.2.2.2.2.2.2.1, v5.2.2.2.2.2.2.2.2.2.2, v6))
def login_Login_with_sc (o : Ops) : SC := ⟨⟨[(0, (.ptr 0 0)), (1, hS), (2, (.fn 48 [] [(.ptr 1 0), (.ptr 2 0)]))], [QWkF5, .blk 3 [hI], .blk 9 [hS], QWkF4]⟩, 1, [(none, ⟨[(0, hI)], [QWkF5, .blk 3 [hI], .blk 9 [hS], QWkF4]⟩)], fun x => login_Login_with_s o x.1 x.2.1 x.2.2.1 x.2.2.2⟩
theorem login_Login_with_sk : SCok Tryz.prog tabs 47 (login_Login_with_sc o) := witO (G := tabs) (o := o) <| fn_sc (η := []) (Γ := ⟨[], [(48, (login_Login_Check_1_sc o))], false⟩) mixWkF τ_okWkF (ctok trivial ⟨login_Login_Check_1_sk, trivial⟩) Tryz.func47 (isFn Tryz.func47 (by kernel_rfl) (by kernel_rfl)) (by kernel_rfl) (by kernel_rfl) (by kernel_rfl)
def login_Login_Check_s (o : Ops) (v0 : List UInt8) (v1 : List UInt8) (v2 : Int) (v3 : List KWkF2) : Option ((Int × List KWkF2)) :=
 Option.bind (login_time_p o v2) fun v4 => bif (!v4) then some ((1 : Int), v3) else (Option.bind (login_Login_with_s o v0 v2 v1 v3) fun v5 => some (v5.1, v5.2.2.2))
def login_Login_Check_sc (o : Ops) : SC := ⟨⟨[(0, (.ptr 0 0)), (1, hS), (2, hS), (3, hI)], [QWkF3, QWkF4]⟩, 1, [(none, ⟨[(0, hI)], [QWkF3, QWkF4]⟩)], fun x => login_Login_Check_s o x.1 x.2.1 x.2.2.1 x.2.2.2⟩
theorem login_Login_Check_sk : SCok Tryz.prog tabs 19 (login_Login_Check_sc o) := witO (G := tabs) (o := o) <| fn_sc (η := []) (Γ := ⟨[(46, (login_time_pc o))], [(47, (login_Login_with_sc o))], false⟩) mixWkF τ_okWkF (ctok ⟨login_time_pk, trivial⟩ ⟨login_Login_with_sk, trivial⟩) Tryz.func19 (isFn Tryz.func19 (by kernel_rfl) (by kernel_rfl)) (by kernel_rfl) (by kernel_rfl) (by kernel_rfl)
def login_Login_Code_1_j0 (o : Ops) (v0 : List UInt8) (v1 : List UInt8) (v2 : List UInt8) (v3 : List UInt8) (v4 : Int) (v5 : Int) (v6 : Int) (v7 : List KWkF0) (v8 : List UInt8) (v9 : Int) (v10 : Int × Bool) : Option ((Int × (List UInt8) × (List UInt8) × (List UInt8) × (List UInt8) × Int × Int × Int × (List KWkF0) × (List UInt8) × Int) ⊕ ((List UInt8) × (List UInt8) × (List UInt8) × (List UInt8) × Int × Int × Int × (List KWkF0) × (List UInt8) × Int)) :=
 bif (!v10.2) then some (.inl ((153 : Int), v0, v1, v2, v3, v4, v5, v6, v7, v8, v9)) else (bif decide (v10.1 < v4) then some (.inl ((153 : Int), v0, v1, v2, v3, v4, v5, v6, v7, v8, v9)) else some (.inr (v0, v1, v2, v3, v4, v5, v6, v7, v8, v9)))
def login_Login_Code_1_s (o : Ops) (v0 : List UInt8) (v1 : List UInt8) (v2 : List UInt8) (v3 : List UInt8) (v4 : Int) (v5 : Int) (v6 : Int) (v7 : List KWkF0) (v8 : List UInt8) (v9 : Int) : Option ((Int × (List UInt8) × (List UInt8) × (List UInt8) × (List UInt8) × Int × Int × Int × (List KWkF0) × (List UInt8) × Int)) :=
 bif (v3 == ([] : List UInt8)) then some ((154 : Int), v0, v1, v2, v3, v4, v5, v6, v7, v8, v9) else (Option.bind (chk (((30 : Int) != (0 : Int)))) fun _ => Option.bind (o.find v3 v8 (w64 (Int.tdiv v9 (30 : Int))) (1 : Int)) fun v10 => Option.bind (login_Login_Code_1_j0 o v0 v1 v2 v3 v4 v5 v6 v7 v8 v9 v10) fun v11 => match v11 with
 | .inl v12 => some v12
 | .inr v13 => some ((0 : Int), v13.1, v13.2.1, v13.2.2.1, v13.2.2.2.1, w64 (v10.1 + (1 : Int)), v13.2.2.2.2.2))
def login_Login_Code_1_sc (o : Ops) : SC := ⟨⟨[(0, (.ptr 0 0)), (1, (.ptr 1 0)), (2, (.ptr 2 0))], [QWkF0, .blk 9 [hS], .blk 3 [hI]]⟩, 1, [(none, ⟨[(0, hI)], [QWkF0, .blk 9 [hS], .blk 3 [hI]]⟩)], fun x => login_Login_Code_1_s o x.1 x.2.1 x.2.2.1 x.2.2.2.1 x.2.2.2.2.1 x.2.2.2.2.2.1 x.2.2.2.2.2.2.1 x.2.2.2.2.2.2.2.1 x.2.2.2.2.2.2.2.2.1 x.2.2.2.2.2.2.2.2.2⟩
theorem login_Login_Code_1_sk : SCok Tryz.prog tabs 51 (login_Login_Code_1_sc o) := witO (G := tabs) (o := o) <| fn_sc (η := [(2000006, .join [] [5] [(some 1000000, ⟨[(4, hI)], [QWkF0, .blk 9 [hS], .blk 3 [hI]]⟩), (none, ⟨[(0, (.ptr 0 0))], [QWkF0, .blk 9 [hS], .blk 3 [hI]]⟩)])]) (Γ := ⟨[(52, (oc_find o))], [], false⟩) mixWkF τ_okWkF (ctok ⟨(OpsOk.find (G := tabs)), trivial⟩ trivial) Tryz.func51 (isFn Tryz.func51 (by kernel_rfl) (by kernel_rfl)) (by kernel_rfl) (by kernel_rfl) (by kernel_rfl)
def login_Login_with_s2 (o : Ops) (v0 : List UInt8) (v1 : List UInt8) (v2 : Int) (v3 : List KWkF2) : Option ((Int × (List UInt8) × Int × List KWkF2)) :=
 let v4 : KWkF1 := mgetD keqS v3 v0 (([] : List UInt8), ([] : List UInt8), ([] : List UInt8), ([] : List UInt8), (0 : Int), (0 : Int), (0 : Int), ([] : List KWkF0))
 bif (!(mhas keqS v3 v0)) then some ((150 : Int), v1, v2, v3) else (Option.bind (login_Login_Code_1_s o v4.1 v4.2.1 v4.2.2.1 v4.2.2.2.1 v4.2.2.2.2.1 v4.2.2.2.2.2.1 v4.2.2.2.2.2.2.1 v4.2.2.2.2.2.2.2 v1 v2) fun v5 => let v6 : List KWkF2 := mset keqS kltS v3 v0 (v5.2.1, v5.2.2.1, v5.2.2.2.1, v5.2.2.2.2.1, v5.2.2.2.2.2.1, v5.2.2.2.2.2.2.1, v5.2.2.2.2.2.2.2.1, v5.2.2.2.2.2.2.2.2.1)
 some (v5.1, v5.2.2.2.2.2.2.2.2.2.1, v5.2.2.2.2.2.2.2.2.2.2, v6))
def login_Login_with_s2c (o : Ops) : SC := ⟨⟨[(0, (.ptr 0 0)), (1, hS), (2, (.fn 51 [] [(.ptr 1 0), (.ptr 2 0)]))], [QWkF5, .blk 9 [hS], .blk 3 [hI], QWkF4]⟩, 1, [(none, ⟨[(0, hI)], [QWkF5, .blk 9 [hS], .blk 3 [hI], QWkF4]⟩)], fun x => login_Login_with_s2 o x.1 x.2.1 x.2.2.1 x.2.2.2⟩
theorem login_Login_with_s2k : SCok Tryz.prog tabs 47 (login_Login_with_s2c o) := witO (G := tabs) (o := o) <| fn_sc (η := []) (Γ := ⟨[], [(51, (login_Login_Code_1_sc o))], false⟩) mixWkF τ_okWkF (ctok trivial ⟨login_Login_Code_1_sk, trivial⟩) Tryz.func47 (isFn Tryz.func47 (by kernel_rfl) (by kernel_rfl)) (by kernel_rfl) (by kernel_rfl) (by kernel_rfl)
def login_Login_Code_s (o : Ops) (v0 : List UInt8) (v1 : List UInt8) (v2 : Int) (v3 : List KWkF2) : Option ((Int × List KWkF2)) :=
 Option.bind (login_time_p o v2) fun v4 => bif (!v4) then some ((1 : Int), v3) else (Option.bind (login_Login_with_s2 o v0 v1 v2 v3) fun v5 => some (v5.1, v5.2.2.2))
def login_Login_Code_sc (o : Ops) : SC := ⟨⟨[(0, (.ptr 0 0)), (1, hS), (2, hS), (3, hI)], [QWkF3, QWkF4]⟩, 1, [(none, ⟨[(0, hI)], [QWkF3, QWkF4]⟩)], fun x => login_Login_Code_s o x.1 x.2.1 x.2.2.1 x.2.2.2⟩
theorem login_Login_Code_sk : SCok Tryz.prog tabs 22 (login_Login_Code_sc o) := witO (G := tabs) (o := o) <| fn_sc (η := []) (Γ := ⟨[(46, (login_time_pc o))], [(47, (login_Login_with_s2c o))], false⟩) mixWkF τ_okWkF (ctok ⟨login_time_pk, trivial⟩ ⟨login_Login_with_s2k, trivial⟩) Tryz.func22 (isFn Tryz.func22 (by kernel_rfl) (by kernel_rfl)) (by kernel_rfl) (by kernel_rfl) (by kernel_rfl)
def login_Login_Enrol_1_s (o : Ops) (v0 : List UInt8) (v1 : List UInt8) (v2 : List UInt8) (v3 : List UInt8) (v4 : Int) (v5 : Int) (v6 : Int) (v7 : List KWkF0) (v8 : List UInt8) : Option ((Int × (List UInt8) × (List UInt8) × (List UInt8) × (List UInt8) × Int × Int × Int × (List KWkF0) × List UInt8)) :=
 Option.bind (login_in_p o (v8.length : Int) (16 : Int) (64 : Int)) fun v9 => bif (!v9) then some ((155 : Int), v0, v1, v2, v3, v4, v5, v6, v7, v8) else some ((0 : Int), v0, v1, v2, v8, (0 : Int), v5, v6, v7, v8)
def login_Login_Enrol_1_sc (o : Ops) : SC := ⟨⟨[(0, (.ptr 0 0)), (1, (.ptr 1 0))], [QWkF0, .blk 9 [hS]]⟩, 1, [(none, ⟨[(0, hI)], [QWkF0, .blk 9 [hS]]⟩)], fun x => login_Login_Enrol_1_s o x.1 x.2.1 x.2.2.1 x.2.2.2.1 x.2.2.2.2.1 x.2.2.2.2.2.1 x.2.2.2.2.2.2.1 x.2.2.2.2.2.2.2.1 x.2.2.2.2.2.2.2.2⟩
theorem login_Login_Enrol_1_sk : SCok Tryz.prog tabs 50 (login_Login_Enrol_1_sc o) := witO (G := tabs) (o := o) <| fn_sc (η := []) (Γ := ⟨[(43, (login_in_pc o))], [], false⟩) mixWkF τ_okWkF (ctok ⟨login_in_pk, trivial⟩ trivial) Tryz.func50 (isFn Tryz.func50 (by kernel_rfl) (by kernel_rfl)) (by kernel_rfl) (by kernel_rfl) (by kernel_rfl)
def login_Login_with_s3 (o : Ops) (v0 : List UInt8) (v1 : List UInt8) (v2 : List KWkF2) : Option ((Int × (List UInt8) × List KWkF2)) :=
 let v3 : KWkF1 := mgetD keqS v2 v0 (([] : List UInt8), ([] : List UInt8), ([] : List UInt8), ([] : List UInt8), (0 : Int), (0 : Int), (0 : Int), ([] : List KWkF0))
 bif (!(mhas keqS v2 v0)) then some ((150 : Int), v1, v2) else (Option.bind (login_Login_Enrol_1_s o v3.1 v3.2.1 v3.2.2.1 v3.2.2.2.1 v3.2.2.2.2.1 v3.2.2.2.2.2.1 v3.2.2.2.2.2.2.1 v3.2.2.2.2.2.2.2 v1) fun v4 => let v5 : List KWkF2 := mset keqS kltS v2 v0 (v4.2.1, v4.2.2.1, v4.2.2.2.1, v4.2.2.2.2.1, v4.2.2.2.2.2.1, v4.2.2.2.2.2.2.1, v4.2.2.2.2.2.2.2.1, v4.2.2.2.2.2.2.2.2.1)
 some (v4.1, v4.2.2.2.2.2.2.2.2.2, v5))
def login_Login_with_s3c (o : Ops) : SC := ⟨⟨[(0, (.ptr 0 0)), (1, hS), (2, (.fn 50 [] [(.ptr 1 0)]))], [QWkF6, .blk 9 [hS], QWkF4]⟩, 1, [(none, ⟨[(0, hI)], [QWkF6, .blk 9 [hS], QWkF4]⟩)], fun x => login_Login_with_s3 o x.1 x.2.1 x.2.2⟩
theorem login_Login_with_s3k : SCok Tryz.prog tabs 47 (login_Login_with_s3c o) := witO (G := tabs) (o := o) <| fn_sc (η := []) (Γ := ⟨[], [(50, (login_Login_Enrol_1_sc o))], false⟩) mixWkF τ_okWkF (ctok trivial ⟨login_Login_Enrol_1_sk, trivial⟩) Tryz.func47 (isFn Tryz.func47 (by kernel_rfl) (by kernel_rfl)) (by kernel_rfl) (by kernel_rfl) (by kernel_rfl)
def login_Login_Enrol_s (o : Ops) (v0 : List UInt8) (v1 : List UInt8) (v2 : List KWkF2) : Option ((Int × List KWkF2)) :=
 Option.bind (login_Login_with_s3 o v0 v1 v2) fun v3 => some (v3.1, v3.2.2)
def login_Login_Enrol_sc (o : Ops) : SC := ⟨⟨[(0, (.ptr 0 0)), (1, hS), (2, hS)], [QWkF3, QWkF4]⟩, 1, [(none, ⟨[(0, hI)], [QWkF3, QWkF4]⟩)], fun x => login_Login_Enrol_s o x.1 x.2.1 x.2.2⟩
theorem login_Login_Enrol_sk : SCok Tryz.prog tabs 20 (login_Login_Enrol_sc o) := witO (G := tabs) (o := o) <| fn_sc (η := []) (Γ := ⟨[], [(47, (login_Login_with_s3c o))], false⟩) mixWkF τ_okWkF (ctok trivial ⟨login_Login_with_s3k, trivial⟩) Tryz.func20 (isFn Tryz.func20 (by kernel_rfl) (by kernel_rfl)) (by kernel_rfl) (by kernel_rfl) (by kernel_rfl)
def maps_Keys_s (o : Ops) (v0 : List KWkF2) : Option ((List KWkF2)) :=
 some v0
def maps_Keys_sc (o : Ops) : SC := ⟨⟨[(0, (.mpr 0))], [QWkF4]⟩, 1, [(none, ⟨[(0, (.fn 87 [] [(.ptr 1 0)]))], [QWkF4, .blk 77 [(.mpr 0)]]⟩)], fun x => maps_Keys_s o x⟩
theorem maps_Keys_sk : SCok Tryz.prog tabs 37 (maps_Keys_sc o) := witO (G := tabs) (o := o) <| fn_sc (η := []) (Γ := ⟨[], [], false⟩) mixWkF τ_okWkF (ctok trivial trivial) Tryz.func37 (isFn Tryz.func37 (by kernel_rfl) (by kernel_rfl)) (by kernel_rfl) (by kernel_rfl) (by kernel_rfl)
def Sorted_sc : SC := ⟨⟨[(0, (.fn 87 [] [(.ptr 0 0)]))], [.blk 77 [(.mpr 1)], QWkF4]⟩, 1, [(none, ⟨[(0, (.h (.sl .s)))], [.blk 77 [(.mpr 1)], QWkF4]⟩)], fun es => sortedP es⟩
theorem Sorted_sk : SCok Tryz.prog tabs 36 Sorted_sc := wit (G := tabs) <| sorted_sc (kT := 9) (isFn Tryz.func36 (by kernel_rfl) (by kernel_rfl)) (by kernel_rfl) YtmkomlbiaebddaaGreatDoor.sortedK
def Clone_sc : SC := ⟨⟨[(0, (.h (.sl YWkF0)))], []⟩, 1, [(none, ⟨[(0, (.own 0))], [.osl YWkF0 58]⟩)], fun xs => app [] xs⟩
theorem Clone_sk : SCok Tryz.prog tabs 61 Clone_sc := wit (G := tabs) <| clone_sc mixWkF τ_okWkF Tryz.func61 (isFn Tryz.func61 (by kernel_rfl) (by kernel_rfl)) rfl (by kernel_rfl) (by kernel_rfl) (by kernel_rfl) (fun _ => by kernel_rfl)
def Clip_pc : PC := ⟨[.h (.sl YWkF0)], [(.sl YWkF0)], fun xs => some xs, true⟩
theorem Clip_pk : PCok Tryz.prog tabs 59 Clip_pc := wit (G := tabs) <| clip_pc mixWkF τ_okWkF Tryz.func59 (isFn Tryz.func59 (by kernel_rfl) (by kernel_rfl)) rfl (by kernel_rfl) (fun _ => by kernel_rfl)
def login_kept_told_p (o : Ops) (v0 : KWkF1) : Option KWkF1 :=
 Option.bind (app ([] : List KWkF0) v0.2.2.2.2.2.2.2) fun v1 => some (v0.1, v0.2.1, v0.2.2.1, v0.2.2.2.1, v0.2.2.2.2.1, v0.2.2.2.2.2.1, v0.2.2.2.2.2.2.1, v1)
def login_kept_told_pc (o : Ops) : PC := ⟨[(.h YWkF1)], [YWkF1], fun x => login_kept_told_p o x, false⟩
theorem login_kept_told_pk : PCok Tryz.prog tabs 38 (login_kept_told_pc o) := witO (G := tabs) (o := o) <| fn_pc (η := []) (Γ := ⟨[(59, Clip_pc)], [(61, Clone_sc)], false⟩) mixWkF τ_okWkF (ctok ⟨Clip_pk, trivial⟩ ⟨Clone_sk, trivial⟩) Tryz.func38 (isFn Tryz.func38 (by kernel_rfl) (by kernel_rfl)) (by kernel_rfl) rfl (by kernel_rfl)
def login_Login_All_b0 (o : Ops) (v3 : ((List (List UInt8)) × List KWkF2)) (v4 : Int) (v5 : List KWkF2) (v6 : List KWkF1) : Option ((Int × (List KWkF2) × List KWkF1) ⊕ (((List KWkF2) × List KWkF1))) :=
 bif decide (v4 < (v3.1.length : Int)) then (Option.bind (idx v3.1 v4) fun v7 => let v8 : KWkF1 := mgetD keqS v5 v7 (([] : List UInt8), ([] : List UInt8), ([] : List UInt8), ([] : List UInt8), (0 : Int), (0 : Int), (0 : Int), ([] : List KWkF0))
 Option.bind (login_kept_told_p o v8) fun v9 => Option.bind (app v6 ([v9] : List KWkF1)) fun v10 => some (.inl (w64 (v4 + (1 : Int)), v5, v10))) else some (.inr (v5, v6))
def login_Login_All_s (o : Ops) (v0 : List KWkF2) : Option (((List KWkF2) × List KWkF1)) :=
 Option.bind (chk (decide ((0 : Int) ≤ (v0.length : Int)) && decide ((v0.length : Int) ≤ (LIM : Int)))) fun _ => Option.bind (mkL (0 : Int) (([] : List UInt8), ([] : List UInt8), ([] : List UInt8), ([] : List UInt8), (0 : Int), (0 : Int), (0 : Int), ([] : List KWkF0))) fun v1 => Option.bind (maps_Keys_s o v0) fun v2 => Option.bind (sortedP v2) fun v3 => Option.bind (iter (fun x => login_Login_All_b0 o v3 x.1 x.2.1 x.2.2) ((0 : Int), v3.2, v1)) fun v11 => some v11
def login_Login_All_sc (o : Ops) : SC := ⟨⟨[(0, (.ptr 0 0))], [QWkF3, QWkF4]⟩, 1, [(none, ⟨[(0, (.own 2))], [QWkF3, QWkF4, .osl YWkF1 53]⟩)], fun x => login_Login_All_s o x⟩
theorem login_Login_All_sk : SCok Tryz.prog tabs 14 (login_Login_All_sc o) := witO (G := tabs) (o := o) <| fn_sc (η := [(200003, .loop [] ⟨[(0, (.ptr 0 0)), (3, (.own 2)), (19, hI)], [QWkF3, QWkF4, .osl YWkF1 53]⟩ [2, 17, 18] [(some 0, ⟨[(3, (.own 2))], [QWkF3, QWkF4, .osl YWkF1 53]⟩)])]) (Γ := ⟨[(38, (login_kept_told_pc o))], [(37, (maps_Keys_sc o)), (36, Sorted_sc)], false⟩) mixWkF τ_okWkF (ctok ⟨login_kept_told_pk, trivial⟩ ⟨maps_Keys_sk, ⟨Sorted_sk, trivial⟩⟩) Tryz.func14 (isFn Tryz.func14 (by kernel_rfl) (by kernel_rfl)) (by kernel_rfl) (by kernel_rfl) (by kernel_rfl)
def Clip_p2c : PC := ⟨[.h (.sl (.pr .s .s))], [(.sl (.pr .s .s))], fun xs => some xs, true⟩
theorem Clip_p2k : PCok Tryz.prog tabs 41 Clip_p2c := wit (G := tabs) <| clip_pc mixWkF τ_okWkF Tryz.func41 (isFn Tryz.func41 (by kernel_rfl) (by kernel_rfl)) rfl (by kernel_rfl) (fun _ => by kernel_rfl)
def login_Login_Rows_b02 (o : Ops) (v6 : KWkF1) (v11 : Int) (v12 : List KWkF2) (v13 : List ((List UInt8) × List UInt8)) (v14 : List UInt8) (v15 : List UInt8) (v16 : List UInt8) (v17 : List UInt8) (v18 : Int) (v19 : Int) (v20 : Int) (v21 : List KWkF0) (v22 : List (List UInt8)) (v23 : List KWkF1) : Option ((Int × (List KWkF2) × (List ((List UInt8) × List UInt8)) × (List UInt8) × (List UInt8) × (List UInt8) × (List UInt8) × Int × Int × Int × (List KWkF0) × (List (List UInt8)) × List KWkF1) ⊕ (((List KWkF2) × (List ((List UInt8) × List UInt8)) × (List UInt8) × (List UInt8) × (List UInt8) × (List UInt8) × Int × Int × Int × (List KWkF0) × (List (List UInt8)) × List KWkF1))) :=
 bif decide (v11 < (v6.2.2.2.2.2.2.2.length : Int)) then (Option.bind (idx v6.2.2.2.2.2.2.2 v11) fun v24 => Option.bind (o.itoa v24.2.2.2) fun v25 => Option.bind (app v22 ([v24.1, v24.2.1, v24.2.2.1, v25] : List (List UInt8))) fun v26 => some (.inl (w64 (v11 + (1 : Int)), v12, v13, v14, v15, v16, v17, v18, v19, v20, v21, v26, v23))) else some (.inr (v12, v13, v14, v15, v16, v17, v18, v19, v20, v21, v22, v23))
def login_Login_Rows_b1 (o : Ops) (v1 : ((List KWkF2) × List KWkF1)) (v2 : Int) (v3 : List KWkF2) (v4 : List ((List UInt8) × List UInt8)) (v5 : List KWkF1) : Option ((Int × (List KWkF2) × (List ((List UInt8) × List UInt8)) × List KWkF1) ⊕ (((List KWkF2) × List ((List UInt8) × List UInt8)))) :=
 bif decide (v2 < (v1.2.length : Int)) then (Option.bind (chk (decide ((0 : Int) ≤ v2) && decide (v2 < (v5.length : Int)))) fun _ => Option.bind (idx v5 v2) fun v6 => Option.bind (o.itoa v6.2.2.2.2.1) fun v7 => Option.bind (o.itoa v6.2.2.2.2.2.1) fun v8 => Option.bind (o.itoa v6.2.2.2.2.2.2.1) fun v9 => Option.bind (o.itoa (v6.2.2.2.2.2.2.2.length : Int)) fun v10 => Option.bind (iter (fun x => login_Login_Rows_b02 o v6 x.1 x.2.1 x.2.2.1 x.2.2.2.1 x.2.2.2.2.1 x.2.2.2.2.2.1 x.2.2.2.2.2.2.1 x.2.2.2.2.2.2.2.1 x.2.2.2.2.2.2.2.2.1 x.2.2.2.2.2.2.2.2.2.1 x.2.2.2.2.2.2.2.2.2.2.1 x.2.2.2.2.2.2.2.2.2.2.2.1 x.2.2.2.2.2.2.2.2.2.2.2.2) ((0 : Int), v3, v4, v6.1, v6.2.1, v6.2.2.1, v6.2.2.2.1, v6.2.2.2.2.1, v6.2.2.2.2.2.1, v6.2.2.2.2.2.2.1, v6.2.2.2.2.2.2.2, ([v6.2.1, v6.2.2.1, v6.2.2.2.1, v7, v8, v9, v10] : List (List UInt8)), v5)) fun v27 => Option.bind (app ([108, 111, 103, 105, 110, 47] : List UInt8) v27.2.2.1) fun v28 => Option.bind (o.form v27.2.2.2.2.2.2.2.2.2.2.1) fun v29 => Option.bind (app v27.2.1 ([(v28, v29)] : List ((List UInt8) × List UInt8))) fun v30 => some (.inl (w64 (v2 + (1 : Int)), v27.1, v30, v27.2.2.2.2.2.2.2.2.2.2.2))) else some (.inr (v3, v4))
def login_Login_Rows_s (o : Ops) (v0 : List KWkF2) : Option (((List ((List UInt8) × List UInt8)) × List KWkF2)) :=
 Option.bind (login_Login_All_s o v0) fun v1 => Option.bind (iter (fun x => login_Login_Rows_b1 o v1 x.1 x.2.1 x.2.2.1 x.2.2.2) ((0 : Int), v1.1, ([] : List ((List UInt8) × List UInt8)), v1.2)) fun v31 => some (v31.2, v31.1)
def login_Login_Rows_sc (o : Ops) : SC := ⟨⟨[(0, (.ptr 0 0))], [QWkF3, QWkF4]⟩, 1, [(none, ⟨[(0, (.hc (.pr .s .s)))], [QWkF3, QWkF4]⟩)], fun x => login_Login_Rows_s o x⟩
theorem login_Login_Rows_sk : SCok Tryz.prog tabs 15 (login_Login_Rows_sc o) := witO (G := tabs) (o := o) <| fn_sc (η := [(200007, .loop [] ⟨[(3, (.own 2)), (5, (.ptr 3 0)), (6, (.own 4)), (10, (.own 5)), (39, hI)], [QWkF3, QWkF4, .osl (.pr .s .s) 24, .blk 53 [hS, hS, hS, hS, hI, hI, hI, (.h (.sl YWkF0))], .osl .s 9, .osl YWkF1 53]⟩ [2, 11, 12, 37, 38] [(some 2, ⟨[(3, (.own 2)), (5, (.ptr 3 0)), (6, (.own 4)), (10, (.own 5))], [QWkF3, QWkF4, .osl (.pr .s .s) 24, .blk 53 [hS, hS, hS, hS, hI, hI, hI, (.h (.sl YWkF0))], .osl .s 9, .osl YWkF1 53]⟩)]),
 (200003, .loop [.sl 3 (.pr .s .s) 24] ⟨[(3, (.own 2)), (10, (.own 3)), (12, hI)], [QWkF3, QWkF4, .osl (.pr .s .s) 24, .osl YWkF1 53]⟩ [2, 11] [(some 0, ⟨[(3, (.own 2))], [QWkF3, QWkF4, .osl (.pr .s .s) 24]⟩)])]) (Γ := ⟨[(39, (oc_itoa o)), (40, (oc_form o)), (41, Clip_p2c)], [(14, (login_Login_All_sc o))], false⟩) mixWkF τ_okWkF (ctok ⟨(OpsOk.itoa (G := tabs)), ⟨(OpsOk.form (G := tabs)), ⟨Clip_p2k, trivial⟩⟩⟩ ⟨login_Login_All_sk, trivial⟩) Tryz.func15 (isFn Tryz.func15 (by kernel_rfl) (by kernel_rfl)) (by kernel_rfl) (by kernel_rfl) (by kernel_rfl)
def internal_stringslite_HasPrefix_p (o : Ops) (v0 : List UInt8) (v1 : List UInt8) : Option (Bool) :=
 bif decide ((v0.length : Int) ≥ (v1.length : Int)) then (Option.bind (subH v0 (v1.length : Int)) fun v2 => some (v2 == v1)) else (some false)
def internal_stringslite_HasPrefix_pc (o : Ops) : PC := ⟨[hS, hS], [.b], fun x => internal_stringslite_HasPrefix_p o x.1 x.2, false⟩
theorem internal_stringslite_HasPrefix_pk : PCok Tryz.prog tabs 129 (internal_stringslite_HasPrefix_pc o) := witO (G := tabs) (o := o) <| fn_pc (η := []) (Γ := ⟨[], [], false⟩) mixWkF τ_okWkF (ctok trivial trivial) Tryz.func129 (isFn Tryz.func129 (by kernel_rfl) (by kernel_rfl)) (by kernel_rfl) rfl (by kernel_rfl)
def internal_stringslite_CutPrefix_p (o : Ops) (v0 : List UInt8) (v1 : List UInt8) : Option ((List UInt8) × Bool) :=
 Option.bind (internal_stringslite_HasPrefix_p o v0 v1) fun v2 => bif (!v2) then (some (v0, false)) else (Option.bind (subL v0 (v1.length : Int)) fun v3 => some (v3, true))
def internal_stringslite_CutPrefix_pc (o : Ops) : PC := ⟨[hS, hS], [.s, .b], fun x => internal_stringslite_CutPrefix_p o x.1 x.2, false⟩
theorem internal_stringslite_CutPrefix_pk : PCok Tryz.prog tabs 105 (internal_stringslite_CutPrefix_pc o) := witO (G := tabs) (o := o) <| fn_pc (η := []) (Γ := ⟨[(129, (internal_stringslite_HasPrefix_pc o))], [], false⟩) mixWkF τ_okWkF (ctok ⟨internal_stringslite_HasPrefix_pk, trivial⟩ trivial) Tryz.func105 (isFn Tryz.func105 (by kernel_rfl) (by kernel_rfl)) (by kernel_rfl) rfl (by kernel_rfl)
def strings_CutPrefix_p (o : Ops) (v0 : List UInt8) (v1 : List UInt8) : Option ((List UInt8) × Bool) :=
 Option.bind (internal_stringslite_CutPrefix_p o v0 v1) fun v2 => some v2
def strings_CutPrefix_pc (o : Ops) : PC := ⟨[hS, hS], [.s, .b], fun x => strings_CutPrefix_p o x.1 x.2, false⟩
theorem strings_CutPrefix_pk : PCok Tryz.prog tabs 76 (strings_CutPrefix_pc o) := witO (G := tabs) (o := o) <| fn_pc (η := []) (Γ := ⟨[(105, (internal_stringslite_CutPrefix_pc o))], [], false⟩) mixWkF τ_okWkF (ctok ⟨internal_stringslite_CutPrefix_pk, trivial⟩ trivial) Tryz.func76 (isFn Tryz.func76 (by kernel_rfl) (by kernel_rfl)) (by kernel_rfl) rfl (by kernel_rfl)
def people_number_j0 (o : Ops) (v0 : List UInt8) : Option ((Int × Bool) ⊕ Unit) :=
 bif (v0 == ([] : List UInt8)) then some (.inl ((0 : Int), false)) else (bif decide ((v0.length : Int) > (15 : Int)) then some (.inl ((0 : Int), false)) else (Option.bind (idx v0 (0 : Int)) fun v1 => bif ((v1.toNat : Int) == ((48 : UInt8).toNat : Int)) then (bif (v0 != ([48] : List UInt8)) then some (.inl ((0 : Int), false)) else (Option.bind (o.trim v0 ([48, 49, 50, 51, 52, 53, 54, 55, 56, 57] : List UInt8)) fun v2 => bif (v2 != ([] : List UInt8)) then some (.inl ((0 : Int), false)) else some (.inr ()))) else (Option.bind (o.trim v0 ([48, 49, 50, 51, 52, 53, 54, 55, 56, 57] : List UInt8)) fun v3 => bif (v3 != ([] : List UInt8)) then some (.inl ((0 : Int), false)) else some (.inr ()))))
def people_number_p (o : Ops) (v0 : List UInt8) : Option (Int × Bool) :=
 Option.bind (people_number_j0 o v0) fun v4 => match v4 with
 | .inl v5 => (some v5)
 | .inr v6 => (Option.bind (o.atoi v0) fun v7 => some (v7.1, (!v7.2)))
def people_number_pc (o : Ops) : PC := ⟨[hS], [(.i .i64), .b], fun x => people_number_p o x, false⟩
theorem people_number_pk : PCok Tryz.prog tabs 107 (people_number_pc o) := witO (G := tabs) (o := o) <| fn_pc (η := [(2000003, .join [] [0] [(some 1000000, ⟨[(2, hI), (3, hB)], []⟩), (none, ⟨[], []⟩)])]) (Γ := ⟨[(109, (oc_trim o)), (110, (oc_atoi o))], [], false⟩) mixWkF τ_okWkF (ctok ⟨(OpsOk.trim (G := tabs)), ⟨(OpsOk.atoi (G := tabs)), trivial⟩⟩ trivial) Tryz.func107 (isFn Tryz.func107 (by kernel_rfl) (by kernel_rfl)) (by kernel_rfl) rfl (by kernel_rfl)
def Clip_p3c : PC := ⟨[.h (.sl .s)], [(.sl .s)], fun xs => some xs, true⟩
theorem Clip_p3k : PCok Tryz.prog tabs 108 Clip_p3c := wit (G := tabs) <| clip_pc mixWkF τ_okWkF Tryz.func108 (isFn Tryz.func108 (by kernel_rfl) (by kernel_rfl)) rfl (by kernel_rfl) (fun _ => by kernel_rfl)
def people_Texts_j04 (o : Ops) (v2 : List (List UInt8)) (v3 : (List UInt8) × (List UInt8) × Bool) (v4 : Int × Bool) : Option (Bool ⊕ List (List UInt8)) :=
 bif (!v3.2.2) then some (.inl false) else (bif (!v4.2) then some (.inl false) else (bif decide (v4.1 > (v3.2.1.length : Int)) then some (.inl false) else some (.inr v2)))
def people_Texts_b12 (o : Ops) (v1 : List UInt8) (v2 : List (List UInt8)) : Option (((List UInt8) × List (List UInt8)) ⊕ (Bool ⊕ List (List UInt8))) :=
 bif (v1 != ([] : List UInt8)) then (Option.bind (o.cut v1 ([58] : List UInt8)) fun v3 => Option.bind (people_number_p o v3.1) fun v4 => Option.bind (people_Texts_j04 o v2 v3 v4) fun v5 => match v5 with
 | .inl v6 => some (.inr (.inl v6))
 | .inr v7 => (Option.bind (subH v3.2.1 v4.1) fun v8 => Option.bind (app v7 ([v8] : List (List UInt8))) fun v9 => Option.bind (subL v3.2.1 v4.1) fun v10 => some (.inl (v10, v9)))) else some (.inr (.inr v2))
def people_Texts_s (o : Ops) (v0 : List UInt8) : Option (((List (List UInt8)) × Bool)) :=
 Option.bind (iter (fun x => people_Texts_b12 o x.1 x.2) (v0, ([] : List (List UInt8)))) fun v11 => match v11 with
 | .inl v12 => some (([] : List (List UInt8)), v12)
 | .inr v13 => some (v13, true)
def people_Texts_sc (o : Ops) : SC := ⟨⟨[(0, hS)], []⟩, 2, [(none, ⟨[(0, (.h (.sl .s))), (1, hB)], []⟩)], fun x => people_Texts_s o x⟩
theorem people_Texts_sk : SCok Tryz.prog tabs 77 (people_Texts_sc o) := witO (G := tabs) (o := o) <| fn_sc (η := [(2000007, .join [] [6, 8] [(some 1000000, ⟨[(2, .nils), (3, hB)], []⟩), (none, ⟨[(4, (.own 0))], [.osl .s 9]⟩)]),
 (200002, .loop [.sl 4 .s 9] ⟨[(0, hS), (4, (.own 0))], [.osl .s 9]⟩ [] [(some 1000000, ⟨[(2, .nils), (3, hB)], []⟩), (some 0, ⟨[(4, (.own 0))], [.osl .s 9]⟩)])]) (Γ := ⟨[(106, (oc_cut o)), (107, (people_number_pc o)), (108, Clip_p3c)], [], false⟩) mixWkF τ_okWkF (ctok ⟨(OpsOk.cut (G := tabs)), ⟨people_number_pk, ⟨Clip_p3k, trivial⟩⟩⟩ trivial) Tryz.func77 (isFn Tryz.func77 (by kernel_rfl) (by kernel_rfl)) (by kernel_rfl) (by kernel_rfl) (by kernel_rfl)
def login_number_j0 (o : Ops) (v0 : List UInt8) : Option (Int ⊕ Unit) :=
 bif (v0 == ([] : List UInt8)) then some (.inl (-1 : Int)) else (bif decide ((v0.length : Int) > (15 : Int)) then some (.inl (-1 : Int)) else (Option.bind (idx v0 (0 : Int)) fun v2 => bif ((v2.toNat : Int) == ((48 : UInt8).toNat : Int)) then (bif (v0 != ([48] : List UInt8)) then some (.inl (-1 : Int)) else (Option.bind (o.trim v0 ([48, 49, 50, 51, 52, 53, 54, 55, 56, 57] : List UInt8)) fun v3 => bif (v3 != ([] : List UInt8)) then some (.inl (-1 : Int)) else some (.inr ()))) else (Option.bind (o.trim v0 ([48, 49, 50, 51, 52, 53, 54, 55, 56, 57] : List UInt8)) fun v4 => bif (v4 != ([] : List UInt8)) then some (.inl (-1 : Int)) else some (.inr ()))))
def login_number_p (o : Ops) (v0 : List UInt8) (v1 : Int) : Option (Int) :=
 Option.bind (login_number_j0 o v0) fun v5 => match v5 with
 | .inl v6 => (some v6)
 | .inr v7 => (Option.bind (o.atoi v0) fun v8 => bif decide (v8.1 > v1) then (some (-1 : Int)) else (some v8.1))
def login_number_pc (o : Ops) : PC := ⟨[hS, hI], [(.i .i64)], fun x => login_number_p o x.1 x.2, false⟩
theorem login_number_pk : PCok Tryz.prog tabs 78 (login_number_pc o) := witO (G := tabs) (o := o) <| fn_pc (η := [(2000003, .join [] [0, 1] [(some 1000000, ⟨[(4, hI)], []⟩), (none, ⟨[], []⟩)])]) (Γ := ⟨[(109, (oc_trim o)), (110, (oc_atoi o))], [], false⟩) mixWkF τ_okWkF (ctok ⟨(OpsOk.trim (G := tabs)), ⟨(OpsOk.atoi (G := tabs)), trivial⟩⟩ trivial) Tryz.func78 (isFn Tryz.func78 (by kernel_rfl) (by kernel_rfl)) (by kernel_rfl) rfl (by kernel_rfl)
def login_may_p (o : Ops) (v0 : KWkF0) : Option (Bool) :=
 Option.bind (login_in_p o (v0.1.length : Int) (1 : Int) (86 : Int)) fun v1 => bif v1 then (bif ((v0.2.1.length : Int) == (32 : Int)) then (bif ((v0.2.2.1.length : Int) == (32 : Int)) then (Option.bind (login_in_p o v0.2.2.2 (0 : Int) (4294967295 : Int)) fun v2 => some v2) else (some false)) else (some false)) else (some false)
def login_may_pc (o : Ops) : PC := ⟨[(.h YWkF0)], [.b], fun x => login_may_p o x, false⟩
theorem login_may_pk : PCok Tryz.prog tabs 57 (login_may_pc o) := witO (G := tabs) (o := o) <| fn_pc (η := []) (Γ := ⟨[(43, (login_in_pc o))], [], false⟩) mixWkF τ_okWkF (ctok ⟨login_in_pk, trivial⟩ trivial) Tryz.func57 (isFn Tryz.func57 (by kernel_rfl) (by kernel_rfl)) (by kernel_rfl) rfl (by kernel_rfl)
def login_at_1_s (o : Ops) (v0 : KWkF0) (v1 : List UInt8) : Option ((Bool × List UInt8)) :=
 some ((v0.1 == v1), v1)
def login_at_1_sc (o : Ops) : SC := ⟨⟨[(0, (.h YWkF0)), (1, (.ptr 0 0))], [.blk 9 [hS]]⟩, 1, [(none, ⟨[(0, hB)], [.blk 9 [hS]]⟩)], fun x => login_at_1_s o x.1 x.2⟩
theorem login_at_1_sk : SCok Tryz.prog tabs 100 (login_at_1_sc o) := witO (G := tabs) (o := o) <| fn_sc (η := []) (Γ := ⟨[], [], false⟩) mixWkF τ_okWkF (ctok trivial trivial) Tryz.func100 (isFn Tryz.func100 (by kernel_rfl) (by kernel_rfl)) (by kernel_rfl) (by kernel_rfl) (by kernel_rfl)
def slices_IndexFunc_b0 (o : Ops) (v0 : List KWkF0) (v2 : Int) (v3 : List UInt8) : Option ((Int × List UInt8) ⊕ ((Int × List UInt8) ⊕ List UInt8)) :=
 bif decide (v2 < (v0.length : Int)) then (Option.bind (idx v0 v2) fun v4 => Option.bind (login_at_1_s o v4 v3) fun v5 => bif v5.1 then some (.inr (.inl (v2, v5.2))) else some (.inl (w64 (v2 + (1 : Int)), v5.2))) else some (.inr (.inr v3))
def slices_IndexFunc_s (o : Ops) (v0 : List KWkF0) (v1 : List UInt8) : Option ((Int × List UInt8)) :=
 Option.bind (iter (fun x => slices_IndexFunc_b0 o v0 x.1 x.2) ((0 : Int), v1)) fun v6 => match v6 with
 | .inl v7 => some v7
 | .inr v8 => some ((-1 : Int), v8)
def slices_IndexFunc_sc (o : Ops) : SC := ⟨⟨[(0, (.h (.sl YWkF0))), (1, (.fn 100 [] [(.ptr 0 0)]))], [.blk 9 [hS]]⟩, 1, [(none, ⟨[(0, hI)], [.blk 9 [hS]]⟩)], fun x => slices_IndexFunc_s o x.1 x.2⟩
theorem slices_IndexFunc_sk : SCok Tryz.prog tabs 99 (slices_IndexFunc_sc o) := witO (G := tabs) (o := o) <| fn_sc (η := [(200002, .loop [] ⟨[(1, (.fn 100 [] [(.ptr 0 0)])), (8, hI)], [.blk 9 [hS]]⟩ [0, 7] [(some 1000000, ⟨[(4, hI)], [.blk 9 [hS]]⟩), (some 0, ⟨[], [.blk 9 [hS]]⟩)])]) (Γ := ⟨[], [(100, (login_at_1_sc o))], false⟩) mixWkF τ_okWkF (ctok trivial ⟨login_at_1_sk, trivial⟩) Tryz.func99 (isFn Tryz.func99 (by kernel_rfl) (by kernel_rfl)) (by kernel_rfl) (by kernel_rfl) (by kernel_rfl)
def login_at_p (o : Ops) (v0 : List KWkF0) (v1 : List UInt8) : Option (Int) :=
 Option.bind (slices_IndexFunc_s o v0 v1) fun v2 => some v2.1
def login_at_pc (o : Ops) : PC := ⟨[(.h (.sl YWkF0)), hS], [(.i .i64)], fun x => login_at_p o x.1 x.2, false⟩
theorem login_at_pk : PCok Tryz.prog tabs 58 (login_at_pc o) := witO (G := tabs) (o := o) <| fn_pc (η := []) (Γ := ⟨[], [(99, (slices_IndexFunc_sc o))], false⟩) mixWkF τ_okWkF (ctok trivial ⟨slices_IndexFunc_sk, trivial⟩) Tryz.func58 (isFn Tryz.func58 (by kernel_rfl) (by kernel_rfl)) (by kernel_rfl) rfl (by kernel_rfl)
def login_read_j0 (o : Ops) (v1 : (List UInt8) × Bool) (v2 : ((List (List UInt8)) × Bool)) : Option ((Bool × (List UInt8) × (List UInt8) × (List UInt8) × (List UInt8) × Int × Int × Int) ⊕ ((List UInt8) × (List UInt8) × (List UInt8) × (List UInt8) × Int × Int × Int)) :=
 bif (!v1.2) then some (.inl (false, ([] : List UInt8), ([] : List UInt8), ([] : List UInt8), ([] : List UInt8), (0 : Int), (0 : Int), (0 : Int))) else (bif (!v2.2) then some (.inl (false, ([] : List UInt8), ([] : List UInt8), ([] : List UInt8), ([] : List UInt8), (0 : Int), (0 : Int), (0 : Int))) else (bif decide ((v2.1.length : Int) < (7 : Int)) then some (.inl (false, ([] : List UInt8), ([] : List UInt8), ([] : List UInt8), ([] : List UInt8), (0 : Int), (0 : Int), (0 : Int))) else (Option.bind (people_Name_p o v1.1) fun v3 => bif (!v3) then some (.inl (false, ([] : List UInt8), ([] : List UInt8), ([] : List UInt8), ([] : List UInt8), (0 : Int), (0 : Int), (0 : Int))) else some (.inr (([] : List UInt8), ([] : List UInt8), ([] : List UInt8), ([] : List UInt8), (0 : Int), (0 : Int), (0 : Int))))))
def login_read_j1 (o : Ops) (v1 : (List UInt8) × Bool) (v6 : (List UInt8) × (List UInt8) × (List UInt8) × (List UInt8) × Int × Int × Int) (v7 : List UInt8) (v8 : List UInt8) (v9 : List UInt8) (v11 : Int) (v13 : Int) (v15 : Int) (v17 : Int) (v18 : List (List UInt8)) : Option ((Bool × (List UInt8) × (List UInt8) × (List UInt8) × (List UInt8) × Int × Int × Int) ⊕ ((List UInt8) × (List UInt8) × (List UInt8) × (List UInt8) × Int × Int × Int × (List UInt8) × (List UInt8) × (List UInt8) × (List UInt8) × Int × Int × Int)) :=
 bif decide (v11 < (0 : Int)) then some (.inl (false, ([] : List UInt8), ([] : List UInt8), ([] : List UInt8), ([] : List UInt8), (0 : Int), (0 : Int), (0 : Int))) else (bif decide (v13 < (0 : Int)) then some (.inl (false, ([] : List UInt8), ([] : List UInt8), ([] : List UInt8), ([] : List UInt8), (0 : Int), (0 : Int), (0 : Int))) else (bif decide (v15 < (0 : Int)) then some (.inl (false, ([] : List UInt8), ([] : List UInt8), ([] : List UInt8), ([] : List UInt8), (0 : Int), (0 : Int), (0 : Int))) else (bif decide (v17 < (0 : Int)) then some (.inl (false, ([] : List UInt8), ([] : List UInt8), ([] : List UInt8), ([] : List UInt8), (0 : Int), (0 : Int), (0 : Int))) else (bif ((v18.length : Int) != (w64 ((4 : Int) * v17))) then some (.inl (false, ([] : List UInt8), ([] : List UInt8), ([] : List UInt8), ([] : List UInt8), (0 : Int), (0 : Int), (0 : Int))) else (bif ((v7.length : Int) != (16 : Int)) then some (.inl (false, ([] : List UInt8), ([] : List UInt8), ([] : List UInt8), ([] : List UInt8), (0 : Int), (0 : Int), (0 : Int))) else (bif ((v8.length : Int) != (32 : Int)) then some (.inl (false, ([] : List UInt8), ([] : List UInt8), ([] : List UInt8), ([] : List UInt8), (0 : Int), (0 : Int), (0 : Int))) else some (.inr (v6.1, v6.2.1, v6.2.2.1, v6.2.2.2.1, v6.2.2.2.2.1, v6.2.2.2.2.2.1, v6.2.2.2.2.2.2, v1.1, v7, v8, v9, v11, v13, v15))))))))
def login_read_j22 (o : Ops) (v23 : List UInt8) (v24 : List UInt8) (v25 : List UInt8) (v26 : List UInt8) (v27 : Int) (v28 : Int) (v29 : Int) (v30 : List UInt8) (v31 : List UInt8) (v32 : List UInt8) (v33 : List UInt8) (v34 : Int) (v35 : Int) (v36 : Int) (v37 : List KWkF0) (v38 : List UInt8) (v39 : List UInt8) (v40 : List UInt8) (v42 : Int) : Option ((Bool × (List UInt8) × (List UInt8) × (List UInt8) × (List UInt8) × Int × Int × Int) ⊕ ((List UInt8) × (List UInt8) × (List UInt8) × (List UInt8) × Int × Int × Int × (List UInt8) × (List UInt8) × (List UInt8) × (List UInt8) × Int × Int × Int × (List UInt8) × (List UInt8) × (List UInt8) × Int × List KWkF0)) :=
 Option.bind (login_may_p o (v38, v39, v40, v42)) fun v43 => bif (!v43) then some (.inl (false, ([] : List UInt8), ([] : List UInt8), ([] : List UInt8), ([] : List UInt8), (0 : Int), (0 : Int), (0 : Int))) else (Option.bind (login_at_p o v37 v38) fun v44 => bif decide (v44 ≥ (0 : Int)) then some (.inl (false, ([] : List UInt8), ([] : List UInt8), ([] : List UInt8), ([] : List UInt8), (0 : Int), (0 : Int), (0 : Int))) else some (.inr (v23, v24, v25, v26, v27, v28, v29, v30, v31, v32, v33, v34, v35, v36, v38, v39, v40, v42, v37)))
def login_read_b3 (o : Ops) (v22 : List (List UInt8)) (v23 : List UInt8) (v24 : List UInt8) (v25 : List UInt8) (v26 : List UInt8) (v27 : Int) (v28 : Int) (v29 : Int) (v30 : List UInt8) (v31 : List UInt8) (v32 : List UInt8) (v33 : List UInt8) (v34 : Int) (v35 : Int) (v36 : Int) (v37 : List KWkF0) : Option (((List (List UInt8)) × (List UInt8) × (List UInt8) × (List UInt8) × (List UInt8) × Int × Int × Int × KWkF1) ⊕ ((Bool × (List UInt8) × (List UInt8) × (List UInt8) × (List UInt8) × Int × Int × Int) ⊕ ((List UInt8) × (List UInt8) × (List UInt8) × (List UInt8) × Int × Int × Int × KWkF1))) :=
 bif decide ((v22.length : Int) > (0 : Int)) then (Option.bind (idx v22 (0 : Int)) fun v38 => Option.bind (idx v22 (1 : Int)) fun v39 => Option.bind (idx v22 (2 : Int)) fun v40 => Option.bind (idx v22 (3 : Int)) fun v41 => Option.bind (login_number_p o v41 (4294967295 : Int)) fun v42 => Option.bind (login_read_j22 o v23 v24 v25 v26 v27 v28 v29 v30 v31 v32 v33 v34 v35 v36 v37 v38 v39 v40 v42) fun v45 => match v45 with
 | .inl v46 => some (.inr (.inl v46))
 | .inr v47 => (Option.bind (app v47.2.2.2.2.2.2.2.2.2.2.2.2.2.2.2.2.2.2 ([(v47.2.2.2.2.2.2.2.2.2.2.2.2.2.2.1, v47.2.2.2.2.2.2.2.2.2.2.2.2.2.2.2.1, v47.2.2.2.2.2.2.2.2.2.2.2.2.2.2.2.2.1, v47.2.2.2.2.2.2.2.2.2.2.2.2.2.2.2.2.2.1)] : List KWkF0)) fun v48 => Option.bind (subL v22 (4 : Int)) fun v49 => some (.inl (v49, v47.1, v47.2.1, v47.2.2.1, v47.2.2.2.1, v47.2.2.2.2.1, v47.2.2.2.2.2.1, v47.2.2.2.2.2.2.1, v47.2.2.2.2.2.2.2.1, v47.2.2.2.2.2.2.2.2.1, v47.2.2.2.2.2.2.2.2.2.1, v47.2.2.2.2.2.2.2.2.2.2.1, v47.2.2.2.2.2.2.2.2.2.2.2.1, v47.2.2.2.2.2.2.2.2.2.2.2.2.1, v47.2.2.2.2.2.2.2.2.2.2.2.2.2.1, v48)))) else some (.inr (.inr (v23, v24, v25, v26, v27, v28, v29, v30, v31, v32, v33, v34, v35, v36, v37)))
def login_read_p (o : Ops) (v0 : (List UInt8) × List UInt8) : Option (KWkF1 × Bool) :=
 Option.bind (strings_CutPrefix_p o v0.1 ([108, 111, 103, 105, 110, 47] : List UInt8)) fun v1 => Option.bind (people_Texts_s o v0.2) fun v2 => Option.bind (login_read_j0 o v1 v2) fun v4 => match v4 with
 | .inl v5 => (some ((v5.2.1, v5.2.2.1, v5.2.2.2.1, v5.2.2.2.2.1, v5.2.2.2.2.2.1, v5.2.2.2.2.2.2.1, v5.2.2.2.2.2.2.2, ([] : List KWkF0)), v5.1))
 | .inr v6 => (Option.bind (idx v2.1 (0 : Int)) fun v7 => Option.bind (idx v2.1 (1 : Int)) fun v8 => Option.bind (idx v2.1 (2 : Int)) fun v9 => Option.bind (idx v2.1 (3 : Int)) fun v10 => Option.bind (login_number_p o v10 (2199023255552 : Int)) fun v11 => Option.bind (idx v2.1 (4 : Int)) fun v12 => Option.bind (login_number_p o v12 (4 : Int)) fun v13 => Option.bind (idx v2.1 (5 : Int)) fun v14 => Option.bind (login_number_p o v14 (2199023255552 : Int)) fun v15 => Option.bind (idx v2.1 (6 : Int)) fun v16 => Option.bind (login_number_p o v16 (4 : Int)) fun v17 => Option.bind (subL v2.1 (7 : Int)) fun v18 => Option.bind (login_read_j1 o v1 v6 v7 v8 v9 v11 v13 v15 v17 v18) fun v19 => match v19 with
 | .inl v20 => (some ((v20.2.1, v20.2.2.1, v20.2.2.2.1, v20.2.2.2.2.1, v20.2.2.2.2.2.1, v20.2.2.2.2.2.2.1, v20.2.2.2.2.2.2.2, ([] : List KWkF0)), v20.1))
 | .inr v21 => (Option.bind (iter (fun x => login_read_b3 o x.1 x.2.1 x.2.2.1 x.2.2.2.1 x.2.2.2.2.1 x.2.2.2.2.2.1 x.2.2.2.2.2.2.1 x.2.2.2.2.2.2.2.1 x.2.2.2.2.2.2.2.2.1 x.2.2.2.2.2.2.2.2.2.1 x.2.2.2.2.2.2.2.2.2.2.1 x.2.2.2.2.2.2.2.2.2.2.2.1 x.2.2.2.2.2.2.2.2.2.2.2.2.1 x.2.2.2.2.2.2.2.2.2.2.2.2.2.1 x.2.2.2.2.2.2.2.2.2.2.2.2.2.2.1 x.2.2.2.2.2.2.2.2.2.2.2.2.2.2.2) (v18, v21.1, v21.2.1, v21.2.2.1, v21.2.2.2.1, v21.2.2.2.2.1, v21.2.2.2.2.2.1, v21.2.2.2.2.2.2.1, v21.2.2.2.2.2.2.2.1, v21.2.2.2.2.2.2.2.2.1, v21.2.2.2.2.2.2.2.2.2.1, v21.2.2.2.2.2.2.2.2.2.2.1, v21.2.2.2.2.2.2.2.2.2.2.2.1, v21.2.2.2.2.2.2.2.2.2.2.2.2.1, v21.2.2.2.2.2.2.2.2.2.2.2.2.2, ([] : List KWkF0))) fun v50 => match v50 with
 | .inl v51 => (some ((v51.2.1, v51.2.2.1, v51.2.2.2.1, v51.2.2.2.2.1, v51.2.2.2.2.2.1, v51.2.2.2.2.2.2.1, v51.2.2.2.2.2.2.2, ([] : List KWkF0)), v51.1))
 | .inr v52 => (bif (v52.2.2.2.2.2.2.2.2.2.2.1 == ([] : List UInt8)) then (some (v52.2.2.2.2.2.2.2, true)) else (Option.bind (login_in_p o (v52.2.2.2.2.2.2.2.2.2.2.1.length : Int) (16 : Int) (64 : Int)) fun v53 => some (v52.2.2.2.2.2.2.2, v53)))))
def login_read_pc (o : Ops) : PC := ⟨[(.h (.pr .s .s))], [YWkF1, .b], fun x => login_read_p o x, false⟩
theorem login_read_pk : PCok Tryz.prog tabs 34 (login_read_pc o) := witO (G := tabs) (o := o) <| fn_pc (η := [(2000005, .join [] [4, 6] [(some 1000000, ⟨[(2, (.ptr 0 0)), (3, hB)], [QWkF1]⟩), (none, ⟨[(2, (.ptr 0 0))], [QWkF1]⟩)]),
 (2100000, .join [] [6] [(some 1000000, ⟨[(2, (.ptr 0 0)), (3, hB)], [QWkF1]⟩), (none, ⟨[(2, (.ptr 0 0)), (8, (.ptr 1 0))], [QWkF1, .blk 53 [hS, hS, hS, hS, hI, hI, hI, .nils]]⟩)]),
 (2000015, .join [] [6] [(some 1000000, ⟨[(2, (.ptr 0 0)), (3, hB)], [QWkF1]⟩), (none, ⟨[(2, (.ptr 0 0)), (8, (.ptr 1 0)), (10, (.ptr 2 0))], [QWkF1, .blk 53 [hS, hS, hS, hS, hI, hI, hI, (.own 3)], QWkF2, .osl YWkF0 58]⟩)]),
 (200010, .loop [.cell 8 7 YWkF0 58] ⟨[(2, (.ptr 0 0)), (6, (.h (.sl .s))), (8, (.ptr 1 0))], [QWkF1, .blk 53 [hS, hS, hS, hS, hI, hI, hI, (.own 2)], .osl YWkF0 58]⟩ [] [(some 1000000, ⟨[(2, (.ptr 0 0)), (3, hB)], [QWkF1]⟩), (some 0, ⟨[(2, (.ptr 0 0)), (8, (.ptr 1 0))], [QWkF1, .blk 53 [hS, hS, hS, hS, hI, hI, hI, (.own 2)], .osl YWkF0 58]⟩)]),
 (3000005, .rega 23),
 (3000012, .rega 14)]) (Γ := ⟨[(76, (strings_CutPrefix_pc o)), (42, (people_Name_pc o)), (78, (login_number_pc o)), (57, (login_may_pc o)), (58, (login_at_pc o)), (43, (login_in_pc o))], [(77, (people_Texts_sc o))], false⟩) mixWkF τ_okWkF (ctok ⟨strings_CutPrefix_pk, ⟨people_Name_pk, ⟨login_number_pk, ⟨login_may_pk, ⟨login_at_pk, ⟨login_in_pk, trivial⟩⟩⟩⟩⟩⟩ ⟨people_Texts_sk, trivial⟩) Tryz.func34 (isFn Tryz.func34 (by kernel_rfl) (by kernel_rfl)) (by kernel_rfl) rfl (by kernel_rfl)
def login_Load_j0 (o : Ops) (v0 : List ((List UInt8) × List UInt8)) (v2 : Int) (v3 : List KWkF2) (v4 : (List UInt8) × List UInt8) (v5 : KWkF1 × Bool) : Option (Int ⊕ ((List UInt8) × (List UInt8) × (List UInt8) × (List UInt8) × Int × Int × Int × (List KWkF0) × List KWkF2)) :=
 bif (!v5.2) then some (.inl (155 : Int)) else (bif decide (v2 > (0 : Int)) then (Option.bind (idx v0 (w64 (v2 - (1 : Int)))) fun v6 => bif (Op.bytesLess v4.1 v6.1 || v4.1 == v6.1) then some (.inl (155 : Int)) else some (.inr (v5.1.1, v5.1.2.1, v5.1.2.2.1, v5.1.2.2.2.1, v5.1.2.2.2.2.1, v5.1.2.2.2.2.2.1, v5.1.2.2.2.2.2.2.1, v5.1.2.2.2.2.2.2.2, v3))) else some (.inr (v5.1.1, v5.1.2.1, v5.1.2.2.1, v5.1.2.2.2.1, v5.1.2.2.2.2.1, v5.1.2.2.2.2.2.1, v5.1.2.2.2.2.2.2.1, v5.1.2.2.2.2.2.2.2, v3)))
def login_Load_b1 (o : Ops) (v0 : List ((List UInt8) × List UInt8)) (v2 : Int) (v3 : List KWkF2) : Option ((Int × List KWkF2) ⊕ (Int ⊕ (List KWkF2))) :=
 bif decide (v2 < (v0.length : Int)) then (Option.bind (idx v0 v2) fun v4 => Option.bind (login_read_p o v4) fun v5 => Option.bind (login_Load_j0 o v0 v2 v3 v4 v5) fun v7 => match v7 with
 | .inl v8 => some (.inr (.inl v8))
 | .inr v9 => (let v10 : List KWkF2 := mset keqS kltS v9.2.2.2.2.2.2.2.2 v9.1 (v9.1, v9.2.1, v9.2.2.1, v9.2.2.2.1, v9.2.2.2.2.1, v9.2.2.2.2.2.1, v9.2.2.2.2.2.2.1, v9.2.2.2.2.2.2.2.1)
 some (.inl (w64 (v2 + (1 : Int)), v10)))) else some (.inr (.inr v3))
def login_Load_s (o : Ops) (v0 : List ((List UInt8) × List UInt8)) : Option (Int ⊕ (Int × List KWkF2)) :=
 Option.bind (login_New_s o) fun v1 => Option.bind (iter (fun x => login_Load_b1 o v0 x.1 x.2) ((0 : Int), v1)) fun v11 => match v11 with
 | .inl v12 => some (.inl v12)
 | .inr v13 => (bif decide ((v0.length : Int) > (64 : Int)) then some (.inl (155 : Int)) else some (.inr ((0 : Int), v13)))
def login_Load_sc (o : Ops) : SC := ⟨⟨[(0, (.h (.sl (.pr .s .s))))], []⟩, 2, [(none, ⟨[(0, .nilp), (1, hI)], []⟩), (none, ⟨[(0, (.ptr 0 0)), (1, hI)], [QWkF3, QWkF4]⟩)], fun x => login_Load_s o x⟩
theorem login_Load_sk : SCok Tryz.prog tabs 9 (login_Load_sc o) := witO (G := tabs) (o := o) <| fn_sc (η := [(2000008, .join [] [0, 10, 11, 12] [(some 1000000, ⟨[(2, .nilp), (3, hI)], []⟩), (none, ⟨[(4, (.ptr 0 0)), (7, (.ptr 1 0))], [QWkF6, QWkF0, QWkF4]⟩)]),
 (200003, .loop [] ⟨[(4, (.ptr 0 0)), (12, hI)], [QWkF3, QWkF4]⟩ [0, 10, 11] [(some 1000000, ⟨[(2, .nilp), (3, hI)], []⟩), (some 0, ⟨[(4, (.ptr 0 0))], [QWkF3, QWkF4]⟩)])]) (Γ := ⟨[(34, (login_read_pc o))], [(16, (login_New_sc o))], false⟩) mixWkF τ_okWkF (ctok ⟨login_read_pk, trivial⟩ ⟨login_New_sk, trivial⟩) Tryz.func9 (isFn Tryz.func9 (by kernel_rfl) (by kernel_rfl)) (by kernel_rfl) (by kernel_rfl) (by kernel_rfl)
def login_Login_AddKey_1_j0 (o : Ops) (v0 : List UInt8) (v1 : List UInt8) (v2 : List UInt8) (v3 : List UInt8) (v4 : Int) (v5 : Int) (v6 : Int) (v7 : List KWkF0) (v8 : List UInt8) (v9 : List UInt8) (v10 : List UInt8) (v11 : Int) : Option ((Int × (List UInt8) × (List UInt8) × (List UInt8) × (List UInt8) × Int × Int × Int × (List KWkF0) × KWkF0) ⊕ ((List UInt8) × (List UInt8) × (List UInt8) × (List UInt8) × Int × Int × Int × (List KWkF0) × KWkF0)) :=
 Option.bind (login_may_p o (v8, v9, v10, v11)) fun v12 => bif (!v12) then some (.inl ((155 : Int), v0, v1, v2, v3, v4, v5, v6, v7, v8, v9, v10, v11)) else (Option.bind (login_at_p o v7 v8) fun v13 => bif decide (v13 ≥ (0 : Int)) then some (.inl ((155 : Int), v0, v1, v2, v3, v4, v5, v6, v7, v8, v9, v10, v11)) else some (.inr (v0, v1, v2, v3, v4, v5, v6, v7, v8, v9, v10, v11)))
def login_Login_AddKey_1_s (o : Ops) (v0 : List UInt8) (v1 : List UInt8) (v2 : List UInt8) (v3 : List UInt8) (v4 : Int) (v5 : Int) (v6 : Int) (v7 : List KWkF0) (v8 : List UInt8) (v9 : List UInt8) (v10 : List UInt8) (v11 : Int) : Option ((Int × (List UInt8) × (List UInt8) × (List UInt8) × (List UInt8) × Int × Int × Int × (List KWkF0) × KWkF0)) :=
 Option.bind (login_Login_AddKey_1_j0 o v0 v1 v2 v3 v4 v5 v6 v7 v8 v9 v10 v11) fun v14 => match v14 with
 | .inl v15 => some v15
 | .inr v16 => (bif decide ((v16.2.2.2.2.2.2.2.1.length : Int) ≥ (4 : Int)) then some ((156 : Int), v16) else (Option.bind (app v16.2.2.2.2.2.2.2.1 ([v16.2.2.2.2.2.2.2.2] : List KWkF0)) fun v17 => some ((0 : Int), v16.1, v16.2.1, v16.2.2.1, v16.2.2.2.1, v16.2.2.2.2.1, v16.2.2.2.2.2.1, v16.2.2.2.2.2.2.1, v17, v16.2.2.2.2.2.2.2.2)))
def login_Login_AddKey_1_sc (o : Ops) : SC := ⟨⟨[(0, (.ptr 0 0)), (1, (.ptr 1 0))], [QWkF0, QWkF2]⟩, 1, [(none, ⟨[(0, hI)], [QWkF0, QWkF2]⟩)], fun x => login_Login_AddKey_1_s o x.1 x.2.1 x.2.2.1 x.2.2.2.1 x.2.2.2.2.1 x.2.2.2.2.2.1 x.2.2.2.2.2.2.1 x.2.2.2.2.2.2.2.1 x.2.2.2.2.2.2.2.2.1 x.2.2.2.2.2.2.2.2.2.1 x.2.2.2.2.2.2.2.2.2.2.1 x.2.2.2.2.2.2.2.2.2.2.2⟩
theorem login_Login_AddKey_1_sk : SCok Tryz.prog tabs 56 (login_Login_AddKey_1_sc o) := witO (G := tabs) (o := o) <| fn_sc (η := [(2000003, .join [] [] [(some 1000000, ⟨[(3, hI)], [QWkF0, QWkF2]⟩), (none, ⟨[(0, (.ptr 0 0)), (1, (.ptr 1 0))], [QWkF0, QWkF2]⟩)]),
 (3000005, .regn 9)]) (Γ := ⟨[(57, (login_may_pc o)), (58, (login_at_pc o)), (59, Clip_pc)], [], false⟩) mixWkF τ_okWkF (ctok ⟨login_may_pk, ⟨login_at_pk, ⟨Clip_pk, trivial⟩⟩⟩ trivial) Tryz.func56 (isFn Tryz.func56 (by kernel_rfl) (by kernel_rfl)) (by kernel_rfl) (by kernel_rfl) (by kernel_rfl)
def login_Login_with_s4 (o : Ops) (v0 : List UInt8) (v1 : List UInt8) (v2 : List UInt8) (v3 : List UInt8) (v4 : Int) (v5 : List KWkF2) : Option ((Int × (List UInt8) × (List UInt8) × (List UInt8) × Int × List KWkF2)) :=
 let v6 : KWkF1 := mgetD keqS v5 v0 (([] : List UInt8), ([] : List UInt8), ([] : List UInt8), ([] : List UInt8), (0 : Int), (0 : Int), (0 : Int), ([] : List KWkF0))
 bif (!(mhas keqS v5 v0)) then some ((150 : Int), v1, v2, v3, v4, v5) else (Option.bind (login_Login_AddKey_1_s o v6.1 v6.2.1 v6.2.2.1 v6.2.2.2.1 v6.2.2.2.2.1 v6.2.2.2.2.2.1 v6.2.2.2.2.2.2.1 v6.2.2.2.2.2.2.2 v1 v2 v3 v4) fun v7 => let v8 : List KWkF2 := mset keqS kltS v5 v0 (v7.2.1, v7.2.2.1, v7.2.2.2.1, v7.2.2.2.2.1, v7.2.2.2.2.2.1, v7.2.2.2.2.2.2.1, v7.2.2.2.2.2.2.2.1, v7.2.2.2.2.2.2.2.2.1)
 some (v7.1, v7.2.2.2.2.2.2.2.2.2.1, v7.2.2.2.2.2.2.2.2.2.2.1, v7.2.2.2.2.2.2.2.2.2.2.2.1, v7.2.2.2.2.2.2.2.2.2.2.2.2, v8))
def login_Login_with_s4c (o : Ops) : SC := ⟨⟨[(0, (.ptr 0 0)), (1, hS), (2, (.fn 56 [] [(.ptr 1 0)]))], [QWkF6, QWkF2, QWkF4]⟩, 1, [(none, ⟨[(0, hI)], [QWkF6, QWkF2, QWkF4]⟩)], fun x => login_Login_with_s4 o x.1 x.2.1 x.2.2.1 x.2.2.2.1 x.2.2.2.2.1 x.2.2.2.2.2⟩
theorem login_Login_with_s4k : SCok Tryz.prog tabs 47 (login_Login_with_s4c o) := witO (G := tabs) (o := o) <| fn_sc (η := []) (Γ := ⟨[], [(56, (login_Login_AddKey_1_sc o))], false⟩) mixWkF τ_okWkF (ctok trivial ⟨login_Login_AddKey_1_sk, trivial⟩) Tryz.func47 (isFn Tryz.func47 (by kernel_rfl) (by kernel_rfl)) (by kernel_rfl) (by kernel_rfl) (by kernel_rfl)
def login_Login_AddKey_s (o : Ops) (v0 : List UInt8) (v1 : KWkF0) (v2 : List KWkF2) : Option ((Int × List KWkF2)) :=
 Option.bind (login_Login_with_s4 o v0 v1.1 v1.2.1 v1.2.2.1 v1.2.2.2 v2) fun v3 => some (v3.1, v3.2.2.2.2.2)
def login_Login_AddKey_sc (o : Ops) : SC := ⟨⟨[(0, (.ptr 0 0)), (1, hS), (2, (.h YWkF0))], [QWkF3, QWkF4]⟩, 1, [(none, ⟨[(0, hI)], [QWkF3, QWkF4]⟩)], fun x => login_Login_AddKey_s o x.1 x.2.1 x.2.2⟩
theorem login_Login_AddKey_sk : SCok Tryz.prog tabs 25 (login_Login_AddKey_sc o) := witO (G := tabs) (o := o) <| fn_sc (η := []) (Γ := ⟨[], [(47, (login_Login_with_s4c o))], false⟩) mixWkF τ_okWkF (ctok trivial ⟨login_Login_with_s4k, trivial⟩) Tryz.func25 (isFn Tryz.func25 (by kernel_rfl) (by kernel_rfl)) (by kernel_rfl) (by kernel_rfl) (by kernel_rfl)
def login_Login_Count_1_j0 (o : Ops) (v0 : List UInt8) (v1 : List UInt8) (v2 : List UInt8) (v3 : List UInt8) (v4 : Int) (v5 : Int) (v6 : Int) (v7 : List KWkF0) (v8 : List UInt8) (v9 : Int) (v11 : KWkF0) : Option ((Int × (List UInt8) × (List UInt8) × (List UInt8) × (List UInt8) × Int × Int × Int × (List KWkF0) × (List UInt8) × Int) ⊕ ((List UInt8) × (List UInt8) × (List UInt8) × (List UInt8) × Int × Int × Int × (List KWkF0) × (List UInt8) × Int)) :=
 bif decide (v9 > (4294967295 : Int)) then some (.inl ((153 : Int), v0, v1, v2, v3, v4, v5, v6, v7, v8, v9)) else (bif decide (v9 ≤ v11.2.2.2) then (bif (v9 != (0 : Int)) then some (.inl ((153 : Int), v0, v1, v2, v3, v4, v5, v6, v7, v8, v9)) else (bif (v11.2.2.2 != (0 : Int)) then some (.inl ((153 : Int), v0, v1, v2, v3, v4, v5, v6, v7, v8, v9)) else some (.inr (v0, v1, v2, v3, v4, v5, v6, v7, v8, v9)))) else some (.inr (v0, v1, v2, v3, v4, v5, v6, v7, v8, v9)))
def login_Login_Count_1_s (o : Ops) (v0 : List UInt8) (v1 : List UInt8) (v2 : List UInt8) (v3 : List UInt8) (v4 : Int) (v5 : Int) (v6 : Int) (v7 : List KWkF0) (v8 : List UInt8) (v9 : Int) : Option ((Int × (List UInt8) × (List UInt8) × (List UInt8) × (List UInt8) × Int × Int × Int × (List KWkF0) × (List UInt8) × Int)) :=
 Option.bind (login_at_p o v7 v8) fun v10 => bif decide (v10 < (0 : Int)) then some ((154 : Int), v0, v1, v2, v3, v4, v5, v6, v7, v8, v9) else (Option.bind (idx v7 v10) fun v11 => Option.bind (login_Login_Count_1_j0 o v0 v1 v2 v3 v4 v5 v6 v7 v8 v9 v11) fun v12 => match v12 with
 | .inl v13 => some v13
 | .inr v14 => (Option.bind (app ([] : List KWkF0) v14.2.2.2.2.2.2.2.1) fun v15 => Option.bind (chk (decide ((0 : Int) ≤ v10) && decide (v10 < (v15.length : Int)))) fun _ => Option.bind (idx v15 v10) fun v16 => Option.bind (setL v15 v10 (v16.1, v16.2.1, v16.2.2.1, v14.2.2.2.2.2.2.2.2.2)) fun v17 => some ((0 : Int), v14.1, v14.2.1, v14.2.2.1, v14.2.2.2.1, v14.2.2.2.2.1, v14.2.2.2.2.2.1, v14.2.2.2.2.2.2.1, v17, v14.2.2.2.2.2.2.2.2)))
def login_Login_Count_1_sc (o : Ops) : SC := ⟨⟨[(0, (.ptr 0 0)), (1, (.ptr 1 0)), (2, (.ptr 2 0))], [QWkF0, .blk 9 [hS], .blk 3 [hI]]⟩, 1, [(none, ⟨[(0, hI)], [QWkF0, .blk 9 [hS], .blk 3 [hI]]⟩)], fun x => login_Login_Count_1_s o x.1 x.2.1 x.2.2.1 x.2.2.2.1 x.2.2.2.2.1 x.2.2.2.2.2.1 x.2.2.2.2.2.2.1 x.2.2.2.2.2.2.2.1 x.2.2.2.2.2.2.2.2.1 x.2.2.2.2.2.2.2.2.2⟩
theorem login_Login_Count_1_sk : SCok Tryz.prog tabs 60 (login_Login_Count_1_sc o) := witO (G := tabs) (o := o) <| fn_sc (η := [(2000007, .join [] [5] [(some 1000000, ⟨[(4, hI)], [QWkF0, .blk 9 [hS], .blk 3 [hI]]⟩), (none, ⟨[(0, (.ptr 0 0)), (2, (.ptr 2 0))], [QWkF0, .blk 9 [hS], .blk 3 [hI]]⟩)])]) (Γ := ⟨[(58, (login_at_pc o))], [(61, Clone_sc)], false⟩) mixWkF τ_okWkF (ctok ⟨login_at_pk, trivial⟩ ⟨Clone_sk, trivial⟩) Tryz.func60 (isFn Tryz.func60 (by kernel_rfl) (by kernel_rfl)) (by kernel_rfl) (by kernel_rfl) (by kernel_rfl)
def login_Login_with_s5 (o : Ops) (v0 : List UInt8) (v1 : List UInt8) (v2 : Int) (v3 : List KWkF2) : Option ((Int × (List UInt8) × Int × List KWkF2)) :=
 let v4 : KWkF1 := mgetD keqS v3 v0 (([] : List UInt8), ([] : List UInt8), ([] : List UInt8), ([] : List UInt8), (0 : Int), (0 : Int), (0 : Int), ([] : List KWkF0))
 bif (!(mhas keqS v3 v0)) then some ((150 : Int), v1, v2, v3) else (Option.bind (login_Login_Count_1_s o v4.1 v4.2.1 v4.2.2.1 v4.2.2.2.1 v4.2.2.2.2.1 v4.2.2.2.2.2.1 v4.2.2.2.2.2.2.1 v4.2.2.2.2.2.2.2 v1 v2) fun v5 => let v6 : List KWkF2 := mset keqS kltS v3 v0 (v5.2.1, v5.2.2.1, v5.2.2.2.1, v5.2.2.2.2.1, v5.2.2.2.2.2.1, v5.2.2.2.2.2.2.1, v5.2.2.2.2.2.2.2.1, v5.2.2.2.2.2.2.2.2.1)
 some (v5.1, v5.2.2.2.2.2.2.2.2.2.1, v5.2.2.2.2.2.2.2.2.2.2, v6))
def login_Login_with_s5c (o : Ops) : SC := ⟨⟨[(0, (.ptr 0 0)), (1, hS), (2, (.fn 60 [] [(.ptr 1 0), (.ptr 2 0)]))], [QWkF5, .blk 9 [hS], .blk 3 [hI], QWkF4]⟩, 1, [(none, ⟨[(0, hI)], [QWkF5, .blk 9 [hS], .blk 3 [hI], QWkF4]⟩)], fun x => login_Login_with_s5 o x.1 x.2.1 x.2.2.1 x.2.2.2⟩
theorem login_Login_with_s5k : SCok Tryz.prog tabs 47 (login_Login_with_s5c o) := witO (G := tabs) (o := o) <| fn_sc (η := []) (Γ := ⟨[], [(60, (login_Login_Count_1_sc o))], false⟩) mixWkF τ_okWkF (ctok trivial ⟨login_Login_Count_1_sk, trivial⟩) Tryz.func47 (isFn Tryz.func47 (by kernel_rfl) (by kernel_rfl)) (by kernel_rfl) (by kernel_rfl) (by kernel_rfl)
def login_Login_Count_s (o : Ops) (v0 : List UInt8) (v1 : List UInt8) (v2 : Int) (v3 : List KWkF2) : Option ((Int × List KWkF2)) :=
 Option.bind (login_Login_with_s5 o v0 v1 v2 v3) fun v4 => some (v4.1, v4.2.2.2)
def login_Login_Count_sc (o : Ops) : SC := ⟨⟨[(0, (.ptr 0 0)), (1, hS), (2, hS), (3, hI)], [QWkF3, QWkF4]⟩, 1, [(none, ⟨[(0, hI)], [QWkF3, QWkF4]⟩)], fun x => login_Login_Count_s o x.1 x.2.1 x.2.2.1 x.2.2.2⟩
theorem login_Login_Count_sk : SCok Tryz.prog tabs 27 (login_Login_Count_sc o) := witO (G := tabs) (o := o) <| fn_sc (η := []) (Γ := ⟨[], [(47, (login_Login_with_s5c o))], false⟩) mixWkF τ_okWkF (ctok trivial ⟨login_Login_with_s5k, trivial⟩) Tryz.func27 (isFn Tryz.func27 (by kernel_rfl) (by kernel_rfl)) (by kernel_rfl) (by kernel_rfl) (by kernel_rfl)
def seneschallaw15_fixed_j0 (o : Ops) (v0 : (List KWkF2)) : Option (Bool ⊕ (List KWkF2)) :=
 Option.bind (login_Login_Set_s o ([97, 110, 110] : List UInt8) ([48, 49, 50, 51, 52, 53, 54, 55, 56, 57, 97, 98, 99, 100, 101, 102] : List UInt8) ([112, 119] : List UInt8) v0) fun v1 => bif (v1.1 != (0 : Int)) then some (.inl false) else (Option.bind (login_Login_Check_s o ([97, 110, 110] : List UInt8) ([112, 119] : List UInt8) (0 : Int) v1.2) fun v2 => bif (v2.1 != (0 : Int)) then some (.inl false) else (Option.bind (login_Login_Check_s o ([97, 110, 110] : List UInt8) ([110, 111] : List UInt8) (0 : Int) v2.2) fun v3 => bif (v3.1 != (151 : Int)) then some (.inl false) else (Option.bind (login_Login_Check_s o ([98, 111, 98] : List UInt8) ([112, 119] : List UInt8) (0 : Int) v3.2) fun v4 => bif (v4.1 != (150 : Int)) then some (.inl false) else (Option.bind (login_Login_Code_s o ([97, 110, 110] : List UInt8) ([48, 48, 48, 48, 48, 48] : List UInt8) (0 : Int) v4.2) fun v5 => bif (v5.1 != (154 : Int)) then some (.inl false) else some (.inr v5.2)))))
def seneschallaw15_fixed_b1 (o : Ops) (v9 : Int) (v10 : List KWkF2) : Option ((Int × List KWkF2) ⊕ ((List KWkF2))) :=
 bif decide (v9 < (4 : Int)) then (Option.bind (login_Login_Check_s o ([97, 110, 110] : List UInt8) ([110, 111] : List UInt8) (7 : Int) v10) fun v11 => some (.inl (w64 (v9 + (1 : Int)), v11.2))) else some (.inr v10)
def seneschallaw15_fixed_j2 (o : Ops) (v12 : List KWkF2) (v13 : List UInt8) : Option (Bool ⊕ (List KWkF2)) :=
 Option.bind (login_Login_Check_s o ([97, 110, 110] : List UInt8) ([112, 119] : List UInt8) (306 : Int) v12) fun v14 => bif (v14.1 != (152 : Int)) then some (.inl false) else (Option.bind (login_Login_Check_s o ([97, 110, 110] : List UInt8) ([112, 119] : List UInt8) (307 : Int) v14.2) fun v15 => bif (v15.1 != (0 : Int)) then some (.inl false) else (Option.bind (login_Login_Enrol_s o ([97, 110, 110] : List UInt8) ([48, 49, 50, 51, 52, 53, 54, 55, 56, 57, 97, 98, 99, 100, 101, 102] : List UInt8) v15.2) fun v16 => bif (v16.1 != (0 : Int)) then some (.inl false) else (Option.bind (login_Login_Code_s o ([97, 110, 110] : List UInt8) v13 (60 : Int) v16.2) fun v17 => bif (v17.1 != (0 : Int)) then some (.inl false) else (Option.bind (login_Login_Code_s o ([97, 110, 110] : List UInt8) v13 (60 : Int) v17.2) fun v18 => bif (v18.1 != (153 : Int)) then some (.inl false) else some (.inr v18.2)))))
def seneschallaw15_fixed_p (o : Ops) : Option (Bool) :=
 Option.bind (login_New_s o) fun v0 => Option.bind (seneschallaw15_fixed_j0 o v0) fun v6 => match v6 with
 | .inl v7 => (some v7)
 | .inr v8 => (Option.bind (iter (fun x => seneschallaw15_fixed_b1 o x.1 x.2) ((0 : Int), v8)) fun v12 => Option.bind (o.code ([48, 49, 50, 51, 52, 53, 54, 55, 56, 57, 97, 98, 99, 100, 101, 102] : List UInt8) (2 : Int)) fun v13 => Option.bind (seneschallaw15_fixed_j2 o v12 v13) fun v19 => match v19 with
 | .inl v20 => (some v20)
 | .inr v21 => (Option.bind (login_Login_Rows_s o v21) fun v22 => Option.bind (login_Load_s o v22.1) fun v23 => match v23 with
 | .inl v24 => (Option.bind (login_Login_AddKey_s o ([97, 110, 110] : List UInt8) (([107] : List UInt8), ([48, 49, 50, 51, 52, 53, 54, 55, 56, 57, 97, 98, 99, 100, 101, 102, 48, 49, 50, 51, 52, 53, 54, 55, 56, 57, 97, 98, 99, 100, 101, 102] : List UInt8), ([48, 49, 50, 51, 52, 53, 54, 55, 56, 57, 97, 98, 99, 100, 101, 102, 48, 49, 50, 51, 52, 53, 54, 55, 56, 57, 97, 98, 99, 100, 101, 102] : List UInt8), (0 : Int)) v22.2) fun v26 => bif (v26.1 == (0 : Int)) then (Option.bind (login_Login_Count_s o ([97, 110, 110] : List UInt8) ([107] : List UInt8) (3 : Int) v26.2) fun v27 => bif (v27.1 == (0 : Int)) then (Option.bind (login_Login_Count_s o ([97, 110, 110] : List UInt8) ([107] : List UInt8) (3 : Int) v27.2) fun v28 => bif (v28.1 == (153 : Int)) then (some false) else (some false)) else (some false)) else (some false))
 | .inr v25 => (Option.bind (login_Login_AddKey_s o ([97, 110, 110] : List UInt8) (([107] : List UInt8), ([48, 49, 50, 51, 52, 53, 54, 55, 56, 57, 97, 98, 99, 100, 101, 102, 48, 49, 50, 51, 52, 53, 54, 55, 56, 57, 97, 98, 99, 100, 101, 102] : List UInt8), ([48, 49, 50, 51, 52, 53, 54, 55, 56, 57, 97, 98, 99, 100, 101, 102, 48, 49, 50, 51, 52, 53, 54, 55, 56, 57, 97, 98, 99, 100, 101, 102] : List UInt8), (0 : Int)) v22.2) fun v29 => bif (v29.1 == (0 : Int)) then (Option.bind (login_Login_Count_s o ([97, 110, 110] : List UInt8) ([107] : List UInt8) (3 : Int) v29.2) fun v30 => bif (v30.1 == (0 : Int)) then (Option.bind (login_Login_Count_s o ([97, 110, 110] : List UInt8) ([107] : List UInt8) (3 : Int) v30.2) fun v31 => bif (v31.1 == (153 : Int)) then (bif (v25.1 == (0 : Int)) then (Option.bind (login_Login_All_s o v25.2) fun v32 => some ((v32.2.length : Int) == (1 : Int))) else (some false)) else (some false)) else (some false)) else (some false))))
def seneschallaw15_fixed_pc (o : Ops) : PC := ⟨[], [.b], fun _ => seneschallaw15_fixed_p o, false⟩
theorem seneschallaw15_fixed_pk : PCok Tryz.prog tabs 12 (seneschallaw15_fixed_pc o) := witO (G := tabs) (o := o) <| fn_pc (η := [(2000004, .join [] [] [(some 1000000, ⟨[(0, hB)], []⟩), (none, ⟨[(1, (.ptr 0 0))], [QWkF3, QWkF4]⟩)]),
 (200005, .loop [] ⟨[(1, (.ptr 0 0)), (2, hI)], [QWkF3, QWkF4]⟩ [] [(some 0, ⟨[(1, (.ptr 0 0))], [QWkF3, QWkF4]⟩)]),
 (2000011, .join [] [] [(some 1000000, ⟨[(0, hB)], []⟩), (none, ⟨[(1, (.ptr 0 0))], [QWkF3, QWkF4]⟩)])]) (Γ := ⟨[(23, (oc_code o))], [(16, (login_New_sc o)), (17, (login_Login_Set_sc o)), (19, (login_Login_Check_sc o)), (22, (login_Login_Code_sc o)), (20, (login_Login_Enrol_sc o)), (15, (login_Login_Rows_sc o)), (9, (login_Load_sc o)), (25, (login_Login_AddKey_sc o)), (27, (login_Login_Count_sc o)), (14, (login_Login_All_sc o))], false⟩) mixWkF τ_okWkF (ctok ⟨(OpsOk.code (G := tabs)), trivial⟩ ⟨login_New_sk, ⟨login_Login_Set_sk, ⟨login_Login_Check_sk, ⟨login_Login_Code_sk, ⟨login_Login_Enrol_sk, ⟨login_Login_Rows_sk, ⟨login_Load_sk, ⟨login_Login_AddKey_sk, ⟨login_Login_Count_sk, ⟨login_Login_All_sk, trivial⟩⟩⟩⟩⟩⟩⟩⟩⟩⟩) Tryz.func12 (isFn Tryz.func12 (by kernel_rfl) (by kernel_rfl)) (by kernel_rfl) rfl (by kernel_rfl)
end
end Go.Proofs.YtmkomlbiaebddaaGreatDoor.Am
namespace Go.Proofs.YtmkomlbiaebddaaGreatDoor
open Go Go.RowKit
end Go.Proofs.YtmkomlbiaebddaaGreatDoor
namespace Go.Proofs.YtmkomlbiaebddaaGreatDoor.Am
open Go Go.RowKit
theorem PCok.le {P : Program} {G : List (Nat × Obj)} {f : FuncId} {ss : List Sh} {rts : List Ty} {p q : prodD (ss.flatMap Sh.tys) → Option (prodD rts)} {cl : Bool} (h : PCok P G f ⟨ss, rts, p, cl⟩) (hq : ∀ x y, q x = some y → p x = some y) : PCok P G f ⟨ss, rts, q, cl⟩ :=
 ⟨h.fn, fun S w us a y hG hS hA hy => h.ok S w us a y hG hS hA (hq _ _ hy)⟩
def saltL : List UInt8 := [48, 49, 50, 51, 52, 53, 54, 55, 56, 57, 97, 98, 99, 100, 101, 102]
def h1L : List UInt8 := [203, 145, 18, 174, 100, 177, 43, 92, 37, 138, 87, 148, 67, 127, 45, 80, 80, 106, 194, 30, 232, 60, 205, 156, 95, 106, 145, 13, 111, 64, 155, 109]
def h2L : List UInt8 := [204, 254, 54, 6, 152, 86, 196, 46, 19, 80, 206, 200, 100, 190, 97, 140, 65, 216, 130, 209, 20, 113, 137, 185, 50, 162, 35, 218, 137, 137, 142, 120]
def c2L : List UInt8 := [49, 49, 55, 53, 55, 56]
theorem st_pw : hash_Stretch_p [112, 119] saltL 4 32 = some (h1L, 0) := of_decide_eq_true (by kernel_rfl)
theorem st_no : hash_Stretch_p [110, 111] saltL 4 32 = some (h2L, 0) := of_decide_eq_true (by kernel_rfl)
theorem cd_2 : otp_Code_p saltL 2 = some c2L := of_decide_eq_true (by kernel_rfl)
theorem fd_2 : findP saltL c2L 2 1 = some (2, true) := of_decide_eq_true (by kernel_rfl)
def tabStretch (p s : List UInt8) (r n : Int) : Option (List UInt8 × Int) := bif (s == saltL) && (decide (r = 4) && decide (n = 32)) then (bif p == [112, 119] then some (h1L, 0) else (bif p == [110, 111] then some (h2L, 0) else none)) else none
def tabCode (s : List UInt8) (n : Int) : Option (List UInt8) := bif (s == saltL) && decide (n = 2) then some c2L else none
def tabFind (s c : List UInt8) (n w : Int) : Option (Int × Bool) := bif ((s == saltL) && (c == c2L)) && (decide (n = 2) && decide (w = 1)) then some (2, true) else none
def tabOps : Ops := { realOps with stretch := tabStretch, code := tabCode, find := tabFind }
theorem tabStretch_le {p s : List UInt8} {r n : Int} {y : List UInt8 × Int} (h : tabStretch p s r n = some y) : hash_Stretch_p p s r n = some y := by
 unfold tabStretch at h
 obtain ⟨hb, g⟩ := bif_none h
 clear h
 simp only [Bool.and_eq_true, decide_eq_true_eq, beq_iff_eq] at hb
 obtain ⟨rfl, rfl, rfl⟩ := hb
 cases h1 : p == [112, 119] with
 | true =>
  rw [h1] at g
  cases eq_of_beq h1
  exact st_pw.trans g
 | false =>
  rw [h1] at g
  obtain ⟨hn, k⟩ := bif_none (show (bif p == [110, 111] then some (h2L, (0 : Int)) else none) = some y from g)
  cases eq_of_beq hn
  exact st_no.trans k
theorem tabCode_le {s : List UInt8} {n : Int} {y : List UInt8} (h : tabCode s n = some y) : otp_Code_p s n = some y := by
 unfold tabCode at h
 obtain ⟨hb, h⟩ := bif_none h
 simp only [Bool.and_eq_true, decide_eq_true_eq, beq_iff_eq] at hb
 obtain ⟨rfl, rfl⟩ := hb
 exact cd_2.trans h
theorem tabFind_le {s c : List UInt8} {n w : Int} {y : Int × Bool} (h : tabFind s c n w = some y) : findP s c n w = some y := by
 unfold tabFind at h
 obtain ⟨hb, h⟩ := bif_none h
 simp only [Bool.and_eq_true, decide_eq_true_eq, beq_iff_eq] at hb
 obtain ⟨⟨rfl, rfl⟩, rfl, rfl⟩ := hb
 exact fd_2.trans h
instance tabOk {G : List (Nat × Obj)} [TabOk G] : OpsOk G tabOps :=
 { (realOk (G := G)) with
   stretch := PCok.le (realOk (G := G)).stretch fun _ _ h => tabStretch_le h
   code := PCok.le (realOk (G := G)).code fun _ _ h => tabCode_le h
   find := PCok.le (realOk (G := G)).find fun _ _ h => tabFind_le h }
theorem fixed_eq : seneschallaw15_fixed_p tabOps = some true := of_decide_eq_true (by kernel_rfl)
def fixed_pc : PC := ⟨[], [.b], fun _ => some true, false⟩
theorem fixed_pk {G : List (Nat × Obj)} [TabOk G] : PCok Tryz.prog G 12 fixed_pc :=
 PCok.le (seneschallaw15_fixed_pk (tabs := G) (o := tabOps)) fun _ _ h => fixed_eq.trans h
end Go.Proofs.YtmkomlbiaebddaaGreatDoor.Am
namespace Go.Proofs.YtmkomlbiaebddaaGreatDoor
open Go Go.RowKit
end Go.Proofs.YtmkomlbiaebddaaGreatDoor
