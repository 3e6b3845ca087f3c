/- The law 'seneschallaw13.ForestBack' holds of every input whose arguments hold together at most 1048576 values and letters, and its card. Conditions: the row's listed tables hold what the program's text lays; the arguments' bulk is at most 1048576. -/
import Derived.KernelRfl
import Derived.Stop.LaidErr
import Derived.Test.YtebbcofojchkpaaGreatDoorQkM
namespace Go.Proofs.YtebbcofojchkpaaGreatDoor.Am
open Go Go.RowKit
def τWkB : TE := [(3, ⟨.int .i64, 1, [.v (.i .i64) (show Int from 0)], (.i .i64), 8⟩),
 (4, ⟨.b, 1, [.v .b (show Bool from false)], .b, 1⟩),
 (9, ⟨.s, 1, [.v .s (show Bs from [])], .s, 16⟩),
 (22, ⟨.sl 24, 1, [.nils], (.sl (.pr .s .s)), 24⟩),
 (24, ⟨.st [(9, 0), (9, 1)], 2, [.v .s (show Bs from []), .v .s (show Bs from [])], (.pr .s .s), 32⟩),
 (25, ⟨.pt 75, 1, [.nilp], .un, 8⟩),
 (41, ⟨.sl 50, 1, [.nils], (.sl (.pr (.i .i64) (.pr (.i .i64) (.pr (.i .i64) (.pr (.i .i64) (.pr .s (.pr (.i .i64) (.pr (.i .i64) (.pr (.i .i64) (.pr .s (.pr .s (.pr .s (.pr (.sl .s) (.pr (.i .i64) (.pr (.i .i64) (.pr .b (.pr .b (.pr (.sl .s) (.pr (.i .i64) (.pr .s .s)))))))))))))))))))), 24⟩),
 (47, ⟨.st [(3, 0), (3, 1), (3, 2), (9, 3), (9, 4), (9, 5), (45, 6), (3, 7), (3, 8), (4, 9), (4, 10), (45, 11), (3, 12), (9, 13), (9, 14)], 15, [.v (.i .i64) (show Int from 0), .v (.i .i64) (show Int from 0), .v (.i .i64) (show Int from 0), .v .s (show Bs from []), .v .s (show Bs from []), .v .s (show Bs from []), .nils, .v (.i .i64) (show Int from 0), .v (.i .i64) (show Int from 0), .v .b (show Bool from false), .v .b (show Bool from false), .nils, .v (.i .i64) (show Int from 0), .v .s (show Bs from []), .v .s (show Bs from [])], (.pr (.i .i64) (.pr (.i .i64) (.pr (.i .i64) (.pr .s (.pr .s (.pr .s (.pr (.sl .s) (.pr (.i .i64) (.pr (.i .i64) (.pr .b (.pr .b (.pr (.sl .s) (.pr (.i .i64) (.pr .s .s)))))))))))))), 184⟩),
 (50, ⟨.st [(3, 0), (3, 1), (3, 2), (3, 3), (9, 4), (47, 5)], 20, [.v (.i .i64) (show Int from 0), .v (.i .i64) (show Int from 0), .v (.i .i64) (show Int from 0), .v (.i .i64) (show Int from 0), .v .s (show Bs from []), .v (.i .i64) (show Int from 0), .v (.i .i64) (show Int from 0), .v (.i .i64) (show Int from 0), .v .s (show Bs from []), .v .s (show Bs from []), .v .s (show Bs from []), .nils, .v (.i .i64) (show Int from 0), .v (.i .i64) (show Int from 0), .v .b (show Bool from false), .v .b (show Bool from false), .nils, .v (.i .i64) (show Int from 0), .v .s (show Bs from []), .v .s (show Bs from [])], (.pr (.i .i64) (.pr (.i .i64) (.pr (.i .i64) (.pr (.i .i64) (.pr .s (.pr (.i .i64) (.pr (.i .i64) (.pr (.i .i64) (.pr .s (.pr .s (.pr .s (.pr (.sl .s) (.pr (.i .i64) (.pr (.i .i64) (.pr .b (.pr .b (.pr (.sl .s) (.pr (.i .i64) (.pr .s .s))))))))))))))))))), 232⟩),
 (73, ⟨.map 3 81, 1, [.nilm], (.mp (.i .i64) (.pr (.i .i64) (.pr (.i .i64) (.pr (.i .i64) (.pr .s (.pr .s (.pr .s (.pr (.sl .s) (.pr (.i .i64) (.pr (.i .i64) (.pr .b (.pr .b (.pr (.sl .s) (.pr (.i .i64) (.pr .s .s))))))))))))))), 8⟩),
 (75, ⟨.st [(73, 0), (3, 1)], 2, [.nilm, .v (.i .i64) (show Int from 0)], (.pr (.mp (.i .i64) (.pr (.i .i64) (.pr (.i .i64) (.pr (.i .i64) (.pr .s (.pr .s (.pr .s (.pr (.sl .s) (.pr (.i .i64) (.pr (.i .i64) (.pr .b (.pr .b (.pr (.sl .s) (.pr (.i .i64) (.pr .s .s))))))))))))))) (.i .i64)), 16⟩),
 (81, ⟨.st [(47, 0)], 15, [.v (.i .i64) (show Int from 0), .v (.i .i64) (show Int from 0), .v (.i .i64) (show Int from 0), .v .s (show Bs from []), .v .s (show Bs from []), .v .s (show Bs from []), .nils, .v (.i .i64) (show Int from 0), .v (.i .i64) (show Int from 0), .v .b (show Bool from false), .v .b (show Bool from false), .nils, .v (.i .i64) (show Int from 0), .v .s (show Bs from []), .v .s (show Bs from [])], (.pr (.i .i64) (.pr (.i .i64) (.pr (.i .i64) (.pr .s (.pr .s (.pr .s (.pr (.sl .s) (.pr (.i .i64) (.pr (.i .i64) (.pr .b (.pr .b (.pr (.sl .s) (.pr (.i .i64) (.pr .s .s)))))))))))))), 184⟩)]
theorem τ_okWkB : TEok Tryz.prog τWkB := yoH (by kernel_rfl) (by kernel_rfl)
theorem yyG : Tryz.prog.follows .mixedOrders = true := by kernel_rfl
theorem xeG {G : List (Nat × Obj)} {o : Ops} [zsN G] [zrD G o] {Γ : CT} {η : HT} {f : FuncId} {fn : Func} {c : SC} (hΓ : ∀ B, GB G B → CTok Tryz.prog Γ B) (hf : Tryz.prog.funcs[f]? = some fn) (i : (fn.name == "runtime.NumGoroutine") = false := by kernel_rfl) (j : fn.body.isNone = false := by kernel_rfl) (l : Nat.ble c.I.sl.length fn.ntmps = true := by kernel_rfl) (r : Nat.beq fn.results.toList.length c.nr = true := by kernel_rfl) (e : fnS τWkB Γ η fn c.I c.outs = c.p := by kernel_rfl) : SCok Tryz.prog G f c := witO (G := G) (o := o) <| yzH yyG τ_okWkB hΓ hf (isFn hf i j) l r e
theorem yyD {G : List (Nat × Obj)} {o : Ops} [zsN G] [zrD G o] {Γ : CT} {η : HT} {f : FuncId} {fn : Func} {c : PC} (hΓ : ∀ B, GB G B → CTok Tryz.prog Γ B) (hf : Tryz.prog.funcs[f]? = some fn) (i : (fn.name == "runtime.NumGoroutine") = false := by kernel_rfl) (j : fn.body.isNone = false := by kernel_rfl) (l : Nat.ble c.ash.length fn.ntmps = true := by kernel_rfl) (r : c.cl = false := by kernel_rfl) (e : fnP τWkB Γ η fn c.ash c.rts = c.p := by kernel_rfl) : PCok Tryz.prog G f c := witO (G := G) (o := o) <| xcW yyG τ_okWkB hΓ hf (isFn hf i j) l r e
abbrev yfL : Type := Int × Int × Int × Bs × Bs × Bs × (List Bs) × Int × Int × Bool × Bool × (List Bs) × Int × Bs × Bs
abbrev ywP : Ty := .pr (.i .i64) (.pr (.i .i64) (.pr (.i .i64) (.pr .s (.pr .s (.pr .s (.pr (.sl .s) (.pr (.i .i64) (.pr (.i .i64) (.pr .b (.pr .b (.pr (.sl .s) (.pr (.i .i64) (.pr .s .s)))))))))))))
abbrev zsX : Type := Int × yfL
abbrev yyQ : Type := Int × Int × Int × Int × Bs × yfL
abbrev YWkB3 : Ty := .pr (.i .i64) (.pr (.i .i64) (.pr (.i .i64) (.pr (.i .i64) (.pr .s ywP))))
abbrev ybK : OSh := .mp true (.i .i64) ywP
abbrev ynN : OSh := .blk 75 [(.mpr 1), hI]
abbrev xbE : OSh := .blk 75 [(.mpr 2), hI]
abbrev yzM : OSh := .blk 75 [(.mpr 3), hI]
section
variable {tabs : List (Nat × Obj)} [zsN tabs] {o : Ops} [zrD tabs o]
noncomputable def ziE (o : Ops) (v0 : yfL) (v5 : (yfL × Bool × Int × List zsX)) : Option ((Int × Int × Int × List zsX) ⊕ (Int × (List zsX) × yfL)) :=
 let v6 : yfL := zkA keqI v5.2.2.2 v0.2.2.1 ((0 : Int), (0 : Int), (0 : Int), ([] : Bs), ([] : Bs), ([] : Bs), ([] : List Bs), (0 : Int), (0 : Int), false, false, ([] : List Bs), (0 : Int), ([] : Bs), ([] : Bs))
 bif decide (v0.2.2.1 > 0) then (bif (!(mhas keqI v5.2.2.2 v0.2.2.1)) then some (.inl ((0 : Int), (133 : Int), v5.2.2)) else ((zcG o v0.2.2.1 v5.2.2.1 v5.2.2.2).bind fun v7 => bif v7.1 then some (.inl ((0 : Int), (133 : Int), v7.2)) else some (.inr (v7.2.1, v7.2.2, v0)))) else some (.inr (v5.2.2.1, v5.2.2.2, v0))
noncomputable def zmS (o : Ops) (v10 : Int × (List zsX) × yfL) (v11 : (Int × Int × List zsX)) : Option ((Int × Int × Int × List zsX) ⊕ (Int × (List zsX) × yfL)) :=
 bif decide ((v11.2.2.length : Int) ≥ 256) then some (.inl ((0 : Int), (130 : Int), v11.2)) else (bif decide (v11.2.1 ≥ 99999999) then some (.inl ((0 : Int), (130 : Int), v11.2)) else some (.inr (v11.2.1, v11.2.2, v10.2.2)))
noncomputable def zeA (o : Ops) (v0 : yfL) (v1 : Int) (v2 : Int) (v3 : List zsX) : Option ((Int × Int × Int × List zsX)) :=
 (zfO o v0).bind fun v4 => bif (!v4) then some ((0 : Int), (131 : Int), v2, v3) else ((zbB o v0.2.2.2.2.2.2.2.2.2.2.2.2.2.1 v2 v3).bind fun v5 => bif v5.2.1 then some ((0 : Int), (132 : Int), v5.2.2) else ((ziE o v0 v5).bind fun v8 => match v8 with
 | .inl v9 => some v9
 | .inr v10 => ((zaY o v1 v10.1 v10.2.1).bind fun v11 => (zmS o v10 v11).bind fun v12 => match v12 with
 | .inl v13 => some v13
 | .inr v14 => ((zfN o v14.2.2).bind fun v15 => let v16 : List zsX := mset keqI kltI v14.2.1 v14.1 (v14.1, v15.2.1, v15.2.2.1, v15.2.2.2.1, v15.2.2.2.2.1, v15.2.2.2.2.2.1, v15.2.2.2.2.2.2.1, v15.2.2.2.2.2.2.2.1, v15.2.2.2.2.2.2.2.2.1, false, false, v15.2.2.2.2.2.2.2.2.2.2.2)
 some (v14.1, (0 : Int), w64 (v14.1 + 1), v16)))))
noncomputable def zmE (o : Ops) : SC := ⟨⟨[(0, (.ptr 0 0)), (1, (.h ywP)), (2, hI)], [ynN, ybK]⟩, 2, [(none, ⟨[(0, hI), (1, hI)], [ynN, .mp false (.i .i64) ywP]⟩)], fun x => zeA o x.1 x.2.1 x.2.2.1 x.2.2.2⟩
theorem ztH : SCok Tryz.prog tabs 20 (zmE o) := xeG (o := o) (η := [(2000009, .join [] [2] [(some 1000000, ⟨[(6, hI), (7, hI)], [ynN, ybK]⟩), (none, ⟨[(0, (.ptr 0 0)), (4, (.ptr 2 0))], [ynN, ybK, .blk 47 [hI, hI, hI, hS, hS, hS, (.h (.sl .s)), hI, hI, hB, hB, (.h (.sl .s)), hI, hS, hS]]⟩)]),
 (2000012, .join [] [] [(some 1000000, ⟨[(6, hI), (7, hI)], [ynN, ybK]⟩), (none, ⟨[(0, (.ptr 0 0)), (4, (.ptr 2 0))], [ynN, ybK, .blk 47 [hI, hI, hI, hS, hS, hS, (.h (.sl .s)), hI, hI, hB, hB, (.h (.sl .s)), hI, hS, hS]]⟩)]),
 (4000006, .sch [(.pu, 0, []), (.pu, 1, []), (.pu, 2, []), (.pu, 3, []), (.pu, 4, []), (.pu, 5, []), (.pu, 6, []), (.pu, 7, []), (.pu, 8, []), (.pu, 9, [5]), (.mn, 10, []), (.mn, 11, [5]), (.pu, 12, [])]),
 (4000014, .sch [(.pu, 0, []), (.pu, 1, []), (.pu, 2, []), (.pu, 3, []), (.pu, 4, []), (.pu, 5, []), (.pu, 6, []), (.pu, 7, []), (.mn, 8, [0, 1, 2, 3])])]) (Γ := ⟨[(53, (znF o)), (44, (ziF o))], [(36, (zbY o)), (54, (zeM o)), (31, (zbN o))], false⟩) (ctok ⟨zqS, ⟨zkW, trivial⟩⟩ ⟨zdD, ⟨zgM, ⟨zcP, trivial⟩⟩⟩) Tryz.func20
def zdX (o : Ops) (v0 : List (Bs × Bs)) (v1 : List (Bs × Bs)) (v2 : Int) : Option (Int ⊕ (Bool ⊕ Unit)) :=
 bif decide (v2 < (v0.length : Int)) then ((idx v0 v2).bind fun v3 => (idx v1 v2).bind fun v4 => bif (!((v3.1 == v4.1) && (v3.2 == v4.2))) then some (.inr (.inl false)) else some (.inl (w64 (v2 + 1)))) else some (.inr (.inr ()))
def zcR (o : Ops) (v0 : List (Bs × Bs)) (v1 : List (Bs × Bs)) : Option (Bool) :=
 bif ((v0.length : Int) != (v1.length : Int)) then (some false) else ((iter (zdX o v0 v1) (0 : Int)).bind fun v5 => match v5 with
 | .inl v6 => (some v6)
 | .inr v7 => (some true))
def zlB (o : Ops) : PC := ⟨[(.h (.sl (.pr .s .s))), (.h (.sl (.pr .s .s)))], [.b], fun x => zcR o x.1 x.2, false⟩
theorem zrO : PCok Tryz.prog tabs 12 (zlB o) := yyD (o := o) (η := [(200004, .loop [] ⟨[(5, hI)], []⟩ [0, 1] [(some 1000000, ⟨[(4, hB)], []⟩), (some 0, ⟨[], []⟩)]),
 (4000006, .sch [(.pu, 0, []), (.pu, 1, []), (.pu, 2, []), (.pu, 3, []), (.pu, 4, []), (.pu, 5, []), (.pu, 6, []), (.pu, 7, []), (.pu, 8, [])])]) (Γ := ⟨[], [], false⟩) (ctok trivial trivial) Tryz.func12
noncomputable def zqU (o : Ops) : Option (Bool) :=
 some false
noncomputable def zjY (o : Ops) (v3 : ((List (Bs × Bs)) × Int × List zsX)) (v6 : (Int × Int × List zsX)) : Option (Bool ⊕ (Int × Int × (List zsX) × List zsX)) :=
 bif (v6.1 != 0) then some (.inl false) else some (.inr (v3.2.1, v6.2.1, v3.2.2, v6.2.2))
noncomputable def zfI (o : Ops) (v1 : List yyQ) (v11 : Int) (v12 : Int) (v13 : Int) (v14 : List zsX) (v15 : List zsX) : Option ((Int × Int × Int × (List zsX) × List zsX) ⊕ (Bool ⊕ (Int × Int × (List zsX) × List zsX))) :=
 bif decide (v11 < (v1.length : Int)) then ((idx v1 v11).bind fun v16 => bif (v16.2.1 == 0) then ((idx v1 v11).bind fun v17 => (idx v1 v11).bind fun v18 => (zeA o v17.2.2.2.2.2 v18.2.2.1 v12 v14).bind fun v19 => (idx v1 v11).bind fun v20 => (idx v1 v11).bind fun v21 => (zeA o v20.2.2.2.2.2 v21.2.2.1 v13 v15).bind fun v22 => bif (v19.1 != v22.1) then some (.inr (.inl false)) else (bif (v19.2.1 != v22.2.1) then some (.inr (.inl false)) else some (.inl (w64 (v11 + 1), v19.2.2.1, v22.2.2.1, v19.2.2.2, v22.2.2.2)))) else ((zdV o).bind fun v23 => (zdV o).bind fun v24 => (idx v1 v11).bind fun v25 => (zeO o v25 v12 v23 v14).bind fun v26 => (idx v1 v11).bind fun v27 => (zeO o v27 v13 v24 v15).bind fun v28 => (zaS o v26.2.1 v26.2.2.2.2).bind fun v29 => (zaS o v28.2.1 v28.2.2.2.2).bind fun v30 => (zcR o v29.1 v30.1).bind fun v31 => bif (!v31) then some (.inr (.inl false)) else some (.inl (w64 (v11 + 1), v29.2.1, v30.2.1, v29.2.2, v30.2.2)))) else some (.inr (.inr (v12, v13, v14, v15)))
noncomputable def zdP (o : Ops) (v0 : List yyQ) (v1 : List yyQ) : Option (Bool) :=
 (zgF o v0).bind fun v2 => (zaS o v2.1 v2.2).bind fun v3 => (ziM o v3.1).bind fun v4 => match v4 with
 | .inl v5 => ((zqU o).bind fun v7 => some v7)
 | .inr v6 => ((zjY o v3 v6).bind fun v8 => match v8 with
 | .inl v9 => (some v9)
 | .inr v10 => ((iter (fun x => zfI o v1 x.1 x.2.1 x.2.2.1 x.2.2.2.1 x.2.2.2.2) ((0 : Int), v10)).bind fun v32 => match v32 with
 | .inl v33 => (some v33)
 | .inr v34 => ((zaS o v34.1 v34.2.2.1).bind fun v35 => (zaS o v34.2.1 v34.2.2.2).bind fun v36 => (zcR o v35.1 v36.1).bind fun v37 => bif v37 then ((some true).bind fun v38 => some v38) else (some false))))
noncomputable def zqR (o : Ops) : PC := ⟨[(.h (.sl YWkB3)), (.h (.sl YWkB3))], [.b], fun x => zdP o x.1 x.2, false⟩
theorem zzT : PCok Tryz.prog tabs 7 (zqR o) := yyD (o := o) (η := [(2000007, .whn 6 1 (.join [] [] [(some 1000000, ⟨[(4, hB)], []⟩)])),
 (2000007, .whn 6 2 (.join [] [1] [(some 1000000, ⟨[(4, hB)], []⟩), (none, ⟨[(5, (.ptr 0 0)), (6, (.ptr 1 0))], [xbE, yzM, ybK, ybK]⟩)])),
 (200008, .loop [] ⟨[(5, (.ptr 0 0)), (6, (.ptr 1 0)), (8, hI)], [xbE, yzM, ybK, ybK]⟩ [1] [(some 1000000, ⟨[(4, hB)], []⟩), (some 0, ⟨[(5, (.ptr 0 0)), (6, (.ptr 1 0))], [xbE, yzM, ybK, ybK]⟩)]),
 (4000011, .sch [(.pu, 0, []), (.pu, 1, []), (.pu, 2, []), (.pu, 3, []), (.pu, 4, []), (.pu, 5, []), (.pu, 6, []), (.pu, 7, []), (.pu, 8, []), (.pu, 9, []), (.pu, 10, []), (.mn, 11, [0, 2]), (.pu, 12, []), (.pu, 13, []), (.pu, 14, []), (.pu, 15, []), (.pu, 16, [])]),
 (4000012, .sch [(.pu, 0, []), (.pu, 1, []), (.pu, 2, []), (.pu, 3, []), (.pu, 4, []), (.pu, 5, []), (.pu, 6, []), (.pu, 7, []), (.pu, 8, []), (.pu, 9, []), (.pu, 10, []), (.mn, 11, [1, 3]), (.pu, 12, []), (.pu, 13, []), (.pu, 14, []), (.pu, 15, []), (.pu, 16, [])])]) (Γ := ⟨[(12, (zlB o)), (13, ymB)], [(21, (znV o)), (17, (znS o)), (16, (zkM o)), (10, (zsC o)), (20, (zmE o)), (18, (zkI o))], false⟩) (ctok ⟨zrO, ⟨yuM, trivial⟩⟩ ⟨zuN, ⟨zuM, ⟨zpL, ⟨zwJ, ⟨ztH, ⟨zpC, trivial⟩⟩⟩⟩⟩⟩) Tryz.func7
end
theorem ygG {nx : Int} {es : Es} (h : Ok nx es) (n : Nd) (now : Int) (hl : Lst n) : zeA zaB n now nx es = some (zpK n now nx es) := by
 unfold zeA zpK
 rw [ymE n hl.1, zaA]
 cases hm : mayB n with
 | false => rfl
 | true =>
  simp only [Bool.not_true, cond_false]
  rw [zrS h, zaA]
  cases hf : zvQ es n.2.2.2.2.2.2.2.2.2.2.2.2.2.1 with
  | some q => rfl
  | none =>
   simp only [Option.isSome_none, Option.getD_none, cond_false]
   have hj : ziE zaB n (zN, false, nx, es) = some (bif zyY es (npar n) then .inl (0, 133, nx, es) else .inr (nx, es, n)) := by
    unfold ziE zyY
    simp only []
    by_cases hp : npar n > 0
    ·rw [zmD (p := n.2.2.1 > 0) hp, decide_eq_true hp, yeJ h, zaA]
     show (bif (!(mhas keqI es (npar n))) then _ else _) = _
     cases mhas keqI es (npar n) with
     | false => rfl
     | true =>
      simp only [Bool.not_true, cond_false, Bool.true_and, Bool.false_or]
      cases ynF es (npar n) <;> rfl
    ·rw [zkB (p := n.2.2.1 > 0) hp, decide_eq_false hp]
     rfl
   rw [hj, zaA]
   cases zyY es (npar n) with
   | true => rfl
   | false =>
    simp only [cond_false]
    rw [zvS h, zaA]
    unfold zmS
    simp only []
    by_cases hg : (zfH es now).length ≥ 256
    ·rw [zmD (by omega), decide_eq_true hg]
     rfl
    ·rw [zkB (by omega), decide_eq_false hg]
     by_cases hx : nx ≥ 99999999
     ·rw [zmD hx, decide_eq_true hx]
      rfl
     ·rw [zkB hx, decide_eq_false hx]
      have hnx := h.next
      simp only [zaA, Bool.or_false, cond_false]
      rw [own_ok hl, zaA, zlK (by omega) (by omega)]
      rw [zxO fun p hp => ((h.pruned now).ids p hp).2.2]
theorem ydS (l : List (L8 × L8)) (hl : l.length ≤ 1048576) : zcR zaB l l = some true := by
 unfold zcR
 simp only [bne_self_eq_false, cond_false]
 have hI : iter (zdX zaB l l) (0 : Int) = (some (.inr ()) : Option (Bool ⊕ Unit)) := by
  refine zrZ (fun k => (k : Int)) l.length (by omega) _ (fun k hk => ?_) ?_
  ·unfold zdX
   rw [zmD (by omega), zlL rfl hk, zaA, zaA]
   simp only [beq_self_eq_true, Bool.and_self, Bool.not_true, cond_false]
   rw [zcQ (by omega)]
  ·unfold zdX
   rw [zkB (by omega)]
 rw [show iter _ _ = _ from hI, zaA]
theorem ykZ {nx : Int} {es : Es} (h : Ok nx es) : (yaW nx es).length ≤ 1048576 := by
 have := h.len
 simp only [yaW, List.length_cons, List.length_map]
 omega
theorem xfQ (script more : List OpT) (hl : script.length ≤ 1048576) (ho : ∀ o ∈ script, NdOk o.2.2.2.2.2) (hl2 : more.length ≤ 1048576) (ho2 : ∀ o ∈ more, NdOk o.2.2.2.2.2) : zdP zaB script more = some true := by
 unfold zdP
 rw [yzX hl ho, zaA]
 have h := ypG script
 generalize ybX script = s at h
 obtain ⟨nx, es⟩ := s
 simp only [] at h ⊢
 rw [rows_ok h, zaA]
 simp only []
 rw [yuS h, zaA]
 simp only []
 rw [show zjY zaB (yaW nx es, nx, es) (0, nx, es) = some (.inr (nx, nx, es, es)) from rfl, zaA]
 simp only []
 have hT : T (iter (fun x => zfI zaB more x.1 x.2.1 x.2.2.1 x.2.2.2.1 x.2.2.2.2) ((0 : Int), nx, nx, es, es)) fun r => match r with
   | .inl _ => False
   | .inr v => v.2.1 = v.1 ∧ v.2.2.2 = v.2.2.1 ∧ Ok v.1 v.2.2.1 := by
  refine T.iter (fun x => 0 ≤ x.1 ∧ x.1 ≤ (more.length : Int) ∧ x.2.2.1 = x.2.1 ∧ x.2.2.2.2 = x.2.2.2.1 ∧ Ok x.2.1 x.2.2.2.1) (fun x => more.length - x.1.toNat) _ (fun x hx => ?_) ⟨Int.le_refl _, by simp, rfl, rfl, h⟩ (by simp; omega)
  obtain ⟨i, nx, nx2, es, es2⟩ := x
  obtain ⟨h1, h2, e1, e2, h⟩ := hx
  simp only at h1 h2 e1 e2 h
  subst e1 e2
  obtain ⟨k, rfl⟩ : ∃ k : Nat, i = k := ⟨i.toNat, by omega⟩
  unfold zfI
  simp only []
  refine T.dif (fun h5 => ?_) fun _ => T.ok ⟨rfl, rfl, h⟩
  have hk : k < more.length := by omega
  have hO := ho2 _ (List.getElem_mem hk)
  rw [zlL rfl hk, zaA]
  refine T.bif (fun _ => ?_) fun _ => ?_
  ·have hp := h.plant more[k].2.2.2.2.2 more[k].2.2.1
   rw [zaA, zaA, ygG h more[k].2.2.2.2.2 more[k].2.2.1 ⟨hO.2.2.2.1, hO.2.2.2.2.2.1⟩, zaA, zaA, zaA, ygG h more[k].2.2.2.2.2 more[k].2.2.1 ⟨hO.2.2.2.1, hO.2.2.2.2.2.1⟩, zaA]
   simp only [bne_self_eq_false, cond_false]
   rw [zcQ (by omega)]
   exact T.ok ⟨⟨by simp only []; omega, by simp only []; omega, rfl, rfl, hp⟩, by simp only []; omega⟩
  ·unfold zdV
   rw [zaA, zaA, zaA]
   have hS := h.step more[k]
   refine (yrL h more[k] hO).bind fun r hr => ?_
   obtain ⟨b, nx3, L3, ny3, es3⟩ := r
   rw [zaA]
   refine (yrL h more[k] hO).bind fun r2 hr2 => ?_
   obtain ⟨b4, nx4, L4, ny4, es4⟩ := r2
   simp only at hr hr2
   rw [← hr] at hS hr2
   obtain ⟨e3, e4⟩ := Prod.mk.inj hr2
   subst e3 e4
   simp only [] at hS ⊢
   rw [rows_ok hS, zaA, zaA]
   simp only []
   rw [ydS _ (ykZ hS), zaA, zcQ (by omega)]
   exact T.ok ⟨⟨by simp only []; omega, by simp only []; omega, rfl, rfl, hS⟩, by simp only []; omega⟩
 obtain ⟨r, g1, g2⟩ := hT
 rw [show iter _ _ = _ from g1, zaA]
 cases r with
 | inl v => exact g2.elim
 | inr v =>
  obtain ⟨nx1, nx2, es1, es2⟩ := v
  obtain ⟨e1, e2, h2⟩ := g2
  simp only at e1 e2 h2
  subst e1 e2
  simp only []
  rw [rows_ok h2, zaA, zaA]
  simp only []
  rw [ydS _ (ykZ h2), zaA]
  rfl
theorem yrF (script more : List ypO) (hk : dsz (.sl (.pr (.i .i64) (.pr (.i .i64) (.pr (.i .i64) (.pr (.i .i64) (.pr .s (.pr (.i .i64) (.pr (.i .i64) (.pr (.i .i64) (.pr .s (.pr .s (.pr .s (.pr (.sl .s) (.pr (.i .i64) (.pr (.i .i64) (.pr .b (.pr .b (.pr (.sl .s) (.pr (.i .i64) (.pr .s .s)))))))))))))))))))) script + dsz (.sl (.pr (.i .i64) (.pr (.i .i64) (.pr (.i .i64) (.pr (.i .i64) (.pr .s (.pr (.i .i64) (.pr (.i .i64) (.pr (.i .i64) (.pr .s (.pr .s (.pr .s (.pr (.sl .s) (.pr (.i .i64) (.pr (.i .i64) (.pr .b (.pr .b (.pr (.sl .s) (.pr (.i .i64) (.pr .s .s)))))))))))))))))))) more ≤ 1048576) : zdP zaB script more = some true := by
 have hk : dsz (.sl zzC) script + dsz (.sl zzC) more ≤ 1048576 := hk
 have h := yxP (l := script) (by omega)
 have h2 := yxP (l := more) (by omega)
 exact xfQ script more h.1 h.2 h2.1 h2.2
end Go.Proofs.YtebbcofojchkpaaGreatDoor.Am
namespace Go.Proofs.YtebbcofojchkpaaGreatDoor
open Go Go.RowKit
section
open Go Go.RowKit Go.ChangeShapes Go.WideShapes Go.ChangeAt
attribute [local irreducible] Value.okWide
theorem xcP {W : World} (h : W.ShapedOpen Tryz.prog) (hL : laidMet Tryz.prog Rows.forestBackUptoRow.laid W) : ∃ G : List (Nat × Obj), Am.zsN G ∧ Am.GS G (zqP W) := by
 obtain ⟨m, hm⟩ := Tryz.laysM219.s1_3 W h
 have hm : W.cell? ⟨0, 0, none⟩ = some (.int .i64 m) := hm
 have h0 : ∃ c E fz, W.heap[0]? = some (.cells c E fz) ∧ c[0]? = some (.int .i64 m) := by
  unfold World.cell? at hm
  split at hm
  ·rename_i c E fz hb
   simp only [Option.isSome_none, if_neg (show ¬ (false = true) by decide)] at hm
   exact ⟨c, E, fz, hb, hm⟩
  ·cases hm
 obtain ⟨c, E, fz, h1, h2⟩ := h0
 have hT := Lib.tabIs_of_head (P := Tryz.prog) (k := .u64) (zs := Lib.pow10Tab) (g := 3) (t := 218) (e := 167) (n := 20) (by kernel_rfl) (by kernel_rfl) (by kernel_rfl) (by kernel_rfl) (by kernel_rfl) (by kernel_rfl) (show laidMet Tryz.prog (("internal/strconv.uint64pow10", Lib.tabData .u64 Lib.pow10Tab) :: _) W from hL.tail.tail)
 have h3 : ∃ T f, W.heap[3]? = some (.cells ynW.toArray T f) := by
  unfold Lib.TabIs World.var? at hT
  rw [show Tryz.prog.globalNamed "internal/strconv.uint64pow10" = some 3 by kernel_rfl, Option.bind_some] at hT
  split at hT
  ·rename_i cs T f hb
   cases hT
   exact ⟨T, f, hb⟩
  ·cases hT
 obtain ⟨T, f, h4⟩ := h3
 refine ⟨[(0, .cells c E fz), (3, .cells ynW.toArray T f)], ⟨fun S hS => ⟨⟨c, E, fz, m, hS _ (List.mem_cons_self ..), h2⟩, T, f, hS _ (List.mem_cons_of_mem _ (List.mem_cons_self ..))⟩⟩, fun p hp => ?_⟩
 rcases List.mem_cons.1 hp with rfl | hp
 ·exact h1
 ·rcases List.mem_cons.1 hp with rfl | hp
  ·exact h4
  ·cases hp
theorem zwP (H : Type) (enc : TypeId × Value → H) (W : World) (base : Nat) (args : Array Value) (ds gs : List (DataW H)) (before : List MemPlace)
  (hval : ∀ (j : Nat) t v, Tryz.f7.params[j]? = some t → args[j]? = some v → Value.okWide Tryz.prog W .any base t v)
  (hW : DataW.Whole enc Tryz.prog Tryz.f7.params.toList Rows.forestBackSpec.vars false W args.toList ds gs before) (hk : Rows.uptoSmall H (ds ++ gs) = true) (hsh : W.ShapedOpen Tryz.prog) (hL : laidMet Tryz.prog Rows.forestBackUptoRow.laid W) :
  Calls Tryz.prog 7 args W fun e W' => ∃ v, e = .returned v ∧ Rows.forestBackSpec.post enc Tryz.prog Tryz.f7 false true false false W args v W' := by
 have hW' := hW
 obtain ⟨p, q, hA0, hV, rfl, _, _⟩ := hW
 have hA : DataW.TrodAll enc Tryz.prog W 0 (fun _ => true) true Tryz.f7.params.toList args.toList ds p := hA0
 rw [Tryz.params7] at hA hval
 obtain ⟨v0, vs0, d0, ds0, p0, q0, hargs, rfl, rfl, t0, r0⟩ := trodAll_cons hA
 obtain ⟨v1, vs1, d1, ds1, p1, q1, rfl, rfl, rfl, t1, r1⟩ := trodAll_cons r0
 obtain ⟨rfl, rfl, rfl⟩ := trodAll_nil r1
 obtain rfl : args = #[v0, v1] := by cases args; simp_all
 obtain ⟨rfl, rfl⟩ := trodVars_none hV
 obtain ⟨x0, e0, b0⟩ := Am.argD_ok (t := (.sl (.pr (.i .i64) (.pr (.i .i64) (.pr (.i .i64) (.pr (.i .i64) (.pr .s (.pr (.i .i64) (.pr (.i .i64) (.pr (.i .i64) (.pr .s (.pr .s (.pr .s (.pr (.sl .s) (.pr (.i .i64) (.pr (.i .i64) (.pr .b (.pr .b (.pr (.sl .s) (.pr (.i .i64) (.pr .s .s))))))))))))))))))))) (show Am.argOk Tryz.prog 41 (.sl (.pr (.i .i64) (.pr (.i .i64) (.pr (.i .i64) (.pr (.i .i64) (.pr .s (.pr (.i .i64) (.pr (.i .i64) (.pr (.i .i64) (.pr .s (.pr .s (.pr .s (.pr (.sl .s) (.pr (.i .i64) (.pr (.i .i64) (.pr .b (.pr .b (.pr (.sl .s) (.pr (.i .i64) (.pr .s .s)))))))))))))))))))) = true by kernel_rfl) (hval 0 41 v0 rfl rfl) t0
 obtain ⟨x1, e1, b1⟩ := Am.argD_ok (t := (.sl (.pr (.i .i64) (.pr (.i .i64) (.pr (.i .i64) (.pr (.i .i64) (.pr .s (.pr (.i .i64) (.pr (.i .i64) (.pr (.i .i64) (.pr .s (.pr .s (.pr .s (.pr (.sl .s) (.pr (.i .i64) (.pr (.i .i64) (.pr .b (.pr .b (.pr (.sl .s) (.pr (.i .i64) (.pr .s .s))))))))))))))))))))) (show Am.argOk Tryz.prog 41 (.sl (.pr (.i .i64) (.pr (.i .i64) (.pr (.i .i64) (.pr (.i .i64) (.pr .s (.pr (.i .i64) (.pr (.i .i64) (.pr (.i .i64) (.pr .s (.pr .s (.pr .s (.pr (.sl .s) (.pr (.i .i64) (.pr (.i .i64) (.pr .b (.pr .b (.pr (.sl .s) (.pr (.i .i64) (.pr .s .s)))))))))))))))))))) = true by kernel_rfl) (hval 1 41 v1 rfl rfl) t1
 simp only [List.cons_append, List.nil_append, List.append_nil, Rows.uptoSmall, decide_eq_true_eq, Rows.uptoBulkAll] at hk
 obtain ⟨G, hG, hGS⟩ := xcP hsh hL
 refine ((Am.zzT (tabs := G) (o := Am.zaB)).ok (zqP W) W [v0, v1] (x0, x1) true hGS (ylI W) (.cons (Am.rep1_vr e0) (.cons (Am.rep1_vr e1) .nil)) (Am.yrF x0 x1 (by omega))).mono fun e W' ⟨hx, v, he, hr, _⟩ => ?_
 have hr : [v] = [Value.bool true] := hr
 rw [(List.cons.inj hr).1] at he
 subst he
 refine ⟨_, rfl, ytV (B := 4) (n := 2) (by kernel_rfl) rfl (by kernel_rfl) (by kernel_rfl) (by kernel_rfl) (by kernel_rfl) (fun ds hds => ?_) hW' hx⟩
 match ds, hds with
 | [x0, x1], _ => exact ⟨rfl, rfl, rfl⟩
theorem ywH : ownKnob Tryz.prog.godebug = none := by kernel_rfl
def ycU : DataW Unit → LV
 | .lit (.int k n) => [.int k n]
 | .agg l => go l
 | _ => []
where go : List (DataW Unit) → LV
 | [] => []
 | d :: l => ycU d ++ go l
def ztU (l : LV) : Obj → Obj
 | .cells _ t frozen => .cells l.toArray t frozen
 | o => o
noncomputable def yaN (os : Os) : World := { World.holding Tryz.prog os ⟨#[], #[], []⟩ with heap := (((((((((World.holding Tryz.prog os ⟨#[], #[], []⟩).heap).modify 6 (ztU (ycU Rows.laid_math_bits_deBruijn32tab))).modify 7 (ztU (ycU Rows.laid_math_bits_deBruijn64tab))).modify 3 (ztU (ycU Rows.laid_internal_strconv_uint64pow10))).modify 5 (ztU (ycU Rows.laid_unicode_utf8_acceptRanges))).modify 2 (ztU [.iface 227 (.pointer (some ⟨(World.holding Tryz.prog os ⟨#[], #[], []⟩).heap.size + 0, 0, none⟩))])).modify 1 (ztU [.iface 227 (.pointer (some ⟨(World.holding Tryz.prog os ⟨#[], #[], []⟩).heap.size + 1, 0, none⟩))])).modify 4 (ztU (ycU Go.Pinned.utf8First))) ++ #[.cells #[.string ⟨#[118, 97, 108, 117, 101, 32, 111, 117, 116, 32, 111, 102, 32, 114, 97, 110, 103, 101]⟩] 229, .cells #[.string ⟨#[105, 110, 118, 97, 108, 105, 100, 32, 115, 121, 110, 116, 97, 120]⟩] 229] }
theorem zxB (os : Os) : laidMet Tryz.prog Rows.forestBackUptoRow.laid ((yaN os).forCall (fun _ _ => 0) ⟨#[], #[.slice none 0 0, .slice none 0 0], []⟩).memory :=
 laidMet_of_run' 8 (by kernel_rfl) (by kernel_rfl)
theorem zyZ (os : Os) {H : Type} (enc : TypeId × Value → H) : ∃ places, DataW.whole enc Tryz.prog ((yaN os).forCall (fun _ _ => 0) ⟨#[], #[.slice none 0 0, .slice none 0 0], []⟩).memory Tryz.f7.params.toList Rows.forestBackSpec.vars false (#[.slice none 0 0, .slice none 0 0] : Array Value).toList 8 = some ([.nil, .nil], [], places) :=
 ⟨[], by kernel_rfl⟩
set_option maxRecDepth 100000 in
theorem zyG (os : Os) (started : os.Started) (H : Type) (enc : TypeId × Value → H) (F : Stop.Interp) :
  ReturnsInHanded {} Tryz.checked os 7 .any ((Rows.OpenSpec.upto Rows.forestBackSpec).preRow enc Tryz.prog Tryz.f7 Rows.forestBackUptoRow.domain false Rows.forestBackUptoRow.laid) (((Rows.OpenSpec.upto Rows.forestBackSpec).at F).post enc Tryz.prog Tryz.f7 false true false false) := by
 obtain ⟨places, hx⟩ := zyZ os enc
 refine returnsInHanded_of_row (C := Tryz.checked) (s := Rows.OpenSpec.upto Rows.forestBackSpec) ywH started (by kernel_rfl) Tryz.func7
  (witness_row_at (enc := enc) (C := Tryz.checked) false (yaN os) #[.slice none 0 0, .slice none 0 0] rfl (by kernel_rfl) (by kernel_rfl) (by kernel_rfl)
   (OpenSpec.preRow_of_cond 8 hx (by kernel_rfl) (fun k hk => by cases hk; kernel_rfl) (by kernel_rfl) (zxB os))) ?_
 intro W base args ds gs before hval hW _ hcond _ hL hsh _
 exact zwP H enc W base args ds gs before hval hW (hcond _ rfl) hsh hL
theorem ycQ : Rows.ForestBackUptoSaid :=
 OpenClaim.holds_of_cond 7 Tryz.f7 rfl rfl rfl rfl rfl rfl rfl ⟨rfl, rfl, rfl, rfl, rfl⟩ rfl rfl rfl rfl rfl (by kernel_rfl) Tryz.func7 (by kernel_rfl)
  (of_decide_eq_true (by kernel_rfl)) (by unfold Func.isWrapper; first | (rw [if_pos (by decide +kernel)]; kernel_rfl) | (rw [if_neg (by decide +kernel)]; exact ⟨rfl, rfl⟩))
  (fun os started H enc _ F => by rw [OpenClaim.pre_eq_preRow]; exact zyG os started H enc F)
theorem zzF (f : FuncId) (fn : Func) (hf : Tryz.pinned.checked.prog.funcNamed "seneschal/seneschallaw13.ForestBack" = some f) (hfn : Tryz.pinned.checked.prog.funcs[f]? = some fn) :
  true = Tryz.pinned.checked.prog.looks [] ∧ ∀ (j : Nat) t, fn.params[j]? = some t → Tryz.pinned.checked.prog.wantsStandIn t = false := by
 obtain rfl : f = 7 := osi ((show Tryz.prog.funcNamed "seneschal/seneschallaw13.ForestBack" = some 7 by kernel_rfl).symm.trans hf) |>.symm
 obtain rfl : fn = Tryz.f7 := (osi (Tryz.func7.symm.trans hfn)).symm
 refine ⟨by kernel_rfl, fun j t ht => ?_⟩
 rw [Tryz.params7] at ht
 have hm : t ∈ [41, 41] := by simpa using Array.mem_of_getElem? ht
 have hall : ([41, 41].all fun u => !Tryz.prog.wantsStandIn u) = true := by kernel_rfl
 exact (show Tryz.prog.wantsStandIn t = false by simpa using List.all_eq_true.1 hall t hm)
theorem forestBack_said : Rows.ForestBackUptoCardSaid :=
 Claim7.holds_tied_plain_at .later [] _ _ _ _ ycQ (fun _ h => by cases h) (by kernel_rfl) (fun _ h => by cases h) forestBackUpto_row_tie rfl ⟨rfl, rfl⟩ (by kernel_rfl) rfl zzF (by kernel_rfl)
end
end Go.Proofs.YtebbcofojchkpaaGreatDoor
