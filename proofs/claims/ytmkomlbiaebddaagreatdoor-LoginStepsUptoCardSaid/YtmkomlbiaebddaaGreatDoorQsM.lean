/- The law 'seneschallaw15.LoginSteps' holds of every input whose arguments hold together at most 1048576 values and letters, and its card. Conditions: the row's listed tables hold what the program's text lays; the arguments' bulk is at most 1048576. -/
import Derived.Stop.LaidErr
import Derived.Test.YtmkomlbiaebddaaGreatDoorQsL
namespace Go.Proofs.YtmkomlbiaebddaaGreatDoor
open Go Go.RowKit Go.ChangeShapes Go.WideShapes Go.ChangeAt
attribute [local irreducible] Value.okWide
theorem tabs_of {W : World} (h : W.ShapedOpen Tryz.prog) (hL : laidMet Tryz.prog Rows.loginStepsUptoRow.laid W) : ∃ G : List (Nat × Obj), Am.TabOk G ∧ Am.GS G (memOf W) := by
  obtain ⟨m, hm⟩ := Tryz.laysM219.s1_3 W h
  have hm : W.cell? ⟨0, 0, none⟩ = some (.int .i64 m) := hm
  have h0 : ∃ c E fz, W.heap[0]? = some (.cells c E fz) ∧ c[0]? = some (.int .i64 m) := by
    unfold World.cell? at hm
    split at hm
    · rename_i c E fz hb
      simp only [Option.isSome_none, if_neg (show ¬ (false = true) by decide)] at hm
      exact ⟨c, E, fz, hb, hm⟩
    · cases hm
  obtain ⟨c, E, fz, h1, h2⟩ := h0
  have hT := Lib.tabIs_of_head (P := Tryz.prog) (k := .u64) (zs := Lib.pow10Tab) (g := 1) (t := 214) (e := 102) (n := 20) (by kernel_rfl) (by kernel_rfl) (by kernel_rfl) (by kernel_rfl) (by kernel_rfl) (by kernel_rfl) (show laidMet Tryz.prog (("internal/strconv.uint64pow10", Lib.tabData .u64 Lib.pow10Tab) :: _) W from hL.tail.tail)
  have h3 : ∃ T f, W.heap[1]? = some (.cells pow10C.toArray T f) := by
    unfold Lib.TabIs World.var? at hT
    rw [show Tryz.prog.globalNamed "internal/strconv.uint64pow10" = some 1 by kernel_rfl, Option.bind_some] at hT
    split at hT
    · rename_i cs T f hb
      cases hT
      exact ⟨T, f, hb⟩
    · cases hT
  obtain ⟨T, f, h4⟩ := h3
  refine ⟨[(0, .cells c E fz), (1, .cells pow10C.toArray T f)], ⟨fun S hS => ⟨⟨c, E, fz, m, hS _ (List.mem_cons_self ..), h2⟩, T, f, hS _ (List.mem_cons_of_mem _ (List.mem_cons_self ..))⟩⟩, fun p hp => ?_⟩
  rcases List.mem_cons.1 hp with rfl | hp
  · exact h1
  · rcases List.mem_cons.1 hp with rfl | hp
    · exact h4
    · cases hp
theorem contract_loginSteps (H : Type) (enc : TypeId × Value → H) (W : World) (base : Nat) (args : Array Value) (ds gs : List (DataW H)) (before : List MemPlace)
    (hval : ∀ (j : Nat) t v, Tryz.f5.params[j]? = some t → args[j]? = some v → Value.okWide Tryz.prog W .any base t v)
    (hW : DataW.Whole enc Tryz.prog Tryz.f5.params.toList Rows.loginStepsSpec.vars false W args.toList ds gs before) (hk : Rows.uptoSmall H (ds ++ gs) = true) (hsh : W.ShapedOpen Tryz.prog) (hL : laidMet Tryz.prog Rows.loginStepsUptoRow.laid W) :
    Calls Tryz.prog 5 args W fun e W' => ∃ v, e = .returned v ∧ Rows.loginStepsSpec.post enc Tryz.prog Tryz.f5 false true false false W args v W' := by
  have hW' := hW
  obtain ⟨p, q, hA0, hV, rfl, _, _⟩ := hW
  have hA : DataW.TrodAll enc Tryz.prog W 0 (fun _ => true) true Tryz.f5.params.toList args.toList ds p := hA0
  rw [Tryz.params5] at hA hval
  obtain ⟨v0, vs0, d0, ds0, p0, q0, hargs, rfl, rfl, t0, r0⟩ := trodAll_cons hA
  obtain ⟨v1, vs1, d1, ds1, p1, q1, rfl, rfl, rfl, t1, r1⟩ := trodAll_cons r0
  obtain ⟨rfl, rfl, rfl⟩ := trodAll_nil r1
  obtain rfl : args = #[v0, v1] := by cases args; simp_all
  obtain ⟨rfl, rfl⟩ := trodVars_none hV
  obtain ⟨x0, e0, b0⟩ := Am.argD_ok (t := .s) (show Am.argOk Tryz.prog 9 .s = true by kernel_rfl) (hval 0 9 v0 rfl rfl) t0
  obtain ⟨x1, e1, b1⟩ := Am.argD_ok (t := (.sl (.i .i64))) (show Am.argOk Tryz.prog 47 (.sl (.i .i64)) = true by kernel_rfl) (hval 1 47 v1 rfl rfl) t1
  simp only [List.cons_append, List.nil_append, List.append_nil, Rows.uptoSmall, decide_eq_true_eq, Rows.uptoBulkAll] at hk
  obtain ⟨G, hG, hGS⟩ := tabs_of hsh hL
  refine ((Am.seneschallaw15_LoginSteps_pk (tabs := G) (o := Am.realOps)).ok (memOf W) W [v0, v1] (x0, x1) true hGS (subMem W) (.cons (Am.rep1_vr e0) (.cons (Am.rep1_vr e1) .nil)) (Am.loginSteps_uses x0 x1 (by omega))).mono fun e W' ⟨hx, v, he, hr, _⟩ => ?_
  have hr : [v] = [Value.bool true] := hr
  rw [(List.cons.inj hr).1] at he
  subst he
  refine ⟨_, rfl, law_post (B := 4) (n := 2) (by kernel_rfl) rfl (by kernel_rfl) (by kernel_rfl) (by kernel_rfl) (by kernel_rfl) (fun ds hds => ?_) hW' hx⟩
  match ds, hds with
  | [x0, x1], _ => exact ⟨rfl, rfl, rfl⟩
theorem own_none : ownKnob Tryz.prog.godebug = none := by kernel_rfl
def cellsD : DataW Unit → List Value
  | .lit (.int k n) => [.int k n]
  | .agg l => go l
  | _ => []
where go : List (DataW Unit) → List Value
  | [] => []
  | d :: l => cellsD d ++ go l
def layCells (l : List Value) : Obj → Obj
  | .cells _ t frozen => .cells l.toArray t frozen
  | o => o
noncomputable def laidWorld (os : Os) : World := { World.holding Tryz.prog os ⟨#[], #[], []⟩ with heap := (((((((((World.holding Tryz.prog os ⟨#[], #[], []⟩).heap).modify 6 (layCells (cellsD Rows.laid_math_bits_deBruijn32tab))).modify 7 (layCells (cellsD Rows.laid_math_bits_deBruijn64tab))).modify 1 (layCells (cellsD Rows.laid_internal_strconv_uint64pow10))).modify 5 (layCells (cellsD Rows.laid_unicode_utf8_acceptRanges))).modify 3 (layCells [.iface 233 (.pointer (some ⟨(World.holding Tryz.prog os ⟨#[], #[], []⟩).heap.size + 0, 0, none⟩))])).modify 2 (layCells [.iface 233 (.pointer (some ⟨(World.holding Tryz.prog os ⟨#[], #[], []⟩).heap.size + 1, 0, none⟩))])).modify 4 (layCells (cellsD Go.Pinned.utf8First))) ++ #[.cells #[.string ⟨#[118, 97, 108, 117, 101, 32, 111, 117, 116, 32, 111, 102, 32, 114, 97, 110, 103, 101]⟩] 235, .cells #[.string ⟨#[105, 110, 118, 97, 108, 105, 100, 32, 115, 121, 110, 116, 97, 120]⟩] 235] }
theorem laid_met_loginSteps (os : Os) : laidMet Tryz.prog Rows.loginStepsUptoRow.laid ((laidWorld os).forCall (fun _ _ => 0) ⟨#[], #[.string ⟨#[]⟩, .slice none 0 0], []⟩).memory :=
  laidMet_of_run' 8 (by kernel_rfl) (by kernel_rfl)
theorem reads_loginSteps (os : Os) {H : Type} (enc : TypeId × Value → H) : ∃ places, DataW.whole enc Tryz.prog ((laidWorld os).forCall (fun _ _ => 0) ⟨#[], #[.string ⟨#[]⟩, .slice none 0 0], []⟩).memory Tryz.f5.params.toList Rows.loginStepsSpec.vars false (#[.string ⟨#[]⟩, .slice none 0 0] : Array Value).toList 8 = some ([.lit (.string []), .nil], [], places) :=
  ⟨[], by kernel_rfl⟩
set_option maxRecDepth 100000 in
theorem lifted_loginSteps (os : Os) (started : os.Started) (H : Type) (enc : TypeId × Value → H) (F : Stop.Interp) :
    ReturnsInHanded {} Tryz.checked os 5 .any ((Rows.OpenSpec.upto Rows.loginStepsSpec).preRow enc Tryz.prog Tryz.f5 Rows.loginStepsUptoRow.domain false Rows.loginStepsUptoRow.laid) (((Rows.OpenSpec.upto Rows.loginStepsSpec).at F).post enc Tryz.prog Tryz.f5 false true false false) := by
  obtain ⟨places, hx⟩ := reads_loginSteps os enc
  refine returnsInHanded_of_row (C := Tryz.checked) (s := Rows.OpenSpec.upto Rows.loginStepsSpec) own_none started (by kernel_rfl) Tryz.func5
    (witness_row_at (enc := enc) (C := Tryz.checked) false (laidWorld os) #[.string ⟨#[]⟩, .slice none 0 0] rfl (by kernel_rfl) (by kernel_rfl) (by kernel_rfl)
      (OpenSpec.preRow_of_cond 8 hx (by kernel_rfl) (fun k hk => by cases hk; kernel_rfl) (by kernel_rfl) (laid_met_loginSteps os))) ?_
  intro W base args ds gs before hval hW _ hcond _ hL hsh _
  exact contract_loginSteps H enc W base args ds gs before hval hW (hcond _ rfl) hsh hL
theorem loginSteps_row : Rows.LoginStepsUptoSaid :=
  OpenClaim.holds_of_cond 5 Tryz.f5 rfl rfl rfl rfl rfl rfl rfl ⟨rfl, rfl, rfl, rfl, rfl⟩ rfl rfl rfl rfl rfl (by kernel_rfl) Tryz.func5 (by kernel_rfl)
    (of_decide_eq_true (by kernel_rfl)) (by unfold Func.isWrapper; first | (rw [if_pos (by decide +kernel)]; kernel_rfl) | (rw [if_neg (by decide +kernel)]; exact ⟨rfl, rfl⟩))
    (fun os started H enc _ F => by rw [OpenClaim.pre_eq_preRow]; exact lifted_loginSteps os started H enc F)
theorem plain_loginSteps (f : FuncId) (fn : Func) (hf : Tryz.pinned.checked.prog.funcNamed "seneschal/seneschallaw15.LoginSteps" = some f) (hfn : Tryz.pinned.checked.prog.funcs[f]? = some fn) :
    true = Tryz.pinned.checked.prog.looks [] ∧ ∀ (j : Nat) t, fn.params[j]? = some t → Tryz.pinned.checked.prog.wantsStandIn t = false := by
  obtain rfl : f = 5 := Option.some.inj ((show Tryz.prog.funcNamed "seneschal/seneschallaw15.LoginSteps" = some 5 by kernel_rfl).symm.trans hf) |>.symm
  obtain rfl : fn = Tryz.f5 := (Option.some.inj (Tryz.func5.symm.trans hfn)).symm
  refine ⟨by kernel_rfl, fun j t ht => ?_⟩
  rw [Tryz.params5] at ht
  have hm : t ∈ [9, 47] := by simpa using Array.mem_of_getElem? ht
  have hall : ([9, 47].all fun u => !Tryz.prog.wantsStandIn u) = true := by kernel_rfl
  exact (show Tryz.prog.wantsStandIn t = false by simpa using List.all_eq_true.1 hall t hm)
theorem loginSteps_said : Rows.LoginStepsUptoCardSaid :=
  Claim7.holds_tied_plain_at .later [] _ _ _ _ loginSteps_row (fun _ h => by cases h) (by kernel_rfl) (fun _ h => by cases h) loginStepsUpto_row_tie rfl ⟨rfl, rfl⟩ (by kernel_rfl) rfl plain_loginSteps (by kernel_rfl)
end Go.Proofs.YtmkomlbiaebddaaGreatDoor
