/- The law 'seneschallaw01.CodecSafe' holds of every input whose arguments hold together at most 1048576 values and letters, and its card. Conditions: the row's listed tables hold what the program's text lays; the arguments' bulk is at most 1048576. -/
import Derived.Test.YtdomaggikbmooaaDoorPsa
import Derived.Test.YtdomaggikbmooaaDoorJt
namespace Go.Proofs.YtdomaggikbmooaaDoor
open Go Go.RowKit Go.ChangeShapes Go.WideShapes Go.ChangeAt
attribute [local irreducible] Value.okWide
theorem contract_codecSafe (H : Type) (enc : TypeId × Value → H) (W : World) (base : Nat) (args : Array Value) (ds gs : List (DataW H)) (before : List MemPlace)
    (hval : ∀ (j : Nat) t v, Tryd.f10.params[j]? = some t → args[j]? = some v → Value.okWide Tryd.prog W .any base t v)
    (hW : DataW.Whole enc Tryd.prog Tryd.f10.params.toList Rows.codecSafeSpec.vars false W args.toList ds gs before) (hk : Rows.uptoSmall H (ds ++ gs) = true) (hsh : W.ShapedOpen Tryd.prog) :
    Calls Tryd.prog 10 args W fun e W' => ∃ v, e = .returned v ∧ Rows.codecSafeSpec.post enc Tryd.prog Tryd.f10 false true false false W args v W' := by
  have hW' := hW
  obtain ⟨p, q, hA0, hV, rfl, _, _⟩ := hW
  have hA : DataW.TrodAll enc Tryd.prog W 0 (fun _ => true) true Tryd.f10.params.toList args.toList ds p := hA0
  rw [Tryd.params10] at hA hval
  obtain ⟨v0, vs0, d0, ds0, p0, q0, hargs, rfl, rfl, t0, r0⟩ := trodAll_cons hA
  obtain ⟨v1, vs1, d1, ds1, p1, q1, rfl, rfl, rfl, t1, r1⟩ := trodAll_cons r0
  obtain ⟨rfl, rfl, rfl⟩ := trodAll_nil r1
  obtain rfl : args = #[v0, v1] := by cases args; simp_all
  obtain ⟨rfl, rfl⟩ := trodVars_none hV
  obtain ⟨x0, rfl, hl0, e0⟩ := ok_str (show Tryd.prog.underlying 9 = some .string by kernel_rfl) (hval 0 9 v0 rfl rfl) t0
  obtain ⟨x1, rd1, bk1⟩ := ok_parts (P := Tryd.prog) (T := 28) (E := 34) (A := 9) (v := v1) (by kernel_rfl) (by kernel_rfl) (by kernel_rfl) (by kernel_rfl) (by kernel_rfl) (hval 1 28 v1 rfl rfl) t1
  have pn1 := pairsLen_length x1
  rw [e0] at hk
  simp only [List.cons_append, List.nil_append, List.append_nil, Rows.uptoSmall, decide_eq_true_eq, Rows.uptoBulkAll, Rows.uptoBulk] at hk
  refine (seneschallaw01_CodecSafe_c (subMem W) (gv_of hsh) rd1 (codecSafe_plain x0 x1 (by omega))).mono fun e W' ⟨he, hx⟩ => ?_
  subst he
  refine ⟨_, rfl, law_post (B := 4) (n := 2) (by kernel_rfl) rfl (by kernel_rfl) (by kernel_rfl) (by kernel_rfl) (by kernel_rfl) (fun ds hds => ?_) hW' hx⟩
  match ds, hds with
  | [x0, x1], _ => exact ⟨rfl, rfl, rfl⟩
theorem laid_met_codecSafe (os : Os) : laidMet Tryd.prog Rows.codecSafeUptoRow.laid ((laidWorld os).forCall (fun _ _ => 0) ⟨#[], #[.string ⟨#[]⟩, .slice none 0 0], []⟩).memory :=
  laidMet_of_run' 8 (by kernel_rfl) (by kernel_rfl)
theorem reads_codecSafe (os : Os) {H : Type} (enc : TypeId × Value → H) : ∃ places, DataW.whole enc Tryd.prog ((laidWorld os).forCall (fun _ _ => 0) ⟨#[], #[.string ⟨#[]⟩, .slice none 0 0], []⟩).memory Tryd.f10.params.toList Rows.codecSafeSpec.vars false (#[.string ⟨#[]⟩, .slice none 0 0] : Array Value).toList 8 = some ([.lit (.string []), .nil], [], places) :=
  ⟨[], by kernel_rfl⟩
set_option maxRecDepth 100000 in
theorem lifted_codecSafe (os : Os) (started : os.Started) (H : Type) (enc : TypeId × Value → H) (F : Stop.Interp) :
    ReturnsInHanded {} Tryd.checked os 10 .any ((Rows.OpenSpec.upto Rows.codecSafeSpec).preRow enc Tryd.prog Tryd.f10 Rows.codecSafeUptoRow.domain false Rows.codecSafeUptoRow.laid) (((Rows.OpenSpec.upto Rows.codecSafeSpec).at F).post enc Tryd.prog Tryd.f10 false true false false) := by
  obtain ⟨places, hx⟩ := reads_codecSafe os enc
  refine returnsInHanded_of_row (C := Tryd.checked) (s := Rows.OpenSpec.upto Rows.codecSafeSpec) own_none started (by kernel_rfl) Tryd.func10
    (witness_row_at (enc := enc) (C := Tryd.checked) false (laidWorld os) #[.string ⟨#[]⟩, .slice none 0 0] rfl (by kernel_rfl) (by kernel_rfl) (by kernel_rfl)
      (OpenSpec.preRow_of_cond 8 hx (by kernel_rfl) (fun k hk => by cases hk; kernel_rfl) (by kernel_rfl) (laid_met_codecSafe os))) ?_
  intro W base args ds gs before hval hW _ hcond _ hL hsh _
  exact contract_codecSafe H enc W base args ds gs before hval hW (hcond _ rfl) hsh
theorem codecSafe_row : Rows.CodecSafeUptoSaid :=
  OpenClaim.holds_of_cond 10 Tryd.f10 rfl rfl rfl rfl rfl rfl rfl ⟨rfl, rfl, rfl, rfl, rfl⟩ rfl rfl rfl rfl rfl (by kernel_rfl) Tryd.func10 (by kernel_rfl)
    (of_decide_eq_true (by kernel_rfl)) (by unfold Func.isWrapper; first | (rw [if_pos (by decide +kernel)]; kernel_rfl) | (rw [if_neg (by decide +kernel)]; exact ⟨rfl, rfl⟩))
    (fun os started H enc _ F => by rw [OpenClaim.pre_eq_preRow]; exact lifted_codecSafe os started H enc F)
theorem plain_codecSafe (f : FuncId) (fn : Func) (hf : Tryd.pinned.checked.prog.funcNamed "seneschal/seneschallaw01.CodecSafe" = some f) (hfn : Tryd.pinned.checked.prog.funcs[f]? = some fn) :
    false = Tryd.pinned.checked.prog.looks [] ∧ ∀ (j : Nat) t, fn.params[j]? = some t → Tryd.pinned.checked.prog.wantsStandIn t = false := by
  obtain rfl : f = 10 := Option.some.inj ((show Tryd.prog.funcNamed "seneschal/seneschallaw01.CodecSafe" = some 10 by kernel_rfl).symm.trans hf) |>.symm
  obtain rfl : fn = Tryd.f10 := (Option.some.inj (Tryd.func10.symm.trans hfn)).symm
  refine ⟨by kernel_rfl, fun j t ht => ?_⟩
  rw [Tryd.params10] at ht
  have hm : t ∈ [9, 28] := by simpa using Array.mem_of_getElem? ht
  have hall : ([9, 28].all fun u => !Tryd.prog.wantsStandIn u) = true := by kernel_rfl
  exact (show Tryd.prog.wantsStandIn t = false by simpa using List.all_eq_true.1 hall t hm)
theorem codecSafe_said : Rows.CodecSafeUptoCardSaid :=
  Claim7.holds_tied_plain_at .later [] _ _ _ _ codecSafe_row (fun _ h => by cases h) (by kernel_rfl) (fun _ h => by cases h) codecSafeUpto_row_tie rfl ⟨rfl, rfl⟩ (by kernel_rfl) rfl plain_codecSafe (by kernel_rfl)
end Go.Proofs.YtdomaggikbmooaaDoor
