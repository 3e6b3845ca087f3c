/- The walks of some functions. Conditions: as each theorem says. -/
import Derived.Test.YtmbcolbbekbccaaEqn
namespace Go.Proofs.Ytmbcolbbekbccaa
open Go Go.RowKit
attribute [local irreducible] wpList wpT Code.wp Calls Code.rounds lm sd sb ad ac
theorem tg24 : TAgg Try.prog 24 4 := ⟨fun _ => by kernel_rfl, fun _ => by kernel_rfl⟩
theorem to22 : TOne Try.prog 22 := ⟨fun _ => by kernel_rfl, fun _ => by kernel_rfl⟩
theorem tz24 : TZero Try.prog 24 (.agg #[.int .u64 0, .int .u64 0, .int .u64 0, .int .u64 0]) := fun _ => by kernel_rfl
theorem u22 : Try.prog.underlying 22 = some (.int .u64) := by kernel_rfl
theorem u24 : Try.prog.underlying 24 = some (.array 4 22) := by kernel_rfl
theorem ag22 (w : World) : (isAgg 22).run Try.prog w = .ok false w := by kernel_rfl
theorem eg24 : Try.prog.eqGuardType Try.prog.depth 24 = false := by kernel_rfl
theorem is11 : IsFn Try.prog 11 := isFn Try.func11 (by kernel_rfl) (by kernel_rfl)
theorem is22 : IsFn Try.prog 22 := isFn Try.func22 (by kernel_rfl) (by kernel_rfl)
theorem is26 : IsFn Try.prog 26 := isFn Try.func26 (by kernel_rfl) (by kernel_rfl)
theorem is34 : IsFn Try.prog 34 := isFn Try.func34 (by kernel_rfl) (by kernel_rfl)
theorem is36 : IsFn Try.prog 36 := isFn Try.func36 (by kernel_rfl) (by kernel_rfl)
theorem is49 : IsFn Try.prog 49 := isFn Try.func49 (by kernel_rfl) (by kernel_rfl)
theorem is64 : IsFn Try.prog 64 := isFn Try.func64 (by kernel_rfl) (by kernel_rfl)
theorem sz22 (w : World) : (sizeOf 22).run Try.prog w = .ok 1 w := by kernel_rfl
theorem tb24 : TBuild Try.prog 24 (.agg #[.int .u64 0, .int .u64 0, .int .u64 0, .int .u64 0]) [(0, 1), (1, 1), (2, 1), (3, 1)] := tbuildA u24 tz24 sz22 rfl

theorem modulus_c (m : Int) (w : World) :
    Calls Try.prog 26 #[.int .i64 m] w fun e w' => e = .returned (numV (modN m)) ∧ Ext w w' := by
 refine enter (n := 7) Try.func26 rfl rfl rfl ?_
 have H := HP.start w
 refine sr ?_; intro K1 hK1
 refine p_alloc (l := [.int .u64 0, .int .u64 0, .int .u64 0, .int .u64 0]) H tz24 rfl ?_; clear H; intro w3 b2 H
 refine xk hK1 ?_; try clear hK1 K1
 refine wp_seq_k ?_; intro K4 hK4
 refine sr ?_; intro K5 hK5
 refine p_mv (v := (.int _ _)) rfl ?_
 refine p_val (r_eql rfl rfl rfl) ?_
 refine xk hK5 ?_; try clear hK5 K5
 refine c_split (t := _) rfl (fun hc_1 => ?_) (fun hc_1 => ?_)
 ·skip
  refine sr ?_; intro K7 hK7
  refine p_val (r_as (l' := numL (modN m)) (r_build (vals := [(0, (.int _ _)), (1, (.int _ _)), (2, (.int _ _)), (3, (.int _ _))]) (l := [_, _, _, _]) tb24 rfl rfl) (by rw [num_PP]; unfold modN; rw [hc_1]; rfl)) ?_
  refine p_storeW tg24 H rfl (k := 0) rfl rfl rfl rfl rfl ?_; clear H; intro w8 H
  refine xk hK7 ?_; try clear hK7 K7
  refine wp_ret ?_
  refine x_ret ?_
  refine e_1 rfl (q_cellW tg24 H rfl (k := 0) rfl rfl) ?_
  exact ⟨rfl, H.below⟩
 ·skip
  refine wp_skip ?_
  refine xn hK4 ?_; try clear hK4 K4
  refine sr ?_; intro K9 hK9
  refine p_val (r_as (l' := numL (modN m)) (r_build (vals := [(0, (.int _ _)), (1, (.int _ _)), (2, (.int _ _)), (3, (.int _ _))]) (l := [_, _, _, _]) tb24 rfl rfl) (by rw [num_NN]; unfold modN; rw [hc_1]; rfl)) ?_
  refine p_storeW tg24 H rfl (k := 0) rfl rfl rfl rfl rfl ?_; clear H; intro w10 H
  refine xk hK9 ?_; try clear hK9 K9
  refine wp_ret ?_
  refine e_1 rfl (q_cellW tg24 H rfl (k := 0) rfl rfl) ?_
  exact ⟨rfl, H.below⟩

theorem less_c (A B : Nat) (hA : A < two256) (hB : B < two256) (w : World) :
    Calls Try.prog 36 #[numV A, numV B] w fun e w' => e = .returned (.tuple #[numV ((A + (two256 - B)) % two256), .bool (decide (A < B))]) ∧ Ext w w' := by
 refine enter (n := 28) Try.func36 rfl rfl rfl ?_
 have H := HP.start w
 refine sr ?_; intro K1 hK1
 refine p_box (l := _) H rfl ?_; clear H; intro w2 b3 H
 refine p_box (l := _) H rfl ?_; clear H; intro w4 b5 H
 refine p_alloc (l := [.int .u64 0, .int .u64 0, .int .u64 0, .int .u64 0]) H tz24 rfl ?_; clear H; intro w7 b6 H
 refine p_as (v := (.bool _)) rfl ?_
 refine xk hK1 ?_; try clear hK1 K1
 refine sr ?_; intro K8 hK8
 refine p_as (v := (.int _ _)) rfl ?_
 refine xk hK8 ?_; try clear hK8 K8
 refine wp_seq_k ?_; intro K9 hK9
 refine sr ?_; intro K10 hK10
 refine p_mv (v := (.int _ _)) rfl ?_
 refine xk hK10 ?_; try clear hK10 K10
 refine wp_block ?_
 refine wp_loop_rounds 5 ?_; rw [rounds_succ]
 refine sr ?_; intro K11 hK11
 refine p_val (r_lss (t := true) rfl rfl (by decide)) ?_
 refine xk hK11 ?_; try clear hK11 K11
 refine wp_seq_k ?_; intro K12 hK12
 refine c_true rfl rfl ?_
 refine wp_skip ?_
 refine xn hK12 ?_; try clear hK12 K12
 refine wp_seq_k ?_; intro K13 hK13
 refine wp_block ?_
 refine sr ?_; intro K14 hK14
 refine p_mv (v := (.int _ _)) rfl ?_
 refine p_as (v := (.int _ _)) rfl ?_
 refine xk hK14 ?_; try clear hK14 K14
 apply wp_region_ext 13 (kinds []) rfl rfl (by kernel_rfl); intro vs16
 simp only [List.take_succ_cons, List.take_zero, List.drop_succ_cons, List.drop_zero]
 replace H := H.drew
 refine t_v (fun w hx => r_move (v := (.int _ _)) rfl) ?_
 refine t_v (fun w hx => r_move (v := (.int _ _)) rfl) ?_
 refine t_v (fun w hx => r_addrA u24 sz22 rfl (k := .i64) (i := 0) rfl rfl (by decide) (by decide)) ?_
 refine t_v (fun w hx => r_load1 (v := (.int _ _)) to22 (H.ext hx) rfl (k := 2) rfl rfl) ?_
 refine t_v (fun w hx => r_move (v := (.int _ _)) rfl) ?_
 refine t_v (fun w hx => r_addrA u24 sz22 rfl (k := .i64) (i := 0) rfl rfl (by decide) (by decide)) ?_
 refine t_v (fun w hx => r_load1 (v := (.int _ _)) to22 (H.ext hx) rfl (k := 1) rfl rfl) ?_
 refine t_v (fun w hx => r_move (v := (.int _ _)) rfl) ?_
 refine t_callv (l := [(.int _ _), (.int _ _), (.int _ _)]) rfl (fun w => run_Sub64 (by first | exact U_lm _ _ | exact U_sd _ _ _ | exact U_ad _ _ _ | exact U_ml _ _ | assumption | exact U_0 | exact hf' _ | exact hf _) (by first | exact U_lm _ _ | exact U_sd _ _ _ | exact U_ad _ _ _ | exact U_ml _ _ | assumption | exact U_0 | exact hf' _ | exact hf _) (by first | exact C_sb _ _ _ | exact C_ac _ _ _ | exact C1_0 | assumption) _) rfl rfl ?_
 refine t_v (fun w hx => r_move (v := (.tuple _)) rfl) ?_
 refine t_v (fun w hx => r_extract (v := (.int _ _)) rfl rfl) ?_
 refine t_float (fun w => r_extract (v := (.int _ _)) rfl rfl) rfl rfl ?_
 refine t_v (fun w hx => r_addrA u24 sz22 rfl (k := .i64) (i := 0) rfl rfl (by decide) (by decide)) ?_
 refine t_nil (fun w17 hx hF hA => ?_)
 replace H := H.ext hx
 clear hx hF hA
 refine p_store1 (v := (.int _ _)) to22 H rfl (k := 2) rfl rfl rfl rfl ?_; clear H; intro w18 H
 refine p_as (v := (.int _ _)) rfl ?_
 refine wpList_nil ?_; refine on_norm ?_
 refine b_norm ?_
 refine xn hK13 ?_; try clear hK13 K13
 refine wp_region_lit ?_
 refine p_val (r_add (r := 1) rfl rfl rfl) ?_
 refine p_mv (v := (.int _ _)) rfl ?_
 refine wpList_nil ?_
 refine x_norm ?_
 rw [rounds_succ]
 refine sr ?_; intro K19 hK19
 refine p_val (r_lss (t := true) rfl rfl (by decide)) ?_
 refine xk hK19 ?_; try clear hK19 K19
 refine wp_seq_k ?_; intro K20 hK20
 refine c_true rfl rfl ?_
 refine wp_skip ?_
 refine xn hK20 ?_; try clear hK20 K20
 refine wp_seq_k ?_; intro K21 hK21
 refine wp_block ?_
 refine sr ?_; intro K22 hK22
 refine p_mv (v := (.int _ _)) rfl ?_
 refine p_as (v := (.int _ _)) rfl ?_
 refine xk hK22 ?_; try clear hK22 K22
 apply wp_region_ext 13 (kinds []) rfl rfl (by kernel_rfl); intro vs24
 simp only [List.take_succ_cons, List.take_zero, List.drop_succ_cons, List.drop_zero]
 replace H := H.drew
 refine t_v (fun w hx => r_move (v := (.int _ _)) rfl) ?_
 refine t_v (fun w hx => r_move (v := (.int _ _)) rfl) ?_
 refine t_v (fun w hx => r_addrA u24 sz22 rfl (k := .i64) (i := 1) rfl rfl (by decide) (by decide)) ?_
 refine t_v (fun w hx => r_load1 (v := (.int _ _)) to22 (H.ext hx) rfl (k := 2) rfl rfl) ?_
 refine t_v (fun w hx => r_move (v := (.int _ _)) rfl) ?_
 refine t_v (fun w hx => r_addrA u24 sz22 rfl (k := .i64) (i := 1) rfl rfl (by decide) (by decide)) ?_
 refine t_v (fun w hx => r_load1 (v := (.int _ _)) to22 (H.ext hx) rfl (k := 1) rfl rfl) ?_
 refine t_v (fun w hx => r_move (v := (.int _ _)) rfl) ?_
 refine t_callv (l := [(.int _ _), (.int _ _), (.int _ _)]) rfl (fun w => run_Sub64 (by first | exact U_lm _ _ | exact U_sd _ _ _ | exact U_ad _ _ _ | exact U_ml _ _ | assumption | exact U_0 | exact hf' _ | exact hf _) (by first | exact U_lm _ _ | exact U_sd _ _ _ | exact U_ad _ _ _ | exact U_ml _ _ | assumption | exact U_0 | exact hf' _ | exact hf _) (by first | exact C_sb _ _ _ | exact C_ac _ _ _ | exact C1_0 | assumption) _) rfl rfl ?_
 refine t_v (fun w hx => r_move (v := (.tuple _)) rfl) ?_
 refine t_v (fun w hx => r_extract (v := (.int _ _)) rfl rfl) ?_
 refine t_float (fun w => r_extract (v := (.int _ _)) rfl rfl) rfl rfl ?_
 refine t_v (fun w hx => r_addrA u24 sz22 rfl (k := .i64) (i := 1) rfl rfl (by decide) (by decide)) ?_
 refine t_nil (fun w25 hx hF hA => ?_)
 replace H := H.ext hx
 clear hx hF hA
 refine p_store1 (v := (.int _ _)) to22 H rfl (k := 2) rfl rfl rfl rfl ?_; clear H; intro w26 H
 refine p_as (v := (.int _ _)) rfl ?_
 refine wpList_nil ?_; refine on_norm ?_
 refine b_norm ?_
 refine xn hK21 ?_; try clear hK21 K21
 refine wp_region_lit ?_
 refine p_val (r_add (r := 2) rfl rfl rfl) ?_
 refine p_mv (v := (.int _ _)) rfl ?_
 refine wpList_nil ?_
 refine x_norm ?_
 rw [rounds_succ]
 refine sr ?_; intro K27 hK27
 refine p_val (r_lss (t := true) rfl rfl (by decide)) ?_
 refine xk hK27 ?_; try clear hK27 K27
 refine wp_seq_k ?_; intro K28 hK28
 refine c_true rfl rfl ?_
 refine wp_skip ?_
 refine xn hK28 ?_; try clear hK28 K28
 refine wp_seq_k ?_; intro K29 hK29
 refine wp_block ?_
 refine sr ?_; intro K30 hK30
 refine p_mv (v := (.int _ _)) rfl ?_
 refine p_as (v := (.int _ _)) rfl ?_
 refine xk hK30 ?_; try clear hK30 K30
 apply wp_region_ext 13 (kinds []) rfl rfl (by kernel_rfl); intro vs32
 simp only [List.take_succ_cons, List.take_zero, List.drop_succ_cons, List.drop_zero]
 replace H := H.drew
 refine t_v (fun w hx => r_move (v := (.int _ _)) rfl) ?_
 refine t_v (fun w hx => r_move (v := (.int _ _)) rfl) ?_
 refine t_v (fun w hx => r_addrA u24 sz22 rfl (k := .i64) (i := 2) rfl rfl (by decide) (by decide)) ?_
 refine t_v (fun w hx => r_load1 (v := (.int _ _)) to22 (H.ext hx) rfl (k := 2) rfl rfl) ?_
 refine t_v (fun w hx => r_move (v := (.int _ _)) rfl) ?_
 refine t_v (fun w hx => r_addrA u24 sz22 rfl (k := .i64) (i := 2) rfl rfl (by decide) (by decide)) ?_
 refine t_v (fun w hx => r_load1 (v := (.int _ _)) to22 (H.ext hx) rfl (k := 1) rfl rfl) ?_
 refine t_v (fun w hx => r_move (v := (.int _ _)) rfl) ?_
 refine t_callv (l := [(.int _ _), (.int _ _), (.int _ _)]) rfl (fun w => run_Sub64 (by first | exact U_lm _ _ | exact U_sd _ _ _ | exact U_ad _ _ _ | exact U_ml _ _ | assumption | exact U_0 | exact hf' _ | exact hf _) (by first | exact U_lm _ _ | exact U_sd _ _ _ | exact U_ad _ _ _ | exact U_ml _ _ | assumption | exact U_0 | exact hf' _ | exact hf _) (by first | exact C_sb _ _ _ | exact C_ac _ _ _ | exact C1_0 | assumption) _) rfl rfl ?_
 refine t_v (fun w hx => r_move (v := (.tuple _)) rfl) ?_
 refine t_v (fun w hx => r_extract (v := (.int _ _)) rfl rfl) ?_
 refine t_float (fun w => r_extract (v := (.int _ _)) rfl rfl) rfl rfl ?_
 refine t_v (fun w hx => r_addrA u24 sz22 rfl (k := .i64) (i := 2) rfl rfl (by decide) (by decide)) ?_
 refine t_nil (fun w33 hx hF hA => ?_)
 replace H := H.ext hx
 clear hx hF hA
 refine p_store1 (v := (.int _ _)) to22 H rfl (k := 2) rfl rfl rfl rfl ?_; clear H; intro w34 H
 refine p_as (v := (.int _ _)) rfl ?_
 refine wpList_nil ?_; refine on_norm ?_
 refine b_norm ?_
 refine xn hK29 ?_; try clear hK29 K29
 refine wp_region_lit ?_
 refine p_val (r_add (r := 3) rfl rfl rfl) ?_
 refine p_mv (v := (.int _ _)) rfl ?_
 refine wpList_nil ?_
 refine x_norm ?_
 rw [rounds_succ]
 refine sr ?_; intro K35 hK35
 refine p_val (r_lss (t := true) rfl rfl (by decide)) ?_
 refine xk hK35 ?_; try clear hK35 K35
 refine wp_seq_k ?_; intro K36 hK36
 refine c_true rfl rfl ?_
 refine wp_skip ?_
 refine xn hK36 ?_; try clear hK36 K36
 refine wp_seq_k ?_; intro K37 hK37
 refine wp_block ?_
 refine sr ?_; intro K38 hK38
 refine p_mv (v := (.int _ _)) rfl ?_
 refine p_as (v := (.int _ _)) rfl ?_
 refine xk hK38 ?_; try clear hK38 K38
 apply wp_region_ext 13 (kinds []) rfl rfl (by kernel_rfl); intro vs40
 simp only [List.take_succ_cons, List.take_zero, List.drop_succ_cons, List.drop_zero]
 replace H := H.drew
 refine t_v (fun w hx => r_move (v := (.int _ _)) rfl) ?_
 refine t_v (fun w hx => r_move (v := (.int _ _)) rfl) ?_
 refine t_v (fun w hx => r_addrA u24 sz22 rfl (k := .i64) (i := 3) rfl rfl (by decide) (by decide)) ?_
 refine t_v (fun w hx => r_load1 (v := (.int _ _)) to22 (H.ext hx) rfl (k := 2) rfl rfl) ?_
 refine t_v (fun w hx => r_move (v := (.int _ _)) rfl) ?_
 refine t_v (fun w hx => r_addrA u24 sz22 rfl (k := .i64) (i := 3) rfl rfl (by decide) (by decide)) ?_
 refine t_v (fun w hx => r_load1 (v := (.int _ _)) to22 (H.ext hx) rfl (k := 1) rfl rfl) ?_
 refine t_v (fun w hx => r_move (v := (.int _ _)) rfl) ?_
 refine t_callv (l := [(.int _ _), (.int _ _), (.int _ _)]) rfl (fun w => run_Sub64 (by first | exact U_lm _ _ | exact U_sd _ _ _ | exact U_ad _ _ _ | exact U_ml _ _ | assumption | exact U_0 | exact hf' _ | exact hf _) (by first | exact U_lm _ _ | exact U_sd _ _ _ | exact U_ad _ _ _ | exact U_ml _ _ | assumption | exact U_0 | exact hf' _ | exact hf _) (by first | exact C_sb _ _ _ | exact C_ac _ _ _ | exact C1_0 | assumption) _) rfl rfl ?_
 refine t_v (fun w hx => r_move (v := (.tuple _)) rfl) ?_
 refine t_v (fun w hx => r_extract (v := (.int _ _)) rfl rfl) ?_
 refine t_float (fun w => r_extract (v := (.int _ _)) rfl rfl) rfl rfl ?_
 refine t_v (fun w hx => r_addrA u24 sz22 rfl (k := .i64) (i := 3) rfl rfl (by decide) (by decide)) ?_
 refine t_nil (fun w41 hx hF hA => ?_)
 replace H := H.ext hx
 clear hx hF hA
 refine p_store1 (v := (.int _ _)) to22 H rfl (k := 2) rfl rfl rfl rfl ?_; clear H; intro w42 H
 refine p_as (v := (.int _ _)) rfl ?_
 refine wpList_nil ?_; refine on_norm ?_
 refine b_norm ?_
 refine xn hK37 ?_; try clear hK37 K37
 refine wp_region_lit ?_
 refine p_val (r_add (r := 4) rfl rfl rfl) ?_
 refine p_mv (v := (.int _ _)) rfl ?_
 refine wpList_nil ?_
 refine x_norm ?_
 rw [rounds_succ]
 refine sr ?_; intro K43 hK43
 refine p_val (r_lss (t := false) rfl rfl (by decide)) ?_
 refine xk hK43 ?_; try clear hK43 K43
 refine wp_seq_k ?_; intro K44 hK44
 refine c_false rfl rfl ?_
 refine wp_exit ?_
 refine x_exit ?_
 refine x_exit ?_
 refine b_hit ?_
 refine xn hK9 ?_; try clear hK9 K9
 refine sr ?_; intro K45 hK45
 refine p_val (r_loadW tg24 H rfl (k := 2) rfl rfl) ?_
 refine p_mv (v := (.int _ _)) rfl ?_
 refine p_val (r_eql rfl rfl rfl) ?_
 refine p_storeW tg24 H rfl (k := 0) rfl rfl rfl rfl rfl ?_; clear H; intro w47 H
 refine p_as (v := (.bool _)) rfl ?_
 refine xk hK45 ?_; try clear hK45 K45
 refine wp_ret ?_
 refine e_2 rfl (q_cellW tg24 H rfl (k := 0) rfl rfl) (q_tmp (v := (.bool _)) rfl) ?_
 obtain ⟨e1, e2⟩ := less_fin A B hA hB
 exact ⟨by rw [numV, ← e1, ← e2]; rfl, H.below⟩

theorem once_c (A p : Nat) (c : Int) (hA : A < two256) (hp : p < two256) (w : World) :
    Calls Try.prog 64 #[numV A, .int .u64 c, numV p] w fun e w' => e = .returned (numV (onceN A p c)) ∧ Ext w w' := by
 refine enter (n := 23) Try.func64 rfl rfl rfl ?_
 have H := HP.start w
 refine sr ?_; intro K1 hK1
 refine p_box (l := _) H rfl ?_; clear H; intro w2 b3 H
 refine p_box (l := _) H rfl ?_; clear H; intro w4 b5 H
 refine p_alloc (l := [.int .u64 0, .int .u64 0, .int .u64 0, .int .u64 0]) H tz24 rfl ?_; clear H; intro w7 b6 H
 refine xk hK1 ?_; try clear hK1 K1
 refine wp_seq_k ?_; intro K8 hK8
 refine sr ?_; intro K9 hK9
 refine p_val (r_loadW tg24 H rfl (k := 2) rfl rfl) ?_
 refine p_val (r_loadW tg24 H rfl (k := 1) rfl rfl) ?_
 refine p_call (l := [(.agg (List.toArray _)), (.agg (List.toArray _))]) is36 rfl ?_
 refine (less_c _ _ (by first | exact Nat.mod_lt _ two256_pos | exact Mod.lt (mod_modN _) | assumption | exact onceN_lt (by assumption) | exact Nat.lt_trans (Nat.mod_lt _ (mod_modN _).pos) (mod_modN _).lt | exact ofV_lt2 _ _ | exact invV_lt2 _ _ | exact fm_lt2 _ _ | exact fa_lt2 _ _ | exact fs_lt2 _ _ | exact fn_lt2 _ | exact PP_lt | exact AL_GG.1 | exact AL_GG.2 | exact (AL_cadd _ _).1 | exact (AL_cadd _ _).2 | exact (AL_cmul _ _).1 | exact (AL_cmul _ _).2 | exact (AL_cofV _).1 | exact (AL_cofV _).2 | exact (AL_cneg (by assumption)).1 | exact (AL_cneg (by assumption)).2 | exact lt_lit (by decide)) (by first | exact Nat.mod_lt _ two256_pos | exact Mod.lt (mod_modN _) | assumption | exact onceN_lt (by assumption) | exact Nat.lt_trans (Nat.mod_lt _ (mod_modN _).pos) (mod_modN _).lt | exact ofV_lt2 _ _ | exact invV_lt2 _ _ | exact fm_lt2 _ _ | exact fa_lt2 _ _ | exact fs_lt2 _ _ | exact fn_lt2 _ | exact PP_lt | exact AL_GG.1 | exact AL_GG.2 | exact (AL_cadd _ _).1 | exact (AL_cadd _ _).2 | exact (AL_cmul _ _).1 | exact (AL_cmul _ _).2 | exact (AL_cofV _).1 | exact (AL_cofV _).2 | exact (AL_cneg (by assumption)).1 | exact (AL_cneg (by assumption)).2 | exact lt_lit (by decide)) _).mono ?_; rintro _ w10 ⟨rfl, hx⟩; replace H := H.ext hx; clear hx
 refine p_mv (v := (.tuple _)) rfl ?_
 refine p_val (r_extract (v := (.agg (List.toArray _))) rfl rfl) ?_
 refine p_val (r_extract (v := (.bool _)) rfl rfl) ?_
 refine p_alloc (l := [.int .u64 0, .int .u64 0, .int .u64 0, .int .u64 0]) H tz24 rfl ?_; clear H; intro w12 b11 H
 refine p_storeW tg24 H rfl (k := 0) rfl rfl rfl rfl rfl ?_; clear H; intro w13 H
 refine p_as (v := (.bool _)) rfl ?_
 refine xk hK9 ?_; try clear hK9 K9
 refine sr ?_; intro K14 hK14
 refine p_mv (v := (.int _ _)) rfl ?_
 refine p_val (r_eql rfl rfl rfl) ?_
 refine p_mv (v := (.bool _)) rfl ?_
 refine p_gs (j := 2) rfl (fun hb_2_2 => ?_) (fun hb_2_2 => ?_)
 ·skip
  refine p_skip rfl hb_2_2 ?_
  rw [put_fr]
  refine p_skip rfl hb_2_2 ?_
  rw [put_fr]
  refine p_val (r_pickt (v := (.bool _)) rfl hb_2_2 rfl) ?_
  refine xk hK14 ?_; try clear hK14 K14
  refine c_true rfl rfl ?_
  refine sr ?_; intro K16 hK16
  refine p_val (r_loadW tg24 H rfl (k := 0) rfl rfl) ?_
  refine p_storeW tg24 H rfl (k := 1) rfl rfl rfl rfl rfl ?_; clear H; intro w17 H
  refine xk hK16 ?_; try clear hK16 K16
  refine wp_ret ?_
  refine x_ret ?_
  refine e_1 rfl (q_cellW tg24 H rfl (k := 1) rfl rfl) ?_
  exact ⟨by rw [onceN, if_pos (.inl (by simpa using hb_2_2))], H.below⟩
 ·skip
  refine p_want rfl hb_2_2 ?_
  refine p_mv (v := (.bool _)) rfl ?_
  refine p_want rfl hb_2_2 ?_
  refine p_val (r_not (t := _) rfl rfl) ?_
  refine p_val (r_pickf (v := (.bool _)) rfl hb_2_2 rfl) ?_
  refine xk hK14 ?_; try clear hK14 K14
  refine c_split (t := _) rfl (fun hc_2 => ?_) (fun hc_2 => ?_)
  ·skip
   refine sr ?_; intro K19 hK19
   refine p_val (r_loadW tg24 H rfl (k := 0) rfl rfl) ?_
   refine p_storeW tg24 H rfl (k := 1) rfl rfl rfl rfl rfl ?_; clear H; intro w20 H
   refine xk hK19 ?_; try clear hK19 K19
   refine wp_ret ?_
   refine x_ret ?_
   refine e_1 rfl (q_cellW tg24 H rfl (k := 1) rfl rfl) ?_
   exact ⟨by rw [onceN, if_pos (.inr (by simpa using hc_2))], H.below⟩
  ·skip
   refine wp_skip ?_
   refine xn hK8 ?_; try clear hK8 K8
   refine sr ?_; intro K21 hK21
   refine p_val (r_loadW tg24 H rfl (k := 3) rfl rfl) ?_
   refine p_storeW tg24 H rfl (k := 1) rfl rfl rfl rfl rfl ?_; clear H; intro w22 H
   refine xk hK21 ?_; try clear hK21 K21
   refine wp_ret ?_
   refine e_1 rfl (q_cellW tg24 H rfl (k := 1) rfl rfl) ?_
   exact ⟨by rw [onceN, if_neg (by simp at hb_2_2 hc_2; omega)], H.below⟩

theorem below_c (A p : Nat) (hA : A < two256) (hp : Mod p) (w : World) :
    Calls Try.prog 34 #[numV A, numV p] w fun e w' => e = .returned (numV (A % p)) ∧ Ext w w' := by
 refine enter (n := 8) Try.func34 rfl rfl rfl ?_
 have H := HP.start w
 have hpl := hp.lt
 refine sr ?_; intro K1 hK1
 refine p_box (l := _) H rfl ?_; clear H; intro w2 b3 H
 refine p_box (l := _) H rfl ?_; clear H; intro w4 b5 H
 refine p_alloc (l := [.int .u64 0, .int .u64 0, .int .u64 0, .int .u64 0]) H tz24 rfl ?_; clear H; intro w7 b6 H
 refine xk hK1 ?_; try clear hK1 K1
 refine sr ?_; intro K8 hK8
 refine p_val (r_loadW tg24 H rfl (k := 2) rfl rfl) ?_
 refine p_val (r_loadW tg24 H rfl (k := 1) rfl rfl) ?_
 refine p_call (l := [(.agg (List.toArray _)), (.int _ _), (.agg (List.toArray _))]) is64 rfl ?_
 refine (once_c _ _ _ (by first | exact Nat.mod_lt _ two256_pos | exact Mod.lt (mod_modN _) | assumption | exact onceN_lt (by assumption) | exact Nat.lt_trans (Nat.mod_lt _ (mod_modN _).pos) (mod_modN _).lt | exact ofV_lt2 _ _ | exact invV_lt2 _ _ | exact fm_lt2 _ _ | exact fa_lt2 _ _ | exact fs_lt2 _ _ | exact fn_lt2 _ | exact PP_lt | exact AL_GG.1 | exact AL_GG.2 | exact (AL_cadd _ _).1 | exact (AL_cadd _ _).2 | exact (AL_cmul _ _).1 | exact (AL_cmul _ _).2 | exact (AL_cofV _).1 | exact (AL_cofV _).2 | exact (AL_cneg (by assumption)).1 | exact (AL_cneg (by assumption)).2 | exact lt_lit (by decide)) (by first | exact Nat.mod_lt _ two256_pos | exact Mod.lt (mod_modN _) | assumption | exact onceN_lt (by assumption) | exact Nat.lt_trans (Nat.mod_lt _ (mod_modN _).pos) (mod_modN _).lt | exact ofV_lt2 _ _ | exact invV_lt2 _ _ | exact fm_lt2 _ _ | exact fa_lt2 _ _ | exact fs_lt2 _ _ | exact fn_lt2 _ | exact PP_lt | exact AL_GG.1 | exact AL_GG.2 | exact (AL_cadd _ _).1 | exact (AL_cadd _ _).2 | exact (AL_cmul _ _).1 | exact (AL_cmul _ _).2 | exact (AL_cofV _).1 | exact (AL_cofV _).2 | exact (AL_cneg (by assumption)).1 | exact (AL_cneg (by assumption)).2 | exact lt_lit (by decide)) _).mono ?_; rintro _ w9 ⟨rfl, hx⟩; replace H := H.ext hx; clear hx
 refine p_storeW tg24 H rfl (k := 0) rfl rfl rfl rfl rfl ?_; clear H; intro w10 H
 refine xk hK8 ?_; try clear hK8 K8
 refine wp_ret ?_
 refine e_1 rfl (q_cellW tg24 H rfl (k := 0) rfl rfl) ?_
 exact ⟨by rw [← onceN_0 hA hp], H.below⟩

theorem sum_c (A B p : Nat) (hp : Mod p) (hA : A < p) (hB : B < p) (w : World) :
    Calls Try.prog 49 #[numV A, numV B, numV p] w fun e w' => e = .returned (numV ((A + B) % p)) ∧ Ext w w' := by
 refine enter (n := 30) Try.func49 rfl rfl rfl ?_
 have H := HP.start w
 have hpl := hp.lt
 have hA' : A < two256 := by omega
 have hB' : B < two256 := by omega
 refine sr ?_; intro K1 hK1
 refine p_box (l := _) H rfl ?_; clear H; intro w2 b3 H
 refine p_box (l := _) H rfl ?_; clear H; intro w4 b5 H
 refine p_box (l := _) H rfl ?_; clear H; intro w6 b7 H
 refine p_alloc (l := [.int .u64 0, .int .u64 0, .int .u64 0, .int .u64 0]) H tz24 rfl ?_; clear H; intro w9 b8 H
 refine xk hK1 ?_; try clear hK1 K1
 refine sr ?_; intro K10 hK10
 refine p_as (v := (.int _ _)) rfl ?_
 refine xk hK10 ?_; try clear hK10 K10
 refine wp_seq_k ?_; intro K11 hK11
 refine sr ?_; intro K12 hK12
 refine p_mv (v := (.int _ _)) rfl ?_
 refine xk hK12 ?_; try clear hK12 K12
 refine wp_block ?_
 refine wp_loop_rounds 5 ?_; rw [rounds_succ]
 refine sr ?_; intro K13 hK13
 refine p_val (r_lss (t := true) rfl rfl (by decide)) ?_
 refine xk hK13 ?_; try clear hK13 K13
 refine wp_seq_k ?_; intro K14 hK14
 refine c_true rfl rfl ?_
 refine wp_skip ?_
 refine xn hK14 ?_; try clear hK14 K14
 refine wp_seq_k ?_; intro K15 hK15
 refine wp_block ?_
 refine sr ?_; intro K16 hK16
 refine p_mv (v := (.int _ _)) rfl ?_
 refine p_as (v := (.int _ _)) rfl ?_
 refine xk hK16 ?_; try clear hK16 K16
 apply wp_region_ext 13 (kinds []) rfl rfl (by kernel_rfl); intro vs18
 simp only [List.take_succ_cons, List.take_zero, List.drop_succ_cons, List.drop_zero]
 replace H := H.drew
 refine t_v (fun w hx => r_move (v := (.int _ _)) rfl) ?_
 refine t_v (fun w hx => r_move (v := (.int _ _)) rfl) ?_
 refine t_v (fun w hx => r_addrA u24 sz22 rfl (k := .i64) (i := 0) rfl rfl (by decide) (by decide)) ?_
 refine t_v (fun w hx => r_load1 (v := (.int _ _)) to22 (H.ext hx) rfl (k := 3) rfl rfl) ?_
 refine t_v (fun w hx => r_move (v := (.int _ _)) rfl) ?_
 refine t_v (fun w hx => r_addrA u24 sz22 rfl (k := .i64) (i := 0) rfl rfl (by decide) (by decide)) ?_
 refine t_v (fun w hx => r_load1 (v := (.int _ _)) to22 (H.ext hx) rfl (k := 2) rfl rfl) ?_
 refine t_v (fun w hx => r_move (v := (.int _ _)) rfl) ?_
 refine t_callv (l := [(.int _ _), (.int _ _), (.int _ _)]) rfl (fun w => run_Add64 (by first | exact U_lm _ _ | exact U_sd _ _ _ | exact U_ad _ _ _ | exact U_ml _ _ | assumption | exact U_0 | exact hf' _ | exact hf _) (by first | exact U_lm _ _ | exact U_sd _ _ _ | exact U_ad _ _ _ | exact U_ml _ _ | assumption | exact U_0 | exact hf' _ | exact hf _) (by first | exact C_sb _ _ _ | exact C_ac _ _ _ | exact C1_0 | assumption) _) rfl rfl ?_
 refine t_v (fun w hx => r_move (v := (.tuple _)) rfl) ?_
 refine t_v (fun w hx => r_extract (v := (.int _ _)) rfl rfl) ?_
 refine t_float (fun w => r_extract (v := (.int _ _)) rfl rfl) rfl rfl ?_
 refine t_v (fun w hx => r_addrA u24 sz22 rfl (k := .i64) (i := 0) rfl rfl (by decide) (by decide)) ?_
 refine t_nil (fun w19 hx hF hA => ?_)
 replace H := H.ext hx
 clear hx hF hA
 refine p_store1 (v := (.int _ _)) to22 H rfl (k := 3) rfl rfl rfl rfl ?_; clear H; intro w20 H
 refine p_as (v := (.int _ _)) rfl ?_
 refine wpList_nil ?_; refine on_norm ?_
 refine b_norm ?_
 refine xn hK15 ?_; try clear hK15 K15
 refine wp_region_lit ?_
 refine p_val (r_add (r := 1) rfl rfl rfl) ?_
 refine p_mv (v := (.int _ _)) rfl ?_
 refine wpList_nil ?_
 refine x_norm ?_
 rw [rounds_succ]
 refine sr ?_; intro K21 hK21
 refine p_val (r_lss (t := true) rfl rfl (by decide)) ?_
 refine xk hK21 ?_; try clear hK21 K21
 refine wp_seq_k ?_; intro K22 hK22
 refine c_true rfl rfl ?_
 refine wp_skip ?_
 refine xn hK22 ?_; try clear hK22 K22
 refine wp_seq_k ?_; intro K23 hK23
 refine wp_block ?_
 refine sr ?_; intro K24 hK24
 refine p_mv (v := (.int _ _)) rfl ?_
 refine p_as (v := (.int _ _)) rfl ?_
 refine xk hK24 ?_; try clear hK24 K24
 apply wp_region_ext 13 (kinds []) rfl rfl (by kernel_rfl); intro vs26
 simp only [List.take_succ_cons, List.take_zero, List.drop_succ_cons, List.drop_zero]
 replace H := H.drew
 refine t_v (fun w hx => r_move (v := (.int _ _)) rfl) ?_
 refine t_v (fun w hx => r_move (v := (.int _ _)) rfl) ?_
 refine t_v (fun w hx => r_addrA u24 sz22 rfl (k := .i64) (i := 1) rfl rfl (by decide) (by decide)) ?_
 refine t_v (fun w hx => r_load1 (v := (.int _ _)) to22 (H.ext hx) rfl (k := 3) rfl rfl) ?_
 refine t_v (fun w hx => r_move (v := (.int _ _)) rfl) ?_
 refine t_v (fun w hx => r_addrA u24 sz22 rfl (k := .i64) (i := 1) rfl rfl (by decide) (by decide)) ?_
 refine t_v (fun w hx => r_load1 (v := (.int _ _)) to22 (H.ext hx) rfl (k := 2) rfl rfl) ?_
 refine t_v (fun w hx => r_move (v := (.int _ _)) rfl) ?_
 refine t_callv (l := [(.int _ _), (.int _ _), (.int _ _)]) rfl (fun w => run_Add64 (by first | exact U_lm _ _ | exact U_sd _ _ _ | exact U_ad _ _ _ | exact U_ml _ _ | assumption | exact U_0 | exact hf' _ | exact hf _) (by first | exact U_lm _ _ | exact U_sd _ _ _ | exact U_ad _ _ _ | exact U_ml _ _ | assumption | exact U_0 | exact hf' _ | exact hf _) (by first | exact C_sb _ _ _ | exact C_ac _ _ _ | exact C1_0 | assumption) _) rfl rfl ?_
 refine t_v (fun w hx => r_move (v := (.tuple _)) rfl) ?_
 refine t_v (fun w hx => r_extract (v := (.int _ _)) rfl rfl) ?_
 refine t_float (fun w => r_extract (v := (.int _ _)) rfl rfl) rfl rfl ?_
 refine t_v (fun w hx => r_addrA u24 sz22 rfl (k := .i64) (i := 1) rfl rfl (by decide) (by decide)) ?_
 refine t_nil (fun w27 hx hF hA => ?_)
 replace H := H.ext hx
 clear hx hF hA
 refine p_store1 (v := (.int _ _)) to22 H rfl (k := 3) rfl rfl rfl rfl ?_; clear H; intro w28 H
 refine p_as (v := (.int _ _)) rfl ?_
 refine wpList_nil ?_; refine on_norm ?_
 refine b_norm ?_
 refine xn hK23 ?_; try clear hK23 K23
 refine wp_region_lit ?_
 refine p_val (r_add (r := 2) rfl rfl rfl) ?_
 refine p_mv (v := (.int _ _)) rfl ?_
 refine wpList_nil ?_
 refine x_norm ?_
 rw [rounds_succ]
 refine sr ?_; intro K29 hK29
 refine p_val (r_lss (t := true) rfl rfl (by decide)) ?_
 refine xk hK29 ?_; try clear hK29 K29
 refine wp_seq_k ?_; intro K30 hK30
 refine c_true rfl rfl ?_
 refine wp_skip ?_
 refine xn hK30 ?_; try clear hK30 K30
 refine wp_seq_k ?_; intro K31 hK31
 refine wp_block ?_
 refine sr ?_; intro K32 hK32
 refine p_mv (v := (.int _ _)) rfl ?_
 refine p_as (v := (.int _ _)) rfl ?_
 refine xk hK32 ?_; try clear hK32 K32
 apply wp_region_ext 13 (kinds []) rfl rfl (by kernel_rfl); intro vs34
 simp only [List.take_succ_cons, List.take_zero, List.drop_succ_cons, List.drop_zero]
 replace H := H.drew
 refine t_v (fun w hx => r_move (v := (.int _ _)) rfl) ?_
 refine t_v (fun w hx => r_move (v := (.int _ _)) rfl) ?_
 refine t_v (fun w hx => r_addrA u24 sz22 rfl (k := .i64) (i := 2) rfl rfl (by decide) (by decide)) ?_
 refine t_v (fun w hx => r_load1 (v := (.int _ _)) to22 (H.ext hx) rfl (k := 3) rfl rfl) ?_
 refine t_v (fun w hx => r_move (v := (.int _ _)) rfl) ?_
 refine t_v (fun w hx => r_addrA u24 sz22 rfl (k := .i64) (i := 2) rfl rfl (by decide) (by decide)) ?_
 refine t_v (fun w hx => r_load1 (v := (.int _ _)) to22 (H.ext hx) rfl (k := 2) rfl rfl) ?_
 refine t_v (fun w hx => r_move (v := (.int _ _)) rfl) ?_
 refine t_callv (l := [(.int _ _), (.int _ _), (.int _ _)]) rfl (fun w => run_Add64 (by first | exact U_lm _ _ | exact U_sd _ _ _ | exact U_ad _ _ _ | exact U_ml _ _ | assumption | exact U_0 | exact hf' _ | exact hf _) (by first | exact U_lm _ _ | exact U_sd _ _ _ | exact U_ad _ _ _ | exact U_ml _ _ | assumption | exact U_0 | exact hf' _ | exact hf _) (by first | exact C_sb _ _ _ | exact C_ac _ _ _ | exact C1_0 | assumption) _) rfl rfl ?_
 refine t_v (fun w hx => r_move (v := (.tuple _)) rfl) ?_
 refine t_v (fun w hx => r_extract (v := (.int _ _)) rfl rfl) ?_
 refine t_float (fun w => r_extract (v := (.int _ _)) rfl rfl) rfl rfl ?_
 refine t_v (fun w hx => r_addrA u24 sz22 rfl (k := .i64) (i := 2) rfl rfl (by decide) (by decide)) ?_
 refine t_nil (fun w35 hx hF hA => ?_)
 replace H := H.ext hx
 clear hx hF hA
 refine p_store1 (v := (.int _ _)) to22 H rfl (k := 3) rfl rfl rfl rfl ?_; clear H; intro w36 H
 refine p_as (v := (.int _ _)) rfl ?_
 refine wpList_nil ?_; refine on_norm ?_
 refine b_norm ?_
 refine xn hK31 ?_; try clear hK31 K31
 refine wp_region_lit ?_
 refine p_val (r_add (r := 3) rfl rfl rfl) ?_
 refine p_mv (v := (.int _ _)) rfl ?_
 refine wpList_nil ?_
 refine x_norm ?_
 rw [rounds_succ]
 refine sr ?_; intro K37 hK37
 refine p_val (r_lss (t := true) rfl rfl (by decide)) ?_
 refine xk hK37 ?_; try clear hK37 K37
 refine wp_seq_k ?_; intro K38 hK38
 refine c_true rfl rfl ?_
 refine wp_skip ?_
 refine xn hK38 ?_; try clear hK38 K38
 refine wp_seq_k ?_; intro K39 hK39
 refine wp_block ?_
 refine sr ?_; intro K40 hK40
 refine p_mv (v := (.int _ _)) rfl ?_
 refine p_as (v := (.int _ _)) rfl ?_
 refine xk hK40 ?_; try clear hK40 K40
 apply wp_region_ext 13 (kinds []) rfl rfl (by kernel_rfl); intro vs42
 simp only [List.take_succ_cons, List.take_zero, List.drop_succ_cons, List.drop_zero]
 replace H := H.drew
 refine t_v (fun w hx => r_move (v := (.int _ _)) rfl) ?_
 refine t_v (fun w hx => r_move (v := (.int _ _)) rfl) ?_
 refine t_v (fun w hx => r_addrA u24 sz22 rfl (k := .i64) (i := 3) rfl rfl (by decide) (by decide)) ?_
 refine t_v (fun w hx => r_load1 (v := (.int _ _)) to22 (H.ext hx) rfl (k := 3) rfl rfl) ?_
 refine t_v (fun w hx => r_move (v := (.int _ _)) rfl) ?_
 refine t_v (fun w hx => r_addrA u24 sz22 rfl (k := .i64) (i := 3) rfl rfl (by decide) (by decide)) ?_
 refine t_v (fun w hx => r_load1 (v := (.int _ _)) to22 (H.ext hx) rfl (k := 2) rfl rfl) ?_
 refine t_v (fun w hx => r_move (v := (.int _ _)) rfl) ?_
 refine t_callv (l := [(.int _ _), (.int _ _), (.int _ _)]) rfl (fun w => run_Add64 (by first | exact U_lm _ _ | exact U_sd _ _ _ | exact U_ad _ _ _ | exact U_ml _ _ | assumption | exact U_0 | exact hf' _ | exact hf _) (by first | exact U_lm _ _ | exact U_sd _ _ _ | exact U_ad _ _ _ | exact U_ml _ _ | assumption | exact U_0 | exact hf' _ | exact hf _) (by first | exact C_sb _ _ _ | exact C_ac _ _ _ | exact C1_0 | assumption) _) rfl rfl ?_
 refine t_v (fun w hx => r_move (v := (.tuple _)) rfl) ?_
 refine t_v (fun w hx => r_extract (v := (.int _ _)) rfl rfl) ?_
 refine t_float (fun w => r_extract (v := (.int _ _)) rfl rfl) rfl rfl ?_
 refine t_v (fun w hx => r_addrA u24 sz22 rfl (k := .i64) (i := 3) rfl rfl (by decide) (by decide)) ?_
 refine t_nil (fun w43 hx hF hA => ?_)
 replace H := H.ext hx
 clear hx hF hA
 refine p_store1 (v := (.int _ _)) to22 H rfl (k := 3) rfl rfl rfl rfl ?_; clear H; intro w44 H
 refine p_as (v := (.int _ _)) rfl ?_
 refine wpList_nil ?_; refine on_norm ?_
 refine b_norm ?_
 refine xn hK39 ?_; try clear hK39 K39
 refine wp_region_lit ?_
 refine p_val (r_add (r := 4) rfl rfl rfl) ?_
 refine p_mv (v := (.int _ _)) rfl ?_
 refine wpList_nil ?_
 refine x_norm ?_
 rw [rounds_succ]
 refine sr ?_; intro K45 hK45
 refine p_val (r_lss (t := false) rfl rfl (by decide)) ?_
 refine xk hK45 ?_; try clear hK45 K45
 refine wp_seq_k ?_; intro K46 hK46
 refine c_false rfl rfl ?_
 refine wp_exit ?_
 refine x_exit ?_
 refine x_exit ?_
 refine b_hit ?_
 refine xn hK11 ?_; try clear hK11 K11
 refine sr ?_; intro K47 hK47
 refine p_val (r_as (l' := numL ((A + B) % two256)) (r_loadW tg24 H rfl (k := 3) rfl rfl) ((add_fin A B hA' hB').1)) ?_
 refine p_mv (v := .int .u64 (((A + B) / two256 : Nat) : Int)) (congrArg (Value.int .u64) (add_fin A B hA' hB').2) ?_
 refine p_val (r_loadW tg24 H rfl (k := 1) rfl rfl) ?_
 refine p_call (l := [(.agg (List.toArray _)), (.int _ _), (.agg (List.toArray _))]) is64 rfl ?_
 refine (once_c _ _ _ (by first | exact Nat.mod_lt _ two256_pos | exact Mod.lt (mod_modN _) | assumption | exact onceN_lt (by assumption) | exact Nat.lt_trans (Nat.mod_lt _ (mod_modN _).pos) (mod_modN _).lt | exact ofV_lt2 _ _ | exact invV_lt2 _ _ | exact fm_lt2 _ _ | exact fa_lt2 _ _ | exact fs_lt2 _ _ | exact fn_lt2 _ | exact PP_lt | exact AL_GG.1 | exact AL_GG.2 | exact (AL_cadd _ _).1 | exact (AL_cadd _ _).2 | exact (AL_cmul _ _).1 | exact (AL_cmul _ _).2 | exact (AL_cofV _).1 | exact (AL_cofV _).2 | exact (AL_cneg (by assumption)).1 | exact (AL_cneg (by assumption)).2 | exact lt_lit (by decide)) (by first | exact Nat.mod_lt _ two256_pos | exact Mod.lt (mod_modN _) | assumption | exact onceN_lt (by assumption) | exact Nat.lt_trans (Nat.mod_lt _ (mod_modN _).pos) (mod_modN _).lt | exact ofV_lt2 _ _ | exact invV_lt2 _ _ | exact fm_lt2 _ _ | exact fa_lt2 _ _ | exact fs_lt2 _ _ | exact fn_lt2 _ | exact PP_lt | exact AL_GG.1 | exact AL_GG.2 | exact (AL_cadd _ _).1 | exact (AL_cadd _ _).2 | exact (AL_cmul _ _).1 | exact (AL_cmul _ _).2 | exact (AL_cofV _).1 | exact (AL_cofV _).2 | exact (AL_cneg (by assumption)).1 | exact (AL_cneg (by assumption)).2 | exact lt_lit (by decide)) _).mono ?_; rintro _ w48 ⟨rfl, hx⟩; replace H := H.ext hx; clear hx
 refine p_storeW tg24 H rfl (k := 0) rfl rfl rfl rfl rfl ?_; clear H; intro w49 H
 refine xk hK47 ?_; try clear hK47 K47
 refine wp_ret ?_
 refine e_1 rfl (q_cellW tg24 H rfl (k := 0) rfl rfl) ?_
 exact ⟨by rw [← sum_eq hp hA hB], H.below⟩

theorem add_c (m : Int) (A B : Nat) (hA : A < two256) (hB : B < two256) (w : World) :
    Calls Try.prog 22 #[.int .i64 m, numV A, numV B] w fun e w' => e = .returned (numV ((A + B) % modN m)) ∧ Ext w w' := by
 refine enter (n := 18) Try.func22 rfl rfl rfl ?_
 have H := HP.start w
 refine sr ?_; intro K1 hK1
 refine p_box (l := _) H rfl ?_; clear H; intro w2 b3 H
 refine p_box (l := _) H rfl ?_; clear H; intro w4 b5 H
 refine p_alloc (l := [.int .u64 0, .int .u64 0, .int .u64 0, .int .u64 0]) H tz24 rfl ?_; clear H; intro w7 b6 H
 refine xk hK1 ?_; try clear hK1 K1
 refine sr ?_; intro K8 hK8
 refine p_mv (v := (.int _ _)) rfl ?_
 refine p_call (l := [(.int _ _)]) is26 rfl ?_
 refine (modulus_c _ _).mono ?_; rintro _ w9 ⟨rfl, hx⟩; replace H := H.ext hx; clear hx
 refine p_alloc (l := [.int .u64 0, .int .u64 0, .int .u64 0, .int .u64 0]) H tz24 rfl ?_; clear H; intro w11 b10 H
 refine p_storeW tg24 H rfl (k := 0) rfl rfl rfl rfl rfl ?_; clear H; intro w12 H
 refine xk hK8 ?_; try clear hK8 K8
 refine wp_seq_k ?_; intro K13 hK13
 apply wp_region_ext 8 (kinds [(2, .inl _), (5, .inl _), (7, .inl _)]) rfl rfl (by kernel_rfl); intro vs15
 simp only [List.take_succ_cons, List.take_zero, List.drop_succ_cons, List.drop_zero]
 replace H := H.drew
 refine t_v (fun w hx => r_loadW tg24 (H.ext hx) rfl (k := 3) rfl rfl) ?_
 refine t_v (fun w hx => r_loadW tg24 (H.ext hx) rfl (k := 0) rfl rfl) ?_
 refine t_call (l := [(.agg (List.toArray _)), (.agg (List.toArray _))]) rfl rfl is34 rfl (fun w hx hF => (below_c _ _ (by first | exact Nat.mod_lt _ two256_pos | exact Mod.lt (mod_modN _) | assumption | exact onceN_lt (by assumption) | exact Nat.lt_trans (Nat.mod_lt _ (mod_modN _).pos) (mod_modN _).lt | exact ofV_lt2 _ _ | exact invV_lt2 _ _ | exact fm_lt2 _ _ | exact fa_lt2 _ _ | exact fs_lt2 _ _ | exact fn_lt2 _ | exact PP_lt | exact AL_GG.1 | exact AL_GG.2 | exact (AL_cadd _ _).1 | exact (AL_cadd _ _).2 | exact (AL_cmul _ _).1 | exact (AL_cmul _ _).2 | exact (AL_cofV _).1 | exact (AL_cofV _).2 | exact (AL_cneg (by assumption)).1 | exact (AL_cneg (by assumption)).2 | exact lt_lit (by decide)) (by first | assumption | exact mod_modN _) _).mono (fun _ _ ⟨he, hx⟩ => ⟨he, hx⟩)) ?_
 refine t_v (fun w hx => r_loadW tg24 (H.ext hx) rfl (k := 2) rfl rfl) ?_
 refine t_v (fun w hx => r_loadW tg24 (H.ext hx) rfl (k := 0) rfl rfl) ?_
 refine t_call (l := [(.agg (List.toArray _)), (.agg (List.toArray _))]) rfl rfl is34 rfl (fun w hx hF => (below_c _ _ (by first | exact Nat.mod_lt _ two256_pos | exact Mod.lt (mod_modN _) | assumption | exact onceN_lt (by assumption) | exact Nat.lt_trans (Nat.mod_lt _ (mod_modN _).pos) (mod_modN _).lt | exact ofV_lt2 _ _ | exact invV_lt2 _ _ | exact fm_lt2 _ _ | exact fa_lt2 _ _ | exact fs_lt2 _ _ | exact fn_lt2 _ | exact PP_lt | exact AL_GG.1 | exact AL_GG.2 | exact (AL_cadd _ _).1 | exact (AL_cadd _ _).2 | exact (AL_cmul _ _).1 | exact (AL_cmul _ _).2 | exact (AL_cofV _).1 | exact (AL_cofV _).2 | exact (AL_cneg (by assumption)).1 | exact (AL_cneg (by assumption)).2 | exact lt_lit (by decide)) (by first | assumption | exact mod_modN _) _).mono (fun _ _ ⟨he, hx⟩ => ⟨he, hx⟩)) ?_
 refine t_v (fun w hx => r_loadW tg24 (H.ext hx) rfl (k := 0) rfl rfl) ?_
 refine t_call (l := [(.agg (List.toArray _)), (.agg (List.toArray _)), (.agg (List.toArray _))]) rfl rfl is49 rfl (fun w hx hF => (sum_c _ _ _ (by first | assumption | exact mod_modN _) (by first | assumption | exact Nat.mod_lt _ (Mod.pos (by first | assumption | exact mod_modN _))) (by first | assumption | exact Nat.mod_lt _ (Mod.pos (by first | assumption | exact mod_modN _))) _).mono (fun _ _ ⟨he, hx⟩ => ⟨he, hx⟩)) ?_
 refine t_nil (fun w16 hx hF hA => ?_)
 replace H := H.ext hx
 clear hx hF hA
 refine p_storeW tg24 H rfl (k := 1) rfl rfl rfl rfl rfl ?_; clear H; intro w17 H
 refine wpList_nil ?_; refine on_norm ?_
 refine xn hK13 ?_; try clear hK13 K13
 refine wp_ret ?_
 refine e_1 rfl (q_cellW tg24 H rfl (k := 1) rfl rfl) ?_
 exact ⟨by rw [← Nat.add_mod], H.below⟩

theorem neg_c (m : Int) (A : Nat) (hA : A < two256) (w : World) :
    Calls Try.prog 11 #[.int .i64 m, numV A] w fun e w' => e = .returned (numV ((modN m - A % modN m) % modN m)) ∧ Ext w w' := by
 refine enter (n := 24) Try.func11 rfl rfl rfl ?_
 have H := HP.start w
 have hp := mod_modN m
 have hpl := hp.lt
 have hAp : A % modN m < two256 := Nat.lt_trans (Nat.mod_lt _ hp.pos) hpl
 refine sr ?_; intro K1 hK1
 refine p_box (l := _) H rfl ?_; clear H; intro w2 b3 H
 refine p_alloc (l := [.int .u64 0, .int .u64 0, .int .u64 0, .int .u64 0]) H tz24 rfl ?_; clear H; intro w5 b4 H
 refine xk hK1 ?_; try clear hK1 K1
 refine sr ?_; intro K6 hK6
 refine p_mv (v := (.int _ _)) rfl ?_
 refine p_call (l := [(.int _ _)]) is26 rfl ?_
 refine (modulus_c _ _).mono ?_; rintro _ w7 ⟨rfl, hx⟩; replace H := H.ext hx; clear hx
 refine p_alloc (l := [.int .u64 0, .int .u64 0, .int .u64 0, .int .u64 0]) H tz24 rfl ?_; clear H; intro w9 b8 H
 refine p_storeW tg24 H rfl (k := 0) rfl rfl rfl rfl rfl ?_; clear H; intro w10 H
 refine xk hK6 ?_; try clear hK6 K6
 refine sr ?_; intro K11 hK11
 refine p_val (r_loadW tg24 H rfl (k := 2) rfl rfl) ?_
 refine p_val (r_loadW tg24 H rfl (k := 0) rfl rfl) ?_
 refine p_call (l := [(.agg (List.toArray _)), (.agg (List.toArray _))]) is34 rfl ?_
 refine (below_c _ _ (by first | exact Nat.mod_lt _ two256_pos | exact Mod.lt (mod_modN _) | assumption | exact onceN_lt (by assumption) | exact Nat.lt_trans (Nat.mod_lt _ (mod_modN _).pos) (mod_modN _).lt | exact ofV_lt2 _ _ | exact invV_lt2 _ _ | exact fm_lt2 _ _ | exact fa_lt2 _ _ | exact fs_lt2 _ _ | exact fn_lt2 _ | exact PP_lt | exact AL_GG.1 | exact AL_GG.2 | exact (AL_cadd _ _).1 | exact (AL_cadd _ _).2 | exact (AL_cmul _ _).1 | exact (AL_cmul _ _).2 | exact (AL_cofV _).1 | exact (AL_cofV _).2 | exact (AL_cneg (by assumption)).1 | exact (AL_cneg (by assumption)).2 | exact lt_lit (by decide)) (by first | assumption | exact mod_modN _) _).mono ?_; rintro _ w12 ⟨rfl, hx⟩; replace H := H.ext hx; clear hx
 refine p_storeW tg24 H rfl (k := 2) rfl rfl rfl rfl rfl ?_; clear H; intro w13 H
 refine xk hK11 ?_; try clear hK11 K11
 refine wp_seq_k ?_; intro K14 hK14
 refine sr ?_; intro K15 hK15
 refine p_val (r_loadW tg24 H rfl (k := 2) rfl rfl) ?_
 refine p_val (r_as (l' := numL 0) (r_build (vals := []) (l := [_, _, _, _]) tb24 rfl rfl) (num_0)) ?_
 refine p_val (r_eqnum u24 u22 sz22 ag22 eg24 rfl rfl (by first | exact Nat.mod_lt _ two256_pos | exact Mod.lt (mod_modN _) | assumption | exact onceN_lt (by assumption) | exact Nat.lt_trans (Nat.mod_lt _ (mod_modN _).pos) (mod_modN _).lt | exact ofV_lt2 _ _ | exact invV_lt2 _ _ | exact fm_lt2 _ _ | exact fa_lt2 _ _ | exact fs_lt2 _ _ | exact fn_lt2 _ | exact PP_lt | exact AL_GG.1 | exact AL_GG.2 | exact (AL_cadd _ _).1 | exact (AL_cadd _ _).2 | exact (AL_cmul _ _).1 | exact (AL_cmul _ _).2 | exact (AL_cofV _).1 | exact (AL_cofV _).2 | exact (AL_cneg (by assumption)).1 | exact (AL_cneg (by assumption)).2 | exact lt_lit (by decide)) (by first | exact Nat.mod_lt _ two256_pos | exact Mod.lt (mod_modN _) | assumption | exact onceN_lt (by assumption) | exact Nat.lt_trans (Nat.mod_lt _ (mod_modN _).pos) (mod_modN _).lt | exact ofV_lt2 _ _ | exact invV_lt2 _ _ | exact fm_lt2 _ _ | exact fa_lt2 _ _ | exact fs_lt2 _ _ | exact fn_lt2 _ | exact PP_lt | exact AL_GG.1 | exact AL_GG.2 | exact (AL_cadd _ _).1 | exact (AL_cadd _ _).2 | exact (AL_cmul _ _).1 | exact (AL_cmul _ _).2 | exact (AL_cofV _).1 | exact (AL_cofV _).2 | exact (AL_cneg (by assumption)).1 | exact (AL_cneg (by assumption)).2 | exact lt_lit (by decide)) rfl) ?_
 refine xk hK15 ?_; try clear hK15 K15
 refine c_split (t := _) rfl (fun hc_3 => ?_) (fun hc_3 => ?_)
 ·skip
  refine sr ?_; intro K17 hK17
  refine p_val (r_loadW tg24 H rfl (k := 2) rfl rfl) ?_
  refine p_storeW tg24 H rfl (k := 1) rfl rfl rfl rfl rfl ?_; clear H; intro w18 H
  refine xk hK17 ?_; try clear hK17 K17
  refine wp_ret ?_
  refine x_ret ?_
  refine e_1 rfl (q_cellW tg24 H rfl (k := 1) rfl rfl) ?_
  have e0 : A % modN m = 0 := by simpa using hc_3
  exact ⟨by rw [e0, Nat.sub_zero, Nat.mod_self], H.below⟩
 ·skip
  refine wp_skip ?_
  refine xn hK14 ?_; try clear hK14 K14
  refine sr ?_; intro K19 hK19
  refine p_val (r_loadW tg24 H rfl (k := 0) rfl rfl) ?_
  refine p_val (r_loadW tg24 H rfl (k := 2) rfl rfl) ?_
  refine p_call (l := [(.agg (List.toArray _)), (.agg (List.toArray _))]) is36 rfl ?_
  refine (less_c _ _ (by first | exact Nat.mod_lt _ two256_pos | exact Mod.lt (mod_modN _) | assumption | exact onceN_lt (by assumption) | exact Nat.lt_trans (Nat.mod_lt _ (mod_modN _).pos) (mod_modN _).lt | exact ofV_lt2 _ _ | exact invV_lt2 _ _ | exact fm_lt2 _ _ | exact fa_lt2 _ _ | exact fs_lt2 _ _ | exact fn_lt2 _ | exact PP_lt | exact AL_GG.1 | exact AL_GG.2 | exact (AL_cadd _ _).1 | exact (AL_cadd _ _).2 | exact (AL_cmul _ _).1 | exact (AL_cmul _ _).2 | exact (AL_cofV _).1 | exact (AL_cofV _).2 | exact (AL_cneg (by assumption)).1 | exact (AL_cneg (by assumption)).2 | exact lt_lit (by decide)) (by first | exact Nat.mod_lt _ two256_pos | exact Mod.lt (mod_modN _) | assumption | exact onceN_lt (by assumption) | exact Nat.lt_trans (Nat.mod_lt _ (mod_modN _).pos) (mod_modN _).lt | exact ofV_lt2 _ _ | exact invV_lt2 _ _ | exact fm_lt2 _ _ | exact fa_lt2 _ _ | exact fs_lt2 _ _ | exact fn_lt2 _ | exact PP_lt | exact AL_GG.1 | exact AL_GG.2 | exact (AL_cadd _ _).1 | exact (AL_cadd _ _).2 | exact (AL_cmul _ _).1 | exact (AL_cmul _ _).2 | exact (AL_cofV _).1 | exact (AL_cofV _).2 | exact (AL_cneg (by assumption)).1 | exact (AL_cneg (by assumption)).2 | exact lt_lit (by decide)) _).mono ?_; rintro _ w20 ⟨rfl, hx⟩; replace H := H.ext hx; clear hx
  refine p_mv (v := (.tuple _)) rfl ?_
  refine p_val (r_extract (v := (.agg (List.toArray _))) rfl rfl) ?_
  refine p_val (r_extract (v := (.bool _)) rfl rfl) ?_
  refine p_alloc (l := [.int .u64 0, .int .u64 0, .int .u64 0, .int .u64 0]) H tz24 rfl ?_; clear H; intro w22 b21 H
  refine p_storeW tg24 H rfl (k := 0) rfl rfl rfl rfl rfl ?_; clear H; intro w23 H
  refine p_as (v := (.bool _)) rfl ?_
  refine xk hK19 ?_; try clear hK19 K19
  refine sr ?_; intro K24 hK24
  refine p_val (r_loadW tg24 H rfl (k := 0) rfl rfl) ?_
  refine p_storeW tg24 H rfl (k := 2) rfl rfl rfl rfl rfl ?_; clear H; intro w25 H
  refine xk hK24 ?_; try clear hK24 K24
  refine wp_ret ?_
  refine e_1 rfl (q_cellW tg24 H rfl (k := 2) rfl rfl) ?_
  exact ⟨by rw [← neg_eq hp (Nat.mod_lt _ hp.pos) (by simpa using hc_3)], H.below⟩

theorem sub_c (m : Int) (A B : Nat) (hA : A < two256) (hB : B < two256) (w : World) :
    Calls Try.prog 77 #[.int .i64 m, numV A, numV B] w fun e w' => e = .returned (numV ((A + (modN m - B % modN m)) % modN m)) ∧ Ext w w' := by
 refine enter (n := 13) Try.func77 rfl rfl rfl ?_
 have H := HP.start w
 have hp := mod_modN m
 have hl : ∀ X, X % modN m < two256 := fun X => Nat.lt_trans (Nat.mod_lt _ hp.pos) hp.lt
 refine sr ?_; intro K1 hK1
 refine p_box (l := _) H rfl ?_; clear H; intro w2 b3 H
 refine p_box (l := _) H rfl ?_; clear H; intro w4 b5 H
 refine p_alloc (l := [.int .u64 0, .int .u64 0, .int .u64 0, .int .u64 0]) H tz24 rfl ?_; clear H; intro w7 b6 H
 refine xk hK1 ?_; try clear hK1 K1
 refine wp_seq_k ?_; intro K8 hK8
 apply wp_region_ext 6 (kinds [(4, .inl _), (5, .inl _)]) rfl rfl (by kernel_rfl); intro vs10
 simp only [List.take_succ_cons, List.take_zero, List.drop_succ_cons, List.drop_zero]
 replace H := H.drew
 refine t_v (fun w hx => r_move (v := (.int _ _)) rfl) ?_
 refine t_v (fun w hx => r_loadW tg24 (H.ext hx) rfl (k := 2) rfl rfl) ?_
 refine t_v (fun w hx => r_move (v := (.int _ _)) rfl) ?_
 refine t_v (fun w hx => r_loadW tg24 (H.ext hx) rfl (k := 1) rfl rfl) ?_
 refine t_call (l := [(.int _ _), (.agg (List.toArray _))]) rfl rfl is11 rfl (fun w hx hF => (neg_c _ _ (by first | exact Nat.mod_lt _ two256_pos | exact Mod.lt (mod_modN _) | assumption | exact onceN_lt (by assumption) | exact Nat.lt_trans (Nat.mod_lt _ (mod_modN _).pos) (mod_modN _).lt | exact ofV_lt2 _ _ | exact invV_lt2 _ _ | exact fm_lt2 _ _ | exact fa_lt2 _ _ | exact fs_lt2 _ _ | exact fn_lt2 _ | exact PP_lt | exact AL_GG.1 | exact AL_GG.2 | exact (AL_cadd _ _).1 | exact (AL_cadd _ _).2 | exact (AL_cmul _ _).1 | exact (AL_cmul _ _).2 | exact (AL_cofV _).1 | exact (AL_cofV _).2 | exact (AL_cneg (by assumption)).1 | exact (AL_cneg (by assumption)).2 | exact lt_lit (by decide)) _).mono (fun _ _ ⟨he, hx⟩ => ⟨he, hx⟩)) ?_
 refine t_call (l := [(.int _ _), (.agg (List.toArray _)), (.agg (List.toArray _))]) rfl rfl is22 rfl (fun w hx hF => (add_c _ _ _ hA (hl _) _).mono (fun _ _ ⟨he, hx⟩ => ⟨he, hx⟩)) ?_
 refine t_nil (fun w11 hx hF hA => ?_)
 replace H := H.ext hx
 clear hx hF hA
 refine p_storeW tg24 H rfl (k := 0) rfl rfl rfl rfl rfl ?_; clear H; intro w12 H
 refine wpList_nil ?_; refine on_norm ?_
 refine xn hK8 ?_; try clear hK8 K8
 refine wp_ret ?_
 refine e_1 rfl (q_cellW tg24 H rfl (k := 0) rfl rfl) ?_
 exact ⟨by rw [Nat.add_mod_mod], H.below⟩

theorem one_c (p : Nat) (hp : Mod p) (w : World) :
    Calls Try.prog 52 #[numV p] w fun e w' => e = .returned (numV (two256 - p)) ∧ Ext w w' := by
 refine enter (n := 12) Try.func52 rfl rfl rfl ?_
 have H := HP.start w
 have hpl := hp.lt
 refine sr ?_; intro K1 hK1
 refine p_box (l := _) H rfl ?_; clear H; intro w2 b3 H
 refine p_alloc (l := [.int .u64 0, .int .u64 0, .int .u64 0, .int .u64 0]) H tz24 rfl ?_; clear H; intro w5 b4 H
 refine xk hK1 ?_; try clear hK1 K1
 refine sr ?_; intro K6 hK6
 refine p_val (r_as (l' := numL 0) (r_build (vals := []) (l := [_, _, _, _]) tb24 rfl rfl) (num_0)) ?_
 refine p_val (r_loadW tg24 H rfl (k := 1) rfl rfl) ?_
 refine p_call (l := [(.agg (List.toArray _)), (.agg (List.toArray _))]) is36 rfl ?_
 refine (less_c _ _ (by first | exact Nat.mod_lt _ two256_pos | exact Mod.lt (mod_modN _) | assumption | exact onceN_lt (by assumption) | exact Nat.lt_trans (Nat.mod_lt _ (mod_modN _).pos) (mod_modN _).lt | exact ofV_lt2 _ _ | exact invV_lt2 _ _ | exact fm_lt2 _ _ | exact fa_lt2 _ _ | exact fs_lt2 _ _ | exact fn_lt2 _ | exact PP_lt | exact AL_GG.1 | exact AL_GG.2 | exact (AL_cadd _ _).1 | exact (AL_cadd _ _).2 | exact (AL_cmul _ _).1 | exact (AL_cmul _ _).2 | exact (AL_cofV _).1 | exact (AL_cofV _).2 | exact (AL_cneg (by assumption)).1 | exact (AL_cneg (by assumption)).2 | exact lt_lit (by decide)) (by first | exact Nat.mod_lt _ two256_pos | exact Mod.lt (mod_modN _) | assumption | exact onceN_lt (by assumption) | exact Nat.lt_trans (Nat.mod_lt _ (mod_modN _).pos) (mod_modN _).lt | exact ofV_lt2 _ _ | exact invV_lt2 _ _ | exact fm_lt2 _ _ | exact fa_lt2 _ _ | exact fs_lt2 _ _ | exact fn_lt2 _ | exact PP_lt | exact AL_GG.1 | exact AL_GG.2 | exact (AL_cadd _ _).1 | exact (AL_cadd _ _).2 | exact (AL_cmul _ _).1 | exact (AL_cmul _ _).2 | exact (AL_cofV _).1 | exact (AL_cofV _).2 | exact (AL_cneg (by assumption)).1 | exact (AL_cneg (by assumption)).2 | exact lt_lit (by decide)) _).mono ?_; rintro _ w7 ⟨rfl, hx⟩; replace H := H.ext hx; clear hx
 refine p_mv (v := (.tuple _)) rfl ?_
 refine p_val (r_extract (v := (.agg (List.toArray _))) rfl rfl) ?_
 refine p_val (r_extract (v := (.bool _)) rfl rfl) ?_
 refine p_alloc (l := [.int .u64 0, .int .u64 0, .int .u64 0, .int .u64 0]) H tz24 rfl ?_; clear H; intro w9 b8 H
 refine p_storeW tg24 H rfl (k := 0) rfl rfl rfl rfl rfl ?_; clear H; intro w10 H
 refine p_as (v := (.bool _)) rfl ?_
 refine xk hK6 ?_; try clear hK6 K6
 refine sr ?_; intro K11 hK11
 refine p_val (r_loadW tg24 H rfl (k := 0) rfl rfl) ?_
 refine p_storeW tg24 H rfl (k := 1) rfl rfl rfl rfl rfl ?_; clear H; intro w12 H
 refine xk hK11 ?_; try clear hK11 K11
 refine wp_ret ?_
 refine e_1 rfl (q_cellW tg24 H rfl (k := 1) rfl rfl) ?_
 exact ⟨by rw [Nat.zero_add, Nat.mod_eq_of_lt (by have := hp.pos; omega)], H.below⟩

end Go.Proofs.Ytmbcolbbekbccaa
