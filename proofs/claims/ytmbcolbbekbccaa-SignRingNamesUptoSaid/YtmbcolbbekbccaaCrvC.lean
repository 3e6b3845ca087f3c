/- The walks of some functions. Conditions: as each theorem says. -/
import Derived.Test.YtmbcolbbekbccaaCrvB
namespace Go.Proofs.Ytmbcolbbekbccaa
open Go Go.RowKit
attribute [local irreducible] wpList wpT Code.wp Calls Code.rounds lm sd sb ad ac modN bval be fm fa fs fn jtwX jtwY jtwZ onB invV invE
theorem is30 : IsFn Try.prog 30 := isFn Try.func30 (by kernel_rfl) (by kernel_rfl)
theorem is59 : IsFn Try.prog 59 := isFn Try.func59 (by kernel_rfl) (by kernel_rfl)
theorem is61 : IsFn Try.prog 61 := isFn Try.func61 (by kernel_rfl) (by kernel_rfl)
theorem is62 : IsFn Try.prog 62 := isFn Try.func62 (by kernel_rfl) (by kernel_rfl)

set_option maxRecDepth 4000 in
theorem cadd_c (X Y : Nat) (I : Bool) (hX : X < two256) (hY : Y < two256) (A B : Nat) (J : Bool) (hA : A < two256) (hB : B < two256) (w : World) :
    Calls Try.prog 32 #[ptV X Y I, ptV A B J] w fun e w' => e = .returned (.tuple #[.agg (ptT (cadd (X, Y, I) (A, B, J))).toArray, .int .i64 (cadde (X, Y, I) (A, B, J))]) ∧ Ext w w' := by
 refine enter (n := 21) Try.func32 rfl rfl rfl ?_
 have H := HP.start w
 refine sr ?_; intro K1 hK1
 refine p_box (l := (numL X ++ (numL Y ++ [(.bool I : Value)]))) H rfl ?_; clear H; intro w2 b3 H
 refine p_box (l := (numL A ++ (numL B ++ [(.bool J : Value)]))) H rfl ?_; clear H; intro w4 b5 H
 refine p_alloc (l := [.int .u64 0, .int .u64 0, .int .u64 0, .int .u64 0, .int .u64 0, .int .u64 0, .int .u64 0, .int .u64 0, .bool false]) H tz29 rfl ?_; clear H; intro w7 b6 H
 refine p_as (v := (.int _ _)) rfl ?_
 refine xk hK1 ?_; try clear hK1 K1
 refine wp_seq_k ?_; intro K8 hK8
 refine sr ?_; intro K9 hK9
 refine p_val (r_loadW tg29 H rfl (k := 2) rfl rfl) ?_
 refine p_call (l := [(.agg (List.toArray _))]) is30 rfl ?_
 refine (on_c _ _ _ (by first | exact Nat.mod_lt _ two256_pos | exact Mod.lt (mod_modN _) | assumption | exact onceN_lt (by assumption) | exact Nat.lt_trans (Nat.mod_lt _ (mod_modN _).pos) (mod_modN _).lt | exact ofV_lt2 _ _ | exact invV_lt2 _ _ | exact fm_lt2 _ _ | exact fa_lt2 _ _ | exact fs_lt2 _ _ | exact fn_lt2 _ | exact PP_lt | exact AL_GG.1 | exact AL_GG.2 | exact (AL_cadd _ _).1 | exact (AL_cadd _ _).2 | exact (AL_cmul _ _).1 | exact (AL_cmul _ _).2 | exact (AL_cofV _).1 | exact (AL_cofV _).2 | exact (AL_cneg (by assumption)).1 | exact (AL_cneg (by assumption)).2 | exact lt_lit (by decide)) (by first | exact Nat.mod_lt _ two256_pos | exact Mod.lt (mod_modN _) | assumption | exact onceN_lt (by assumption) | exact Nat.lt_trans (Nat.mod_lt _ (mod_modN _).pos) (mod_modN _).lt | exact ofV_lt2 _ _ | exact invV_lt2 _ _ | exact fm_lt2 _ _ | exact fa_lt2 _ _ | exact fs_lt2 _ _ | exact fn_lt2 _ | exact PP_lt | exact AL_GG.1 | exact AL_GG.2 | exact (AL_cadd _ _).1 | exact (AL_cadd _ _).2 | exact (AL_cmul _ _).1 | exact (AL_cmul _ _).2 | exact (AL_cofV _).1 | exact (AL_cofV _).2 | exact (AL_cneg (by assumption)).1 | exact (AL_cneg (by assumption)).2 | exact lt_lit (by decide)) _).mono ?_; rintro _ w10 ⟨rfl, hx⟩; replace H := H.ext hx; clear hx
 refine p_val (r_not (t := _) rfl rfl) ?_
 refine p_mv (v := (.bool _)) rfl ?_
 refine p_gs (j := 3) rfl (fun hb_1_3 => ?_) (fun hb_1_3 => ?_)
 ·skip
  refine p_skip rfl hb_1_3 ?_
  rw [put_fr]
  refine p_skip rfl hb_1_3 ?_
  rw [put_fr]
  refine p_skip rfl hb_1_3 ?_
  rw [put_fr]
  refine p_val (r_pickt (v := (.bool _)) rfl hb_1_3 rfl) ?_
  refine xk hK9 ?_; try clear hK9 K9
  refine c_true rfl rfl ?_
  refine sr ?_; intro K12 hK12
  refine p_val (r_as (l' := (numL 0 ++ (numL 0 ++ [(.bool false : Value)]))) (r_build (vals := []) (l := ([.int .u64 0, .int .u64 0, .int .u64 0, .int .u64 0] ++ ([.int .u64 0, .int .u64 0, .int .u64 0, .int .u64 0] ++ [(.bool false : Value)]))) tb29 rfl rfl) (by rw [num_0])) ?_
  refine p_storeW tg29 H rfl (k := 0) rfl rfl rfl rfl rfl ?_; clear H; intro w13 H
  refine p_as (v := (.int _ _)) rfl ?_
  refine xk hK12 ?_; try clear hK12 K12
  refine wp_ret ?_
  refine x_ret ?_
  refine e_2 rfl (q_cellW tg29 H rfl (k := 0) rfl rfl) (q_tmp (v := (.int _ _)) rfl) ?_
  have h0 := cadd_f1 (p := (X, Y, I)) (q := (A, B, J)) (by simpa [onT] using hb_1_3)
  exact ⟨by rw [h0.1, h0.2], H.below⟩
 ·skip
  refine p_want rfl hb_1_3 ?_
  refine p_val (r_loadW tg29 H rfl (k := 1) rfl rfl) ?_
  refine p_want rfl hb_1_3 ?_
  refine p_call (l := [(.agg (List.toArray _))]) is30 rfl ?_
  refine (on_c _ _ _ (by first | exact Nat.mod_lt _ two256_pos | exact Mod.lt (mod_modN _) | assumption | exact onceN_lt (by assumption) | exact Nat.lt_trans (Nat.mod_lt _ (mod_modN _).pos) (mod_modN _).lt | exact ofV_lt2 _ _ | exact invV_lt2 _ _ | exact fm_lt2 _ _ | exact fa_lt2 _ _ | exact fs_lt2 _ _ | exact fn_lt2 _ | exact PP_lt | exact AL_GG.1 | exact AL_GG.2 | exact (AL_cadd _ _).1 | exact (AL_cadd _ _).2 | exact (AL_cmul _ _).1 | exact (AL_cmul _ _).2 | exact (AL_cofV _).1 | exact (AL_cofV _).2 | exact (AL_cneg (by assumption)).1 | exact (AL_cneg (by assumption)).2 | exact lt_lit (by decide)) (by first | exact Nat.mod_lt _ two256_pos | exact Mod.lt (mod_modN _) | assumption | exact onceN_lt (by assumption) | exact Nat.lt_trans (Nat.mod_lt _ (mod_modN _).pos) (mod_modN _).lt | exact ofV_lt2 _ _ | exact invV_lt2 _ _ | exact fm_lt2 _ _ | exact fa_lt2 _ _ | exact fs_lt2 _ _ | exact fn_lt2 _ | exact PP_lt | exact AL_GG.1 | exact AL_GG.2 | exact (AL_cadd _ _).1 | exact (AL_cadd _ _).2 | exact (AL_cmul _ _).1 | exact (AL_cmul _ _).2 | exact (AL_cofV _).1 | exact (AL_cofV _).2 | exact (AL_cneg (by assumption)).1 | exact (AL_cneg (by assumption)).2 | exact lt_lit (by decide)) _).mono ?_; rintro _ w14 ⟨rfl, hx⟩; replace H := H.ext hx; clear hx
  refine p_want rfl hb_1_3 ?_
  refine p_val (r_not (t := _) rfl rfl) ?_
  refine p_val (r_pickf (v := (.bool _)) rfl hb_1_3 rfl) ?_
  refine xk hK9 ?_; try clear hK9 K9
  refine c_split (t := _) rfl (fun hc_1 => ?_) (fun hc_1 => ?_)
  ·skip
   refine sr ?_; intro K16 hK16
   refine p_val (r_as (l' := (numL 0 ++ (numL 0 ++ [(.bool false : Value)]))) (r_build (vals := []) (l := ([.int .u64 0, .int .u64 0, .int .u64 0, .int .u64 0] ++ ([.int .u64 0, .int .u64 0, .int .u64 0, .int .u64 0] ++ [(.bool false : Value)]))) tb29 rfl rfl) (by rw [num_0])) ?_
   refine p_storeW tg29 H rfl (k := 0) rfl rfl rfl rfl rfl ?_; clear H; intro w17 H
   refine p_as (v := (.int _ _)) rfl ?_
   refine xk hK16 ?_; try clear hK16 K16
   refine wp_ret ?_
   refine x_ret ?_
   refine e_2 rfl (q_cellW tg29 H rfl (k := 0) rfl rfl) (q_tmp (v := (.int _ _)) rfl) ?_
   have h0 := cadd_f2 (p := (X, Y, I)) (q := (A, B, J)) (by simpa [onT] using hc_1)
   exact ⟨by rw [h0.1, h0.2], H.below⟩
  ·skip
   refine wp_skip ?_
   refine xn hK8 ?_; try clear hK8 K8
   refine wp_seq_k ?_; intro K18 hK18
   apply wp_region_ext 6 (kinds [(1, .inl _), (3, .inl _), (4, .inl _), (5, .inl _)]) rfl rfl (by kernel_rfl); intro vs20
   simp only [List.take_succ_cons, List.take_zero, List.drop_succ_cons, List.drop_zero]
   replace H := H.drew
   refine t_v (fun w hx => r_loadW tg29 (H.ext hx) rfl (k := 2) rfl rfl) ?_
   refine t_call (l := [(.agg (List.toArray _))]) rfl rfl is59 rfl (fun w hx hF => (cof_c _ _ _ (by first | exact Nat.mod_lt _ two256_pos | exact Mod.lt (mod_modN _) | assumption | exact onceN_lt (by assumption) | exact Nat.lt_trans (Nat.mod_lt _ (mod_modN _).pos) (mod_modN _).lt | exact ofV_lt2 _ _ | exact invV_lt2 _ _ | exact fm_lt2 _ _ | exact fa_lt2 _ _ | exact fs_lt2 _ _ | exact fn_lt2 _ | exact PP_lt | exact AL_GG.1 | exact AL_GG.2 | exact (AL_cadd _ _).1 | exact (AL_cadd _ _).2 | exact (AL_cmul _ _).1 | exact (AL_cmul _ _).2 | exact (AL_cofV _).1 | exact (AL_cofV _).2 | exact (AL_cneg (by assumption)).1 | exact (AL_cneg (by assumption)).2 | exact lt_lit (by decide)) (by first | exact Nat.mod_lt _ two256_pos | exact Mod.lt (mod_modN _) | assumption | exact onceN_lt (by assumption) | exact Nat.lt_trans (Nat.mod_lt _ (mod_modN _).pos) (mod_modN _).lt | exact ofV_lt2 _ _ | exact invV_lt2 _ _ | exact fm_lt2 _ _ | exact fa_lt2 _ _ | exact fs_lt2 _ _ | exact fn_lt2 _ | exact PP_lt | exact AL_GG.1 | exact AL_GG.2 | exact (AL_cadd _ _).1 | exact (AL_cadd _ _).2 | exact (AL_cmul _ _).1 | exact (AL_cmul _ _).2 | exact (AL_cofV _).1 | exact (AL_cofV _).2 | exact (AL_cneg (by assumption)).1 | exact (AL_cneg (by assumption)).2 | exact lt_lit (by decide)) _).mono (fun _ _ ⟨he, hx⟩ => ⟨he, hx⟩)) ?_
   refine t_v (fun w hx => r_loadW tg29 (H.ext hx) rfl (k := 1) rfl rfl) ?_
   refine t_call (l := [(.agg (List.toArray _))]) rfl rfl is59 rfl (fun w hx hF => (cof_c _ _ _ (by first | exact Nat.mod_lt _ two256_pos | exact Mod.lt (mod_modN _) | assumption | exact onceN_lt (by assumption) | exact Nat.lt_trans (Nat.mod_lt _ (mod_modN _).pos) (mod_modN _).lt | exact ofV_lt2 _ _ | exact invV_lt2 _ _ | exact fm_lt2 _ _ | exact fa_lt2 _ _ | exact fs_lt2 _ _ | exact fn_lt2 _ | exact PP_lt | exact AL_GG.1 | exact AL_GG.2 | exact (AL_cadd _ _).1 | exact (AL_cadd _ _).2 | exact (AL_cmul _ _).1 | exact (AL_cmul _ _).2 | exact (AL_cofV _).1 | exact (AL_cofV _).2 | exact (AL_cneg (by assumption)).1 | exact (AL_cneg (by assumption)).2 | exact lt_lit (by decide)) (by first | exact Nat.mod_lt _ two256_pos | exact Mod.lt (mod_modN _) | assumption | exact onceN_lt (by assumption) | exact Nat.lt_trans (Nat.mod_lt _ (mod_modN _).pos) (mod_modN _).lt | exact ofV_lt2 _ _ | exact invV_lt2 _ _ | exact fm_lt2 _ _ | exact fa_lt2 _ _ | exact fs_lt2 _ _ | exact fn_lt2 _ | exact PP_lt | exact AL_GG.1 | exact AL_GG.2 | exact (AL_cadd _ _).1 | exact (AL_cadd _ _).2 | exact (AL_cmul _ _).1 | exact (AL_cmul _ _).2 | exact (AL_cofV _).1 | exact (AL_cofV _).2 | exact (AL_cneg (by assumption)).1 | exact (AL_cneg (by assumption)).2 | exact lt_lit (by decide)) _).mono (fun _ _ ⟨he, hx⟩ => ⟨he, hx⟩)) ?_
   refine t_call (l := [(.agg (List.toArray _)), (.agg (List.toArray _))]) rfl rfl is61 rfl (fun w hx hF => (cadd_j (jof X Y I) (jof A B J) (by repeat (first | assumption | exact TL_0 | exact TL_jtw _ | exact TL_jof (by assumption) (by assumption) | exact ⟨by assumption, by assumption, by assumption⟩ | refine TL_jad ?_ ?_ | refine TL_jmul ?_ _)) (by repeat (first | assumption | exact TL_0 | exact TL_jtw _ | exact TL_jof (by assumption) (by assumption) | exact ⟨by assumption, by assumption, by assumption⟩ | refine TL_jad ?_ ?_ | refine TL_jmul ?_ _)) _).mono (fun _ _ ⟨he, hx⟩ => ⟨he, hx⟩)) ?_
   refine t_call (l := [(.agg (List.toArray _))]) rfl rfl is62 rfl (fun w hx hF => (cend_c (jad (jof X Y I) (jof A B J)) (by repeat (first | assumption | exact TL_0 | exact TL_jtw _ | exact TL_jof (by assumption) (by assumption) | exact ⟨by assumption, by assumption, by assumption⟩ | refine TL_jad ?_ ?_ | refine TL_jmul ?_ _)) _).mono (fun _ _ ⟨he, hx⟩ => ⟨he, hx⟩)) ?_
   refine t_nil (fun w21 hx hF hA => ?_)
   replace H := H.ext hx
   clear hx hF hA
   refine p_storeW tg29 H rfl (k := 0) rfl rfl rfl rfl rfl ?_; clear H; intro w22 H
   refine p_as (v := (.int _ _)) rfl ?_
   refine wpList_nil ?_; refine on_norm ?_
   refine xn hK18 ?_; try clear hK18 K18
   refine wp_ret ?_
   refine e_2 rfl (q_cellW tg29 H rfl (k := 0) rfl rfl) (q_tmp (v := (.int _ _)) rfl) ?_
   have h0 := cadd_t (p := (X, Y, I)) (q := (A, B, J)) (by simpa [onT] using hb_1_3) (by simpa [onT] using hc_1)
   exact ⟨by rw [h0.1, h0.2], H.below⟩

set_option maxRecDepth 4000 in
theorem cmul_c (K : Nat) (hK : K < two256) (X Y : Nat) (I : Bool) (hX : X < two256) (hY : Y < two256) (w : World) :
    Calls Try.prog 31 #[numV K, ptV X Y I] w fun e w' => e = .returned (.tuple #[.agg (ptT (cmul K (X, Y, I))).toArray, .int .i64 (cerr (X, Y, I))]) ∧ Ext w w' := by
 refine enter (n := 38) Try.func31 rfl rfl rfl ?_
 have H := HP.start w
 refine sr ?_; intro K1 hK1
 refine p_box (l := numL K) H rfl ?_; clear H; intro w2 b3 H
 refine p_box (l := (numL X ++ (numL Y ++ [(.bool I : Value)]))) H rfl ?_; clear H; intro w4 b5 H
 refine p_alloc (l := [.int .u64 0, .int .u64 0, .int .u64 0, .int .u64 0, .int .u64 0, .int .u64 0, .int .u64 0, .int .u64 0, .bool false]) H tz29 rfl ?_; clear H; intro w7 b6 H
 refine p_as (v := (.int _ _)) rfl ?_
 refine xk hK1 ?_; try clear hK1 K1
 refine wp_seq_k ?_; intro K8 hK8
 refine sr ?_; intro K9 hK9
 refine p_val (r_loadW tg29 H rfl (k := 1) rfl rfl) ?_
 refine p_call (l := [(.agg (List.toArray _))]) is30 rfl ?_
 refine (on_c _ _ _ (by first | exact Nat.mod_lt _ two256_pos | exact Mod.lt (mod_modN _) | assumption | exact onceN_lt (by assumption) | exact Nat.lt_trans (Nat.mod_lt _ (mod_modN _).pos) (mod_modN _).lt | exact ofV_lt2 _ _ | exact invV_lt2 _ _ | exact fm_lt2 _ _ | exact fa_lt2 _ _ | exact fs_lt2 _ _ | exact fn_lt2 _ | exact PP_lt | exact AL_GG.1 | exact AL_GG.2 | exact (AL_cadd _ _).1 | exact (AL_cadd _ _).2 | exact (AL_cmul _ _).1 | exact (AL_cmul _ _).2 | exact (AL_cofV _).1 | exact (AL_cofV _).2 | exact (AL_cneg (by assumption)).1 | exact (AL_cneg (by assumption)).2 | exact lt_lit (by decide)) (by first | exact Nat.mod_lt _ two256_pos | exact Mod.lt (mod_modN _) | assumption | exact onceN_lt (by assumption) | exact Nat.lt_trans (Nat.mod_lt _ (mod_modN _).pos) (mod_modN _).lt | exact ofV_lt2 _ _ | exact invV_lt2 _ _ | exact fm_lt2 _ _ | exact fa_lt2 _ _ | exact fs_lt2 _ _ | exact fn_lt2 _ | exact PP_lt | exact AL_GG.1 | exact AL_GG.2 | exact (AL_cadd _ _).1 | exact (AL_cadd _ _).2 | exact (AL_cmul _ _).1 | exact (AL_cmul _ _).2 | exact (AL_cofV _).1 | exact (AL_cofV _).2 | exact (AL_cneg (by assumption)).1 | exact (AL_cneg (by assumption)).2 | exact lt_lit (by decide)) _).mono ?_; rintro _ w10 ⟨rfl, hx⟩; replace H := H.ext hx; clear hx
 refine p_val (r_not (t := _) rfl rfl) ?_
 refine xk hK9 ?_; try clear hK9 K9
 refine c_split (t := _) rfl (fun hc_1 => ?_) (fun hc_1 => ?_)
 ·skip
  refine sr ?_; intro K12 hK12
  refine p_val (r_as (l' := (numL 0 ++ (numL 0 ++ [(.bool false : Value)]))) (r_build (vals := []) (l := ([.int .u64 0, .int .u64 0, .int .u64 0, .int .u64 0] ++ ([.int .u64 0, .int .u64 0, .int .u64 0, .int .u64 0] ++ [(.bool false : Value)]))) tb29 rfl rfl) (by rw [num_0])) ?_
  refine p_storeW tg29 H rfl (k := 0) rfl rfl rfl rfl rfl ?_; clear H; intro w13 H
  refine p_as (v := (.int _ _)) rfl ?_
  refine xk hK12 ?_; try clear hK12 K12
  refine wp_ret ?_
  refine x_ret ?_
  refine e_2 rfl (q_cellW tg29 H rfl (k := 0) rfl rfl) (q_tmp (v := (.int _ _)) rfl) ?_
  have h0 := cmul_f (k := K) (p := (X, Y, I)) (by simpa [onT] using hc_1)
  exact ⟨by rw [h0.1, h0.2], H.below⟩
 ·skip
  refine wp_skip ?_
  refine xn hK8 ?_; try clear hK8 K8
  refine sr ?_; intro K14 hK14
  refine p_alloc (l := [.int .u64 0, .int .u64 0, .int .u64 0, .int .u64 0, .int .u64 0, .int .u64 0, .int .u64 0, .int .u64 0, .int .u64 0, .int .u64 0, .int .u64 0, .int .u64 0]) H tz114 rfl ?_; clear H; intro w16 b15 H
  refine xk hK14 ?_; try clear hK14 K14
  refine sr ?_; intro K17 hK17
  refine p_val (r_loadW tg29 H rfl (k := 2) rfl rfl) ?_
  refine p_call (l := [(.agg (List.toArray _))]) is59 rfl ?_
  refine (cof_c _ _ _ (by first | exact Nat.mod_lt _ two256_pos | exact Mod.lt (mod_modN _) | assumption | exact onceN_lt (by assumption) | exact Nat.lt_trans (Nat.mod_lt _ (mod_modN _).pos) (mod_modN _).lt | exact ofV_lt2 _ _ | exact invV_lt2 _ _ | exact fm_lt2 _ _ | exact fa_lt2 _ _ | exact fs_lt2 _ _ | exact fn_lt2 _ | exact PP_lt | exact AL_GG.1 | exact AL_GG.2 | exact (AL_cadd _ _).1 | exact (AL_cadd _ _).2 | exact (AL_cmul _ _).1 | exact (AL_cmul _ _).2 | exact (AL_cofV _).1 | exact (AL_cofV _).2 | exact (AL_cneg (by assumption)).1 | exact (AL_cneg (by assumption)).2 | exact lt_lit (by decide)) (by first | exact Nat.mod_lt _ two256_pos | exact Mod.lt (mod_modN _) | assumption | exact onceN_lt (by assumption) | exact Nat.lt_trans (Nat.mod_lt _ (mod_modN _).pos) (mod_modN _).lt | exact ofV_lt2 _ _ | exact invV_lt2 _ _ | exact fm_lt2 _ _ | exact fa_lt2 _ _ | exact fs_lt2 _ _ | exact fn_lt2 _ | exact PP_lt | exact AL_GG.1 | exact AL_GG.2 | exact (AL_cadd _ _).1 | exact (AL_cadd _ _).2 | exact (AL_cmul _ _).1 | exact (AL_cmul _ _).2 | exact (AL_cofV _).1 | exact (AL_cofV _).2 | exact (AL_cneg (by assumption)).1 | exact (AL_cneg (by assumption)).2 | exact lt_lit (by decide)) _).mono ?_; rintro _ w18 ⟨rfl, hx⟩; replace H := H.ext hx; clear hx
  refine p_alloc (l := [.int .u64 0, .int .u64 0, .int .u64 0, .int .u64 0, .int .u64 0, .int .u64 0, .int .u64 0, .int .u64 0, .int .u64 0, .int .u64 0, .int .u64 0, .int .u64 0]) H tz114 rfl ?_; clear H; intro w20 b19 H
  refine p_storeW tg114 H rfl (k := 0) rfl rfl rfl rfl rfl ?_; clear H; intro w21 H
  refine xk hK17 ?_; try clear hK17 K17
  refine wp_seq_k ?_; intro K22 hK22
  refine sr ?_; intro K23 hK23
  replace H := HP.recast H (k := 1) (cs' := jcT (jmul (jof X Y I) (K / 2 ^ 256))) rfl (zero_jc.trans (congrArg jcT (jmul_top hK).symm))
  refine p_as (v := (.int _ _)) rfl ?_
  refine xk hK23 ?_; try clear hK23 K23
  refine wp_block ?_
  refine loopF [8, 9, 16, 17, 18, 19, 20, 21, 22, 23, 24, 25, 26, 27, 28, 29, 30, 31, 32, 33, 34, 35] (fun γ μ w' => ∃ (k : Nat), k = γ ∧ look μ 8 = .int .i64 ((k : Int) - 1) ∧ HP w w' [(b19, jcT (jof X Y I), 114), (b15, jcT (jmul (jof X Y I) (K / 2 ^ k)), 114), (b6, [.int .u64 0, .int .u64 0, .int .u64 0, .int .u64 0, .int .u64 0, .int .u64 0, .int .u64 0, .int .u64 0, .bool false], 29), (b5, (numL X ++ (numL Y ++ [(.bool I : Value)])), 29), (b3, numL K, 24)] ∧ (k ≤ 256)) (256) ⟨256, rfl, rfl, H, Nat.le_refl _⟩ ?_
  clear H
  intro g27 m24 w25 hk26 hI; obtain ⟨k, rfl, hl28, H, hk⟩ := hI
  refine wp_seq_k ?_; intro K29 hK29
  refine sr ?_; intro K30 hK30
  refine p_mv (v := (.int _ _)) hl28 ?_
  refine p_val (r_geq rfl rfl rfl) ?_
  refine xk hK30 ?_; try clear hK30 K30
  refine c_split (t := _) rfl (fun hc_6 => ?_) (fun hc_6 => ?_)
  ·skip
   have hk0 : 0 < k := by have := of_decide_eq_true hc_6; omega
   refine wp_skip ?_
   refine xn hK29 ?_; try clear hK29 K29
   refine wp_seq_k ?_; intro K32 hK32
   refine wp_block ?_
   refine sr ?_; intro K33 hK33
   refine p_val (r_loadW tg114 H (hk26 6 rfl) (k := 1) rfl rfl) ?_
   refine p_call (l := [(.agg (List.toArray _))]) is60 rfl ?_
   refine (ctwice_c (jmul (jof X Y I) (K / 2 ^ k)) (by repeat (first | assumption | exact TL_0 | exact TL_jtw _ | exact TL_jof (by assumption) (by assumption) | exact ⟨by assumption, by assumption, by assumption⟩ | refine TL_jad ?_ ?_ | refine TL_jmul ?_ _)) _).mono ?_; rintro _ w34 ⟨rfl, hx⟩; replace H := H.ext hx; clear hx
   refine p_storeW tg114 H (hk26 6 rfl) (k := 1) rfl rfl rfl rfl rfl ?_; clear H; intro w35 H
   refine xk hK33 ?_; try clear hK33 K33
   refine sr ?_; intro K36 hK36
   refine p_mv (v := (.int _ _)) hl28 ?_
   refine p_val (r_quo (r := (((k - 1) / 64 : Nat) : Int)) rfl rfl (by decide) (pow_quo hk0 hk)) ?_
   refine p_val (r_addrA (i := (k - 1) / 64) u24 sz22 (hk26 2 rfl) rfl (rfl) (by omega) (by omega)) ?_
   refine p_val (r_load1 (v := .int .u64 (lm K ((k - 1) / 64))) to22 H rfl (k := 4) rfl ((by rw [Nat.zero_add, Nat.mul_one]; exact numL_piece _ _ (by omega)))) ?_
   refine p_mv (v := (.int _ _)) hl28 ?_
   refine p_val (r_rem (r := (((k - 1) % 64 : Nat) : Int)) rfl rfl (by decide) (pow_rem hk0)) ?_
   refine p_val (r_shr (r := ((K / 2 ^ (64 * ((k - 1) / 64)) % 2 ^ 64 / 2 ^ ((k - 1) % 64) : Nat) : Int)) rfl rfl (by omega) (pow_shr K _ _ (by omega))) ?_
   refine p_val (r_bits (bo := .and) (by simp) (r := ((K / 2 ^ (k - 1) % 2 : Nat) : Int)) rfl rfl (pow_and K (k - 1))) ?_
   refine p_val (r_eql rfl rfl rfl) ?_
   refine xk hK36 ?_; try clear hK36 K36
   refine c_split (t := _) rfl (fun hc_9 => ?_) (fun hc_9 => ?_)
   ·skip
    have hbit := bit_t hc_9
    refine sr ?_; intro K38 hK38
    refine p_val (r_loadW tg114 H (hk26 6 rfl) (k := 1) rfl rfl) ?_
    refine p_val (r_makeFunc (first := [(.agg (jcT (jtw (jmul (jof X Y I) (K / 2 ^ k)))).toArray)]) rfl) ?_
    refine p_as (v := (.func (.func 61) #[.agg (jcT (jtw (jmul (jof X Y I) (K / 2 ^ k)))).toArray] #[])) rfl ?_
    refine xk hK38 ?_; try clear hK38 K38
    refine wp_region_lit ?_
    refine p_mv (v := (.func (.func 61) #[.agg (jcT (jtw (jmul (jof X Y I) (K / 2 ^ k)))).toArray] #[])) rfl ?_
    refine p_val (r_loadW tg114 H (hk26 7 rfl) (k := 0) rfl rfl) ?_
    refine p_callf (first := #[.agg (jcT (jtw (jmul (jof X Y I) (K / 2 ^ k)))).toArray]) (cap := #[]) (l := [.agg (jcT (jtw (jmul (jof X Y I) (K / 2 ^ k)))).toArray, .agg (jcT (jof X Y I)).toArray]) is61 rfl (by first | rfl | simp [ev, look]) ?_
    refine (cadd_j (jtw (jmul (jof X Y I) (K / 2 ^ k))) (jof X Y I) (by repeat (first | assumption | exact TL_0 | exact TL_jtw _ | exact TL_jof (by assumption) (by assumption) | exact ⟨by assumption, by assumption, by assumption⟩ | refine TL_jad ?_ ?_ | refine TL_jmul ?_ _)) (by repeat (first | assumption | exact TL_0 | exact TL_jtw _ | exact TL_jof (by assumption) (by assumption) | exact ⟨by assumption, by assumption, by assumption⟩ | refine TL_jad ?_ ?_ | refine TL_jmul ?_ _)) _).mono ?_; rintro _ w39 ⟨rfl, hx⟩; replace H := H.ext hx; clear hx
    refine p_storeW tg114 H (hk26 6 rfl) (k := 1) rfl rfl rfl rfl rfl ?_; clear H; intro w40 H
    refine wpList_nil ?_
    refine b_norm ?_
    refine xn hK32 ?_; try clear hK32 K32
    refine wp_region_lit ?_
    refine p_mv (v := (.int _ _)) hl28 ?_
    refine p_val (r_sub rfl rfl (wr64 (by omega) (by omega))) ?_
    refine p_as (v := (.int _ _)) rfl ?_
    refine wpList_nil ?_
    refine x_norm ?_
    exact ⟨_, _, (by omega), rfl, (by repeat (first | exact hk26 | refine keep_cons rfl ?_)), k - 1, rfl, congrArg (Value.int .i64) (by omega), (HP.recast H (k := 1) rfl (congrArg jcT (jmul_b1 hk0 hbit))), (by omega)⟩
   ·skip
    have hbit := bit_f hc_9
    refine wp_skip ?_
    refine b_norm ?_
    refine xn hK32 ?_; try clear hK32 K32
    refine wp_region_lit ?_
    refine p_mv (v := (.int _ _)) hl28 ?_
    refine p_val (r_sub rfl rfl (wr64 (by omega) (by omega))) ?_
    refine p_as (v := (.int _ _)) rfl ?_
    refine wpList_nil ?_
    refine x_norm ?_
    exact ⟨_, _, (by omega), rfl, (by repeat (first | exact hk26 | refine keep_cons rfl ?_)), k - 1, rfl, congrArg (Value.int .i64) (by omega), (HP.recast H (k := 1) rfl (congrArg jcT (jmul_b0 hk0 (by omega)))), (by omega)⟩
  ·skip
   have hk0 : k = 0 := by have := of_decide_eq_false hc_6; omega
   refine wp_exit ?_
   refine x_exit ?_
   refine x_exit ?_
   refine b_hit ?_
   refine xn hK22 ?_; try clear hK22 K22
   refine sr ?_; intro K41 hK41
   refine p_val (r_loadW tg114 H (hk26 6 rfl) (k := 1) rfl rfl) ?_
   refine p_call (l := [(.agg (List.toArray _))]) is62 rfl ?_
   refine (cend_c (jmul (jof X Y I) (K / 2 ^ k)) (by repeat (first | assumption | exact TL_0 | exact TL_jtw _ | exact TL_jof (by assumption) (by assumption) | exact ⟨by assumption, by assumption, by assumption⟩ | refine TL_jad ?_ ?_ | refine TL_jmul ?_ _)) _).mono ?_; rintro _ w42 ⟨rfl, hx⟩; replace H := H.ext hx; clear hx
   refine p_storeW tg29 H (hk26 4 rfl) (k := 2) rfl rfl rfl rfl rfl ?_; clear H; intro w43 H
   refine p_as (v := (.int _ _)) rfl ?_
   refine xk hK41 ?_; try clear hK41 K41
   refine wp_ret ?_
   refine e_2 rfl (q_cellW tg29 H (hk26 4 rfl) (k := 2) rfl rfl) (q_tmp (v := (.int _ _)) rfl) ?_
   subst hk0
   have h0 := cmul_t (k := K) (p := (X, Y, I)) (by simpa [onT] using hc_1)
   exact ⟨by rw [h0.1, h0.2]; rw [Nat.pow_zero, Nat.div_one], H.below⟩

end Go.Proofs.Ytmbcolbbekbccaa
