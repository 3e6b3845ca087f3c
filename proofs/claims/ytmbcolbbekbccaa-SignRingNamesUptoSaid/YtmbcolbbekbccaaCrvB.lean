/- The walks of some functions. Conditions: as each theorem says. -/
import Derived.Test.YtmbcolbbekbccaaCrvA
namespace Go.Proofs.Ytmbcolbbekbccaa
open Go Go.RowKit
attribute [local irreducible] wpList wpT Code.wp Calls Code.rounds lm sd sb ad ac modN bval be fm fa fs fn jtwX jtwY jtwZ onB invV invE
theorem tg114 : TAgg Try.prog 114 12 := ⟨fun _ => by kernel_rfl, fun _ => by kernel_rfl⟩
theorem tz114 : TZero Try.prog 114 (.agg #[.int .u64 0, .int .u64 0, .int .u64 0, .int .u64 0, .int .u64 0, .int .u64 0, .int .u64 0, .int .u64 0, .int .u64 0, .int .u64 0, .int .u64 0, .int .u64 0]) := fun _ => by kernel_rfl
theorem is24 : IsFn Try.prog 24 := isFn Try.func24 (by kernel_rfl) (by kernel_rfl)
theorem is60 : IsFn Try.prog 60 := isFn Try.func60 (by kernel_rfl) (by kernel_rfl)
theorem tb114 : TBuild Try.prog 114 (.agg #[.int .u64 0, .int .u64 0, .int .u64 0, .int .u64 0, .int .u64 0, .int .u64 0, .int .u64 0, .int .u64 0, .int .u64 0, .int .u64 0, .int .u64 0, .int .u64 0]) [(0, 4), (4, 4), (8, 4)] := tbuildS (fs := fieldsOf Try.prog 114) (by kernel_rfl) tz114 (fun _ => by kernel_rfl)
theorem fa114_0 : TField Try.prog 114 0 0 := fun _ _ _ => by kernel_rfl
theorem fa114_1 : TField Try.prog 114 1 4 := fun _ _ _ => by kernel_rfl
theorem fa114_2 : TField Try.prog 114 2 8 := fun _ _ _ => by kernel_rfl

theorem base_c  (w : World) :
    Calls Try.prog 28 #[] w fun e w' => e = .returned (ptV GX GY false) ∧ Ext w w' := by
 refine enter (n := 4) Try.func28 rfl rfl rfl ?_
 have H := HP.start w
 refine sr ?_; intro K1 hK1
 refine p_alloc (l := [.int .u64 0, .int .u64 0, .int .u64 0, .int .u64 0, .int .u64 0, .int .u64 0, .int .u64 0, .int .u64 0, .bool false]) H tz29 rfl ?_; clear H; intro w3 b2 H
 refine xk hK1 ?_; try clear hK1 K1
 refine sr ?_; intro K4 hK4
 refine p_val (r_as (l' := numL 48439561293906451759052585252797914202762949526041747995844080717082404635286) (r_build (vals := [(0, (.int _ _)), (1, (.int _ _)), (2, (.int _ _)), (3, (.int _ _))]) (l := [_, _, _, _]) tb24 rfl rfl) (num_const (a := 17627433388654248598) (b := 8575836109218198432) (c := 17923454489921339634) (d := 7716867327612699207) _ (by decide) (by decide) (by decide) (by decide) (by decide))) ?_
 refine p_val (r_as (l' := numL 36134250956749795798585127919587881956611106672985015071877198253568414405109) (r_build (vals := [(0, (.int _ _)), (1, (.int _ _)), (2, (.int _ _)), (3, (.int _ _))]) (l := [_, _, _, _]) tb24 rfl rfl) (num_const (a := 14678990851816772085) (b := 3156516839386865358) (c := 10297457778147434006) (d := 5756518291402817435) _ (by decide) (by decide) (by decide) (by decide) (by decide))) ?_
 refine p_val (r_build (vals := [(0, .agg (numL 48439561293906451759052585252797914202762949526041747995844080717082404635286).toArray), (1, .agg (numL 36134250956749795798585127919587881956611106672985015071877198253568414405109).toArray)]) (l := (numL 48439561293906451759052585252797914202762949526041747995844080717082404635286 ++ (numL 36134250956749795798585127919587881956611106672985015071877198253568414405109 ++ [(.bool false : Value)]))) tb29 rfl rfl) ?_
 refine p_storeW tg29 H rfl (k := 0) rfl rfl rfl rfl rfl ?_; clear H; intro w5 H
 refine xk hK4 ?_; try clear hK4 K4
 refine wp_ret ?_
 refine e_1 rfl (q_cellW tg29 H rfl (k := 0) rfl rfl) ?_
 exact ⟨by rw [GX, GY], H.below⟩

theorem neg_f (B : Nat) (hB : B < two256) (w : World) : Calls Try.prog 11 #[.int .i64 0, numV B] w fun e w' => e = .returned (numV (fn B)) ∧ Ext w w' := by
  rw [← fn_def]; exact neg_c 0 B hB w

theorem cof_c (X Y : Nat) (I : Bool) (hX : X < two256) (hY : Y < two256) (w : World) :
    Calls Try.prog 59 #[ptV X Y I] w fun e w' => e = .returned (.agg (jcT (jof X Y I)).toArray) ∧ Ext w w' := by
 refine enter (n := 12) Try.func59 rfl rfl rfl ?_
 have H := HP.start w
 refine sr ?_; intro K1 hK1
 refine p_box (l := (numL X ++ (numL Y ++ [(.bool I : Value)]))) H rfl ?_; clear H; intro w2 b3 H
 refine p_alloc (l := [.int .u64 0, .int .u64 0, .int .u64 0, .int .u64 0, .int .u64 0, .int .u64 0, .int .u64 0, .int .u64 0, .int .u64 0, .int .u64 0, .int .u64 0, .int .u64 0]) H tz114 rfl ?_; clear H; intro w5 b4 H
 refine xk hK1 ?_; try clear hK1 K1
 refine wp_seq_k ?_; intro K6 hK6
 refine sr ?_; intro K7 hK7
 refine p_val (r_field fa29_2 rfl) ?_
 refine p_val (r_load1 (v := .bool I) to4 H rfl (k := 1) rfl (rfl)) ?_
 refine xk hK7 ?_; try clear hK7 K7
 refine c_split (t := _) rfl (fun hc_1 => ?_) (fun hc_1 => ?_)
 ·skip
  refine sr ?_; intro K9 hK9
  refine p_val (r_as (l' := (numL 0 ++ (numL 0 ++ numL 0))) (r_build (vals := []) (l := ([.int .u64 0, .int .u64 0, .int .u64 0, .int .u64 0] ++ ([.int .u64 0, .int .u64 0, .int .u64 0, .int .u64 0] ++ [.int .u64 0, .int .u64 0, .int .u64 0, .int .u64 0]))) tb114 rfl rfl) (by rw [num_0])) ?_
  refine p_storeW tg114 H rfl (k := 0) rfl rfl rfl rfl rfl ?_; clear H; intro w10 H
  refine xk hK9 ?_; try clear hK9 K9
  refine wp_ret ?_
  refine x_ret ?_
  refine e_1 rfl (q_cellW tg114 H rfl (k := 0) rfl rfl) ?_
  rw [hc_1]; exact ⟨rfl, H.below⟩
 ·skip
  refine wp_skip ?_
  refine xn hK6 ?_; try clear hK6 K6
  refine sr ?_; intro K11 hK11
  refine p_val (r_field fa29_0 rfl) ?_
  refine p_val (r_load (l := numL X) tg24 H rfl (k := 1) rfl rfl rfl) ?_
  refine p_val (r_field fa29_1 rfl) ?_
  refine p_val (r_load (l := numL Y) tg24 H rfl (k := 1) rfl rfl rfl) ?_
  refine p_val (r_as (l' := numL 1) (r_build (vals := [(0, (.int _ _))]) (l := [_, _, _, _]) tb24 rfl rfl) (num_lit 1 (by decide))) ?_
  refine p_val (r_build (vals := [(0, .agg (numL X).toArray), (1, .agg (numL Y).toArray), (2, .agg (numL 1).toArray)]) (l := (numL X ++ (numL Y ++ numL 1))) tb114 rfl rfl) ?_
  refine p_storeW tg114 H rfl (k := 0) rfl rfl rfl rfl rfl ?_; clear H; intro w12 H
  refine xk hK11 ?_; try clear hK11 K11
  refine wp_ret ?_
  refine e_1 rfl (q_cellW tg114 H rfl (k := 0) rfl rfl) ?_
  rw [hc_1]; exact ⟨rfl, H.below⟩

theorem cend_v (X Y Z : Nat) (hX : X < two256) (hY : Y < two256) (hZ : Z < two256) (w : World) :
    Calls Try.prog 62 #[jcV X Y Z] w fun e w' => e = .returned (.agg (ptT (jend (X, Y, Z))).toArray) ∧ Ext w w' := by
 refine enter (n := 29) Try.func62 rfl rfl rfl ?_
 have H := HP.start w
 refine sr ?_; intro K1 hK1
 refine p_box (l := (numL X ++ (numL Y ++ numL Z))) H rfl ?_; clear H; intro w2 b3 H
 refine p_alloc (l := [.int .u64 0, .int .u64 0, .int .u64 0, .int .u64 0, .int .u64 0, .int .u64 0, .int .u64 0, .int .u64 0, .bool false]) H tz29 rfl ?_; clear H; intro w5 b4 H
 refine xk hK1 ?_; try clear hK1 K1
 refine sr ?_; intro K6 hK6
 refine p_val (r_field fa114_2 rfl) ?_
 refine p_val (r_load (l := numL Z) tg24 H rfl (k := 1) rfl rfl rfl) ?_
 refine p_call (l := [(.int _ _), (.agg (List.toArray _))]) is24 rfl ?_
 refine (inv_c _ _ (by first | exact Nat.mod_lt _ two256_pos | exact Mod.lt (mod_modN _) | assumption | exact onceN_lt (by assumption) | exact Nat.lt_trans (Nat.mod_lt _ (mod_modN _).pos) (mod_modN _).lt | exact ofV_lt2 _ _ | exact invV_lt2 _ _ | exact fm_lt2 _ _ | exact fa_lt2 _ _ | exact fs_lt2 _ _ | exact fn_lt2 _ | exact PP_lt | exact AL_GG.1 | exact AL_GG.2 | exact (AL_cadd _ _).1 | exact (AL_cadd _ _).2 | exact (AL_cmul _ _).1 | exact (AL_cmul _ _).2 | exact (AL_cofV _).1 | exact (AL_cofV _).2 | exact (AL_cneg (by assumption)).1 | exact (AL_cneg (by assumption)).2 | exact lt_lit (by decide)) _).mono ?_; rintro _ w7 ⟨rfl, hx⟩; replace H := H.ext hx; clear hx
 refine p_mv (v := (.tuple _)) rfl ?_
 refine p_val (r_extract (v := (.agg (List.toArray _))) rfl rfl) ?_
 refine p_val (r_extract (v := (.int _ _)) rfl rfl) ?_
 refine p_alloc (l := [.int .u64 0, .int .u64 0, .int .u64 0, .int .u64 0]) H tz24 rfl ?_; clear H; intro w9 b8 H
 refine p_storeW tg24 H rfl (k := 0) rfl rfl rfl rfl rfl ?_; clear H; intro w10 H
 refine p_as (v := (.int _ _)) rfl ?_
 refine xk hK6 ?_; try clear hK6 K6
 refine wp_seq_k ?_; intro K11 hK11
 refine sr ?_; intro K12 hK12
 refine p_mv (v := (.int _ _)) rfl ?_
 refine p_val (r_neq rfl rfl rfl) ?_
 refine xk hK12 ?_; try clear hK12 K12
 refine c_split (t := _) rfl (fun hc_2 => ?_) (fun hc_2 => ?_)
 ·skip
  refine sr ?_; intro K14 hK14
  refine p_val (r_as (l' := (numL 0 ++ (numL 0 ++ [(.bool true : Value)]))) (r_build (vals := [(2, .bool true)]) (l := ([.int .u64 0, .int .u64 0, .int .u64 0, .int .u64 0] ++ ([.int .u64 0, .int .u64 0, .int .u64 0, .int .u64 0] ++ [(.bool true : Value)]))) tb29 rfl rfl) (by rw [num_0])) ?_
  refine p_storeW tg29 H rfl (k := 1) rfl rfl rfl rfl rfl ?_; clear H; intro w15 H
  refine xk hK14 ?_; try clear hK14 K14
  refine wp_ret ?_
  refine x_ret ?_
  refine e_1 rfl (q_cellW tg29 H rfl (k := 1) rfl rfl) ?_
  exact ⟨by rw [jend_t hc_2], H.below⟩
 ·skip
  refine wp_skip ?_
  refine xn hK11 ?_; try clear hK11 K11
  refine sr ?_; intro K16 hK16
  refine p_val (r_loadW tg24 H rfl (k := 0) rfl rfl) ?_
  refine p_val (r_loadW tg24 H rfl (k := 0) rfl rfl) ?_
  refine p_call (l := [(.agg (List.toArray _)), (.agg (List.toArray _))]) is57 rfl ?_
  refine (times_c _ _ (by first | exact Nat.mod_lt _ two256_pos | exact Mod.lt (mod_modN _) | assumption | exact onceN_lt (by assumption) | exact Nat.lt_trans (Nat.mod_lt _ (mod_modN _).pos) (mod_modN _).lt | exact ofV_lt2 _ _ | exact invV_lt2 _ _ | exact fm_lt2 _ _ | exact fa_lt2 _ _ | exact fs_lt2 _ _ | exact fn_lt2 _ | exact PP_lt | exact AL_GG.1 | exact AL_GG.2 | exact (AL_cadd _ _).1 | exact (AL_cadd _ _).2 | exact (AL_cmul _ _).1 | exact (AL_cmul _ _).2 | exact (AL_cofV _).1 | exact (AL_cofV _).2 | exact (AL_cneg (by assumption)).1 | exact (AL_cneg (by assumption)).2 | exact lt_lit (by decide)) (by first | exact Nat.mod_lt _ two256_pos | exact Mod.lt (mod_modN _) | assumption | exact onceN_lt (by assumption) | exact Nat.lt_trans (Nat.mod_lt _ (mod_modN _).pos) (mod_modN _).lt | exact ofV_lt2 _ _ | exact invV_lt2 _ _ | exact fm_lt2 _ _ | exact fa_lt2 _ _ | exact fs_lt2 _ _ | exact fn_lt2 _ | exact PP_lt | exact AL_GG.1 | exact AL_GG.2 | exact (AL_cadd _ _).1 | exact (AL_cadd _ _).2 | exact (AL_cmul _ _).1 | exact (AL_cmul _ _).2 | exact (AL_cofV _).1 | exact (AL_cofV _).2 | exact (AL_cneg (by assumption)).1 | exact (AL_cneg (by assumption)).2 | exact lt_lit (by decide)) _).mono ?_; rintro _ w17 ⟨rfl, hx⟩; replace H := H.ext hx; clear hx
  refine p_alloc (l := [.int .u64 0, .int .u64 0, .int .u64 0, .int .u64 0]) H tz24 rfl ?_; clear H; intro w19 b18 H
  refine p_storeW tg24 H rfl (k := 0) rfl rfl rfl rfl rfl ?_; clear H; intro w20 H
  refine xk hK16 ?_; try clear hK16 K16
  refine wp_seq_k ?_; intro K21 hK21
  apply wp_region_ext 11 (kinds [(3, .inl _), (8, .inl _), (9, .inl _)]) rfl rfl (by kernel_rfl); intro vs23
  simp only [List.take_succ_cons, List.take_zero, List.drop_succ_cons, List.drop_zero]
  replace H := H.drew
  refine t_v (fun w hx => r_field fa114_0 rfl) ?_
  refine t_v (fun w hx => r_load (l := numL X) tg24 (H.ext hx) rfl (k := 3) rfl rfl rfl) ?_
  refine t_v (fun w hx => r_loadW tg24 (H.ext hx) rfl (k := 0) rfl rfl) ?_
  refine t_call (l := [(.agg (List.toArray _)), (.agg (List.toArray _))]) rfl rfl is57 rfl (fun w hx hF => (times_c _ _ (by first | exact Nat.mod_lt _ two256_pos | exact Mod.lt (mod_modN _) | assumption | exact onceN_lt (by assumption) | exact Nat.lt_trans (Nat.mod_lt _ (mod_modN _).pos) (mod_modN _).lt | exact ofV_lt2 _ _ | exact invV_lt2 _ _ | exact fm_lt2 _ _ | exact fa_lt2 _ _ | exact fs_lt2 _ _ | exact fn_lt2 _ | exact PP_lt | exact AL_GG.1 | exact AL_GG.2 | exact (AL_cadd _ _).1 | exact (AL_cadd _ _).2 | exact (AL_cmul _ _).1 | exact (AL_cmul _ _).2 | exact (AL_cofV _).1 | exact (AL_cofV _).2 | exact (AL_cneg (by assumption)).1 | exact (AL_cneg (by assumption)).2 | exact lt_lit (by decide)) (by first | exact Nat.mod_lt _ two256_pos | exact Mod.lt (mod_modN _) | assumption | exact onceN_lt (by assumption) | exact Nat.lt_trans (Nat.mod_lt _ (mod_modN _).pos) (mod_modN _).lt | exact ofV_lt2 _ _ | exact invV_lt2 _ _ | exact fm_lt2 _ _ | exact fa_lt2 _ _ | exact fs_lt2 _ _ | exact fn_lt2 _ | exact PP_lt | exact AL_GG.1 | exact AL_GG.2 | exact (AL_cadd _ _).1 | exact (AL_cadd _ _).2 | exact (AL_cmul _ _).1 | exact (AL_cmul _ _).2 | exact (AL_cofV _).1 | exact (AL_cofV _).2 | exact (AL_cneg (by assumption)).1 | exact (AL_cneg (by assumption)).2 | exact lt_lit (by decide)) _).mono (fun _ _ ⟨he, hx⟩ => ⟨he, hx⟩)) ?_
  refine t_v (fun w hx => r_field fa114_1 rfl) ?_
  refine t_v (fun w hx => r_load (l := numL Y) tg24 (H.ext hx) rfl (k := 3) rfl rfl rfl) ?_
  refine t_v (fun w hx => r_loadW tg24 (H.ext hx) rfl (k := 0) rfl rfl) ?_
  refine t_v (fun w hx => r_loadW tg24 (H.ext hx) rfl (k := 1) rfl rfl) ?_
  refine t_call (l := [(.agg (List.toArray _)), (.agg (List.toArray _))]) rfl rfl is57 rfl (fun w hx hF => (times_c _ _ (by first | exact Nat.mod_lt _ two256_pos | exact Mod.lt (mod_modN _) | assumption | exact onceN_lt (by assumption) | exact Nat.lt_trans (Nat.mod_lt _ (mod_modN _).pos) (mod_modN _).lt | exact ofV_lt2 _ _ | exact invV_lt2 _ _ | exact fm_lt2 _ _ | exact fa_lt2 _ _ | exact fs_lt2 _ _ | exact fn_lt2 _ | exact PP_lt | exact AL_GG.1 | exact AL_GG.2 | exact (AL_cadd _ _).1 | exact (AL_cadd _ _).2 | exact (AL_cmul _ _).1 | exact (AL_cmul _ _).2 | exact (AL_cofV _).1 | exact (AL_cofV _).2 | exact (AL_cneg (by assumption)).1 | exact (AL_cneg (by assumption)).2 | exact lt_lit (by decide)) (by first | exact Nat.mod_lt _ two256_pos | exact Mod.lt (mod_modN _) | assumption | exact onceN_lt (by assumption) | exact Nat.lt_trans (Nat.mod_lt _ (mod_modN _).pos) (mod_modN _).lt | exact ofV_lt2 _ _ | exact invV_lt2 _ _ | exact fm_lt2 _ _ | exact fa_lt2 _ _ | exact fs_lt2 _ _ | exact fn_lt2 _ | exact PP_lt | exact AL_GG.1 | exact AL_GG.2 | exact (AL_cadd _ _).1 | exact (AL_cadd _ _).2 | exact (AL_cmul _ _).1 | exact (AL_cmul _ _).2 | exact (AL_cofV _).1 | exact (AL_cofV _).2 | exact (AL_cneg (by assumption)).1 | exact (AL_cneg (by assumption)).2 | exact lt_lit (by decide)) _).mono (fun _ _ ⟨he, hx⟩ => ⟨he, hx⟩)) ?_
  refine t_call (l := [(.agg (List.toArray _)), (.agg (List.toArray _))]) rfl rfl is57 rfl (fun w hx hF => (times_c _ _ (by first | exact Nat.mod_lt _ two256_pos | exact Mod.lt (mod_modN _) | assumption | exact onceN_lt (by assumption) | exact Nat.lt_trans (Nat.mod_lt _ (mod_modN _).pos) (mod_modN _).lt | exact ofV_lt2 _ _ | exact invV_lt2 _ _ | exact fm_lt2 _ _ | exact fa_lt2 _ _ | exact fs_lt2 _ _ | exact fn_lt2 _ | exact PP_lt | exact AL_GG.1 | exact AL_GG.2 | exact (AL_cadd _ _).1 | exact (AL_cadd _ _).2 | exact (AL_cmul _ _).1 | exact (AL_cmul _ _).2 | exact (AL_cofV _).1 | exact (AL_cofV _).2 | exact (AL_cneg (by assumption)).1 | exact (AL_cneg (by assumption)).2 | exact lt_lit (by decide)) (by first | exact Nat.mod_lt _ two256_pos | exact Mod.lt (mod_modN _) | assumption | exact onceN_lt (by assumption) | exact Nat.lt_trans (Nat.mod_lt _ (mod_modN _).pos) (mod_modN _).lt | exact ofV_lt2 _ _ | exact invV_lt2 _ _ | exact fm_lt2 _ _ | exact fa_lt2 _ _ | exact fs_lt2 _ _ | exact fn_lt2 _ | exact PP_lt | exact AL_GG.1 | exact AL_GG.2 | exact (AL_cadd _ _).1 | exact (AL_cadd _ _).2 | exact (AL_cmul _ _).1 | exact (AL_cmul _ _).2 | exact (AL_cofV _).1 | exact (AL_cofV _).2 | exact (AL_cneg (by assumption)).1 | exact (AL_cneg (by assumption)).2 | exact lt_lit (by decide)) _).mono (fun _ _ ⟨he, hx⟩ => ⟨he, hx⟩)) ?_
  refine t_v (fun w hx => r_build (vals := [(0, .agg (numL (fm X (fm (invV 0 Z) (invV 0 Z)))).toArray), (1, .agg (numL (fm Y (fm (fm (invV 0 Z) (invV 0 Z)) (invV 0 Z)))).toArray)]) (l := (numL (fm X (fm (invV 0 Z) (invV 0 Z))) ++ (numL (fm Y (fm (fm (invV 0 Z) (invV 0 Z)) (invV 0 Z))) ++ [(.bool false : Value)]))) tb29 rfl rfl) ?_
  refine t_nil (fun w24 hx hF hA => ?_)
  replace H := H.ext hx
  clear hx hF hA
  refine p_storeW tg29 H rfl (k := 2) rfl rfl rfl rfl rfl ?_; clear H; intro w25 H
  refine wpList_nil ?_; refine on_norm ?_
  refine xn hK21 ?_; try clear hK21 K21
  refine wp_ret ?_
  refine e_1 rfl (q_cellW tg29 H rfl (k := 2) rfl rfl) ?_
  exact ⟨by rw [jend_f hc_2], H.below⟩

theorem cend_c (t : Tr) (h : TL t) (w : World) : Calls Try.prog 62 #[.agg (jcT t).toArray] w fun e w' => e = .returned (.agg (ptT (jend t)).toArray) ∧ Ext w w' := cend_v t.1 t.2.1 t.2.2 h.1 h.2.1 h.2.2 w

set_option maxRecDepth 4000 in
theorem ctwice_v (X Y Z : Nat) (hX : X < two256) (hY : Y < two256) (hZ : Z < two256) (w : World) :
    Calls Try.prog 60 #[jcV X Y Z] w fun e w' => e = .returned (.agg (jcT (jtw (X, Y, Z))).toArray) ∧ Ext w w' := by
 refine enter (n := 64) Try.func60 rfl rfl rfl ?_
 have H := HP.start w
 refine sr ?_; intro K1 hK1
 refine p_box (l := (numL X ++ (numL Y ++ numL Z))) H rfl ?_; clear H; intro w2 b3 H
 refine p_alloc (l := [.int .u64 0, .int .u64 0, .int .u64 0, .int .u64 0, .int .u64 0, .int .u64 0, .int .u64 0, .int .u64 0, .int .u64 0, .int .u64 0, .int .u64 0, .int .u64 0]) H tz114 rfl ?_; clear H; intro w5 b4 H
 refine xk hK1 ?_; try clear hK1 K1
 refine wp_seq_k ?_; intro K6 hK6
 apply wp_region_ext 12 (kinds [(4, .inl _), (9, .inl _), (10, .inr (NewAt _ [.int .u64 0, .int .u64 0, .int .u64 0, .int .u64 0] 24)), (11, .inr (NewAt _ [.int .u64 0, .int .u64 0, .int .u64 0, .int .u64 0] 24))]) rfl rfl (by kernel_rfl); intro vs8
 simp only [List.take_succ_cons, List.take_zero, List.drop_succ_cons, List.drop_zero]
 replace H := H.drew
 refine t_v (fun w hx => r_field fa114_2 rfl) ?_
 refine t_v (fun w hx => r_load (l := numL Z) tg24 (H.ext hx) rfl (k := 1) rfl rfl rfl) ?_
 refine t_v (fun w hx => r_field fa114_2 rfl) ?_
 refine t_v (fun w hx => r_load (l := numL Z) tg24 (H.ext hx) rfl (k := 1) rfl rfl rfl) ?_
 refine t_call (l := [(.agg (List.toArray _)), (.agg (List.toArray _))]) rfl rfl is57 rfl (fun w hx hF => (times_c _ _ (by first | exact Nat.mod_lt _ two256_pos | exact Mod.lt (mod_modN _) | assumption | exact onceN_lt (by assumption) | exact Nat.lt_trans (Nat.mod_lt _ (mod_modN _).pos) (mod_modN _).lt | exact ofV_lt2 _ _ | exact invV_lt2 _ _ | exact fm_lt2 _ _ | exact fa_lt2 _ _ | exact fs_lt2 _ _ | exact fn_lt2 _ | exact PP_lt | exact AL_GG.1 | exact AL_GG.2 | exact (AL_cadd _ _).1 | exact (AL_cadd _ _).2 | exact (AL_cmul _ _).1 | exact (AL_cmul _ _).2 | exact (AL_cofV _).1 | exact (AL_cofV _).2 | exact (AL_cneg (by assumption)).1 | exact (AL_cneg (by assumption)).2 | exact lt_lit (by decide)) (by first | exact Nat.mod_lt _ two256_pos | exact Mod.lt (mod_modN _) | assumption | exact onceN_lt (by assumption) | exact Nat.lt_trans (Nat.mod_lt _ (mod_modN _).pos) (mod_modN _).lt | exact ofV_lt2 _ _ | exact invV_lt2 _ _ | exact fm_lt2 _ _ | exact fa_lt2 _ _ | exact fs_lt2 _ _ | exact fn_lt2 _ | exact PP_lt | exact AL_GG.1 | exact AL_GG.2 | exact (AL_cadd _ _).1 | exact (AL_cadd _ _).2 | exact (AL_cmul _ _).1 | exact (AL_cmul _ _).2 | exact (AL_cofV _).1 | exact (AL_cofV _).2 | exact (AL_cneg (by assumption)).1 | exact (AL_cneg (by assumption)).2 | exact lt_lit (by decide)) _).mono (fun _ _ ⟨he, hx⟩ => ⟨he, hx⟩)) ?_
 refine t_v (fun w hx => r_field fa114_1 rfl) ?_
 refine t_v (fun w hx => r_load (l := numL Y) tg24 (H.ext hx) rfl (k := 1) rfl rfl rfl) ?_
 refine t_v (fun w hx => r_field fa114_1 rfl) ?_
 refine t_v (fun w hx => r_load (l := numL Y) tg24 (H.ext hx) rfl (k := 1) rfl rfl rfl) ?_
 refine t_call (l := [(.agg (List.toArray _)), (.agg (List.toArray _))]) rfl rfl is57 rfl (fun w hx hF => (times_c _ _ (by first | exact Nat.mod_lt _ two256_pos | exact Mod.lt (mod_modN _) | assumption | exact onceN_lt (by assumption) | exact Nat.lt_trans (Nat.mod_lt _ (mod_modN _).pos) (mod_modN _).lt | exact ofV_lt2 _ _ | exact invV_lt2 _ _ | exact fm_lt2 _ _ | exact fa_lt2 _ _ | exact fs_lt2 _ _ | exact fn_lt2 _ | exact PP_lt | exact AL_GG.1 | exact AL_GG.2 | exact (AL_cadd _ _).1 | exact (AL_cadd _ _).2 | exact (AL_cmul _ _).1 | exact (AL_cmul _ _).2 | exact (AL_cofV _).1 | exact (AL_cofV _).2 | exact (AL_cneg (by assumption)).1 | exact (AL_cneg (by assumption)).2 | exact lt_lit (by decide)) (by first | exact Nat.mod_lt _ two256_pos | exact Mod.lt (mod_modN _) | assumption | exact onceN_lt (by assumption) | exact Nat.lt_trans (Nat.mod_lt _ (mod_modN _).pos) (mod_modN _).lt | exact ofV_lt2 _ _ | exact invV_lt2 _ _ | exact fm_lt2 _ _ | exact fa_lt2 _ _ | exact fs_lt2 _ _ | exact fn_lt2 _ | exact PP_lt | exact AL_GG.1 | exact AL_GG.2 | exact (AL_cadd _ _).1 | exact (AL_cadd _ _).2 | exact (AL_cmul _ _).1 | exact (AL_cmul _ _).2 | exact (AL_cofV _).1 | exact (AL_cofV _).2 | exact (AL_cneg (by assumption)).1 | exact (AL_cneg (by assumption)).2 | exact lt_lit (by decide)) _).mono (fun _ _ ⟨he, hx⟩ => ⟨he, hx⟩)) ?_
 refine t_alloc rfl rfl tz24 rfl ?_
 refine t_alloc rfl rfl tz24 rfl ?_
 refine t_nil (fun w11 hx hF hA => ?_)
 obtain ⟨b9, eb9, hbb9, hhb9⟩ := fact_rel hF 10 rfl rfl; have hnb9 := HP.neL H hbb9; replace hbb9 := Nat.le_trans H.below.size hbb9
 obtain ⟨b10, eb10, hbb10, hhb10⟩ := fact_rel hF 11 rfl rfl; have hnb10 := HP.neL H hbb10; replace hbb10 := Nat.le_trans H.below.size hbb10
 replace H := H.ext hx
 replace H := HP.push1 H hbb9 hnb9 hhb9
 replace H := HP.push1 H hbb10 ⟨fun e => (hA 10 11 (by decide) (by decide) (by decide)).1 rfl rfl (by rw [eb9, eb10]; exact congrArg (fun z => Value.pointer (some ⟨z, 0, none⟩)) e), hnb10⟩ hhb10
 clear hbb9 hnb9 hhb9 hbb10 hnb10 hhb10
 clear hx hF hA
 refine p_storeW tg24 H eb9 (k := 1) rfl rfl rfl rfl rfl ?_; clear H; intro w12 H
 refine HP.name H (k := 1) rfl ?_; clear H; intro zz hzz H; have lzz : zz < two256 := by (rw [hzz]; first | exact fm_lt2 _ _ | exact fa_lt2 _ _ | exact fs_lt2 _ _ | exact fn_lt2 _)
 refine p_storeW tg24 H eb10 (k := 0) rfl rfl rfl rfl rfl ?_; clear H; intro w13 H
 refine HP.name H (k := 0) rfl ?_; clear H; intro yy hyy H; have lyy : yy < two256 := by (rw [hyy]; first | exact fm_lt2 _ _ | exact fa_lt2 _ _ | exact fs_lt2 _ _ | exact fn_lt2 _)
 refine wpList_nil ?_; refine on_norm ?_
 refine xn hK6 ?_; try clear hK6 K6
 refine wp_seq_k ?_; intro K14 hK14
 apply wp_region_ext 12 (kinds [(4, .inl _), (8, .inl _), (9, .inl _), (10, .inl _), (11, .inr (NewAt _ [.int .u64 0, .int .u64 0, .int .u64 0, .int .u64 0] 24))]) rfl rfl (by kernel_rfl); intro vs16
 simp only [List.take_succ_cons, List.take_zero, List.drop_succ_cons, List.drop_zero]
 replace H := H.drew
 refine t_v (fun w hx => r_as (l' := numL 3) (r_build (vals := [(0, (.int _ _))]) (l := [_, _, _, _]) tb24 rfl rfl) (num_lit 3 (by decide))) ?_
 refine t_v (fun w hx => r_field fa114_0 rfl) ?_
 refine t_v (fun w hx => r_load (l := numL X) tg24 (H.ext hx) rfl (k := 3) rfl rfl rfl) ?_
 refine t_v (fun w hx => r_loadW tg24 (H.ext hx) eb9 (k := 1) rfl rfl) ?_
 refine t_call (l := [(.agg (List.toArray _)), (.agg (List.toArray _))]) rfl rfl is58 rfl (fun w hx hF => (minus_c _ _ (by first | exact Nat.mod_lt _ two256_pos | exact Mod.lt (mod_modN _) | assumption | exact onceN_lt (by assumption) | exact Nat.lt_trans (Nat.mod_lt _ (mod_modN _).pos) (mod_modN _).lt | exact ofV_lt2 _ _ | exact invV_lt2 _ _ | exact fm_lt2 _ _ | exact fa_lt2 _ _ | exact fs_lt2 _ _ | exact fn_lt2 _ | exact PP_lt | exact AL_GG.1 | exact AL_GG.2 | exact (AL_cadd _ _).1 | exact (AL_cadd _ _).2 | exact (AL_cmul _ _).1 | exact (AL_cmul _ _).2 | exact (AL_cofV _).1 | exact (AL_cofV _).2 | exact (AL_cneg (by assumption)).1 | exact (AL_cneg (by assumption)).2 | exact lt_lit (by decide)) (by first | exact Nat.mod_lt _ two256_pos | exact Mod.lt (mod_modN _) | assumption | exact onceN_lt (by assumption) | exact Nat.lt_trans (Nat.mod_lt _ (mod_modN _).pos) (mod_modN _).lt | exact ofV_lt2 _ _ | exact invV_lt2 _ _ | exact fm_lt2 _ _ | exact fa_lt2 _ _ | exact fs_lt2 _ _ | exact fn_lt2 _ | exact PP_lt | exact AL_GG.1 | exact AL_GG.2 | exact (AL_cadd _ _).1 | exact (AL_cadd _ _).2 | exact (AL_cmul _ _).1 | exact (AL_cmul _ _).2 | exact (AL_cofV _).1 | exact (AL_cofV _).2 | exact (AL_cneg (by assumption)).1 | exact (AL_cneg (by assumption)).2 | exact lt_lit (by decide)) _).mono (fun _ _ ⟨he, hx⟩ => ⟨he, hx⟩)) ?_
 refine t_v (fun w hx => r_field fa114_0 rfl) ?_
 refine t_v (fun w hx => r_load (l := numL X) tg24 (H.ext hx) rfl (k := 3) rfl rfl rfl) ?_
 refine t_v (fun w hx => r_loadW tg24 (H.ext hx) eb9 (k := 1) rfl rfl) ?_
 refine t_call (l := [(.agg (List.toArray _)), (.agg (List.toArray _))]) rfl rfl is56 rfl (fun w hx hF => (plus_c _ _ (by first | exact Nat.mod_lt _ two256_pos | exact Mod.lt (mod_modN _) | assumption | exact onceN_lt (by assumption) | exact Nat.lt_trans (Nat.mod_lt _ (mod_modN _).pos) (mod_modN _).lt | exact ofV_lt2 _ _ | exact invV_lt2 _ _ | exact fm_lt2 _ _ | exact fa_lt2 _ _ | exact fs_lt2 _ _ | exact fn_lt2 _ | exact PP_lt | exact AL_GG.1 | exact AL_GG.2 | exact (AL_cadd _ _).1 | exact (AL_cadd _ _).2 | exact (AL_cmul _ _).1 | exact (AL_cmul _ _).2 | exact (AL_cofV _).1 | exact (AL_cofV _).2 | exact (AL_cneg (by assumption)).1 | exact (AL_cneg (by assumption)).2 | exact lt_lit (by decide)) (by first | exact Nat.mod_lt _ two256_pos | exact Mod.lt (mod_modN _) | assumption | exact onceN_lt (by assumption) | exact Nat.lt_trans (Nat.mod_lt _ (mod_modN _).pos) (mod_modN _).lt | exact ofV_lt2 _ _ | exact invV_lt2 _ _ | exact fm_lt2 _ _ | exact fa_lt2 _ _ | exact fs_lt2 _ _ | exact fn_lt2 _ | exact PP_lt | exact AL_GG.1 | exact AL_GG.2 | exact (AL_cadd _ _).1 | exact (AL_cadd _ _).2 | exact (AL_cmul _ _).1 | exact (AL_cmul _ _).2 | exact (AL_cofV _).1 | exact (AL_cofV _).2 | exact (AL_cneg (by assumption)).1 | exact (AL_cneg (by assumption)).2 | exact lt_lit (by decide)) _).mono (fun _ _ ⟨he, hx⟩ => ⟨he, hx⟩)) ?_
 refine t_call (l := [(.agg (List.toArray _)), (.agg (List.toArray _))]) rfl rfl is57 rfl (fun w hx hF => (times_c _ _ (by first | exact Nat.mod_lt _ two256_pos | exact Mod.lt (mod_modN _) | assumption | exact onceN_lt (by assumption) | exact Nat.lt_trans (Nat.mod_lt _ (mod_modN _).pos) (mod_modN _).lt | exact ofV_lt2 _ _ | exact invV_lt2 _ _ | exact fm_lt2 _ _ | exact fa_lt2 _ _ | exact fs_lt2 _ _ | exact fn_lt2 _ | exact PP_lt | exact AL_GG.1 | exact AL_GG.2 | exact (AL_cadd _ _).1 | exact (AL_cadd _ _).2 | exact (AL_cmul _ _).1 | exact (AL_cmul _ _).2 | exact (AL_cofV _).1 | exact (AL_cofV _).2 | exact (AL_cneg (by assumption)).1 | exact (AL_cneg (by assumption)).2 | exact lt_lit (by decide)) (by first | exact Nat.mod_lt _ two256_pos | exact Mod.lt (mod_modN _) | assumption | exact onceN_lt (by assumption) | exact Nat.lt_trans (Nat.mod_lt _ (mod_modN _).pos) (mod_modN _).lt | exact ofV_lt2 _ _ | exact invV_lt2 _ _ | exact fm_lt2 _ _ | exact fa_lt2 _ _ | exact fs_lt2 _ _ | exact fn_lt2 _ | exact PP_lt | exact AL_GG.1 | exact AL_GG.2 | exact (AL_cadd _ _).1 | exact (AL_cadd _ _).2 | exact (AL_cmul _ _).1 | exact (AL_cmul _ _).2 | exact (AL_cofV _).1 | exact (AL_cofV _).2 | exact (AL_cneg (by assumption)).1 | exact (AL_cneg (by assumption)).2 | exact lt_lit (by decide)) _).mono (fun _ _ ⟨he, hx⟩ => ⟨he, hx⟩)) ?_
 refine t_call (l := [(.agg (List.toArray _)), (.agg (List.toArray _))]) rfl rfl is57 rfl (fun w hx hF => (times_c _ _ (by first | exact Nat.mod_lt _ two256_pos | exact Mod.lt (mod_modN _) | assumption | exact onceN_lt (by assumption) | exact Nat.lt_trans (Nat.mod_lt _ (mod_modN _).pos) (mod_modN _).lt | exact ofV_lt2 _ _ | exact invV_lt2 _ _ | exact fm_lt2 _ _ | exact fa_lt2 _ _ | exact fs_lt2 _ _ | exact fn_lt2 _ | exact PP_lt | exact AL_GG.1 | exact AL_GG.2 | exact (AL_cadd _ _).1 | exact (AL_cadd _ _).2 | exact (AL_cmul _ _).1 | exact (AL_cmul _ _).2 | exact (AL_cofV _).1 | exact (AL_cofV _).2 | exact (AL_cneg (by assumption)).1 | exact (AL_cneg (by assumption)).2 | exact lt_lit (by decide)) (by first | exact Nat.mod_lt _ two256_pos | exact Mod.lt (mod_modN _) | assumption | exact onceN_lt (by assumption) | exact Nat.lt_trans (Nat.mod_lt _ (mod_modN _).pos) (mod_modN _).lt | exact ofV_lt2 _ _ | exact invV_lt2 _ _ | exact fm_lt2 _ _ | exact fa_lt2 _ _ | exact fs_lt2 _ _ | exact fn_lt2 _ | exact PP_lt | exact AL_GG.1 | exact AL_GG.2 | exact (AL_cadd _ _).1 | exact (AL_cadd _ _).2 | exact (AL_cmul _ _).1 | exact (AL_cmul _ _).2 | exact (AL_cofV _).1 | exact (AL_cofV _).2 | exact (AL_cneg (by assumption)).1 | exact (AL_cneg (by assumption)).2 | exact lt_lit (by decide)) _).mono (fun _ _ ⟨he, hx⟩ => ⟨he, hx⟩)) ?_
 refine t_alloc rfl rfl tz24 rfl ?_
 refine t_nil (fun w18 hx hF hA => ?_)
 obtain ⟨b17, eb17, hbb17, hhb17⟩ := fact_rel hF 11 rfl rfl; have hnb17 := HP.neL H hbb17; replace hbb17 := Nat.le_trans H.below.size hbb17
 replace H := H.ext hx
 replace H := HP.push1 H hbb17 hnb17 hhb17
 clear hbb17 hnb17 hhb17
 clear hx hF hA
 refine p_storeW tg24 H eb17 (k := 0) rfl rfl rfl rfl rfl ?_; clear H; intro w19 H
 refine HP.name H (k := 0) rfl ?_; clear H; intro m1 hm1 H; have lm1 : m1 < two256 := by (rw [hm1]; first | exact fm_lt2 _ _ | exact fa_lt2 _ _ | exact fs_lt2 _ _ | exact fn_lt2 _)
 refine wpList_nil ?_; refine on_norm ?_
 refine xn hK14 ?_; try clear hK14 K14
 refine sr ?_; intro K20 hK20
 refine p_val (r_as (l' := numL 4) (r_build (vals := [(0, (.int _ _))]) (l := [_, _, _, _]) tb24 rfl rfl) (num_lit 4 (by decide))) ?_
 refine p_val (r_field fa114_0 rfl) ?_
 refine p_val (r_load (l := numL X) tg24 H rfl (k := 4) rfl rfl rfl) ?_
 refine p_val (r_loadW tg24 H eb10 (k := 1) rfl rfl) ?_
 refine p_call (l := [(.agg (List.toArray _)), (.agg (List.toArray _))]) is57 rfl ?_
 refine (times_c _ _ (by first | exact Nat.mod_lt _ two256_pos | exact Mod.lt (mod_modN _) | assumption | exact onceN_lt (by assumption) | exact Nat.lt_trans (Nat.mod_lt _ (mod_modN _).pos) (mod_modN _).lt | exact ofV_lt2 _ _ | exact invV_lt2 _ _ | exact fm_lt2 _ _ | exact fa_lt2 _ _ | exact fs_lt2 _ _ | exact fn_lt2 _ | exact PP_lt | exact AL_GG.1 | exact AL_GG.2 | exact (AL_cadd _ _).1 | exact (AL_cadd _ _).2 | exact (AL_cmul _ _).1 | exact (AL_cmul _ _).2 | exact (AL_cofV _).1 | exact (AL_cofV _).2 | exact (AL_cneg (by assumption)).1 | exact (AL_cneg (by assumption)).2 | exact lt_lit (by decide)) (by first | exact Nat.mod_lt _ two256_pos | exact Mod.lt (mod_modN _) | assumption | exact onceN_lt (by assumption) | exact Nat.lt_trans (Nat.mod_lt _ (mod_modN _).pos) (mod_modN _).lt | exact ofV_lt2 _ _ | exact invV_lt2 _ _ | exact fm_lt2 _ _ | exact fa_lt2 _ _ | exact fs_lt2 _ _ | exact fn_lt2 _ | exact PP_lt | exact AL_GG.1 | exact AL_GG.2 | exact (AL_cadd _ _).1 | exact (AL_cadd _ _).2 | exact (AL_cmul _ _).1 | exact (AL_cmul _ _).2 | exact (AL_cofV _).1 | exact (AL_cofV _).2 | exact (AL_cneg (by assumption)).1 | exact (AL_cneg (by assumption)).2 | exact lt_lit (by decide)) _).mono ?_; rintro _ w21 ⟨rfl, hx⟩; replace H := H.ext hx; clear hx
 refine p_call (l := [(.agg (List.toArray _)), (.agg (List.toArray _))]) is57 rfl ?_
 refine (times_c _ _ (by first | exact Nat.mod_lt _ two256_pos | exact Mod.lt (mod_modN _) | assumption | exact onceN_lt (by assumption) | exact Nat.lt_trans (Nat.mod_lt _ (mod_modN _).pos) (mod_modN _).lt | exact ofV_lt2 _ _ | exact invV_lt2 _ _ | exact fm_lt2 _ _ | exact fa_lt2 _ _ | exact fs_lt2 _ _ | exact fn_lt2 _ | exact PP_lt | exact AL_GG.1 | exact AL_GG.2 | exact (AL_cadd _ _).1 | exact (AL_cadd _ _).2 | exact (AL_cmul _ _).1 | exact (AL_cmul _ _).2 | exact (AL_cofV _).1 | exact (AL_cofV _).2 | exact (AL_cneg (by assumption)).1 | exact (AL_cneg (by assumption)).2 | exact lt_lit (by decide)) (by first | exact Nat.mod_lt _ two256_pos | exact Mod.lt (mod_modN _) | assumption | exact onceN_lt (by assumption) | exact Nat.lt_trans (Nat.mod_lt _ (mod_modN _).pos) (mod_modN _).lt | exact ofV_lt2 _ _ | exact invV_lt2 _ _ | exact fm_lt2 _ _ | exact fa_lt2 _ _ | exact fs_lt2 _ _ | exact fn_lt2 _ | exact PP_lt | exact AL_GG.1 | exact AL_GG.2 | exact (AL_cadd _ _).1 | exact (AL_cadd _ _).2 | exact (AL_cmul _ _).1 | exact (AL_cmul _ _).2 | exact (AL_cofV _).1 | exact (AL_cofV _).2 | exact (AL_cneg (by assumption)).1 | exact (AL_cneg (by assumption)).2 | exact lt_lit (by decide)) _).mono ?_; rintro _ w22 ⟨rfl, hx⟩; replace H := H.ext hx; clear hx
 refine p_alloc (l := [.int .u64 0, .int .u64 0, .int .u64 0, .int .u64 0]) H tz24 rfl ?_; clear H; intro w24 b23 H
 refine p_storeW tg24 H rfl (k := 0) rfl rfl rfl rfl rfl ?_; clear H; intro w25 H
 refine HP.name H (k := 0) rfl ?_; clear H; intro s1 hs1 H; have ls1 : s1 < two256 := by (rw [hs1]; first | exact fm_lt2 _ _ | exact fa_lt2 _ _ | exact fs_lt2 _ _ | exact fn_lt2 _)
 refine xk hK20 ?_; try clear hK20 K20
 refine wp_seq_k ?_; intro K26 hK26
 apply wp_region_ext 8 (kinds [(2, .inl _), (5, .inl _), (6, .inl _), (7, .inr (NewAt _ [.int .u64 0, .int .u64 0, .int .u64 0, .int .u64 0] 24))]) rfl rfl (by kernel_rfl); intro vs28
 simp only [List.take_succ_cons, List.take_zero, List.drop_succ_cons, List.drop_zero]
 replace H := H.drew
 refine t_v (fun w hx => r_loadW tg24 (H.ext hx) eb17 (k := 1) rfl rfl) ?_
 refine t_v (fun w hx => r_loadW tg24 (H.ext hx) eb17 (k := 1) rfl rfl) ?_
 refine t_call (l := [(.agg (List.toArray _)), (.agg (List.toArray _))]) rfl rfl is57 rfl (fun w hx hF => (times_c _ _ (by first | exact Nat.mod_lt _ two256_pos | exact Mod.lt (mod_modN _) | assumption | exact onceN_lt (by assumption) | exact Nat.lt_trans (Nat.mod_lt _ (mod_modN _).pos) (mod_modN _).lt | exact ofV_lt2 _ _ | exact invV_lt2 _ _ | exact fm_lt2 _ _ | exact fa_lt2 _ _ | exact fs_lt2 _ _ | exact fn_lt2 _ | exact PP_lt | exact AL_GG.1 | exact AL_GG.2 | exact (AL_cadd _ _).1 | exact (AL_cadd _ _).2 | exact (AL_cmul _ _).1 | exact (AL_cmul _ _).2 | exact (AL_cofV _).1 | exact (AL_cofV _).2 | exact (AL_cneg (by assumption)).1 | exact (AL_cneg (by assumption)).2 | exact lt_lit (by decide)) (by first | exact Nat.mod_lt _ two256_pos | exact Mod.lt (mod_modN _) | assumption | exact onceN_lt (by assumption) | exact Nat.lt_trans (Nat.mod_lt _ (mod_modN _).pos) (mod_modN _).lt | exact ofV_lt2 _ _ | exact invV_lt2 _ _ | exact fm_lt2 _ _ | exact fa_lt2 _ _ | exact fs_lt2 _ _ | exact fn_lt2 _ | exact PP_lt | exact AL_GG.1 | exact AL_GG.2 | exact (AL_cadd _ _).1 | exact (AL_cadd _ _).2 | exact (AL_cmul _ _).1 | exact (AL_cmul _ _).2 | exact (AL_cofV _).1 | exact (AL_cofV _).2 | exact (AL_cneg (by assumption)).1 | exact (AL_cneg (by assumption)).2 | exact lt_lit (by decide)) _).mono (fun _ _ ⟨he, hx⟩ => ⟨he, hx⟩)) ?_
 refine t_v (fun w hx => r_loadW tg24 (H.ext hx) rfl (k := 0) rfl rfl) ?_
 refine t_v (fun w hx => r_loadW tg24 (H.ext hx) rfl (k := 0) rfl rfl) ?_
 refine t_call (l := [(.agg (List.toArray _)), (.agg (List.toArray _))]) rfl rfl is56 rfl (fun w hx hF => (plus_c _ _ (by first | exact Nat.mod_lt _ two256_pos | exact Mod.lt (mod_modN _) | assumption | exact onceN_lt (by assumption) | exact Nat.lt_trans (Nat.mod_lt _ (mod_modN _).pos) (mod_modN _).lt | exact ofV_lt2 _ _ | exact invV_lt2 _ _ | exact fm_lt2 _ _ | exact fa_lt2 _ _ | exact fs_lt2 _ _ | exact fn_lt2 _ | exact PP_lt | exact AL_GG.1 | exact AL_GG.2 | exact (AL_cadd _ _).1 | exact (AL_cadd _ _).2 | exact (AL_cmul _ _).1 | exact (AL_cmul _ _).2 | exact (AL_cofV _).1 | exact (AL_cofV _).2 | exact (AL_cneg (by assumption)).1 | exact (AL_cneg (by assumption)).2 | exact lt_lit (by decide)) (by first | exact Nat.mod_lt _ two256_pos | exact Mod.lt (mod_modN _) | assumption | exact onceN_lt (by assumption) | exact Nat.lt_trans (Nat.mod_lt _ (mod_modN _).pos) (mod_modN _).lt | exact ofV_lt2 _ _ | exact invV_lt2 _ _ | exact fm_lt2 _ _ | exact fa_lt2 _ _ | exact fs_lt2 _ _ | exact fn_lt2 _ | exact PP_lt | exact AL_GG.1 | exact AL_GG.2 | exact (AL_cadd _ _).1 | exact (AL_cadd _ _).2 | exact (AL_cmul _ _).1 | exact (AL_cmul _ _).2 | exact (AL_cofV _).1 | exact (AL_cofV _).2 | exact (AL_cneg (by assumption)).1 | exact (AL_cneg (by assumption)).2 | exact lt_lit (by decide)) _).mono (fun _ _ ⟨he, hx⟩ => ⟨he, hx⟩)) ?_
 refine t_call (l := [(.agg (List.toArray _)), (.agg (List.toArray _))]) rfl rfl is58 rfl (fun w hx hF => (minus_c _ _ (by first | exact Nat.mod_lt _ two256_pos | exact Mod.lt (mod_modN _) | assumption | exact onceN_lt (by assumption) | exact Nat.lt_trans (Nat.mod_lt _ (mod_modN _).pos) (mod_modN _).lt | exact ofV_lt2 _ _ | exact invV_lt2 _ _ | exact fm_lt2 _ _ | exact fa_lt2 _ _ | exact fs_lt2 _ _ | exact fn_lt2 _ | exact PP_lt | exact AL_GG.1 | exact AL_GG.2 | exact (AL_cadd _ _).1 | exact (AL_cadd _ _).2 | exact (AL_cmul _ _).1 | exact (AL_cmul _ _).2 | exact (AL_cofV _).1 | exact (AL_cofV _).2 | exact (AL_cneg (by assumption)).1 | exact (AL_cneg (by assumption)).2 | exact lt_lit (by decide)) (by first | exact Nat.mod_lt _ two256_pos | exact Mod.lt (mod_modN _) | assumption | exact onceN_lt (by assumption) | exact Nat.lt_trans (Nat.mod_lt _ (mod_modN _).pos) (mod_modN _).lt | exact ofV_lt2 _ _ | exact invV_lt2 _ _ | exact fm_lt2 _ _ | exact fa_lt2 _ _ | exact fs_lt2 _ _ | exact fn_lt2 _ | exact PP_lt | exact AL_GG.1 | exact AL_GG.2 | exact (AL_cadd _ _).1 | exact (AL_cadd _ _).2 | exact (AL_cmul _ _).1 | exact (AL_cmul _ _).2 | exact (AL_cofV _).1 | exact (AL_cofV _).2 | exact (AL_cneg (by assumption)).1 | exact (AL_cneg (by assumption)).2 | exact lt_lit (by decide)) _).mono (fun _ _ ⟨he, hx⟩ => ⟨he, hx⟩)) ?_
 refine t_alloc rfl rfl tz24 rfl ?_
 refine t_nil (fun w30 hx hF hA => ?_)
 obtain ⟨b29, eb29, hbb29, hhb29⟩ := fact_rel hF 7 rfl rfl; have hnb29 := HP.neL H hbb29; replace hbb29 := Nat.le_trans H.below.size hbb29
 replace H := H.ext hx
 replace H := HP.push1 H hbb29 hnb29 hhb29
 clear hbb29 hnb29 hhb29
 clear hx hF hA
 refine p_storeW tg24 H eb29 (k := 0) rfl rfl rfl rfl rfl ?_; clear H; intro w31 H
 refine HP.name H (k := 0) rfl ?_; clear H; intro x3 hx3 H; have lx3 : x3 < two256 := by (rw [hx3]; first | exact fm_lt2 _ _ | exact fa_lt2 _ _ | exact fs_lt2 _ _ | exact fn_lt2 _)
 refine wpList_nil ?_; refine on_norm ?_
 refine xn hK26 ?_; try clear hK26 K26
 refine wp_seq_k ?_; intro K32 hK32
 apply wp_region_ext 12 (kinds [(3, .inl _), (4, .inl _), (8, .inl _), (9, .inl _), (10, .inl _), (11, .inr (NewAt _ [.int .u64 0, .int .u64 0, .int .u64 0, .int .u64 0] 24))]) rfl rfl (by kernel_rfl); intro vs34
 simp only [List.take_succ_cons, List.take_zero, List.drop_succ_cons, List.drop_zero]
 replace H := H.drew
 refine t_v (fun w hx => r_loadW tg24 (H.ext hx) eb17 (k := 2) rfl rfl) ?_
 refine t_v (fun w hx => r_loadW tg24 (H.ext hx) rfl (k := 1) rfl rfl) ?_
 refine t_v (fun w hx => r_loadW tg24 (H.ext hx) eb29 (k := 0) rfl rfl) ?_
 refine t_call (l := [(.agg (List.toArray _)), (.agg (List.toArray _))]) rfl rfl is58 rfl (fun w hx hF => (minus_c _ _ (by first | exact Nat.mod_lt _ two256_pos | exact Mod.lt (mod_modN _) | assumption | exact onceN_lt (by assumption) | exact Nat.lt_trans (Nat.mod_lt _ (mod_modN _).pos) (mod_modN _).lt | exact ofV_lt2 _ _ | exact invV_lt2 _ _ | exact fm_lt2 _ _ | exact fa_lt2 _ _ | exact fs_lt2 _ _ | exact fn_lt2 _ | exact PP_lt | exact AL_GG.1 | exact AL_GG.2 | exact (AL_cadd _ _).1 | exact (AL_cadd _ _).2 | exact (AL_cmul _ _).1 | exact (AL_cmul _ _).2 | exact (AL_cofV _).1 | exact (AL_cofV _).2 | exact (AL_cneg (by assumption)).1 | exact (AL_cneg (by assumption)).2 | exact lt_lit (by decide)) (by first | exact Nat.mod_lt _ two256_pos | exact Mod.lt (mod_modN _) | assumption | exact onceN_lt (by assumption) | exact Nat.lt_trans (Nat.mod_lt _ (mod_modN _).pos) (mod_modN _).lt | exact ofV_lt2 _ _ | exact invV_lt2 _ _ | exact fm_lt2 _ _ | exact fa_lt2 _ _ | exact fs_lt2 _ _ | exact fn_lt2 _ | exact PP_lt | exact AL_GG.1 | exact AL_GG.2 | exact (AL_cadd _ _).1 | exact (AL_cadd _ _).2 | exact (AL_cmul _ _).1 | exact (AL_cmul _ _).2 | exact (AL_cofV _).1 | exact (AL_cofV _).2 | exact (AL_cneg (by assumption)).1 | exact (AL_cneg (by assumption)).2 | exact lt_lit (by decide)) _).mono (fun _ _ ⟨he, hx⟩ => ⟨he, hx⟩)) ?_
 refine t_call (l := [(.agg (List.toArray _)), (.agg (List.toArray _))]) rfl rfl is57 rfl (fun w hx hF => (times_c _ _ (by first | exact Nat.mod_lt _ two256_pos | exact Mod.lt (mod_modN _) | assumption | exact onceN_lt (by assumption) | exact Nat.lt_trans (Nat.mod_lt _ (mod_modN _).pos) (mod_modN _).lt | exact ofV_lt2 _ _ | exact invV_lt2 _ _ | exact fm_lt2 _ _ | exact fa_lt2 _ _ | exact fs_lt2 _ _ | exact fn_lt2 _ | exact PP_lt | exact AL_GG.1 | exact AL_GG.2 | exact (AL_cadd _ _).1 | exact (AL_cadd _ _).2 | exact (AL_cmul _ _).1 | exact (AL_cmul _ _).2 | exact (AL_cofV _).1 | exact (AL_cofV _).2 | exact (AL_cneg (by assumption)).1 | exact (AL_cneg (by assumption)).2 | exact lt_lit (by decide)) (by first | exact Nat.mod_lt _ two256_pos | exact Mod.lt (mod_modN _) | assumption | exact onceN_lt (by assumption) | exact Nat.lt_trans (Nat.mod_lt _ (mod_modN _).pos) (mod_modN _).lt | exact ofV_lt2 _ _ | exact invV_lt2 _ _ | exact fm_lt2 _ _ | exact fa_lt2 _ _ | exact fs_lt2 _ _ | exact fn_lt2 _ | exact PP_lt | exact AL_GG.1 | exact AL_GG.2 | exact (AL_cadd _ _).1 | exact (AL_cadd _ _).2 | exact (AL_cmul _ _).1 | exact (AL_cmul _ _).2 | exact (AL_cofV _).1 | exact (AL_cofV _).2 | exact (AL_cneg (by assumption)).1 | exact (AL_cneg (by assumption)).2 | exact lt_lit (by decide)) _).mono (fun _ _ ⟨he, hx⟩ => ⟨he, hx⟩)) ?_
 refine t_v (fun w hx => r_as (l' := numL 8) (r_build (vals := [(0, (.int _ _))]) (l := [_, _, _, _]) tb24 rfl rfl) (num_lit 8 (by decide))) ?_
 refine t_v (fun w hx => r_loadW tg24 (H.ext hx) eb10 (k := 3) rfl rfl) ?_
 refine t_v (fun w hx => r_loadW tg24 (H.ext hx) eb10 (k := 3) rfl rfl) ?_
 refine t_call (l := [(.agg (List.toArray _)), (.agg (List.toArray _))]) rfl rfl is57 rfl (fun w hx hF => (times_c _ _ (by first | exact Nat.mod_lt _ two256_pos | exact Mod.lt (mod_modN _) | assumption | exact onceN_lt (by assumption) | exact Nat.lt_trans (Nat.mod_lt _ (mod_modN _).pos) (mod_modN _).lt | exact ofV_lt2 _ _ | exact invV_lt2 _ _ | exact fm_lt2 _ _ | exact fa_lt2 _ _ | exact fs_lt2 _ _ | exact fn_lt2 _ | exact PP_lt | exact AL_GG.1 | exact AL_GG.2 | exact (AL_cadd _ _).1 | exact (AL_cadd _ _).2 | exact (AL_cmul _ _).1 | exact (AL_cmul _ _).2 | exact (AL_cofV _).1 | exact (AL_cofV _).2 | exact (AL_cneg (by assumption)).1 | exact (AL_cneg (by assumption)).2 | exact lt_lit (by decide)) (by first | exact Nat.mod_lt _ two256_pos | exact Mod.lt (mod_modN _) | assumption | exact onceN_lt (by assumption) | exact Nat.lt_trans (Nat.mod_lt _ (mod_modN _).pos) (mod_modN _).lt | exact ofV_lt2 _ _ | exact invV_lt2 _ _ | exact fm_lt2 _ _ | exact fa_lt2 _ _ | exact fs_lt2 _ _ | exact fn_lt2 _ | exact PP_lt | exact AL_GG.1 | exact AL_GG.2 | exact (AL_cadd _ _).1 | exact (AL_cadd _ _).2 | exact (AL_cmul _ _).1 | exact (AL_cmul _ _).2 | exact (AL_cofV _).1 | exact (AL_cofV _).2 | exact (AL_cneg (by assumption)).1 | exact (AL_cneg (by assumption)).2 | exact lt_lit (by decide)) _).mono (fun _ _ ⟨he, hx⟩ => ⟨he, hx⟩)) ?_
 refine t_call (l := [(.agg (List.toArray _)), (.agg (List.toArray _))]) rfl rfl is57 rfl (fun w hx hF => (times_c _ _ (by first | exact Nat.mod_lt _ two256_pos | exact Mod.lt (mod_modN _) | assumption | exact onceN_lt (by assumption) | exact Nat.lt_trans (Nat.mod_lt _ (mod_modN _).pos) (mod_modN _).lt | exact ofV_lt2 _ _ | exact invV_lt2 _ _ | exact fm_lt2 _ _ | exact fa_lt2 _ _ | exact fs_lt2 _ _ | exact fn_lt2 _ | exact PP_lt | exact AL_GG.1 | exact AL_GG.2 | exact (AL_cadd _ _).1 | exact (AL_cadd _ _).2 | exact (AL_cmul _ _).1 | exact (AL_cmul _ _).2 | exact (AL_cofV _).1 | exact (AL_cofV _).2 | exact (AL_cneg (by assumption)).1 | exact (AL_cneg (by assumption)).2 | exact lt_lit (by decide)) (by first | exact Nat.mod_lt _ two256_pos | exact Mod.lt (mod_modN _) | assumption | exact onceN_lt (by assumption) | exact Nat.lt_trans (Nat.mod_lt _ (mod_modN _).pos) (mod_modN _).lt | exact ofV_lt2 _ _ | exact invV_lt2 _ _ | exact fm_lt2 _ _ | exact fa_lt2 _ _ | exact fs_lt2 _ _ | exact fn_lt2 _ | exact PP_lt | exact AL_GG.1 | exact AL_GG.2 | exact (AL_cadd _ _).1 | exact (AL_cadd _ _).2 | exact (AL_cmul _ _).1 | exact (AL_cmul _ _).2 | exact (AL_cofV _).1 | exact (AL_cofV _).2 | exact (AL_cneg (by assumption)).1 | exact (AL_cneg (by assumption)).2 | exact lt_lit (by decide)) _).mono (fun _ _ ⟨he, hx⟩ => ⟨he, hx⟩)) ?_
 refine t_call (l := [(.agg (List.toArray _)), (.agg (List.toArray _))]) rfl rfl is58 rfl (fun w hx hF => (minus_c _ _ (by first | exact Nat.mod_lt _ two256_pos | exact Mod.lt (mod_modN _) | assumption | exact onceN_lt (by assumption) | exact Nat.lt_trans (Nat.mod_lt _ (mod_modN _).pos) (mod_modN _).lt | exact ofV_lt2 _ _ | exact invV_lt2 _ _ | exact fm_lt2 _ _ | exact fa_lt2 _ _ | exact fs_lt2 _ _ | exact fn_lt2 _ | exact PP_lt | exact AL_GG.1 | exact AL_GG.2 | exact (AL_cadd _ _).1 | exact (AL_cadd _ _).2 | exact (AL_cmul _ _).1 | exact (AL_cmul _ _).2 | exact (AL_cofV _).1 | exact (AL_cofV _).2 | exact (AL_cneg (by assumption)).1 | exact (AL_cneg (by assumption)).2 | exact lt_lit (by decide)) (by first | exact Nat.mod_lt _ two256_pos | exact Mod.lt (mod_modN _) | assumption | exact onceN_lt (by assumption) | exact Nat.lt_trans (Nat.mod_lt _ (mod_modN _).pos) (mod_modN _).lt | exact ofV_lt2 _ _ | exact invV_lt2 _ _ | exact fm_lt2 _ _ | exact fa_lt2 _ _ | exact fs_lt2 _ _ | exact fn_lt2 _ | exact PP_lt | exact AL_GG.1 | exact AL_GG.2 | exact (AL_cadd _ _).1 | exact (AL_cadd _ _).2 | exact (AL_cmul _ _).1 | exact (AL_cmul _ _).2 | exact (AL_cofV _).1 | exact (AL_cofV _).2 | exact (AL_cneg (by assumption)).1 | exact (AL_cneg (by assumption)).2 | exact lt_lit (by decide)) _).mono (fun _ _ ⟨he, hx⟩ => ⟨he, hx⟩)) ?_
 refine t_alloc rfl rfl tz24 rfl ?_
 refine t_nil (fun w36 hx hF hA => ?_)
 obtain ⟨b35, eb35, hbb35, hhb35⟩ := fact_rel hF 11 rfl rfl; have hnb35 := HP.neL H hbb35; replace hbb35 := Nat.le_trans H.below.size hbb35
 replace H := H.ext hx
 replace H := HP.push1 H hbb35 hnb35 hhb35
 clear hbb35 hnb35 hhb35
 clear hx hF hA
 refine p_storeW tg24 H eb35 (k := 0) rfl rfl rfl rfl rfl ?_; clear H; intro w37 H
 refine HP.name H (k := 0) rfl ?_; clear H; intro y3 hy3 H; have ly3 : y3 < two256 := by (rw [hy3]; first | exact fm_lt2 _ _ | exact fa_lt2 _ _ | exact fs_lt2 _ _ | exact fn_lt2 _)
 refine wpList_nil ?_; refine on_norm ?_
 refine xn hK32 ?_; try clear hK32 K32
 refine wp_seq_k ?_; intro K38 hK38
 apply wp_region_ext 10 (kinds [(7, .inl _), (8, .inl _)]) rfl rfl (by kernel_rfl); intro vs40
 simp only [List.take_succ_cons, List.take_zero, List.drop_succ_cons, List.drop_zero]
 replace H := H.drew
 refine t_v (fun w hx => r_loadW tg24 (H.ext hx) eb29 (k := 1) rfl rfl) ?_
 refine t_v (fun w hx => r_loadW tg24 (H.ext hx) eb35 (k := 0) rfl rfl) ?_
 refine t_v (fun w hx => r_as (l' := numL 2) (r_build (vals := [(0, (.int _ _))]) (l := [_, _, _, _]) tb24 rfl rfl) (num_lit 2 (by decide))) ?_
 refine t_v (fun w hx => r_field fa114_1 rfl) ?_
 refine t_v (fun w hx => r_load (l := numL Y) tg24 (H.ext hx) rfl (k := 7) rfl rfl rfl) ?_
 refine t_v (fun w hx => r_field fa114_2 rfl) ?_
 refine t_v (fun w hx => r_load (l := numL Z) tg24 (H.ext hx) rfl (k := 7) rfl rfl rfl) ?_
 refine t_call (l := [(.agg (List.toArray _)), (.agg (List.toArray _))]) rfl rfl is57 rfl (fun w hx hF => (times_c _ _ (by first | exact Nat.mod_lt _ two256_pos | exact Mod.lt (mod_modN _) | assumption | exact onceN_lt (by assumption) | exact Nat.lt_trans (Nat.mod_lt _ (mod_modN _).pos) (mod_modN _).lt | exact ofV_lt2 _ _ | exact invV_lt2 _ _ | exact fm_lt2 _ _ | exact fa_lt2 _ _ | exact fs_lt2 _ _ | exact fn_lt2 _ | exact PP_lt | exact AL_GG.1 | exact AL_GG.2 | exact (AL_cadd _ _).1 | exact (AL_cadd _ _).2 | exact (AL_cmul _ _).1 | exact (AL_cmul _ _).2 | exact (AL_cofV _).1 | exact (AL_cofV _).2 | exact (AL_cneg (by assumption)).1 | exact (AL_cneg (by assumption)).2 | exact lt_lit (by decide)) (by first | exact Nat.mod_lt _ two256_pos | exact Mod.lt (mod_modN _) | assumption | exact onceN_lt (by assumption) | exact Nat.lt_trans (Nat.mod_lt _ (mod_modN _).pos) (mod_modN _).lt | exact ofV_lt2 _ _ | exact invV_lt2 _ _ | exact fm_lt2 _ _ | exact fa_lt2 _ _ | exact fs_lt2 _ _ | exact fn_lt2 _ | exact PP_lt | exact AL_GG.1 | exact AL_GG.2 | exact (AL_cadd _ _).1 | exact (AL_cadd _ _).2 | exact (AL_cmul _ _).1 | exact (AL_cmul _ _).2 | exact (AL_cofV _).1 | exact (AL_cofV _).2 | exact (AL_cneg (by assumption)).1 | exact (AL_cneg (by assumption)).2 | exact lt_lit (by decide)) _).mono (fun _ _ ⟨he, hx⟩ => ⟨he, hx⟩)) ?_
 refine t_call (l := [(.agg (List.toArray _)), (.agg (List.toArray _))]) rfl rfl is57 rfl (fun w hx hF => (times_c _ _ (by first | exact Nat.mod_lt _ two256_pos | exact Mod.lt (mod_modN _) | assumption | exact onceN_lt (by assumption) | exact Nat.lt_trans (Nat.mod_lt _ (mod_modN _).pos) (mod_modN _).lt | exact ofV_lt2 _ _ | exact invV_lt2 _ _ | exact fm_lt2 _ _ | exact fa_lt2 _ _ | exact fs_lt2 _ _ | exact fn_lt2 _ | exact PP_lt | exact AL_GG.1 | exact AL_GG.2 | exact (AL_cadd _ _).1 | exact (AL_cadd _ _).2 | exact (AL_cmul _ _).1 | exact (AL_cmul _ _).2 | exact (AL_cofV _).1 | exact (AL_cofV _).2 | exact (AL_cneg (by assumption)).1 | exact (AL_cneg (by assumption)).2 | exact lt_lit (by decide)) (by first | exact Nat.mod_lt _ two256_pos | exact Mod.lt (mod_modN _) | assumption | exact onceN_lt (by assumption) | exact Nat.lt_trans (Nat.mod_lt _ (mod_modN _).pos) (mod_modN _).lt | exact ofV_lt2 _ _ | exact invV_lt2 _ _ | exact fm_lt2 _ _ | exact fa_lt2 _ _ | exact fs_lt2 _ _ | exact fn_lt2 _ | exact PP_lt | exact AL_GG.1 | exact AL_GG.2 | exact (AL_cadd _ _).1 | exact (AL_cadd _ _).2 | exact (AL_cmul _ _).1 | exact (AL_cmul _ _).2 | exact (AL_cofV _).1 | exact (AL_cofV _).2 | exact (AL_cneg (by assumption)).1 | exact (AL_cneg (by assumption)).2 | exact lt_lit (by decide)) _).mono (fun _ _ ⟨he, hx⟩ => ⟨he, hx⟩)) ?_
 refine t_v (fun w hx => r_build (vals := [(0, .agg (numL x3).toArray), (1, .agg (numL y3).toArray), (2, .agg (numL (fm 2 (fm Y Z))).toArray)]) (l := (numL x3 ++ (numL y3 ++ numL (fm 2 (fm Y Z))))) tb114 rfl rfl) ?_
 refine t_nil (fun w41 hx hF hA => ?_)
 replace H := H.ext hx
 clear hx hF hA
 refine p_storeW tg114 H rfl (k := 6) rfl rfl rfl rfl rfl ?_; clear H; intro w42 H
 refine wpList_nil ?_; refine on_norm ?_
 refine xn hK38 ?_; try clear hK38 K38
 refine wp_ret ?_
 refine e_1 rfl (q_cellW tg114 H rfl (k := 6) rfl rfl) ?_
 exact ⟨by rw [jtw_of hzz hyy hm1 hs1 hx3 hy3], H.below⟩

theorem ctwice_c (t : Tr) (h : TL t) (w : World) : Calls Try.prog 60 #[.agg (jcT t).toArray] w fun e w' => e = .returned (.agg (jcT (jtw t)).toArray) ∧ Ext w w' := ctwice_v t.1 t.2.1 t.2.2 h.1 h.2.1 h.2.2 w

set_option maxRecDepth 8000 in
set_option maxHeartbeats 800000 in
theorem cadd_v (X Y Z : Nat) (hX : X < two256) (hY : Y < two256) (hZ : Z < two256) (A B C : Nat) (hA : A < two256) (hB : B < two256) (hC : C < two256) (w : World) :
    Calls Try.prog 61 #[jcV X Y Z, jcV A B C] w fun e w' => e = .returned (.agg (jcT (jad (X, Y, Z) (A, B, C))).toArray) ∧ Ext w w' := by
 refine enter (n := 112) Try.func61 rfl rfl rfl ?_
 have H := HP.start w
 refine sr ?_; intro K1 hK1
 refine p_box (l := (numL X ++ (numL Y ++ numL Z))) H rfl ?_; clear H; intro w2 b3 H
 refine p_box (l := (numL A ++ (numL B ++ numL C))) H rfl ?_; clear H; intro w4 b5 H
 refine p_alloc (l := [.int .u64 0, .int .u64 0, .int .u64 0, .int .u64 0, .int .u64 0, .int .u64 0, .int .u64 0, .int .u64 0, .int .u64 0, .int .u64 0, .int .u64 0, .int .u64 0]) H tz114 rfl ?_; clear H; intro w7 b6 H
 refine xk hK1 ?_; try clear hK1 K1
 refine wp_seq_k ?_; intro K8 hK8
 refine sr ?_; intro K9 hK9
 refine p_val (r_field fa114_2 rfl) ?_
 refine p_val (r_load (l := numL Z) tg24 H rfl (k := 2) rfl rfl rfl) ?_
 refine p_val (r_as (l' := numL 0) (r_build (vals := []) (l := [_, _, _, _]) tb24 rfl rfl) (num_0)) ?_
 refine p_val (r_eqnum u24 u22 sz22 ag22 eg24 rfl rfl (by first | exact Nat.mod_lt _ two256_pos | exact Mod.lt (mod_modN _) | assumption | exact onceN_lt (by assumption) | exact Nat.lt_trans (Nat.mod_lt _ (mod_modN _).pos) (mod_modN _).lt | exact ofV_lt2 _ _ | exact invV_lt2 _ _ | exact fm_lt2 _ _ | exact fa_lt2 _ _ | exact fs_lt2 _ _ | exact fn_lt2 _ | exact PP_lt | exact AL_GG.1 | exact AL_GG.2 | exact (AL_cadd _ _).1 | exact (AL_cadd _ _).2 | exact (AL_cmul _ _).1 | exact (AL_cmul _ _).2 | exact (AL_cofV _).1 | exact (AL_cofV _).2 | exact (AL_cneg (by assumption)).1 | exact (AL_cneg (by assumption)).2 | exact lt_lit (by decide)) (by first | exact Nat.mod_lt _ two256_pos | exact Mod.lt (mod_modN _) | assumption | exact onceN_lt (by assumption) | exact Nat.lt_trans (Nat.mod_lt _ (mod_modN _).pos) (mod_modN _).lt | exact ofV_lt2 _ _ | exact invV_lt2 _ _ | exact fm_lt2 _ _ | exact fa_lt2 _ _ | exact fs_lt2 _ _ | exact fn_lt2 _ | exact PP_lt | exact AL_GG.1 | exact AL_GG.2 | exact (AL_cadd _ _).1 | exact (AL_cadd _ _).2 | exact (AL_cmul _ _).1 | exact (AL_cmul _ _).2 | exact (AL_cofV _).1 | exact (AL_cofV _).2 | exact (AL_cneg (by assumption)).1 | exact (AL_cneg (by assumption)).2 | exact lt_lit (by decide)) rfl) ?_
 refine xk hK9 ?_; try clear hK9 K9
 refine c_split (t := _) rfl (fun hc_1 => ?_) (fun hc_1 => ?_)
 ·skip
  refine sr ?_; intro K11 hK11
  refine p_val (r_loadW tg114 H rfl (k := 1) rfl rfl) ?_
  refine p_storeW tg114 H rfl (k := 0) rfl rfl rfl rfl rfl ?_; clear H; intro w12 H
  refine xk hK11 ?_; try clear hK11 K11
  refine wp_ret ?_
  refine x_ret ?_
  refine e_1 rfl (q_cellW tg114 H rfl (k := 0) rfl rfl) ?_
  exact ⟨by rw [jad_z1 (p := (X, Y, Z)) hc_1], H.below⟩
 ·skip
  refine wp_skip ?_
  refine xn hK8 ?_; try clear hK8 K8
  refine wp_seq_k ?_; intro K13 hK13
  refine sr ?_; intro K14 hK14
  refine p_val (r_field fa114_2 rfl) ?_
  refine p_val (r_load (l := numL C) tg24 H rfl (k := 1) rfl rfl rfl) ?_
  refine p_val (r_as (l' := numL 0) (r_build (vals := []) (l := [_, _, _, _]) tb24 rfl rfl) (num_0)) ?_
  refine p_val (r_eqnum u24 u22 sz22 ag22 eg24 rfl rfl (by first | exact Nat.mod_lt _ two256_pos | exact Mod.lt (mod_modN _) | assumption | exact onceN_lt (by assumption) | exact Nat.lt_trans (Nat.mod_lt _ (mod_modN _).pos) (mod_modN _).lt | exact ofV_lt2 _ _ | exact invV_lt2 _ _ | exact fm_lt2 _ _ | exact fa_lt2 _ _ | exact fs_lt2 _ _ | exact fn_lt2 _ | exact PP_lt | exact AL_GG.1 | exact AL_GG.2 | exact (AL_cadd _ _).1 | exact (AL_cadd _ _).2 | exact (AL_cmul _ _).1 | exact (AL_cmul _ _).2 | exact (AL_cofV _).1 | exact (AL_cofV _).2 | exact (AL_cneg (by assumption)).1 | exact (AL_cneg (by assumption)).2 | exact lt_lit (by decide)) (by first | exact Nat.mod_lt _ two256_pos | exact Mod.lt (mod_modN _) | assumption | exact onceN_lt (by assumption) | exact Nat.lt_trans (Nat.mod_lt _ (mod_modN _).pos) (mod_modN _).lt | exact ofV_lt2 _ _ | exact invV_lt2 _ _ | exact fm_lt2 _ _ | exact fa_lt2 _ _ | exact fs_lt2 _ _ | exact fn_lt2 _ | exact PP_lt | exact AL_GG.1 | exact AL_GG.2 | exact (AL_cadd _ _).1 | exact (AL_cadd _ _).2 | exact (AL_cmul _ _).1 | exact (AL_cmul _ _).2 | exact (AL_cofV _).1 | exact (AL_cofV _).2 | exact (AL_cneg (by assumption)).1 | exact (AL_cneg (by assumption)).2 | exact lt_lit (by decide)) rfl) ?_
  refine xk hK14 ?_; try clear hK14 K14
  refine c_split (t := _) rfl (fun hc_3 => ?_) (fun hc_3 => ?_)
  ·skip
   refine sr ?_; intro K16 hK16
   refine p_val (r_loadW tg114 H rfl (k := 2) rfl rfl) ?_
   refine p_storeW tg114 H rfl (k := 0) rfl rfl rfl rfl rfl ?_; clear H; intro w17 H
   refine xk hK16 ?_; try clear hK16 K16
   refine wp_ret ?_
   refine x_ret ?_
   refine e_1 rfl (q_cellW tg114 H rfl (k := 0) rfl rfl) ?_
   exact ⟨by rw [jad_z2 (p := (X, Y, Z)) (q := (A, B, C)) hc_1 hc_3], H.below⟩
  ·skip
   refine wp_skip ?_
   refine xn hK13 ?_; try clear hK13 K13
   refine wp_seq_k ?_; intro K18 hK18
   apply wp_region_ext 12 (kinds [(4, .inl _), (9, .inl _), (10, .inr (NewAt _ [.int .u64 0, .int .u64 0, .int .u64 0, .int .u64 0] 24)), (11, .inr (NewAt _ [.int .u64 0, .int .u64 0, .int .u64 0, .int .u64 0] 24))]) rfl rfl (by kernel_rfl); intro vs20
   simp only [List.take_succ_cons, List.take_zero, List.drop_succ_cons, List.drop_zero]
   replace H := H.drew
   refine t_v (fun w hx => r_field fa114_2 rfl) ?_
   refine t_v (fun w hx => r_load (l := numL Z) tg24 (H.ext hx) rfl (k := 2) rfl rfl rfl) ?_
   refine t_v (fun w hx => r_field fa114_2 rfl) ?_
   refine t_v (fun w hx => r_load (l := numL Z) tg24 (H.ext hx) rfl (k := 2) rfl rfl rfl) ?_
   refine t_call (l := [(.agg (List.toArray _)), (.agg (List.toArray _))]) rfl rfl is57 rfl (fun w hx hF => (times_c _ _ (by first | exact Nat.mod_lt _ two256_pos | exact Mod.lt (mod_modN _) | assumption | exact onceN_lt (by assumption) | exact Nat.lt_trans (Nat.mod_lt _ (mod_modN _).pos) (mod_modN _).lt | exact ofV_lt2 _ _ | exact invV_lt2 _ _ | exact fm_lt2 _ _ | exact fa_lt2 _ _ | exact fs_lt2 _ _ | exact fn_lt2 _ | exact PP_lt | exact AL_GG.1 | exact AL_GG.2 | exact (AL_cadd _ _).1 | exact (AL_cadd _ _).2 | exact (AL_cmul _ _).1 | exact (AL_cmul _ _).2 | exact (AL_cofV _).1 | exact (AL_cofV _).2 | exact (AL_cneg (by assumption)).1 | exact (AL_cneg (by assumption)).2 | exact lt_lit (by decide)) (by first | exact Nat.mod_lt _ two256_pos | exact Mod.lt (mod_modN _) | assumption | exact onceN_lt (by assumption) | exact Nat.lt_trans (Nat.mod_lt _ (mod_modN _).pos) (mod_modN _).lt | exact ofV_lt2 _ _ | exact invV_lt2 _ _ | exact fm_lt2 _ _ | exact fa_lt2 _ _ | exact fs_lt2 _ _ | exact fn_lt2 _ | exact PP_lt | exact AL_GG.1 | exact AL_GG.2 | exact (AL_cadd _ _).1 | exact (AL_cadd _ _).2 | exact (AL_cmul _ _).1 | exact (AL_cmul _ _).2 | exact (AL_cofV _).1 | exact (AL_cofV _).2 | exact (AL_cneg (by assumption)).1 | exact (AL_cneg (by assumption)).2 | exact lt_lit (by decide)) _).mono (fun _ _ ⟨he, hx⟩ => ⟨he, hx⟩)) ?_
   refine t_v (fun w hx => r_field fa114_2 rfl) ?_
   refine t_v (fun w hx => r_load (l := numL C) tg24 (H.ext hx) rfl (k := 1) rfl rfl rfl) ?_
   refine t_v (fun w hx => r_field fa114_2 rfl) ?_
   refine t_v (fun w hx => r_load (l := numL C) tg24 (H.ext hx) rfl (k := 1) rfl rfl rfl) ?_
   refine t_call (l := [(.agg (List.toArray _)), (.agg (List.toArray _))]) rfl rfl is57 rfl (fun w hx hF => (times_c _ _ (by first | exact Nat.mod_lt _ two256_pos | exact Mod.lt (mod_modN _) | assumption | exact onceN_lt (by assumption) | exact Nat.lt_trans (Nat.mod_lt _ (mod_modN _).pos) (mod_modN _).lt | exact ofV_lt2 _ _ | exact invV_lt2 _ _ | exact fm_lt2 _ _ | exact fa_lt2 _ _ | exact fs_lt2 _ _ | exact fn_lt2 _ | exact PP_lt | exact AL_GG.1 | exact AL_GG.2 | exact (AL_cadd _ _).1 | exact (AL_cadd _ _).2 | exact (AL_cmul _ _).1 | exact (AL_cmul _ _).2 | exact (AL_cofV _).1 | exact (AL_cofV _).2 | exact (AL_cneg (by assumption)).1 | exact (AL_cneg (by assumption)).2 | exact lt_lit (by decide)) (by first | exact Nat.mod_lt _ two256_pos | exact Mod.lt (mod_modN _) | assumption | exact onceN_lt (by assumption) | exact Nat.lt_trans (Nat.mod_lt _ (mod_modN _).pos) (mod_modN _).lt | exact ofV_lt2 _ _ | exact invV_lt2 _ _ | exact fm_lt2 _ _ | exact fa_lt2 _ _ | exact fs_lt2 _ _ | exact fn_lt2 _ | exact PP_lt | exact AL_GG.1 | exact AL_GG.2 | exact (AL_cadd _ _).1 | exact (AL_cadd _ _).2 | exact (AL_cmul _ _).1 | exact (AL_cmul _ _).2 | exact (AL_cofV _).1 | exact (AL_cofV _).2 | exact (AL_cneg (by assumption)).1 | exact (AL_cneg (by assumption)).2 | exact lt_lit (by decide)) _).mono (fun _ _ ⟨he, hx⟩ => ⟨he, hx⟩)) ?_
   refine t_alloc rfl rfl tz24 rfl ?_
   refine t_alloc rfl rfl tz24 rfl ?_
   refine t_nil (fun w23 hx hF hA => ?_)
   obtain ⟨b21, eb21, hbb21, hhb21⟩ := fact_rel hF 10 rfl rfl; have hnb21 := HP.neL H hbb21; replace hbb21 := Nat.le_trans H.below.size hbb21
   obtain ⟨b22, eb22, hbb22, hhb22⟩ := fact_rel hF 11 rfl rfl; have hnb22 := HP.neL H hbb22; replace hbb22 := Nat.le_trans H.below.size hbb22
   replace H := H.ext hx
   replace H := HP.push1 H hbb21 hnb21 hhb21
   replace H := HP.push1 H hbb22 ⟨fun e => (hA 10 11 (by decide) (by decide) (by decide)).1 rfl rfl (by rw [eb21, eb22]; exact congrArg (fun z => Value.pointer (some ⟨z, 0, none⟩)) e), hnb22⟩ hhb22
   clear hbb21 hnb21 hhb21 hbb22 hnb22 hhb22
   clear hx hF hA
   refine p_storeW tg24 H eb21 (k := 1) rfl rfl rfl rfl rfl ?_; clear H; intro w24 H
   refine HP.name H (k := 1) rfl ?_; clear H; intro pz hpz H; have lpz : pz < two256 := by (rw [hpz]; first | exact fm_lt2 _ _ | exact fa_lt2 _ _ | exact fs_lt2 _ _ | exact fn_lt2 _)
   refine p_storeW tg24 H eb22 (k := 0) rfl rfl rfl rfl rfl ?_; clear H; intro w25 H
   refine HP.name H (k := 0) rfl ?_; clear H; intro qz hqz H; have lqz : qz < two256 := by (rw [hqz]; first | exact fm_lt2 _ _ | exact fa_lt2 _ _ | exact fs_lt2 _ _ | exact fn_lt2 _)
   refine wpList_nil ?_; refine on_norm ?_
   refine xn hK18 ?_; try clear hK18 K18
   refine wp_seq_k ?_; intro K26 hK26
   apply wp_region_ext 10 (kinds [(3, .inl _), (7, .inl _), (8, .inr (NewAt _ [.int .u64 0, .int .u64 0, .int .u64 0, .int .u64 0] 24)), (9, .inr (NewAt _ [.int .u64 0, .int .u64 0, .int .u64 0, .int .u64 0] 24))]) rfl rfl (by kernel_rfl); intro vs28
   simp only [List.take_succ_cons, List.take_zero, List.drop_succ_cons, List.drop_zero]
   replace H := H.drew
   refine t_v (fun w hx => r_field fa114_0 rfl) ?_
   refine t_v (fun w hx => r_load (l := numL X) tg24 (H.ext hx) rfl (k := 4) rfl rfl rfl) ?_
   refine t_v (fun w hx => r_loadW tg24 (H.ext hx) eb22 (k := 0) rfl rfl) ?_
   refine t_call (l := [(.agg (List.toArray _)), (.agg (List.toArray _))]) rfl rfl is57 rfl (fun w hx hF => (times_c _ _ (by first | exact Nat.mod_lt _ two256_pos | exact Mod.lt (mod_modN _) | assumption | exact onceN_lt (by assumption) | exact Nat.lt_trans (Nat.mod_lt _ (mod_modN _).pos) (mod_modN _).lt | exact ofV_lt2 _ _ | exact invV_lt2 _ _ | exact fm_lt2 _ _ | exact fa_lt2 _ _ | exact fs_lt2 _ _ | exact fn_lt2 _ | exact PP_lt | exact AL_GG.1 | exact AL_GG.2 | exact (AL_cadd _ _).1 | exact (AL_cadd _ _).2 | exact (AL_cmul _ _).1 | exact (AL_cmul _ _).2 | exact (AL_cofV _).1 | exact (AL_cofV _).2 | exact (AL_cneg (by assumption)).1 | exact (AL_cneg (by assumption)).2 | exact lt_lit (by decide)) (by first | exact Nat.mod_lt _ two256_pos | exact Mod.lt (mod_modN _) | assumption | exact onceN_lt (by assumption) | exact Nat.lt_trans (Nat.mod_lt _ (mod_modN _).pos) (mod_modN _).lt | exact ofV_lt2 _ _ | exact invV_lt2 _ _ | exact fm_lt2 _ _ | exact fa_lt2 _ _ | exact fs_lt2 _ _ | exact fn_lt2 _ | exact PP_lt | exact AL_GG.1 | exact AL_GG.2 | exact (AL_cadd _ _).1 | exact (AL_cadd _ _).2 | exact (AL_cmul _ _).1 | exact (AL_cmul _ _).2 | exact (AL_cofV _).1 | exact (AL_cofV _).2 | exact (AL_cneg (by assumption)).1 | exact (AL_cneg (by assumption)).2 | exact lt_lit (by decide)) _).mono (fun _ _ ⟨he, hx⟩ => ⟨he, hx⟩)) ?_
   refine t_v (fun w hx => r_field fa114_0 rfl) ?_
   refine t_v (fun w hx => r_load (l := numL A) tg24 (H.ext hx) rfl (k := 3) rfl rfl rfl) ?_
   refine t_v (fun w hx => r_loadW tg24 (H.ext hx) eb21 (k := 1) rfl rfl) ?_
   refine t_call (l := [(.agg (List.toArray _)), (.agg (List.toArray _))]) rfl rfl is57 rfl (fun w hx hF => (times_c _ _ (by first | exact Nat.mod_lt _ two256_pos | exact Mod.lt (mod_modN _) | assumption | exact onceN_lt (by assumption) | exact Nat.lt_trans (Nat.mod_lt _ (mod_modN _).pos) (mod_modN _).lt | exact ofV_lt2 _ _ | exact invV_lt2 _ _ | exact fm_lt2 _ _ | exact fa_lt2 _ _ | exact fs_lt2 _ _ | exact fn_lt2 _ | exact PP_lt | exact AL_GG.1 | exact AL_GG.2 | exact (AL_cadd _ _).1 | exact (AL_cadd _ _).2 | exact (AL_cmul _ _).1 | exact (AL_cmul _ _).2 | exact (AL_cofV _).1 | exact (AL_cofV _).2 | exact (AL_cneg (by assumption)).1 | exact (AL_cneg (by assumption)).2 | exact lt_lit (by decide)) (by first | exact Nat.mod_lt _ two256_pos | exact Mod.lt (mod_modN _) | assumption | exact onceN_lt (by assumption) | exact Nat.lt_trans (Nat.mod_lt _ (mod_modN _).pos) (mod_modN _).lt | exact ofV_lt2 _ _ | exact invV_lt2 _ _ | exact fm_lt2 _ _ | exact fa_lt2 _ _ | exact fs_lt2 _ _ | exact fn_lt2 _ | exact PP_lt | exact AL_GG.1 | exact AL_GG.2 | exact (AL_cadd _ _).1 | exact (AL_cadd _ _).2 | exact (AL_cmul _ _).1 | exact (AL_cmul _ _).2 | exact (AL_cofV _).1 | exact (AL_cofV _).2 | exact (AL_cneg (by assumption)).1 | exact (AL_cneg (by assumption)).2 | exact lt_lit (by decide)) _).mono (fun _ _ ⟨he, hx⟩ => ⟨he, hx⟩)) ?_
   refine t_alloc rfl rfl tz24 rfl ?_
   refine t_alloc rfl rfl tz24 rfl ?_
   refine t_nil (fun w31 hx hF hA => ?_)
   obtain ⟨b29, eb29, hbb29, hhb29⟩ := fact_rel hF 8 rfl rfl; have hnb29 := HP.neL H hbb29; replace hbb29 := Nat.le_trans H.below.size hbb29
   obtain ⟨b30, eb30, hbb30, hhb30⟩ := fact_rel hF 9 rfl rfl; have hnb30 := HP.neL H hbb30; replace hbb30 := Nat.le_trans H.below.size hbb30
   replace H := H.ext hx
   replace H := HP.push1 H hbb29 hnb29 hhb29
   replace H := HP.push1 H hbb30 ⟨fun e => (hA 8 9 (by decide) (by decide) (by decide)).1 rfl rfl (by rw [eb29, eb30]; exact congrArg (fun z => Value.pointer (some ⟨z, 0, none⟩)) e), hnb30⟩ hhb30
   clear hbb29 hnb29 hhb29 hbb30 hnb30 hhb30
   clear hx hF hA
   refine p_storeW tg24 H eb29 (k := 1) rfl rfl rfl rfl rfl ?_; clear H; intro w32 H
   refine HP.name H (k := 1) rfl ?_; clear H; intro u hu H; have lu : u < two256 := by (rw [hu]; first | exact fm_lt2 _ _ | exact fa_lt2 _ _ | exact fs_lt2 _ _ | exact fn_lt2 _)
   refine p_storeW tg24 H eb30 (k := 0) rfl rfl rfl rfl rfl ?_; clear H; intro w33 H
   refine HP.name H (k := 0) rfl ?_; clear H; intro v hv H; have lv : v < two256 := by (rw [hv]; first | exact fm_lt2 _ _ | exact fa_lt2 _ _ | exact fs_lt2 _ _ | exact fn_lt2 _)
   refine wpList_nil ?_; refine on_norm ?_
   refine xn hK26 ?_; try clear hK26 K26
   refine wp_seq_k ?_; intro K34 hK34
   apply wp_region_ext 16 (kinds [(5, .inl _), (6, .inl _), (12, .inl _), (13, .inl _), (14, .inr (NewAt _ [.int .u64 0, .int .u64 0, .int .u64 0, .int .u64 0] 24)), (15, .inr (NewAt _ [.int .u64 0, .int .u64 0, .int .u64 0, .int .u64 0] 24))]) rfl rfl (by kernel_rfl); intro vs36
   simp only [List.take_succ_cons, List.take_zero, List.drop_succ_cons, List.drop_zero]
   replace H := H.drew
   refine t_v (fun w hx => r_field fa114_1 rfl) ?_
   refine t_v (fun w hx => r_load (l := numL Y) tg24 (H.ext hx) rfl (k := 6) rfl rfl rfl) ?_
   refine t_v (fun w hx => r_loadW tg24 (H.ext hx) eb22 (k := 2) rfl rfl) ?_
   refine t_v (fun w hx => r_field fa114_2 rfl) ?_
   refine t_v (fun w hx => r_load (l := numL C) tg24 (H.ext hx) rfl (k := 5) rfl rfl rfl) ?_
   refine t_call (l := [(.agg (List.toArray _)), (.agg (List.toArray _))]) rfl rfl is57 rfl (fun w hx hF => (times_c _ _ (by first | exact Nat.mod_lt _ two256_pos | exact Mod.lt (mod_modN _) | assumption | exact onceN_lt (by assumption) | exact Nat.lt_trans (Nat.mod_lt _ (mod_modN _).pos) (mod_modN _).lt | exact ofV_lt2 _ _ | exact invV_lt2 _ _ | exact fm_lt2 _ _ | exact fa_lt2 _ _ | exact fs_lt2 _ _ | exact fn_lt2 _ | exact PP_lt | exact AL_GG.1 | exact AL_GG.2 | exact (AL_cadd _ _).1 | exact (AL_cadd _ _).2 | exact (AL_cmul _ _).1 | exact (AL_cmul _ _).2 | exact (AL_cofV _).1 | exact (AL_cofV _).2 | exact (AL_cneg (by assumption)).1 | exact (AL_cneg (by assumption)).2 | exact lt_lit (by decide)) (by first | exact Nat.mod_lt _ two256_pos | exact Mod.lt (mod_modN _) | assumption | exact onceN_lt (by assumption) | exact Nat.lt_trans (Nat.mod_lt _ (mod_modN _).pos) (mod_modN _).lt | exact ofV_lt2 _ _ | exact invV_lt2 _ _ | exact fm_lt2 _ _ | exact fa_lt2 _ _ | exact fs_lt2 _ _ | exact fn_lt2 _ | exact PP_lt | exact AL_GG.1 | exact AL_GG.2 | exact (AL_cadd _ _).1 | exact (AL_cadd _ _).2 | exact (AL_cmul _ _).1 | exact (AL_cmul _ _).2 | exact (AL_cofV _).1 | exact (AL_cofV _).2 | exact (AL_cneg (by assumption)).1 | exact (AL_cneg (by assumption)).2 | exact lt_lit (by decide)) _).mono (fun _ _ ⟨he, hx⟩ => ⟨he, hx⟩)) ?_
   refine t_call (l := [(.agg (List.toArray _)), (.agg (List.toArray _))]) rfl rfl is57 rfl (fun w hx hF => (times_c _ _ (by first | exact Nat.mod_lt _ two256_pos | exact Mod.lt (mod_modN _) | assumption | exact onceN_lt (by assumption) | exact Nat.lt_trans (Nat.mod_lt _ (mod_modN _).pos) (mod_modN _).lt | exact ofV_lt2 _ _ | exact invV_lt2 _ _ | exact fm_lt2 _ _ | exact fa_lt2 _ _ | exact fs_lt2 _ _ | exact fn_lt2 _ | exact PP_lt | exact AL_GG.1 | exact AL_GG.2 | exact (AL_cadd _ _).1 | exact (AL_cadd _ _).2 | exact (AL_cmul _ _).1 | exact (AL_cmul _ _).2 | exact (AL_cofV _).1 | exact (AL_cofV _).2 | exact (AL_cneg (by assumption)).1 | exact (AL_cneg (by assumption)).2 | exact lt_lit (by decide)) (by first | exact Nat.mod_lt _ two256_pos | exact Mod.lt (mod_modN _) | assumption | exact onceN_lt (by assumption) | exact Nat.lt_trans (Nat.mod_lt _ (mod_modN _).pos) (mod_modN _).lt | exact ofV_lt2 _ _ | exact invV_lt2 _ _ | exact fm_lt2 _ _ | exact fa_lt2 _ _ | exact fs_lt2 _ _ | exact fn_lt2 _ | exact PP_lt | exact AL_GG.1 | exact AL_GG.2 | exact (AL_cadd _ _).1 | exact (AL_cadd _ _).2 | exact (AL_cmul _ _).1 | exact (AL_cmul _ _).2 | exact (AL_cofV _).1 | exact (AL_cofV _).2 | exact (AL_cneg (by assumption)).1 | exact (AL_cneg (by assumption)).2 | exact lt_lit (by decide)) _).mono (fun _ _ ⟨he, hx⟩ => ⟨he, hx⟩)) ?_
   refine t_v (fun w hx => r_field fa114_1 rfl) ?_
   refine t_v (fun w hx => r_load (l := numL B) tg24 (H.ext hx) rfl (k := 5) rfl rfl rfl) ?_
   refine t_v (fun w hx => r_loadW tg24 (H.ext hx) eb21 (k := 3) rfl rfl) ?_
   refine t_v (fun w hx => r_field fa114_2 rfl) ?_
   refine t_v (fun w hx => r_load (l := numL Z) tg24 (H.ext hx) rfl (k := 6) rfl rfl rfl) ?_
   refine t_call (l := [(.agg (List.toArray _)), (.agg (List.toArray _))]) rfl rfl is57 rfl (fun w hx hF => (times_c _ _ (by first | exact Nat.mod_lt _ two256_pos | exact Mod.lt (mod_modN _) | assumption | exact onceN_lt (by assumption) | exact Nat.lt_trans (Nat.mod_lt _ (mod_modN _).pos) (mod_modN _).lt | exact ofV_lt2 _ _ | exact invV_lt2 _ _ | exact fm_lt2 _ _ | exact fa_lt2 _ _ | exact fs_lt2 _ _ | exact fn_lt2 _ | exact PP_lt | exact AL_GG.1 | exact AL_GG.2 | exact (AL_cadd _ _).1 | exact (AL_cadd _ _).2 | exact (AL_cmul _ _).1 | exact (AL_cmul _ _).2 | exact (AL_cofV _).1 | exact (AL_cofV _).2 | exact (AL_cneg (by assumption)).1 | exact (AL_cneg (by assumption)).2 | exact lt_lit (by decide)) (by first | exact Nat.mod_lt _ two256_pos | exact Mod.lt (mod_modN _) | assumption | exact onceN_lt (by assumption) | exact Nat.lt_trans (Nat.mod_lt _ (mod_modN _).pos) (mod_modN _).lt | exact ofV_lt2 _ _ | exact invV_lt2 _ _ | exact fm_lt2 _ _ | exact fa_lt2 _ _ | exact fs_lt2 _ _ | exact fn_lt2 _ | exact PP_lt | exact AL_GG.1 | exact AL_GG.2 | exact (AL_cadd _ _).1 | exact (AL_cadd _ _).2 | exact (AL_cmul _ _).1 | exact (AL_cmul _ _).2 | exact (AL_cofV _).1 | exact (AL_cofV _).2 | exact (AL_cneg (by assumption)).1 | exact (AL_cneg (by assumption)).2 | exact lt_lit (by decide)) _).mono (fun _ _ ⟨he, hx⟩ => ⟨he, hx⟩)) ?_
   refine t_call (l := [(.agg (List.toArray _)), (.agg (List.toArray _))]) rfl rfl is57 rfl (fun w hx hF => (times_c _ _ (by first | exact Nat.mod_lt _ two256_pos | exact Mod.lt (mod_modN _) | assumption | exact onceN_lt (by assumption) | exact Nat.lt_trans (Nat.mod_lt _ (mod_modN _).pos) (mod_modN _).lt | exact ofV_lt2 _ _ | exact invV_lt2 _ _ | exact fm_lt2 _ _ | exact fa_lt2 _ _ | exact fs_lt2 _ _ | exact fn_lt2 _ | exact PP_lt | exact AL_GG.1 | exact AL_GG.2 | exact (AL_cadd _ _).1 | exact (AL_cadd _ _).2 | exact (AL_cmul _ _).1 | exact (AL_cmul _ _).2 | exact (AL_cofV _).1 | exact (AL_cofV _).2 | exact (AL_cneg (by assumption)).1 | exact (AL_cneg (by assumption)).2 | exact lt_lit (by decide)) (by first | exact Nat.mod_lt _ two256_pos | exact Mod.lt (mod_modN _) | assumption | exact onceN_lt (by assumption) | exact Nat.lt_trans (Nat.mod_lt _ (mod_modN _).pos) (mod_modN _).lt | exact ofV_lt2 _ _ | exact invV_lt2 _ _ | exact fm_lt2 _ _ | exact fa_lt2 _ _ | exact fs_lt2 _ _ | exact fn_lt2 _ | exact PP_lt | exact AL_GG.1 | exact AL_GG.2 | exact (AL_cadd _ _).1 | exact (AL_cadd _ _).2 | exact (AL_cmul _ _).1 | exact (AL_cmul _ _).2 | exact (AL_cofV _).1 | exact (AL_cofV _).2 | exact (AL_cneg (by assumption)).1 | exact (AL_cneg (by assumption)).2 | exact lt_lit (by decide)) _).mono (fun _ _ ⟨he, hx⟩ => ⟨he, hx⟩)) ?_
   refine t_alloc rfl rfl tz24 rfl ?_
   refine t_alloc rfl rfl tz24 rfl ?_
   refine t_nil (fun w39 hx hF hA => ?_)
   obtain ⟨b37, eb37, hbb37, hhb37⟩ := fact_rel hF 14 rfl rfl; have hnb37 := HP.neL H hbb37; replace hbb37 := Nat.le_trans H.below.size hbb37
   obtain ⟨b38, eb38, hbb38, hhb38⟩ := fact_rel hF 15 rfl rfl; have hnb38 := HP.neL H hbb38; replace hbb38 := Nat.le_trans H.below.size hbb38
   replace H := H.ext hx
   replace H := HP.push1 H hbb37 hnb37 hhb37
   replace H := HP.push1 H hbb38 ⟨fun e => (hA 14 15 (by decide) (by decide) (by decide)).1 rfl rfl (by rw [eb37, eb38]; exact congrArg (fun z => Value.pointer (some ⟨z, 0, none⟩)) e), hnb38⟩ hhb38
   clear hbb37 hnb37 hhb37 hbb38 hnb38 hhb38
   clear hx hF hA
   refine p_storeW tg24 H eb37 (k := 1) rfl rfl rfl rfl rfl ?_; clear H; intro w40 H
   refine HP.name H (k := 1) rfl ?_; clear H; intro s1 hs1 H; have ls1 : s1 < two256 := by (rw [hs1]; first | exact fm_lt2 _ _ | exact fa_lt2 _ _ | exact fs_lt2 _ _ | exact fn_lt2 _)
   refine p_storeW tg24 H eb38 (k := 0) rfl rfl rfl rfl rfl ?_; clear H; intro w41 H
   refine HP.name H (k := 0) rfl ?_; clear H; intro t1 ht1 H; have lt1 : t1 < two256 := by (rw [ht1]; first | exact fm_lt2 _ _ | exact fa_lt2 _ _ | exact fs_lt2 _ _ | exact fn_lt2 _)
   refine wpList_nil ?_; refine on_norm ?_
   refine xn hK34 ?_; try clear hK34 K34
   refine wp_seq_k ?_; intro K42 hK42
   apply wp_region_ext 8 (kinds [(2, .inl _), (5, .inl _), (6, .inr (NewAt _ [.int .u64 0, .int .u64 0, .int .u64 0, .int .u64 0] 24)), (7, .inr (NewAt _ [.int .u64 0, .int .u64 0, .int .u64 0, .int .u64 0] 24))]) rfl rfl (by kernel_rfl); intro vs44
   simp only [List.take_succ_cons, List.take_zero, List.drop_succ_cons, List.drop_zero]
   replace H := H.drew
   refine t_v (fun w hx => r_loadW tg24 (H.ext hx) eb30 (k := 2) rfl rfl) ?_
   refine t_v (fun w hx => r_loadW tg24 (H.ext hx) eb29 (k := 3) rfl rfl) ?_
   refine t_call (l := [(.agg (List.toArray _)), (.agg (List.toArray _))]) rfl rfl is58 rfl (fun w hx hF => (minus_c _ _ (by first | exact Nat.mod_lt _ two256_pos | exact Mod.lt (mod_modN _) | assumption | exact onceN_lt (by assumption) | exact Nat.lt_trans (Nat.mod_lt _ (mod_modN _).pos) (mod_modN _).lt | exact ofV_lt2 _ _ | exact invV_lt2 _ _ | exact fm_lt2 _ _ | exact fa_lt2 _ _ | exact fs_lt2 _ _ | exact fn_lt2 _ | exact PP_lt | exact AL_GG.1 | exact AL_GG.2 | exact (AL_cadd _ _).1 | exact (AL_cadd _ _).2 | exact (AL_cmul _ _).1 | exact (AL_cmul _ _).2 | exact (AL_cofV _).1 | exact (AL_cofV _).2 | exact (AL_cneg (by assumption)).1 | exact (AL_cneg (by assumption)).2 | exact lt_lit (by decide)) (by first | exact Nat.mod_lt _ two256_pos | exact Mod.lt (mod_modN _) | assumption | exact onceN_lt (by assumption) | exact Nat.lt_trans (Nat.mod_lt _ (mod_modN _).pos) (mod_modN _).lt | exact ofV_lt2 _ _ | exact invV_lt2 _ _ | exact fm_lt2 _ _ | exact fa_lt2 _ _ | exact fs_lt2 _ _ | exact fn_lt2 _ | exact PP_lt | exact AL_GG.1 | exact AL_GG.2 | exact (AL_cadd _ _).1 | exact (AL_cadd _ _).2 | exact (AL_cmul _ _).1 | exact (AL_cmul _ _).2 | exact (AL_cofV _).1 | exact (AL_cofV _).2 | exact (AL_cneg (by assumption)).1 | exact (AL_cneg (by assumption)).2 | exact lt_lit (by decide)) _).mono (fun _ _ ⟨he, hx⟩ => ⟨he, hx⟩)) ?_
   refine t_v (fun w hx => r_loadW tg24 (H.ext hx) eb38 (k := 0) rfl rfl) ?_
   refine t_v (fun w hx => r_loadW tg24 (H.ext hx) eb37 (k := 1) rfl rfl) ?_
   refine t_call (l := [(.agg (List.toArray _)), (.agg (List.toArray _))]) rfl rfl is58 rfl (fun w hx hF => (minus_c _ _ (by first | exact Nat.mod_lt _ two256_pos | exact Mod.lt (mod_modN _) | assumption | exact onceN_lt (by assumption) | exact Nat.lt_trans (Nat.mod_lt _ (mod_modN _).pos) (mod_modN _).lt | exact ofV_lt2 _ _ | exact invV_lt2 _ _ | exact fm_lt2 _ _ | exact fa_lt2 _ _ | exact fs_lt2 _ _ | exact fn_lt2 _ | exact PP_lt | exact AL_GG.1 | exact AL_GG.2 | exact (AL_cadd _ _).1 | exact (AL_cadd _ _).2 | exact (AL_cmul _ _).1 | exact (AL_cmul _ _).2 | exact (AL_cofV _).1 | exact (AL_cofV _).2 | exact (AL_cneg (by assumption)).1 | exact (AL_cneg (by assumption)).2 | exact lt_lit (by decide)) (by first | exact Nat.mod_lt _ two256_pos | exact Mod.lt (mod_modN _) | assumption | exact onceN_lt (by assumption) | exact Nat.lt_trans (Nat.mod_lt _ (mod_modN _).pos) (mod_modN _).lt | exact ofV_lt2 _ _ | exact invV_lt2 _ _ | exact fm_lt2 _ _ | exact fa_lt2 _ _ | exact fs_lt2 _ _ | exact fn_lt2 _ | exact PP_lt | exact AL_GG.1 | exact AL_GG.2 | exact (AL_cadd _ _).1 | exact (AL_cadd _ _).2 | exact (AL_cmul _ _).1 | exact (AL_cmul _ _).2 | exact (AL_cofV _).1 | exact (AL_cofV _).2 | exact (AL_cneg (by assumption)).1 | exact (AL_cneg (by assumption)).2 | exact lt_lit (by decide)) _).mono (fun _ _ ⟨he, hx⟩ => ⟨he, hx⟩)) ?_
   refine t_alloc rfl rfl tz24 rfl ?_
   refine t_alloc rfl rfl tz24 rfl ?_
   refine t_nil (fun w47 hx hF hA => ?_)
   obtain ⟨b45, eb45, hbb45, hhb45⟩ := fact_rel hF 6 rfl rfl; have hnb45 := HP.neL H hbb45; replace hbb45 := Nat.le_trans H.below.size hbb45
   obtain ⟨b46, eb46, hbb46, hhb46⟩ := fact_rel hF 7 rfl rfl; have hnb46 := HP.neL H hbb46; replace hbb46 := Nat.le_trans H.below.size hbb46
   replace H := H.ext hx
   replace H := HP.push1 H hbb45 hnb45 hhb45
   replace H := HP.push1 H hbb46 ⟨fun e => (hA 6 7 (by decide) (by decide) (by decide)).1 rfl rfl (by rw [eb45, eb46]; exact congrArg (fun z => Value.pointer (some ⟨z, 0, none⟩)) e), hnb46⟩ hhb46
   clear hbb45 hnb45 hhb45 hbb46 hnb46 hhb46
   clear hx hF hA
   refine p_storeW tg24 H eb45 (k := 1) rfl rfl rfl rfl rfl ?_; clear H; intro w48 H
   refine HP.name H (k := 1) rfl ?_; clear H; intro hd hhd H; have lhd : hd < two256 := by (rw [hhd]; first | exact fm_lt2 _ _ | exact fa_lt2 _ _ | exact fs_lt2 _ _ | exact fn_lt2 _)
   refine p_storeW tg24 H eb46 (k := 0) rfl rfl rfl rfl rfl ?_; clear H; intro w49 H
   refine HP.name H (k := 0) rfl ?_; clear H; intro rd hrd H; have lrd : rd < two256 := by (rw [hrd]; first | exact fm_lt2 _ _ | exact fa_lt2 _ _ | exact fs_lt2 _ _ | exact fn_lt2 _)
   refine wpList_nil ?_; refine on_norm ?_
   refine xn hK42 ?_; try clear hK42 K42
   refine wp_seq_k ?_; intro K50 hK50
   refine sr ?_; intro K51 hK51
   refine p_val (r_loadW tg24 H eb45 (k := 1) rfl rfl) ?_
   refine p_val (r_as (l' := numL 0) (r_build (vals := []) (l := [_, _, _, _]) tb24 rfl rfl) (num_0)) ?_
   refine p_val (r_eqnum u24 u22 sz22 ag22 eg24 rfl rfl (by first | exact Nat.mod_lt _ two256_pos | exact Mod.lt (mod_modN _) | assumption | exact onceN_lt (by assumption) | exact Nat.lt_trans (Nat.mod_lt _ (mod_modN _).pos) (mod_modN _).lt | exact ofV_lt2 _ _ | exact invV_lt2 _ _ | exact fm_lt2 _ _ | exact fa_lt2 _ _ | exact fs_lt2 _ _ | exact fn_lt2 _ | exact PP_lt | exact AL_GG.1 | exact AL_GG.2 | exact (AL_cadd _ _).1 | exact (AL_cadd _ _).2 | exact (AL_cmul _ _).1 | exact (AL_cmul _ _).2 | exact (AL_cofV _).1 | exact (AL_cofV _).2 | exact (AL_cneg (by assumption)).1 | exact (AL_cneg (by assumption)).2 | exact lt_lit (by decide)) (by first | exact Nat.mod_lt _ two256_pos | exact Mod.lt (mod_modN _) | assumption | exact onceN_lt (by assumption) | exact Nat.lt_trans (Nat.mod_lt _ (mod_modN _).pos) (mod_modN _).lt | exact ofV_lt2 _ _ | exact invV_lt2 _ _ | exact fm_lt2 _ _ | exact fa_lt2 _ _ | exact fs_lt2 _ _ | exact fn_lt2 _ | exact PP_lt | exact AL_GG.1 | exact AL_GG.2 | exact (AL_cadd _ _).1 | exact (AL_cadd _ _).2 | exact (AL_cmul _ _).1 | exact (AL_cmul _ _).2 | exact (AL_cofV _).1 | exact (AL_cofV _).2 | exact (AL_cneg (by assumption)).1 | exact (AL_cneg (by assumption)).2 | exact lt_lit (by decide)) rfl) ?_
   refine xk hK51 ?_; try clear hK51 K51
   refine c_split (t := _) rfl (fun hc_9 => ?_) (fun hc_9 => ?_)
   ·skip
    refine wp_seq_k ?_; intro K53 hK53
    refine sr ?_; intro K54 hK54
    refine p_val (r_loadW tg24 H eb46 (k := 0) rfl rfl) ?_
    refine p_val (r_as (l' := numL 0) (r_build (vals := []) (l := [_, _, _, _]) tb24 rfl rfl) (num_0)) ?_
    refine p_val (r_eqnum u24 u22 sz22 ag22 eg24 rfl rfl (by first | exact Nat.mod_lt _ two256_pos | exact Mod.lt (mod_modN _) | assumption | exact onceN_lt (by assumption) | exact Nat.lt_trans (Nat.mod_lt _ (mod_modN _).pos) (mod_modN _).lt | exact ofV_lt2 _ _ | exact invV_lt2 _ _ | exact fm_lt2 _ _ | exact fa_lt2 _ _ | exact fs_lt2 _ _ | exact fn_lt2 _ | exact PP_lt | exact AL_GG.1 | exact AL_GG.2 | exact (AL_cadd _ _).1 | exact (AL_cadd _ _).2 | exact (AL_cmul _ _).1 | exact (AL_cmul _ _).2 | exact (AL_cofV _).1 | exact (AL_cofV _).2 | exact (AL_cneg (by assumption)).1 | exact (AL_cneg (by assumption)).2 | exact lt_lit (by decide)) (by first | exact Nat.mod_lt _ two256_pos | exact Mod.lt (mod_modN _) | assumption | exact onceN_lt (by assumption) | exact Nat.lt_trans (Nat.mod_lt _ (mod_modN _).pos) (mod_modN _).lt | exact ofV_lt2 _ _ | exact invV_lt2 _ _ | exact fm_lt2 _ _ | exact fa_lt2 _ _ | exact fs_lt2 _ _ | exact fn_lt2 _ | exact PP_lt | exact AL_GG.1 | exact AL_GG.2 | exact (AL_cadd _ _).1 | exact (AL_cadd _ _).2 | exact (AL_cmul _ _).1 | exact (AL_cmul _ _).2 | exact (AL_cofV _).1 | exact (AL_cofV _).2 | exact (AL_cneg (by assumption)).1 | exact (AL_cneg (by assumption)).2 | exact lt_lit (by decide)) rfl) ?_
    refine xk hK54 ?_; try clear hK54 K54
    refine c_split (t := _) rfl (fun hc_10 => ?_) (fun hc_10 => ?_)
    ·skip
     refine sr ?_; intro K56 hK56
     refine p_val (r_loadW tg114 H rfl (k := 10) rfl rfl) ?_
     refine p_call (l := [(.agg (List.toArray _))]) is60 rfl ?_
     refine (ctwice_c (X, Y, Z) (by repeat (first | assumption | exact TL_0 | exact TL_jtw _ | exact TL_jof (by assumption) (by assumption) | exact ⟨by assumption, by assumption, by assumption⟩ | refine TL_jad ?_ ?_ | refine TL_jmul ?_ _)) _).mono ?_; rintro _ w57 ⟨rfl, hx⟩; replace H := H.ext hx; clear hx
     refine p_storeW tg114 H rfl (k := 8) rfl rfl rfl rfl rfl ?_; clear H; intro w58 H
     refine xk hK56 ?_; try clear hK56 K56
     refine wp_ret ?_
     refine x_ret ?_
     refine x_ret ?_
     refine e_1 rfl (q_cellW tg114 H rfl (k := 8) rfl rfl) ?_
     exact ⟨by rw [jad_of hc_1 hc_3 hpz hqz hu hv hs1 ht1 hhd hrd, jad2_t hc_9 hc_10], H.below⟩
    ·skip
     refine wp_skip ?_
     refine xn hK53 ?_; try clear hK53 K53
     refine sr ?_; intro K59 hK59
     refine p_val (r_as (l' := (numL 0 ++ (numL 0 ++ numL 0))) (r_build (vals := []) (l := ([.int .u64 0, .int .u64 0, .int .u64 0, .int .u64 0] ++ ([.int .u64 0, .int .u64 0, .int .u64 0, .int .u64 0] ++ [.int .u64 0, .int .u64 0, .int .u64 0, .int .u64 0]))) tb114 rfl rfl) (by rw [num_0])) ?_
     refine p_storeW tg114 H rfl (k := 8) rfl rfl rfl rfl rfl ?_; clear H; intro w60 H
     refine xk hK59 ?_; try clear hK59 K59
     refine wp_ret ?_
     refine x_ret ?_
     refine e_1 rfl (q_cellW tg114 H rfl (k := 8) rfl rfl) ?_
     exact ⟨by rw [jad_of hc_1 hc_3 hpz hqz hu hv hs1 ht1 hhd hrd, jad2_0 hc_9 hc_10], H.below⟩
   ·skip
    refine wp_skip ?_
    refine xn hK50 ?_; try clear hK50 K50
    refine sr ?_; intro K61 hK61
    refine p_val (r_loadW tg24 H eb45 (k := 1) rfl rfl) ?_
    refine p_val (r_loadW tg24 H eb45 (k := 1) rfl rfl) ?_
    refine p_call (l := [(.agg (List.toArray _)), (.agg (List.toArray _))]) is57 rfl ?_
    refine (times_c _ _ (by first | exact Nat.mod_lt _ two256_pos | exact Mod.lt (mod_modN _) | assumption | exact onceN_lt (by assumption) | exact Nat.lt_trans (Nat.mod_lt _ (mod_modN _).pos) (mod_modN _).lt | exact ofV_lt2 _ _ | exact invV_lt2 _ _ | exact fm_lt2 _ _ | exact fa_lt2 _ _ | exact fs_lt2 _ _ | exact fn_lt2 _ | exact PP_lt | exact AL_GG.1 | exact AL_GG.2 | exact (AL_cadd _ _).1 | exact (AL_cadd _ _).2 | exact (AL_cmul _ _).1 | exact (AL_cmul _ _).2 | exact (AL_cofV _).1 | exact (AL_cofV _).2 | exact (AL_cneg (by assumption)).1 | exact (AL_cneg (by assumption)).2 | exact lt_lit (by decide)) (by first | exact Nat.mod_lt _ two256_pos | exact Mod.lt (mod_modN _) | assumption | exact onceN_lt (by assumption) | exact Nat.lt_trans (Nat.mod_lt _ (mod_modN _).pos) (mod_modN _).lt | exact ofV_lt2 _ _ | exact invV_lt2 _ _ | exact fm_lt2 _ _ | exact fa_lt2 _ _ | exact fs_lt2 _ _ | exact fn_lt2 _ | exact PP_lt | exact AL_GG.1 | exact AL_GG.2 | exact (AL_cadd _ _).1 | exact (AL_cadd _ _).2 | exact (AL_cmul _ _).1 | exact (AL_cmul _ _).2 | exact (AL_cofV _).1 | exact (AL_cofV _).2 | exact (AL_cneg (by assumption)).1 | exact (AL_cneg (by assumption)).2 | exact lt_lit (by decide)) _).mono ?_; rintro _ w62 ⟨rfl, hx⟩; replace H := H.ext hx; clear hx
    refine p_alloc (l := [.int .u64 0, .int .u64 0, .int .u64 0, .int .u64 0]) H tz24 rfl ?_; clear H; intro w64 b63 H
    refine p_storeW tg24 H rfl (k := 0) rfl rfl rfl rfl rfl ?_; clear H; intro w65 H
    refine HP.name H (k := 0) rfl ?_; clear H; intro h2 hh2 H; have lh2 : h2 < two256 := by (rw [hh2]; first | exact fm_lt2 _ _ | exact fa_lt2 _ _ | exact fs_lt2 _ _ | exact fn_lt2 _)
    refine xk hK61 ?_; try clear hK61 K61
    refine wp_seq_k ?_; intro K66 hK66
    apply wp_region_ext 8 (kinds [(2, .inl _), (5, .inl _), (6, .inr (NewAt _ [.int .u64 0, .int .u64 0, .int .u64 0, .int .u64 0] 24)), (7, .inr (NewAt _ [.int .u64 0, .int .u64 0, .int .u64 0, .int .u64 0] 24))]) rfl rfl (by kernel_rfl); intro vs68
    simp only [List.take_succ_cons, List.take_zero, List.drop_succ_cons, List.drop_zero]
    replace H := H.drew
    refine t_v (fun w hx => r_loadW tg24 (H.ext hx) eb45 (k := 2) rfl rfl) ?_
    refine t_v (fun w hx => r_loadW tg24 (H.ext hx) rfl (k := 0) rfl rfl) ?_
    refine t_call (l := [(.agg (List.toArray _)), (.agg (List.toArray _))]) rfl rfl is57 rfl (fun w hx hF => (times_c _ _ (by first | exact Nat.mod_lt _ two256_pos | exact Mod.lt (mod_modN _) | assumption | exact onceN_lt (by assumption) | exact Nat.lt_trans (Nat.mod_lt _ (mod_modN _).pos) (mod_modN _).lt | exact ofV_lt2 _ _ | exact invV_lt2 _ _ | exact fm_lt2 _ _ | exact fa_lt2 _ _ | exact fs_lt2 _ _ | exact fn_lt2 _ | exact PP_lt | exact AL_GG.1 | exact AL_GG.2 | exact (AL_cadd _ _).1 | exact (AL_cadd _ _).2 | exact (AL_cmul _ _).1 | exact (AL_cmul _ _).2 | exact (AL_cofV _).1 | exact (AL_cofV _).2 | exact (AL_cneg (by assumption)).1 | exact (AL_cneg (by assumption)).2 | exact lt_lit (by decide)) (by first | exact Nat.mod_lt _ two256_pos | exact Mod.lt (mod_modN _) | assumption | exact onceN_lt (by assumption) | exact Nat.lt_trans (Nat.mod_lt _ (mod_modN _).pos) (mod_modN _).lt | exact ofV_lt2 _ _ | exact invV_lt2 _ _ | exact fm_lt2 _ _ | exact fa_lt2 _ _ | exact fs_lt2 _ _ | exact fn_lt2 _ | exact PP_lt | exact AL_GG.1 | exact AL_GG.2 | exact (AL_cadd _ _).1 | exact (AL_cadd _ _).2 | exact (AL_cmul _ _).1 | exact (AL_cmul _ _).2 | exact (AL_cofV _).1 | exact (AL_cofV _).2 | exact (AL_cneg (by assumption)).1 | exact (AL_cneg (by assumption)).2 | exact lt_lit (by decide)) _).mono (fun _ _ ⟨he, hx⟩ => ⟨he, hx⟩)) ?_
    refine t_v (fun w hx => r_loadW tg24 (H.ext hx) eb29 (k := 6) rfl rfl) ?_
    refine t_v (fun w hx => r_loadW tg24 (H.ext hx) rfl (k := 0) rfl rfl) ?_
    refine t_call (l := [(.agg (List.toArray _)), (.agg (List.toArray _))]) rfl rfl is57 rfl (fun w hx hF => (times_c _ _ (by first | exact Nat.mod_lt _ two256_pos | exact Mod.lt (mod_modN _) | assumption | exact onceN_lt (by assumption) | exact Nat.lt_trans (Nat.mod_lt _ (mod_modN _).pos) (mod_modN _).lt | exact ofV_lt2 _ _ | exact invV_lt2 _ _ | exact fm_lt2 _ _ | exact fa_lt2 _ _ | exact fs_lt2 _ _ | exact fn_lt2 _ | exact PP_lt | exact AL_GG.1 | exact AL_GG.2 | exact (AL_cadd _ _).1 | exact (AL_cadd _ _).2 | exact (AL_cmul _ _).1 | exact (AL_cmul _ _).2 | exact (AL_cofV _).1 | exact (AL_cofV _).2 | exact (AL_cneg (by assumption)).1 | exact (AL_cneg (by assumption)).2 | exact lt_lit (by decide)) (by first | exact Nat.mod_lt _ two256_pos | exact Mod.lt (mod_modN _) | assumption | exact onceN_lt (by assumption) | exact Nat.lt_trans (Nat.mod_lt _ (mod_modN _).pos) (mod_modN _).lt | exact ofV_lt2 _ _ | exact invV_lt2 _ _ | exact fm_lt2 _ _ | exact fa_lt2 _ _ | exact fs_lt2 _ _ | exact fn_lt2 _ | exact PP_lt | exact AL_GG.1 | exact AL_GG.2 | exact (AL_cadd _ _).1 | exact (AL_cadd _ _).2 | exact (AL_cmul _ _).1 | exact (AL_cmul _ _).2 | exact (AL_cofV _).1 | exact (AL_cofV _).2 | exact (AL_cneg (by assumption)).1 | exact (AL_cneg (by assumption)).2 | exact lt_lit (by decide)) _).mono (fun _ _ ⟨he, hx⟩ => ⟨he, hx⟩)) ?_
    refine t_alloc rfl rfl tz24 rfl ?_
    refine t_alloc rfl rfl tz24 rfl ?_
    refine t_nil (fun w71 hx hF hA => ?_)
    obtain ⟨b69, eb69, hbb69, hhb69⟩ := fact_rel hF 6 rfl rfl; have hnb69 := HP.neL H hbb69; replace hbb69 := Nat.le_trans H.below.size hbb69
    obtain ⟨b70, eb70, hbb70, hhb70⟩ := fact_rel hF 7 rfl rfl; have hnb70 := HP.neL H hbb70; replace hbb70 := Nat.le_trans H.below.size hbb70
    replace H := H.ext hx
    replace H := HP.push1 H hbb69 hnb69 hhb69
    replace H := HP.push1 H hbb70 ⟨fun e => (hA 6 7 (by decide) (by decide) (by decide)).1 rfl rfl (by rw [eb69, eb70]; exact congrArg (fun z => Value.pointer (some ⟨z, 0, none⟩)) e), hnb70⟩ hhb70
    clear hbb69 hnb69 hhb69 hbb70 hnb70 hhb70
    clear hx hF hA
    refine p_storeW tg24 H eb69 (k := 1) rfl rfl rfl rfl rfl ?_; clear H; intro w72 H
    refine HP.name H (k := 1) rfl ?_; clear H; intro h3 hh3 H; have lh3 : h3 < two256 := by (rw [hh3]; first | exact fm_lt2 _ _ | exact fa_lt2 _ _ | exact fs_lt2 _ _ | exact fn_lt2 _)
    refine p_storeW tg24 H eb70 (k := 0) rfl rfl rfl rfl rfl ?_; clear H; intro w73 H
    refine HP.name H (k := 0) rfl ?_; clear H; intro uh huh H; have luh : uh < two256 := by (rw [huh]; first | exact fm_lt2 _ _ | exact fa_lt2 _ _ | exact fs_lt2 _ _ | exact fn_lt2 _)
    refine wpList_nil ?_; refine on_norm ?_
    refine xn hK66 ?_; try clear hK66 K66
    refine wp_seq_k ?_; intro K74 hK74
    apply wp_region_ext 10 (kinds [(2, .inl _), (4, .inl _), (7, .inl _), (8, .inl _), (9, .inr (NewAt _ [.int .u64 0, .int .u64 0, .int .u64 0, .int .u64 0] 24))]) rfl rfl (by kernel_rfl); intro vs76
    simp only [List.take_succ_cons, List.take_zero, List.drop_succ_cons, List.drop_zero]
    replace H := H.drew
    refine t_v (fun w hx => r_loadW tg24 (H.ext hx) eb46 (k := 3) rfl rfl) ?_
    refine t_v (fun w hx => r_loadW tg24 (H.ext hx) eb46 (k := 3) rfl rfl) ?_
    refine t_call (l := [(.agg (List.toArray _)), (.agg (List.toArray _))]) rfl rfl is57 rfl (fun w hx hF => (times_c _ _ (by first | exact Nat.mod_lt _ two256_pos | exact Mod.lt (mod_modN _) | assumption | exact onceN_lt (by assumption) | exact Nat.lt_trans (Nat.mod_lt _ (mod_modN _).pos) (mod_modN _).lt | exact ofV_lt2 _ _ | exact invV_lt2 _ _ | exact fm_lt2 _ _ | exact fa_lt2 _ _ | exact fs_lt2 _ _ | exact fn_lt2 _ | exact PP_lt | exact AL_GG.1 | exact AL_GG.2 | exact (AL_cadd _ _).1 | exact (AL_cadd _ _).2 | exact (AL_cmul _ _).1 | exact (AL_cmul _ _).2 | exact (AL_cofV _).1 | exact (AL_cofV _).2 | exact (AL_cneg (by assumption)).1 | exact (AL_cneg (by assumption)).2 | exact lt_lit (by decide)) (by first | exact Nat.mod_lt _ two256_pos | exact Mod.lt (mod_modN _) | assumption | exact onceN_lt (by assumption) | exact Nat.lt_trans (Nat.mod_lt _ (mod_modN _).pos) (mod_modN _).lt | exact ofV_lt2 _ _ | exact invV_lt2 _ _ | exact fm_lt2 _ _ | exact fa_lt2 _ _ | exact fs_lt2 _ _ | exact fn_lt2 _ | exact PP_lt | exact AL_GG.1 | exact AL_GG.2 | exact (AL_cadd _ _).1 | exact (AL_cadd _ _).2 | exact (AL_cmul _ _).1 | exact (AL_cmul _ _).2 | exact (AL_cofV _).1 | exact (AL_cofV _).2 | exact (AL_cneg (by assumption)).1 | exact (AL_cneg (by assumption)).2 | exact lt_lit (by decide)) _).mono (fun _ _ ⟨he, hx⟩ => ⟨he, hx⟩)) ?_
    refine t_v (fun w hx => r_loadW tg24 (H.ext hx) eb69 (k := 1) rfl rfl) ?_
    refine t_call (l := [(.agg (List.toArray _)), (.agg (List.toArray _))]) rfl rfl is58 rfl (fun w hx hF => (minus_c _ _ (by first | exact Nat.mod_lt _ two256_pos | exact Mod.lt (mod_modN _) | assumption | exact onceN_lt (by assumption) | exact Nat.lt_trans (Nat.mod_lt _ (mod_modN _).pos) (mod_modN _).lt | exact ofV_lt2 _ _ | exact invV_lt2 _ _ | exact fm_lt2 _ _ | exact fa_lt2 _ _ | exact fs_lt2 _ _ | exact fn_lt2 _ | exact PP_lt | exact AL_GG.1 | exact AL_GG.2 | exact (AL_cadd _ _).1 | exact (AL_cadd _ _).2 | exact (AL_cmul _ _).1 | exact (AL_cmul _ _).2 | exact (AL_cofV _).1 | exact (AL_cofV _).2 | exact (AL_cneg (by assumption)).1 | exact (AL_cneg (by assumption)).2 | exact lt_lit (by decide)) (by first | exact Nat.mod_lt _ two256_pos | exact Mod.lt (mod_modN _) | assumption | exact onceN_lt (by assumption) | exact Nat.lt_trans (Nat.mod_lt _ (mod_modN _).pos) (mod_modN _).lt | exact ofV_lt2 _ _ | exact invV_lt2 _ _ | exact fm_lt2 _ _ | exact fa_lt2 _ _ | exact fs_lt2 _ _ | exact fn_lt2 _ | exact PP_lt | exact AL_GG.1 | exact AL_GG.2 | exact (AL_cadd _ _).1 | exact (AL_cadd _ _).2 | exact (AL_cmul _ _).1 | exact (AL_cmul _ _).2 | exact (AL_cofV _).1 | exact (AL_cofV _).2 | exact (AL_cneg (by assumption)).1 | exact (AL_cneg (by assumption)).2 | exact lt_lit (by decide)) _).mono (fun _ _ ⟨he, hx⟩ => ⟨he, hx⟩)) ?_
    refine t_v (fun w hx => r_loadW tg24 (H.ext hx) eb70 (k := 0) rfl rfl) ?_
    refine t_v (fun w hx => r_loadW tg24 (H.ext hx) eb70 (k := 0) rfl rfl) ?_
    refine t_call (l := [(.agg (List.toArray _)), (.agg (List.toArray _))]) rfl rfl is56 rfl (fun w hx hF => (plus_c _ _ (by first | exact Nat.mod_lt _ two256_pos | exact Mod.lt (mod_modN _) | assumption | exact onceN_lt (by assumption) | exact Nat.lt_trans (Nat.mod_lt _ (mod_modN _).pos) (mod_modN _).lt | exact ofV_lt2 _ _ | exact invV_lt2 _ _ | exact fm_lt2 _ _ | exact fa_lt2 _ _ | exact fs_lt2 _ _ | exact fn_lt2 _ | exact PP_lt | exact AL_GG.1 | exact AL_GG.2 | exact (AL_cadd _ _).1 | exact (AL_cadd _ _).2 | exact (AL_cmul _ _).1 | exact (AL_cmul _ _).2 | exact (AL_cofV _).1 | exact (AL_cofV _).2 | exact (AL_cneg (by assumption)).1 | exact (AL_cneg (by assumption)).2 | exact lt_lit (by decide)) (by first | exact Nat.mod_lt _ two256_pos | exact Mod.lt (mod_modN _) | assumption | exact onceN_lt (by assumption) | exact Nat.lt_trans (Nat.mod_lt _ (mod_modN _).pos) (mod_modN _).lt | exact ofV_lt2 _ _ | exact invV_lt2 _ _ | exact fm_lt2 _ _ | exact fa_lt2 _ _ | exact fs_lt2 _ _ | exact fn_lt2 _ | exact PP_lt | exact AL_GG.1 | exact AL_GG.2 | exact (AL_cadd _ _).1 | exact (AL_cadd _ _).2 | exact (AL_cmul _ _).1 | exact (AL_cmul _ _).2 | exact (AL_cofV _).1 | exact (AL_cofV _).2 | exact (AL_cneg (by assumption)).1 | exact (AL_cneg (by assumption)).2 | exact lt_lit (by decide)) _).mono (fun _ _ ⟨he, hx⟩ => ⟨he, hx⟩)) ?_
    refine t_call (l := [(.agg (List.toArray _)), (.agg (List.toArray _))]) rfl rfl is58 rfl (fun w hx hF => (minus_c _ _ (by first | exact Nat.mod_lt _ two256_pos | exact Mod.lt (mod_modN _) | assumption | exact onceN_lt (by assumption) | exact Nat.lt_trans (Nat.mod_lt _ (mod_modN _).pos) (mod_modN _).lt | exact ofV_lt2 _ _ | exact invV_lt2 _ _ | exact fm_lt2 _ _ | exact fa_lt2 _ _ | exact fs_lt2 _ _ | exact fn_lt2 _ | exact PP_lt | exact AL_GG.1 | exact AL_GG.2 | exact (AL_cadd _ _).1 | exact (AL_cadd _ _).2 | exact (AL_cmul _ _).1 | exact (AL_cmul _ _).2 | exact (AL_cofV _).1 | exact (AL_cofV _).2 | exact (AL_cneg (by assumption)).1 | exact (AL_cneg (by assumption)).2 | exact lt_lit (by decide)) (by first | exact Nat.mod_lt _ two256_pos | exact Mod.lt (mod_modN _) | assumption | exact onceN_lt (by assumption) | exact Nat.lt_trans (Nat.mod_lt _ (mod_modN _).pos) (mod_modN _).lt | exact ofV_lt2 _ _ | exact invV_lt2 _ _ | exact fm_lt2 _ _ | exact fa_lt2 _ _ | exact fs_lt2 _ _ | exact fn_lt2 _ | exact PP_lt | exact AL_GG.1 | exact AL_GG.2 | exact (AL_cadd _ _).1 | exact (AL_cadd _ _).2 | exact (AL_cmul _ _).1 | exact (AL_cmul _ _).2 | exact (AL_cofV _).1 | exact (AL_cofV _).2 | exact (AL_cneg (by assumption)).1 | exact (AL_cneg (by assumption)).2 | exact lt_lit (by decide)) _).mono (fun _ _ ⟨he, hx⟩ => ⟨he, hx⟩)) ?_
    refine t_alloc rfl rfl tz24 rfl ?_
    refine t_nil (fun w78 hx hF hA => ?_)
    obtain ⟨b77, eb77, hbb77, hhb77⟩ := fact_rel hF 9 rfl rfl; have hnb77 := HP.neL H hbb77; replace hbb77 := Nat.le_trans H.below.size hbb77
    replace H := H.ext hx
    replace H := HP.push1 H hbb77 hnb77 hhb77
    clear hbb77 hnb77 hhb77
    clear hx hF hA
    refine p_storeW tg24 H eb77 (k := 0) rfl rfl rfl rfl rfl ?_; clear H; intro w79 H
    refine HP.name H (k := 0) rfl ?_; clear H; intro x3 hx3 H; have lx3 : x3 < two256 := by (rw [hx3]; first | exact fm_lt2 _ _ | exact fa_lt2 _ _ | exact fs_lt2 _ _ | exact fn_lt2 _)
    refine wpList_nil ?_; refine on_norm ?_
    refine xn hK74 ?_; try clear hK74 K74
    refine wp_seq_k ?_; intro K80 hK80
    apply wp_region_ext 10 (kinds [(3, .inl _), (4, .inl _), (7, .inl _), (8, .inl _), (9, .inr (NewAt _ [.int .u64 0, .int .u64 0, .int .u64 0, .int .u64 0] 24))]) rfl rfl (by kernel_rfl); intro vs82
    simp only [List.take_succ_cons, List.take_zero, List.drop_succ_cons, List.drop_zero]
    replace H := H.drew
    refine t_v (fun w hx => r_loadW tg24 (H.ext hx) eb46 (k := 4) rfl rfl) ?_
    refine t_v (fun w hx => r_loadW tg24 (H.ext hx) eb70 (k := 1) rfl rfl) ?_
    refine t_v (fun w hx => r_loadW tg24 (H.ext hx) eb77 (k := 0) rfl rfl) ?_
    refine t_call (l := [(.agg (List.toArray _)), (.agg (List.toArray _))]) rfl rfl is58 rfl (fun w hx hF => (minus_c _ _ (by first | exact Nat.mod_lt _ two256_pos | exact Mod.lt (mod_modN _) | assumption | exact onceN_lt (by assumption) | exact Nat.lt_trans (Nat.mod_lt _ (mod_modN _).pos) (mod_modN _).lt | exact ofV_lt2 _ _ | exact invV_lt2 _ _ | exact fm_lt2 _ _ | exact fa_lt2 _ _ | exact fs_lt2 _ _ | exact fn_lt2 _ | exact PP_lt | exact AL_GG.1 | exact AL_GG.2 | exact (AL_cadd _ _).1 | exact (AL_cadd _ _).2 | exact (AL_cmul _ _).1 | exact (AL_cmul _ _).2 | exact (AL_cofV _).1 | exact (AL_cofV _).2 | exact (AL_cneg (by assumption)).1 | exact (AL_cneg (by assumption)).2 | exact lt_lit (by decide)) (by first | exact Nat.mod_lt _ two256_pos | exact Mod.lt (mod_modN _) | assumption | exact onceN_lt (by assumption) | exact Nat.lt_trans (Nat.mod_lt _ (mod_modN _).pos) (mod_modN _).lt | exact ofV_lt2 _ _ | exact invV_lt2 _ _ | exact fm_lt2 _ _ | exact fa_lt2 _ _ | exact fs_lt2 _ _ | exact fn_lt2 _ | exact PP_lt | exact AL_GG.1 | exact AL_GG.2 | exact (AL_cadd _ _).1 | exact (AL_cadd _ _).2 | exact (AL_cmul _ _).1 | exact (AL_cmul _ _).2 | exact (AL_cofV _).1 | exact (AL_cofV _).2 | exact (AL_cneg (by assumption)).1 | exact (AL_cneg (by assumption)).2 | exact lt_lit (by decide)) _).mono (fun _ _ ⟨he, hx⟩ => ⟨he, hx⟩)) ?_
    refine t_call (l := [(.agg (List.toArray _)), (.agg (List.toArray _))]) rfl rfl is57 rfl (fun w hx hF => (times_c _ _ (by first | exact Nat.mod_lt _ two256_pos | exact Mod.lt (mod_modN _) | assumption | exact onceN_lt (by assumption) | exact Nat.lt_trans (Nat.mod_lt _ (mod_modN _).pos) (mod_modN _).lt | exact ofV_lt2 _ _ | exact invV_lt2 _ _ | exact fm_lt2 _ _ | exact fa_lt2 _ _ | exact fs_lt2 _ _ | exact fn_lt2 _ | exact PP_lt | exact AL_GG.1 | exact AL_GG.2 | exact (AL_cadd _ _).1 | exact (AL_cadd _ _).2 | exact (AL_cmul _ _).1 | exact (AL_cmul _ _).2 | exact (AL_cofV _).1 | exact (AL_cofV _).2 | exact (AL_cneg (by assumption)).1 | exact (AL_cneg (by assumption)).2 | exact lt_lit (by decide)) (by first | exact Nat.mod_lt _ two256_pos | exact Mod.lt (mod_modN _) | assumption | exact onceN_lt (by assumption) | exact Nat.lt_trans (Nat.mod_lt _ (mod_modN _).pos) (mod_modN _).lt | exact ofV_lt2 _ _ | exact invV_lt2 _ _ | exact fm_lt2 _ _ | exact fa_lt2 _ _ | exact fs_lt2 _ _ | exact fn_lt2 _ | exact PP_lt | exact AL_GG.1 | exact AL_GG.2 | exact (AL_cadd _ _).1 | exact (AL_cadd _ _).2 | exact (AL_cmul _ _).1 | exact (AL_cmul _ _).2 | exact (AL_cofV _).1 | exact (AL_cofV _).2 | exact (AL_cneg (by assumption)).1 | exact (AL_cneg (by assumption)).2 | exact lt_lit (by decide)) _).mono (fun _ _ ⟨he, hx⟩ => ⟨he, hx⟩)) ?_
    refine t_v (fun w hx => r_loadW tg24 (H.ext hx) eb37 (k := 7) rfl rfl) ?_
    refine t_v (fun w hx => r_loadW tg24 (H.ext hx) eb69 (k := 2) rfl rfl) ?_
    refine t_call (l := [(.agg (List.toArray _)), (.agg (List.toArray _))]) rfl rfl is57 rfl (fun w hx hF => (times_c _ _ (by first | exact Nat.mod_lt _ two256_pos | exact Mod.lt (mod_modN _) | assumption | exact onceN_lt (by assumption) | exact Nat.lt_trans (Nat.mod_lt _ (mod_modN _).pos) (mod_modN _).lt | exact ofV_lt2 _ _ | exact invV_lt2 _ _ | exact fm_lt2 _ _ | exact fa_lt2 _ _ | exact fs_lt2 _ _ | exact fn_lt2 _ | exact PP_lt | exact AL_GG.1 | exact AL_GG.2 | exact (AL_cadd _ _).1 | exact (AL_cadd _ _).2 | exact (AL_cmul _ _).1 | exact (AL_cmul _ _).2 | exact (AL_cofV _).1 | exact (AL_cofV _).2 | exact (AL_cneg (by assumption)).1 | exact (AL_cneg (by assumption)).2 | exact lt_lit (by decide)) (by first | exact Nat.mod_lt _ two256_pos | exact Mod.lt (mod_modN _) | assumption | exact onceN_lt (by assumption) | exact Nat.lt_trans (Nat.mod_lt _ (mod_modN _).pos) (mod_modN _).lt | exact ofV_lt2 _ _ | exact invV_lt2 _ _ | exact fm_lt2 _ _ | exact fa_lt2 _ _ | exact fs_lt2 _ _ | exact fn_lt2 _ | exact PP_lt | exact AL_GG.1 | exact AL_GG.2 | exact (AL_cadd _ _).1 | exact (AL_cadd _ _).2 | exact (AL_cmul _ _).1 | exact (AL_cmul _ _).2 | exact (AL_cofV _).1 | exact (AL_cofV _).2 | exact (AL_cneg (by assumption)).1 | exact (AL_cneg (by assumption)).2 | exact lt_lit (by decide)) _).mono (fun _ _ ⟨he, hx⟩ => ⟨he, hx⟩)) ?_
    refine t_call (l := [(.agg (List.toArray _)), (.agg (List.toArray _))]) rfl rfl is58 rfl (fun w hx hF => (minus_c _ _ (by first | exact Nat.mod_lt _ two256_pos | exact Mod.lt (mod_modN _) | assumption | exact onceN_lt (by assumption) | exact Nat.lt_trans (Nat.mod_lt _ (mod_modN _).pos) (mod_modN _).lt | exact ofV_lt2 _ _ | exact invV_lt2 _ _ | exact fm_lt2 _ _ | exact fa_lt2 _ _ | exact fs_lt2 _ _ | exact fn_lt2 _ | exact PP_lt | exact AL_GG.1 | exact AL_GG.2 | exact (AL_cadd _ _).1 | exact (AL_cadd _ _).2 | exact (AL_cmul _ _).1 | exact (AL_cmul _ _).2 | exact (AL_cofV _).1 | exact (AL_cofV _).2 | exact (AL_cneg (by assumption)).1 | exact (AL_cneg (by assumption)).2 | exact lt_lit (by decide)) (by first | exact Nat.mod_lt _ two256_pos | exact Mod.lt (mod_modN _) | assumption | exact onceN_lt (by assumption) | exact Nat.lt_trans (Nat.mod_lt _ (mod_modN _).pos) (mod_modN _).lt | exact ofV_lt2 _ _ | exact invV_lt2 _ _ | exact fm_lt2 _ _ | exact fa_lt2 _ _ | exact fs_lt2 _ _ | exact fn_lt2 _ | exact PP_lt | exact AL_GG.1 | exact AL_GG.2 | exact (AL_cadd _ _).1 | exact (AL_cadd _ _).2 | exact (AL_cmul _ _).1 | exact (AL_cmul _ _).2 | exact (AL_cofV _).1 | exact (AL_cofV _).2 | exact (AL_cneg (by assumption)).1 | exact (AL_cneg (by assumption)).2 | exact lt_lit (by decide)) _).mono (fun _ _ ⟨he, hx⟩ => ⟨he, hx⟩)) ?_
    refine t_alloc rfl rfl tz24 rfl ?_
    refine t_nil (fun w84 hx hF hA => ?_)
    obtain ⟨b83, eb83, hbb83, hhb83⟩ := fact_rel hF 9 rfl rfl; have hnb83 := HP.neL H hbb83; replace hbb83 := Nat.le_trans H.below.size hbb83
    replace H := H.ext hx
    replace H := HP.push1 H hbb83 hnb83 hhb83
    clear hbb83 hnb83 hhb83
    clear hx hF hA
    refine p_storeW tg24 H eb83 (k := 0) rfl rfl rfl rfl rfl ?_; clear H; intro w85 H
    refine HP.name H (k := 0) rfl ?_; clear H; intro y3 hy3 H; have ly3 : y3 < two256 := by (rw [hy3]; first | exact fm_lt2 _ _ | exact fa_lt2 _ _ | exact fs_lt2 _ _ | exact fn_lt2 _)
    refine wpList_nil ?_; refine on_norm ?_
    refine xn hK80 ?_; try clear hK80 K80
    refine wp_seq_k ?_; intro K86 hK86
    apply wp_region_ext 10 (kinds [(7, .inl _), (8, .inl _)]) rfl rfl (by kernel_rfl); intro vs88
    simp only [List.take_succ_cons, List.take_zero, List.drop_succ_cons, List.drop_zero]
    replace H := H.drew
    refine t_v (fun w hx => r_loadW tg24 (H.ext hx) eb77 (k := 1) rfl rfl) ?_
    refine t_v (fun w hx => r_loadW tg24 (H.ext hx) eb83 (k := 0) rfl rfl) ?_
    refine t_v (fun w hx => r_loadW tg24 (H.ext hx) eb45 (k := 6) rfl rfl) ?_
    refine t_v (fun w hx => r_field fa114_2 rfl) ?_
    refine t_v (fun w hx => r_load (l := numL Z) tg24 (H.ext hx) rfl (k := 15) rfl rfl rfl) ?_
    refine t_v (fun w hx => r_field fa114_2 rfl) ?_
    refine t_v (fun w hx => r_load (l := numL C) tg24 (H.ext hx) rfl (k := 14) rfl rfl rfl) ?_
    refine t_call (l := [(.agg (List.toArray _)), (.agg (List.toArray _))]) rfl rfl is57 rfl (fun w hx hF => (times_c _ _ (by first | exact Nat.mod_lt _ two256_pos | exact Mod.lt (mod_modN _) | assumption | exact onceN_lt (by assumption) | exact Nat.lt_trans (Nat.mod_lt _ (mod_modN _).pos) (mod_modN _).lt | exact ofV_lt2 _ _ | exact invV_lt2 _ _ | exact fm_lt2 _ _ | exact fa_lt2 _ _ | exact fs_lt2 _ _ | exact fn_lt2 _ | exact PP_lt | exact AL_GG.1 | exact AL_GG.2 | exact (AL_cadd _ _).1 | exact (AL_cadd _ _).2 | exact (AL_cmul _ _).1 | exact (AL_cmul _ _).2 | exact (AL_cofV _).1 | exact (AL_cofV _).2 | exact (AL_cneg (by assumption)).1 | exact (AL_cneg (by assumption)).2 | exact lt_lit (by decide)) (by first | exact Nat.mod_lt _ two256_pos | exact Mod.lt (mod_modN _) | assumption | exact onceN_lt (by assumption) | exact Nat.lt_trans (Nat.mod_lt _ (mod_modN _).pos) (mod_modN _).lt | exact ofV_lt2 _ _ | exact invV_lt2 _ _ | exact fm_lt2 _ _ | exact fa_lt2 _ _ | exact fs_lt2 _ _ | exact fn_lt2 _ | exact PP_lt | exact AL_GG.1 | exact AL_GG.2 | exact (AL_cadd _ _).1 | exact (AL_cadd _ _).2 | exact (AL_cmul _ _).1 | exact (AL_cmul _ _).2 | exact (AL_cofV _).1 | exact (AL_cofV _).2 | exact (AL_cneg (by assumption)).1 | exact (AL_cneg (by assumption)).2 | exact lt_lit (by decide)) _).mono (fun _ _ ⟨he, hx⟩ => ⟨he, hx⟩)) ?_
    refine t_call (l := [(.agg (List.toArray _)), (.agg (List.toArray _))]) rfl rfl is57 rfl (fun w hx hF => (times_c _ _ (by first | exact Nat.mod_lt _ two256_pos | exact Mod.lt (mod_modN _) | assumption | exact onceN_lt (by assumption) | exact Nat.lt_trans (Nat.mod_lt _ (mod_modN _).pos) (mod_modN _).lt | exact ofV_lt2 _ _ | exact invV_lt2 _ _ | exact fm_lt2 _ _ | exact fa_lt2 _ _ | exact fs_lt2 _ _ | exact fn_lt2 _ | exact PP_lt | exact AL_GG.1 | exact AL_GG.2 | exact (AL_cadd _ _).1 | exact (AL_cadd _ _).2 | exact (AL_cmul _ _).1 | exact (AL_cmul _ _).2 | exact (AL_cofV _).1 | exact (AL_cofV _).2 | exact (AL_cneg (by assumption)).1 | exact (AL_cneg (by assumption)).2 | exact lt_lit (by decide)) (by first | exact Nat.mod_lt _ two256_pos | exact Mod.lt (mod_modN _) | assumption | exact onceN_lt (by assumption) | exact Nat.lt_trans (Nat.mod_lt _ (mod_modN _).pos) (mod_modN _).lt | exact ofV_lt2 _ _ | exact invV_lt2 _ _ | exact fm_lt2 _ _ | exact fa_lt2 _ _ | exact fs_lt2 _ _ | exact fn_lt2 _ | exact PP_lt | exact AL_GG.1 | exact AL_GG.2 | exact (AL_cadd _ _).1 | exact (AL_cadd _ _).2 | exact (AL_cmul _ _).1 | exact (AL_cmul _ _).2 | exact (AL_cofV _).1 | exact (AL_cofV _).2 | exact (AL_cneg (by assumption)).1 | exact (AL_cneg (by assumption)).2 | exact lt_lit (by decide)) _).mono (fun _ _ ⟨he, hx⟩ => ⟨he, hx⟩)) ?_
    refine t_v (fun w hx => r_build (vals := [(0, .agg (numL x3).toArray), (1, .agg (numL y3).toArray), (2, .agg (numL (fm hd (fm Z C))).toArray)]) (l := (numL x3 ++ (numL y3 ++ numL (fm hd (fm Z C))))) tb114 rfl rfl) ?_
    refine t_nil (fun w89 hx hF hA => ?_)
    replace H := H.ext hx
    clear hx hF hA
    refine p_storeW tg114 H rfl (k := 13) rfl rfl rfl rfl rfl ?_; clear H; intro w90 H
    refine wpList_nil ?_; refine on_norm ?_
    refine xn hK86 ?_; try clear hK86 K86
    refine wp_ret ?_
    refine e_1 rfl (q_cellW tg114 H rfl (k := 13) rfl rfl) ?_
    exact ⟨by rw [jad_of hc_1 hc_3 hpz hqz hu hv hs1 ht1 hhd hrd, jad2_of hc_9 hh2 hh3 huh hx3 hy3], H.below⟩

theorem cadd_j (t s : Tr) (h : TL t) (h' : TL s) (w : World) : Calls Try.prog 61 #[.agg (jcT t).toArray, .agg (jcT s).toArray] w fun e w' => e = .returned (.agg (jcT (jad t s)).toArray) ∧ Ext w w' := cadd_v t.1 t.2.1 t.2.2 h.1 h.2.1 h.2.2 s.1 s.2.1 s.2.2 h'.1 h'.2.1 h'.2.2 w

end Go.Proofs.Ytmbcolbbekbccaa
