/- The walks of some functions. Pointers into memory that is only read, and what stands for them; cells whose content does not matter. What some functions compute, and that they do. What the calls of packages field and curve compute, over numbers in words: from the walks of the first kind. Steps of a walk: great arrays in blocks of their own, and calls of functions that stand in a slot. Conditions: as each theorem says. -/
import Derived.Test.YtmbcolbbekbccaaGreatQpE
namespace Go.Proofs.YtmbcolbbekbccaaGreat
open Go Go.RowKit
theorem lt2_CrvB {x : Nat} (h : x < two256 := by first | exact Nat.mod_lt _ two256_pos | exact Mod.lt (mod_modN _) | assumption | exact onceN_lt (by assumption) | exact Nat.lt_trans (Nat.mod_lt _ (mod_modN _).pos) (mod_modN _).lt | exact ofV_lt2 _ _ | exact invV_lt2 _ _ | exact fm_lt2 _ _ | exact fa_lt2 _ _ | exact fs_lt2 _ _ | exact fn_lt2 _ | exact PP_lt | exact AL_GG.1 | exact AL_GG.2 | exact (AL_cadd _ _).1 | exact (AL_cadd _ _).2 | exact (AL_cmul _ _).1 | exact (AL_cmul _ _).2 | exact (AL_cofV _).1 | exact (AL_cofV _).2 | exact (AL_cneg (by assumption)).1 | exact (AL_cneg (by assumption)).2 | exact lt_lit (by decide)) : x < two256 := h
attribute [local irreducible] wpList wpT Code.wp Calls Code.rounds lm sd sb ad ac modN bval be fm fa fs fn jtwX jtwY jtwZ onB invV invE
theorem tg152 : TAgg Tryz.prog 152 12 := ⟨fun _ => by kernel_rfl, fun _ => by kernel_rfl⟩
theorem tz152 : TZero Tryz.prog 152 (.agg #[.int .u64 0, .int .u64 0, .int .u64 0, .int .u64 0, .int .u64 0, .int .u64 0, .int .u64 0, .int .u64 0, .int .u64 0, .int .u64 0, .int .u64 0, .int .u64 0]) := fun _ => by kernel_rfl
theorem is50 : IsFn Tryz.prog 50 := isFn Tryz.func50 (by kernel_rfl) (by kernel_rfl)
theorem is111 : IsFn Tryz.prog 111 := isFn Tryz.func111 (by kernel_rfl) (by kernel_rfl)
theorem tb152 : TBuild Tryz.prog 152 (.agg #[.int .u64 0, .int .u64 0, .int .u64 0, .int .u64 0, .int .u64 0, .int .u64 0, .int .u64 0, .int .u64 0, .int .u64 0, .int .u64 0, .int .u64 0, .int .u64 0]) [(0, 4), (4, 4), (8, 4)] := tbuildS (fs := fieldsOf Tryz.prog 152) (by kernel_rfl) tz152 (fun _ => by kernel_rfl)
theorem fa152_0 : TField Tryz.prog 152 0 0 := fun _ _ _ => by kernel_rfl
theorem fa152_1 : TField Tryz.prog 152 1 4 := fun _ _ _ => by kernel_rfl
theorem fa152_2 : TField Tryz.prog 152 2 8 := fun _ _ _ => by kernel_rfl
theorem base_c  (w : World) :
    Calls Tryz.prog 41 #[] w fun e w' => e = .returned (ptV GX GY false) ∧ Ext w w' := by
 refine enter (n := 4) Tryz.func41 rfl rfl rfl ?_
 have H := HP.start w
 refine sr ?_; intro K1 hK1
 refine p_alloc (l := [.int .u64 0, .int .u64 0, .int .u64 0, .int .u64 0, .int .u64 0, .int .u64 0, .int .u64 0, .int .u64 0, .bool false]) H tz26 rfl ?_; clear H; intro w3 b2 H
 refine xk hK1 ?_; try clear hK1 K1
 refine sr ?_; intro K4 hK4
 refine p_val (r_as (l' := numL 48439561293906451759052585252797914202762949526041747995844080717082404635286) (r_build (vals := [(0, (.int _ _)), (1, (.int _ _)), (2, (.int _ _)), (3, (.int _ _))]) (l := [_, _, _, _]) tb24 rfl rfl) (num_const (a := 17627433388654248598) (b := 8575836109218198432) (c := 17923454489921339634) (d := 7716867327612699207) _ (by decide) (by decide) (by decide) (by decide) (by decide))) ?_
 refine p_val (r_as (l' := numL 36134250956749795798585127919587881956611106672985015071877198253568414405109) (r_build (vals := [(0, (.int _ _)), (1, (.int _ _)), (2, (.int _ _)), (3, (.int _ _))]) (l := [_, _, _, _]) tb24 rfl rfl) (num_const (a := 14678990851816772085) (b := 3156516839386865358) (c := 10297457778147434006) (d := 5756518291402817435) _ (by decide) (by decide) (by decide) (by decide) (by decide))) ?_
 refine p_val (r_build (vals := [(0, .agg (numL 48439561293906451759052585252797914202762949526041747995844080717082404635286).toArray), (1, .agg (numL 36134250956749795798585127919587881956611106672985015071877198253568414405109).toArray)]) (l := (numL 48439561293906451759052585252797914202762949526041747995844080717082404635286 ++ (numL 36134250956749795798585127919587881956611106672985015071877198253568414405109 ++ [(.bool false : Value)]))) tb26 rfl rfl) ?_
 refine p_storeW tg26 H rfl (k := 0) rfl rfl rfl rfl rfl ?_; clear H; intro w5 H
 refine xk hK4 ?_; try clear hK4 K4
 refine wp_ret ?_
 refine e_1 rfl (q_cellW tg26 H rfl (k := 0) rfl rfl) ?_
 exact ⟨by rw [GX, GY], H.below⟩
theorem cof_c (X Y : Nat) (I : Bool) (hX : X < two256) (hY : Y < two256) (w : World) :
    Calls Tryz.prog 110 #[ptV X Y I] w fun e w' => e = .returned (.agg (jcT (jof X Y I)).toArray) ∧ Ext w w' := by
 refine enter (n := 12) Tryz.func110 rfl rfl rfl ?_
 have H := HP.start w
 refine sr ?_; intro K1 hK1
 refine p_box (l := (numL X ++ (numL Y ++ [(.bool I : Value)]))) H rfl ?_; clear H; intro w2 b3 H
 refine p_alloc (l := [.int .u64 0, .int .u64 0, .int .u64 0, .int .u64 0, .int .u64 0, .int .u64 0, .int .u64 0, .int .u64 0, .int .u64 0, .int .u64 0, .int .u64 0, .int .u64 0]) H tz152 rfl ?_; clear H; intro w5 b4 H
 refine xk hK1 ?_; try clear hK1 K1
 refine wp_seq_k ?_; intro K6 hK6
 refine sr ?_; intro K7 hK7
 refine p_val (r_field fa26_2 rfl) ?_
 refine p_val (r_load1 (v := .bool I) to4 H rfl (k := 1) rfl (rfl)) ?_
 refine xk hK7 ?_; try clear hK7 K7
 refine c_split (t := _) rfl (fun hc_1 => ?_) (fun hc_1 => ?_)
 ·skip
  refine sr ?_; intro K9 hK9
  refine p_val (r_as (l' := (numL 0 ++ (numL 0 ++ numL 0))) (r_build (vals := []) (l := ([.int .u64 0, .int .u64 0, .int .u64 0, .int .u64 0] ++ ([.int .u64 0, .int .u64 0, .int .u64 0, .int .u64 0] ++ [.int .u64 0, .int .u64 0, .int .u64 0, .int .u64 0]))) tb152 rfl rfl) (by rw [num_0])) ?_
  refine p_storeW tg152 H rfl (k := 0) rfl rfl rfl rfl rfl ?_; clear H; intro w10 H
  refine xk hK9 ?_; try clear hK9 K9
  refine wp_ret ?_
  refine x_ret ?_
  refine e_1 rfl (q_cellW tg152 H rfl (k := 0) rfl rfl) ?_
  rw [hc_1]; exact ⟨rfl, H.below⟩
 ·skip
  refine wp_skip ?_
  refine xn hK6 ?_; try clear hK6 K6
  refine sr ?_; intro K11 hK11
  refine p_val (r_field fa26_0 rfl) ?_
  refine p_val (r_load (l := numL X) tg24 H rfl (k := 1) rfl rfl rfl) ?_
  refine p_val (r_field fa26_1 rfl) ?_
  refine p_val (r_load (l := numL Y) tg24 H rfl (k := 1) rfl rfl rfl) ?_
  refine p_val (r_as (l' := numL 1) (r_build (vals := [(0, (.int _ _))]) (l := [_, _, _, _]) tb24 rfl rfl) (num_lit 1 (by decide))) ?_
  refine p_val (r_build (vals := [(0, .agg (numL X).toArray), (1, .agg (numL Y).toArray), (2, .agg (numL 1).toArray)]) (l := (numL X ++ (numL Y ++ numL 1))) tb152 rfl rfl) ?_
  refine p_storeW tg152 H rfl (k := 0) rfl rfl rfl rfl rfl ?_; clear H; intro w12 H
  refine xk hK11 ?_; try clear hK11 K11
  refine wp_ret ?_
  refine e_1 rfl (q_cellW tg152 H rfl (k := 0) rfl rfl) ?_
  rw [hc_1]; exact ⟨rfl, H.below⟩
theorem cend_v (X Y Z : Nat) (hX : X < two256) (hY : Y < two256) (hZ : Z < two256) (w : World) :
    Calls Tryz.prog 113 #[jcV X Y Z] w fun e w' => e = .returned (.agg (ptT (jend (X, Y, Z))).toArray) ∧ Ext w w' := by
 refine enter (n := 29) Tryz.func113 rfl rfl rfl ?_
 have H := HP.start w
 refine sr ?_; intro K1 hK1
 refine p_box (l := (numL X ++ (numL Y ++ numL Z))) H rfl ?_; clear H; intro w2 b3 H
 refine p_alloc (l := [.int .u64 0, .int .u64 0, .int .u64 0, .int .u64 0, .int .u64 0, .int .u64 0, .int .u64 0, .int .u64 0, .bool false]) H tz26 rfl ?_; clear H; intro w5 b4 H
 refine xk hK1 ?_; try clear hK1 K1
 refine sr ?_; intro K6 hK6
 refine p_val (r_field fa152_2 rfl) ?_
 refine p_val (r_load (l := numL Z) tg24 H rfl (k := 1) rfl rfl rfl) ?_
 refine p_call (l := [(.int _ _), (.agg (List.toArray _))]) is50 rfl ?_
 refine (inv_c _ _ lt2_CrvB _).mono ?_; rintro _ w7 ⟨rfl, hx⟩; replace H := H.ext hx; clear hx
 refine p_mv (v := (.tuple _)) rfl ?_
 refine p_val (r_extract (v := (.agg (List.toArray _))) rfl rfl) ?_
 refine p_val (r_extract (v := (.int _ _)) rfl rfl) ?_
 refine p_alloc (l := [.int .u64 0, .int .u64 0, .int .u64 0, .int .u64 0]) H tz24 rfl ?_; clear H; intro w9 b8 H
 refine p_storeW tg24 H rfl (k := 0) rfl rfl rfl rfl rfl ?_; clear H; intro w10 H
 refine p_as (v := (.int _ _)) rfl ?_
 refine xk hK6 ?_; try clear hK6 K6
 refine wp_seq_k ?_; intro K11 hK11
 refine sr ?_; intro K12 hK12
 refine p_mv (v := (.int _ _)) rfl ?_
 refine p_val (r_neq rfl rfl rfl) ?_
 refine xk hK12 ?_; try clear hK12 K12
 refine c_split (t := _) rfl (fun hc_2 => ?_) (fun hc_2 => ?_)
 ·skip
  refine sr ?_; intro K14 hK14
  refine p_val (r_as (l' := (numL 0 ++ (numL 0 ++ [(.bool true : Value)]))) (r_build (vals := [(2, .bool true)]) (l := ([.int .u64 0, .int .u64 0, .int .u64 0, .int .u64 0] ++ ([.int .u64 0, .int .u64 0, .int .u64 0, .int .u64 0] ++ [(.bool true : Value)]))) tb26 rfl rfl) (by rw [num_0])) ?_
  refine p_storeW tg26 H rfl (k := 1) rfl rfl rfl rfl rfl ?_; clear H; intro w15 H
  refine xk hK14 ?_; try clear hK14 K14
  refine wp_ret ?_
  refine x_ret ?_
  refine e_1 rfl (q_cellW tg26 H rfl (k := 1) rfl rfl) ?_
  exact ⟨by rw [jend_t hc_2], H.below⟩
 ·skip
  refine wp_skip ?_
  refine xn hK11 ?_; try clear hK11 K11
  refine sr ?_; intro K16 hK16
  refine p_val (r_loadW tg24 H rfl (k := 0) rfl rfl) ?_
  refine p_val (r_loadW tg24 H rfl (k := 0) rfl rfl) ?_
  refine p_call (l := [(.agg (List.toArray _)), (.agg (List.toArray _))]) is108 rfl ?_
  refine (times_c _ _ lt2_CrvB lt2_CrvB _).mono ?_; rintro _ w17 ⟨rfl, hx⟩; replace H := H.ext hx; clear hx
  refine p_alloc (l := [.int .u64 0, .int .u64 0, .int .u64 0, .int .u64 0]) H tz24 rfl ?_; clear H; intro w19 b18 H
  refine p_storeW tg24 H rfl (k := 0) rfl rfl rfl rfl rfl ?_; clear H; intro w20 H
  refine xk hK16 ?_; try clear hK16 K16
  refine wp_seq_k ?_; intro K21 hK21
  apply wp_region_ext 11 (kinds [(3, .inl _), (8, .inl _), (9, .inl _)]) rfl rfl (by kernel_rfl); intro vs23
  simp only [tkS, tkZ, drS, drZ]
  replace H := H.drew
  refine t_v (fun w hx => r_field fa152_0 rfl) ?_
  refine t_v (fun w hx => r_load (l := numL X) tg24 (H.ext hx) rfl (k := 3) rfl rfl rfl) ?_
  refine t_v (fun w hx => r_loadW tg24 (H.ext hx) rfl (k := 0) rfl rfl) ?_
  refine t_call (l := [(.agg (List.toArray _)), (.agg (List.toArray _))]) rfl rfl is108 rfl (fun w hx hF => (times_c _ _ lt2_CrvB lt2_CrvB _).mono (fun _ _ ⟨he, hx⟩ => ⟨he, hx⟩)) ?_
  refine t_v (fun w hx => r_field fa152_1 rfl) ?_
  refine t_v (fun w hx => r_load (l := numL Y) tg24 (H.ext hx) rfl (k := 3) rfl rfl rfl) ?_
  refine t_v (fun w hx => r_loadW tg24 (H.ext hx) rfl (k := 0) rfl rfl) ?_
  refine t_v (fun w hx => r_loadW tg24 (H.ext hx) rfl (k := 1) rfl rfl) ?_
  refine t_call (l := [(.agg (List.toArray _)), (.agg (List.toArray _))]) rfl rfl is108 rfl (fun w hx hF => (times_c _ _ lt2_CrvB lt2_CrvB _).mono (fun _ _ ⟨he, hx⟩ => ⟨he, hx⟩)) ?_
  refine t_call (l := [(.agg (List.toArray _)), (.agg (List.toArray _))]) rfl rfl is108 rfl (fun w hx hF => (times_c _ _ lt2_CrvB lt2_CrvB _).mono (fun _ _ ⟨he, hx⟩ => ⟨he, hx⟩)) ?_
  refine t_v (fun w hx => r_build (vals := [(0, .agg (numL (fm X (fm (invV 0 Z) (invV 0 Z)))).toArray), (1, .agg (numL (fm Y (fm (fm (invV 0 Z) (invV 0 Z)) (invV 0 Z)))).toArray)]) (l := (numL (fm X (fm (invV 0 Z) (invV 0 Z))) ++ (numL (fm Y (fm (fm (invV 0 Z) (invV 0 Z)) (invV 0 Z))) ++ [(.bool false : Value)]))) tb26 rfl rfl) ?_
  refine t_nil (fun w24 hx hF hA => ?_)
  replace H := H.ext hx
  clear hx hF hA
  refine p_storeW tg26 H rfl (k := 2) rfl rfl rfl rfl rfl ?_; clear H; intro w25 H
  refine wpList_nil ?_; refine on_norm ?_
  refine xn hK21 ?_; try clear hK21 K21
  refine wp_ret ?_
  refine e_1 rfl (q_cellW tg26 H rfl (k := 2) rfl rfl) ?_
  exact ⟨by rw [jend_f hc_2], H.below⟩
theorem cend_c (t : Tr) (h : TL t) (w : World) : Calls Tryz.prog 113 #[.agg (jcT t).toArray] w fun e w' => e = .returned (.agg (ptT (jend t)).toArray) ∧ Ext w w' := cend_v t.1 t.2.1 t.2.2 h.1 h.2.1 h.2.2 w
set_option maxRecDepth 4000 in
theorem ctwice_v (X Y Z : Nat) (hX : X < two256) (hY : Y < two256) (hZ : Z < two256) (w : World) :
    Calls Tryz.prog 111 #[jcV X Y Z] w fun e w' => e = .returned (.agg (jcT (jtw (X, Y, Z))).toArray) ∧ Ext w w' := by
 refine enter (n := 64) Tryz.func111 rfl rfl rfl ?_
 have H := HP.start w
 refine sr ?_; intro K1 hK1
 refine p_box (l := (numL X ++ (numL Y ++ numL Z))) H rfl ?_; clear H; intro w2 b3 H
 refine p_alloc (l := [.int .u64 0, .int .u64 0, .int .u64 0, .int .u64 0, .int .u64 0, .int .u64 0, .int .u64 0, .int .u64 0, .int .u64 0, .int .u64 0, .int .u64 0, .int .u64 0]) H tz152 rfl ?_; clear H; intro w5 b4 H
 refine xk hK1 ?_; try clear hK1 K1
 refine wp_seq_k ?_; intro K6 hK6
 apply wp_region_ext 12 (kinds [(4, .inl _), (9, .inl _), (10, .inr (NewAt _ [.int .u64 0, .int .u64 0, .int .u64 0, .int .u64 0] 24)), (11, .inr (NewAt _ [.int .u64 0, .int .u64 0, .int .u64 0, .int .u64 0] 24))]) rfl rfl (by kernel_rfl); intro vs8
 simp only [tkS, tkZ, drS, drZ]
 replace H := H.drew
 refine t_v (fun w hx => r_field fa152_2 rfl) ?_
 refine t_v (fun w hx => r_load (l := numL Z) tg24 (H.ext hx) rfl (k := 1) rfl rfl rfl) ?_
 refine t_v (fun w hx => r_field fa152_2 rfl) ?_
 refine t_v (fun w hx => r_load (l := numL Z) tg24 (H.ext hx) rfl (k := 1) rfl rfl rfl) ?_
 refine t_call (l := [(.agg (List.toArray _)), (.agg (List.toArray _))]) rfl rfl is108 rfl (fun w hx hF => (times_c _ _ lt2_CrvB lt2_CrvB _).mono (fun _ _ ⟨he, hx⟩ => ⟨he, hx⟩)) ?_
 refine t_v (fun w hx => r_field fa152_1 rfl) ?_
 refine t_v (fun w hx => r_load (l := numL Y) tg24 (H.ext hx) rfl (k := 1) rfl rfl rfl) ?_
 refine t_v (fun w hx => r_field fa152_1 rfl) ?_
 refine t_v (fun w hx => r_load (l := numL Y) tg24 (H.ext hx) rfl (k := 1) rfl rfl rfl) ?_
 refine t_call (l := [(.agg (List.toArray _)), (.agg (List.toArray _))]) rfl rfl is108 rfl (fun w hx hF => (times_c _ _ lt2_CrvB lt2_CrvB _).mono (fun _ _ ⟨he, hx⟩ => ⟨he, hx⟩)) ?_
 refine t_alloc rfl rfl tz24 rfl ?_
 refine t_alloc rfl rfl tz24 rfl ?_
 refine t_nil (fun w11 hx hF hA => ?_)
 obtain ⟨b9, eb9, hbb9, hhb9⟩ := fact_rel hF 10 rfl rfl; have hnb9 := HP.neL H hbb9; replace hbb9 := Nat.le_trans H.below.size hbb9
 obtain ⟨b10, eb10, hbb10, hhb10⟩ := fact_rel hF 11 rfl rfl; have hnb10 := HP.neL H hbb10; replace hbb10 := Nat.le_trans H.below.size hbb10
 replace H := H.ext hx
 replace H := HP.push1 H hbb9 hnb9 hhb9
 replace H := HP.push1 H hbb10 ⟨fun e => (hA 10 11 (by decide) (by decide) (by decide)).1 rfl rfl (by rw [eb9, eb10]; exact congrArg (fun z => Value.pointer (some ⟨z, 0, none⟩)) e), hnb10⟩ hhb10
 clear hbb9 hnb9 hhb9 hbb10 hnb10 hhb10
 clear hx hF hA
 refine p_storeW tg24 H eb9 (k := 1) rfl rfl rfl rfl rfl ?_; clear H; intro w12 H
 refine HP.name H (k := 1) rfl ?_; clear H; intro zz hzz H; have lzz : zz < two256 := by (rw [hzz]; first | exact fm_lt2 _ _ | exact fa_lt2 _ _ | exact fs_lt2 _ _ | exact fn_lt2 _)
 refine p_storeW tg24 H eb10 (k := 0) rfl rfl rfl rfl rfl ?_; clear H; intro w13 H
 refine HP.name H (k := 0) rfl ?_; clear H; intro yy hyy H; have lyy : yy < two256 := by (rw [hyy]; first | exact fm_lt2 _ _ | exact fa_lt2 _ _ | exact fs_lt2 _ _ | exact fn_lt2 _)
 refine wpList_nil ?_; refine on_norm ?_
 refine xn hK6 ?_; try clear hK6 K6
 refine wp_seq_k ?_; intro K14 hK14
 apply wp_region_ext 12 (kinds [(4, .inl _), (8, .inl _), (9, .inl _), (10, .inl _), (11, .inr (NewAt _ [.int .u64 0, .int .u64 0, .int .u64 0, .int .u64 0] 24))]) rfl rfl (by kernel_rfl); intro vs16
 simp only [tkS, tkZ, drS, drZ]
 replace H := H.drew
 refine t_v (fun w hx => r_as (l' := numL 3) (r_build (vals := [(0, (.int _ _))]) (l := [_, _, _, _]) tb24 rfl rfl) (num_lit 3 (by decide))) ?_
 refine t_v (fun w hx => r_field fa152_0 rfl) ?_
 refine t_v (fun w hx => r_load (l := numL X) tg24 (H.ext hx) rfl (k := 3) rfl rfl rfl) ?_
 refine t_v (fun w hx => r_loadW tg24 (H.ext hx) eb9 (k := 1) rfl rfl) ?_
 refine t_call (l := [(.agg (List.toArray _)), (.agg (List.toArray _))]) rfl rfl is109 rfl (fun w hx hF => (minus_c _ _ lt2_CrvB lt2_CrvB _).mono (fun _ _ ⟨he, hx⟩ => ⟨he, hx⟩)) ?_
 refine t_v (fun w hx => r_field fa152_0 rfl) ?_
 refine t_v (fun w hx => r_load (l := numL X) tg24 (H.ext hx) rfl (k := 3) rfl rfl rfl) ?_
 refine t_v (fun w hx => r_loadW tg24 (H.ext hx) eb9 (k := 1) rfl rfl) ?_
 refine t_call (l := [(.agg (List.toArray _)), (.agg (List.toArray _))]) rfl rfl is107 rfl (fun w hx hF => (plus_c _ _ lt2_CrvB lt2_CrvB _).mono (fun _ _ ⟨he, hx⟩ => ⟨he, hx⟩)) ?_
 refine t_call (l := [(.agg (List.toArray _)), (.agg (List.toArray _))]) rfl rfl is108 rfl (fun w hx hF => (times_c _ _ lt2_CrvB lt2_CrvB _).mono (fun _ _ ⟨he, hx⟩ => ⟨he, hx⟩)) ?_
 refine t_call (l := [(.agg (List.toArray _)), (.agg (List.toArray _))]) rfl rfl is108 rfl (fun w hx hF => (times_c _ _ lt2_CrvB lt2_CrvB _).mono (fun _ _ ⟨he, hx⟩ => ⟨he, hx⟩)) ?_
 refine t_alloc rfl rfl tz24 rfl ?_
 refine t_nil (fun w18 hx hF hA => ?_)
 obtain ⟨b17, eb17, hbb17, hhb17⟩ := fact_rel hF 11 rfl rfl; have hnb17 := HP.neL H hbb17; replace hbb17 := Nat.le_trans H.below.size hbb17
 replace H := H.ext hx
 replace H := HP.push1 H hbb17 hnb17 hhb17
 clear hbb17 hnb17 hhb17
 clear hx hF hA
 refine p_storeW tg24 H eb17 (k := 0) rfl rfl rfl rfl rfl ?_; clear H; intro w19 H
 refine HP.name H (k := 0) rfl ?_; clear H; intro m1 hm1 H; have lm1 : m1 < two256 := by (rw [hm1]; first | exact fm_lt2 _ _ | exact fa_lt2 _ _ | exact fs_lt2 _ _ | exact fn_lt2 _)
 refine wpList_nil ?_; refine on_norm ?_
 refine xn hK14 ?_; try clear hK14 K14
 refine sr ?_; intro K20 hK20
 refine p_val (r_as (l' := numL 4) (r_build (vals := [(0, (.int _ _))]) (l := [_, _, _, _]) tb24 rfl rfl) (num_lit 4 (by decide))) ?_
 refine p_val (r_field fa152_0 rfl) ?_
 refine p_val (r_load (l := numL X) tg24 H rfl (k := 4) rfl rfl rfl) ?_
 refine p_val (r_loadW tg24 H eb10 (k := 1) rfl rfl) ?_
 refine p_call (l := [(.agg (List.toArray _)), (.agg (List.toArray _))]) is108 rfl ?_
 refine (times_c _ _ lt2_CrvB lt2_CrvB _).mono ?_; rintro _ w21 ⟨rfl, hx⟩; replace H := H.ext hx; clear hx
 refine p_call (l := [(.agg (List.toArray _)), (.agg (List.toArray _))]) is108 rfl ?_
 refine (times_c _ _ lt2_CrvB lt2_CrvB _).mono ?_; rintro _ w22 ⟨rfl, hx⟩; replace H := H.ext hx; clear hx
 refine p_alloc (l := [.int .u64 0, .int .u64 0, .int .u64 0, .int .u64 0]) H tz24 rfl ?_; clear H; intro w24 b23 H
 refine p_storeW tg24 H rfl (k := 0) rfl rfl rfl rfl rfl ?_; clear H; intro w25 H
 refine HP.name H (k := 0) rfl ?_; clear H; intro s1 hs1 H; have ls1 : s1 < two256 := by (rw [hs1]; first | exact fm_lt2 _ _ | exact fa_lt2 _ _ | exact fs_lt2 _ _ | exact fn_lt2 _)
 refine xk hK20 ?_; try clear hK20 K20
 refine wp_seq_k ?_; intro K26 hK26
 apply wp_region_ext 8 (kinds [(2, .inl _), (5, .inl _), (6, .inl _), (7, .inr (NewAt _ [.int .u64 0, .int .u64 0, .int .u64 0, .int .u64 0] 24))]) rfl rfl (by kernel_rfl); intro vs28
 simp only [tkS, tkZ, drS, drZ]
 replace H := H.drew
 refine t_v (fun w hx => r_loadW tg24 (H.ext hx) eb17 (k := 1) rfl rfl) ?_
 refine t_v (fun w hx => r_loadW tg24 (H.ext hx) eb17 (k := 1) rfl rfl) ?_
 refine t_call (l := [(.agg (List.toArray _)), (.agg (List.toArray _))]) rfl rfl is108 rfl (fun w hx hF => (times_c _ _ lt2_CrvB lt2_CrvB _).mono (fun _ _ ⟨he, hx⟩ => ⟨he, hx⟩)) ?_
 refine t_v (fun w hx => r_loadW tg24 (H.ext hx) rfl (k := 0) rfl rfl) ?_
 refine t_v (fun w hx => r_loadW tg24 (H.ext hx) rfl (k := 0) rfl rfl) ?_
 refine t_call (l := [(.agg (List.toArray _)), (.agg (List.toArray _))]) rfl rfl is107 rfl (fun w hx hF => (plus_c _ _ lt2_CrvB lt2_CrvB _).mono (fun _ _ ⟨he, hx⟩ => ⟨he, hx⟩)) ?_
 refine t_call (l := [(.agg (List.toArray _)), (.agg (List.toArray _))]) rfl rfl is109 rfl (fun w hx hF => (minus_c _ _ lt2_CrvB lt2_CrvB _).mono (fun _ _ ⟨he, hx⟩ => ⟨he, hx⟩)) ?_
 refine t_alloc rfl rfl tz24 rfl ?_
 refine t_nil (fun w30 hx hF hA => ?_)
 obtain ⟨b29, eb29, hbb29, hhb29⟩ := fact_rel hF 7 rfl rfl; have hnb29 := HP.neL H hbb29; replace hbb29 := Nat.le_trans H.below.size hbb29
 replace H := H.ext hx
 replace H := HP.push1 H hbb29 hnb29 hhb29
 clear hbb29 hnb29 hhb29
 clear hx hF hA
 refine p_storeW tg24 H eb29 (k := 0) rfl rfl rfl rfl rfl ?_; clear H; intro w31 H
 refine HP.name H (k := 0) rfl ?_; clear H; intro x3 hx3 H; have lx3 : x3 < two256 := by (rw [hx3]; first | exact fm_lt2 _ _ | exact fa_lt2 _ _ | exact fs_lt2 _ _ | exact fn_lt2 _)
 refine wpList_nil ?_; refine on_norm ?_
 refine xn hK26 ?_; try clear hK26 K26
 refine wp_seq_k ?_; intro K32 hK32
 apply wp_region_ext 12 (kinds [(3, .inl _), (4, .inl _), (8, .inl _), (9, .inl _), (10, .inl _), (11, .inr (NewAt _ [.int .u64 0, .int .u64 0, .int .u64 0, .int .u64 0] 24))]) rfl rfl (by kernel_rfl); intro vs34
 simp only [tkS, tkZ, drS, drZ]
 replace H := H.drew
 refine t_v (fun w hx => r_loadW tg24 (H.ext hx) eb17 (k := 2) rfl rfl) ?_
 refine t_v (fun w hx => r_loadW tg24 (H.ext hx) rfl (k := 1) rfl rfl) ?_
 refine t_v (fun w hx => r_loadW tg24 (H.ext hx) eb29 (k := 0) rfl rfl) ?_
 refine t_call (l := [(.agg (List.toArray _)), (.agg (List.toArray _))]) rfl rfl is109 rfl (fun w hx hF => (minus_c _ _ lt2_CrvB lt2_CrvB _).mono (fun _ _ ⟨he, hx⟩ => ⟨he, hx⟩)) ?_
 refine t_call (l := [(.agg (List.toArray _)), (.agg (List.toArray _))]) rfl rfl is108 rfl (fun w hx hF => (times_c _ _ lt2_CrvB lt2_CrvB _).mono (fun _ _ ⟨he, hx⟩ => ⟨he, hx⟩)) ?_
 refine t_v (fun w hx => r_as (l' := numL 8) (r_build (vals := [(0, (.int _ _))]) (l := [_, _, _, _]) tb24 rfl rfl) (num_lit 8 (by decide))) ?_
 refine t_v (fun w hx => r_loadW tg24 (H.ext hx) eb10 (k := 3) rfl rfl) ?_
 refine t_v (fun w hx => r_loadW tg24 (H.ext hx) eb10 (k := 3) rfl rfl) ?_
 refine t_call (l := [(.agg (List.toArray _)), (.agg (List.toArray _))]) rfl rfl is108 rfl (fun w hx hF => (times_c _ _ lt2_CrvB lt2_CrvB _).mono (fun _ _ ⟨he, hx⟩ => ⟨he, hx⟩)) ?_
 refine t_call (l := [(.agg (List.toArray _)), (.agg (List.toArray _))]) rfl rfl is108 rfl (fun w hx hF => (times_c _ _ lt2_CrvB lt2_CrvB _).mono (fun _ _ ⟨he, hx⟩ => ⟨he, hx⟩)) ?_
 refine t_call (l := [(.agg (List.toArray _)), (.agg (List.toArray _))]) rfl rfl is109 rfl (fun w hx hF => (minus_c _ _ lt2_CrvB lt2_CrvB _).mono (fun _ _ ⟨he, hx⟩ => ⟨he, hx⟩)) ?_
 refine t_alloc rfl rfl tz24 rfl ?_
 refine t_nil (fun w36 hx hF hA => ?_)
 obtain ⟨b35, eb35, hbb35, hhb35⟩ := fact_rel hF 11 rfl rfl; have hnb35 := HP.neL H hbb35; replace hbb35 := Nat.le_trans H.below.size hbb35
 replace H := H.ext hx
 replace H := HP.push1 H hbb35 hnb35 hhb35
 clear hbb35 hnb35 hhb35
 clear hx hF hA
 refine p_storeW tg24 H eb35 (k := 0) rfl rfl rfl rfl rfl ?_; clear H; intro w37 H
 refine HP.name H (k := 0) rfl ?_; clear H; intro y3 hy3 H; have ly3 : y3 < two256 := by (rw [hy3]; first | exact fm_lt2 _ _ | exact fa_lt2 _ _ | exact fs_lt2 _ _ | exact fn_lt2 _)
 refine wpList_nil ?_; refine on_norm ?_
 refine xn hK32 ?_; try clear hK32 K32
 refine wp_seq_k ?_; intro K38 hK38
 apply wp_region_ext 10 (kinds [(7, .inl _), (8, .inl _)]) rfl rfl (by kernel_rfl); intro vs40
 simp only [tkS, tkZ, drS, drZ]
 replace H := H.drew
 refine t_v (fun w hx => r_loadW tg24 (H.ext hx) eb29 (k := 1) rfl rfl) ?_
 refine t_v (fun w hx => r_loadW tg24 (H.ext hx) eb35 (k := 0) rfl rfl) ?_
 refine t_v (fun w hx => r_as (l' := numL 2) (r_build (vals := [(0, (.int _ _))]) (l := [_, _, _, _]) tb24 rfl rfl) (num_lit 2 (by decide))) ?_
 refine t_v (fun w hx => r_field fa152_1 rfl) ?_
 refine t_v (fun w hx => r_load (l := numL Y) tg24 (H.ext hx) rfl (k := 7) rfl rfl rfl) ?_
 refine t_v (fun w hx => r_field fa152_2 rfl) ?_
 refine t_v (fun w hx => r_load (l := numL Z) tg24 (H.ext hx) rfl (k := 7) rfl rfl rfl) ?_
 refine t_call (l := [(.agg (List.toArray _)), (.agg (List.toArray _))]) rfl rfl is108 rfl (fun w hx hF => (times_c _ _ lt2_CrvB lt2_CrvB _).mono (fun _ _ ⟨he, hx⟩ => ⟨he, hx⟩)) ?_
 refine t_call (l := [(.agg (List.toArray _)), (.agg (List.toArray _))]) rfl rfl is108 rfl (fun w hx hF => (times_c _ _ lt2_CrvB lt2_CrvB _).mono (fun _ _ ⟨he, hx⟩ => ⟨he, hx⟩)) ?_
 refine t_v (fun w hx => r_build (vals := [(0, .agg (numL x3).toArray), (1, .agg (numL y3).toArray), (2, .agg (numL (fm 2 (fm Y Z))).toArray)]) (l := (numL x3 ++ (numL y3 ++ numL (fm 2 (fm Y Z))))) tb152 rfl rfl) ?_
 refine t_nil (fun w41 hx hF hA => ?_)
 replace H := H.ext hx
 clear hx hF hA
 refine p_storeW tg152 H rfl (k := 6) rfl rfl rfl rfl rfl ?_; clear H; intro w42 H
 refine wpList_nil ?_; refine on_norm ?_
 refine xn hK38 ?_; try clear hK38 K38
 refine wp_ret ?_
 refine e_1 rfl (q_cellW tg152 H rfl (k := 6) rfl rfl) ?_
 exact ⟨by rw [jtw_of hzz hyy hm1 hs1 hx3 hy3], H.below⟩
theorem ctwice_c (t : Tr) (h : TL t) (w : World) : Calls Tryz.prog 111 #[.agg (jcT t).toArray] w fun e w' => e = .returned (.agg (jcT (jtw t)).toArray) ∧ Ext w w' := ctwice_v t.1 t.2.1 t.2.2 h.1 h.2.1 h.2.2 w
set_option maxRecDepth 8000 in
set_option maxHeartbeats 800000 in
theorem cadd_v (X Y Z : Nat) (hX : X < two256) (hY : Y < two256) (hZ : Z < two256) (A B C : Nat) (hA : A < two256) (hB : B < two256) (hC : C < two256) (w : World) :
    Calls Tryz.prog 112 #[jcV X Y Z, jcV A B C] w fun e w' => e = .returned (.agg (jcT (jad (X, Y, Z) (A, B, C))).toArray) ∧ Ext w w' := by
 refine enter (n := 112) Tryz.func112 rfl rfl rfl ?_
 have H := HP.start w
 refine sr ?_; intro K1 hK1
 refine p_box (l := (numL X ++ (numL Y ++ numL Z))) H rfl ?_; clear H; intro w2 b3 H
 refine p_box (l := (numL A ++ (numL B ++ numL C))) H rfl ?_; clear H; intro w4 b5 H
 refine p_alloc (l := [.int .u64 0, .int .u64 0, .int .u64 0, .int .u64 0, .int .u64 0, .int .u64 0, .int .u64 0, .int .u64 0, .int .u64 0, .int .u64 0, .int .u64 0, .int .u64 0]) H tz152 rfl ?_; clear H; intro w7 b6 H
 refine xk hK1 ?_; try clear hK1 K1
 refine wp_seq_k ?_; intro K8 hK8
 refine sr ?_; intro K9 hK9
 refine p_val (r_field fa152_2 rfl) ?_
 refine p_val (r_load (l := numL Z) tg24 H rfl (k := 2) rfl rfl rfl) ?_
 refine p_val (r_as (l' := numL 0) (r_build (vals := []) (l := [_, _, _, _]) tb24 rfl rfl) (num_0)) ?_
 refine p_val (r_eqnum u24 u22 sz22 ag22 eg24 rfl rfl lt2_CrvB lt2_CrvB rfl) ?_
 refine xk hK9 ?_; try clear hK9 K9
 refine c_split (t := _) rfl (fun hc_1 => ?_) (fun hc_1 => ?_)
 ·skip
  refine sr ?_; intro K11 hK11
  refine p_val (r_loadW tg152 H rfl (k := 1) rfl rfl) ?_
  refine p_storeW tg152 H rfl (k := 0) rfl rfl rfl rfl rfl ?_; clear H; intro w12 H
  refine xk hK11 ?_; try clear hK11 K11
  refine wp_ret ?_
  refine x_ret ?_
  refine e_1 rfl (q_cellW tg152 H rfl (k := 0) rfl rfl) ?_
  exact ⟨by rw [jad_z1 (p := (X, Y, Z)) hc_1], H.below⟩
 ·skip
  refine wp_skip ?_
  refine xn hK8 ?_; try clear hK8 K8
  refine wp_seq_k ?_; intro K13 hK13
  refine sr ?_; intro K14 hK14
  refine p_val (r_field fa152_2 rfl) ?_
  refine p_val (r_load (l := numL C) tg24 H rfl (k := 1) rfl rfl rfl) ?_
  refine p_val (r_as (l' := numL 0) (r_build (vals := []) (l := [_, _, _, _]) tb24 rfl rfl) (num_0)) ?_
  refine p_val (r_eqnum u24 u22 sz22 ag22 eg24 rfl rfl lt2_CrvB lt2_CrvB rfl) ?_
  refine xk hK14 ?_; try clear hK14 K14
  refine c_split (t := _) rfl (fun hc_3 => ?_) (fun hc_3 => ?_)
  ·skip
   refine sr ?_; intro K16 hK16
   refine p_val (r_loadW tg152 H rfl (k := 2) rfl rfl) ?_
   refine p_storeW tg152 H rfl (k := 0) rfl rfl rfl rfl rfl ?_; clear H; intro w17 H
   refine xk hK16 ?_; try clear hK16 K16
   refine wp_ret ?_
   refine x_ret ?_
   refine e_1 rfl (q_cellW tg152 H rfl (k := 0) rfl rfl) ?_
   exact ⟨by rw [jad_z2 (p := (X, Y, Z)) (q := (A, B, C)) hc_1 hc_3], H.below⟩
  ·skip
   refine wp_skip ?_
   refine xn hK13 ?_; try clear hK13 K13
   refine wp_seq_k ?_; intro K18 hK18
   apply wp_region_ext 12 (kinds [(4, .inl _), (9, .inl _), (10, .inr (NewAt _ [.int .u64 0, .int .u64 0, .int .u64 0, .int .u64 0] 24)), (11, .inr (NewAt _ [.int .u64 0, .int .u64 0, .int .u64 0, .int .u64 0] 24))]) rfl rfl (by kernel_rfl); intro vs20
   simp only [tkS, tkZ, drS, drZ]
   replace H := H.drew
   refine t_v (fun w hx => r_field fa152_2 rfl) ?_
   refine t_v (fun w hx => r_load (l := numL Z) tg24 (H.ext hx) rfl (k := 2) rfl rfl rfl) ?_
   refine t_v (fun w hx => r_field fa152_2 rfl) ?_
   refine t_v (fun w hx => r_load (l := numL Z) tg24 (H.ext hx) rfl (k := 2) rfl rfl rfl) ?_
   refine t_call (l := [(.agg (List.toArray _)), (.agg (List.toArray _))]) rfl rfl is108 rfl (fun w hx hF => (times_c _ _ lt2_CrvB lt2_CrvB _).mono (fun _ _ ⟨he, hx⟩ => ⟨he, hx⟩)) ?_
   refine t_v (fun w hx => r_field fa152_2 rfl) ?_
   refine t_v (fun w hx => r_load (l := numL C) tg24 (H.ext hx) rfl (k := 1) rfl rfl rfl) ?_
   refine t_v (fun w hx => r_field fa152_2 rfl) ?_
   refine t_v (fun w hx => r_load (l := numL C) tg24 (H.ext hx) rfl (k := 1) rfl rfl rfl) ?_
   refine t_call (l := [(.agg (List.toArray _)), (.agg (List.toArray _))]) rfl rfl is108 rfl (fun w hx hF => (times_c _ _ lt2_CrvB lt2_CrvB _).mono (fun _ _ ⟨he, hx⟩ => ⟨he, hx⟩)) ?_
   refine t_alloc rfl rfl tz24 rfl ?_
   refine t_alloc rfl rfl tz24 rfl ?_
   refine t_nil (fun w23 hx hF hA => ?_)
   obtain ⟨b21, eb21, hbb21, hhb21⟩ := fact_rel hF 10 rfl rfl; have hnb21 := HP.neL H hbb21; replace hbb21 := Nat.le_trans H.below.size hbb21
   obtain ⟨b22, eb22, hbb22, hhb22⟩ := fact_rel hF 11 rfl rfl; have hnb22 := HP.neL H hbb22; replace hbb22 := Nat.le_trans H.below.size hbb22
   replace H := H.ext hx
   replace H := HP.push1 H hbb21 hnb21 hhb21
   replace H := HP.push1 H hbb22 ⟨fun e => (hA 10 11 (by decide) (by decide) (by decide)).1 rfl rfl (by rw [eb21, eb22]; exact congrArg (fun z => Value.pointer (some ⟨z, 0, none⟩)) e), hnb22⟩ hhb22
   clear hbb21 hnb21 hhb21 hbb22 hnb22 hhb22
   clear hx hF hA
   refine p_storeW tg24 H eb21 (k := 1) rfl rfl rfl rfl rfl ?_; clear H; intro w24 H
   refine HP.name H (k := 1) rfl ?_; clear H; intro pz hpz H; have lpz : pz < two256 := by (rw [hpz]; first | exact fm_lt2 _ _ | exact fa_lt2 _ _ | exact fs_lt2 _ _ | exact fn_lt2 _)
   refine p_storeW tg24 H eb22 (k := 0) rfl rfl rfl rfl rfl ?_; clear H; intro w25 H
   refine HP.name H (k := 0) rfl ?_; clear H; intro qz hqz H; have lqz : qz < two256 := by (rw [hqz]; first | exact fm_lt2 _ _ | exact fa_lt2 _ _ | exact fs_lt2 _ _ | exact fn_lt2 _)
   refine wpList_nil ?_; refine on_norm ?_
   refine xn hK18 ?_; try clear hK18 K18
   refine wp_seq_k ?_; intro K26 hK26
   apply wp_region_ext 10 (kinds [(3, .inl _), (7, .inl _), (8, .inr (NewAt _ [.int .u64 0, .int .u64 0, .int .u64 0, .int .u64 0] 24)), (9, .inr (NewAt _ [.int .u64 0, .int .u64 0, .int .u64 0, .int .u64 0] 24))]) rfl rfl (by kernel_rfl); intro vs28
   simp only [tkS, tkZ, drS, drZ]
   replace H := H.drew
   refine t_v (fun w hx => r_field fa152_0 rfl) ?_
   refine t_v (fun w hx => r_load (l := numL X) tg24 (H.ext hx) rfl (k := 4) rfl rfl rfl) ?_
   refine t_v (fun w hx => r_loadW tg24 (H.ext hx) eb22 (k := 0) rfl rfl) ?_
   refine t_call (l := [(.agg (List.toArray _)), (.agg (List.toArray _))]) rfl rfl is108 rfl (fun w hx hF => (times_c _ _ lt2_CrvB lt2_CrvB _).mono (fun _ _ ⟨he, hx⟩ => ⟨he, hx⟩)) ?_
   refine t_v (fun w hx => r_field fa152_0 rfl) ?_
   refine t_v (fun w hx => r_load (l := numL A) tg24 (H.ext hx) rfl (k := 3) rfl rfl rfl) ?_
   refine t_v (fun w hx => r_loadW tg24 (H.ext hx) eb21 (k := 1) rfl rfl) ?_
   refine t_call (l := [(.agg (List.toArray _)), (.agg (List.toArray _))]) rfl rfl is108 rfl (fun w hx hF => (times_c _ _ lt2_CrvB lt2_CrvB _).mono (fun _ _ ⟨he, hx⟩ => ⟨he, hx⟩)) ?_
   refine t_alloc rfl rfl tz24 rfl ?_
   refine t_alloc rfl rfl tz24 rfl ?_
   refine t_nil (fun w31 hx hF hA => ?_)
   obtain ⟨b29, eb29, hbb29, hhb29⟩ := fact_rel hF 8 rfl rfl; have hnb29 := HP.neL H hbb29; replace hbb29 := Nat.le_trans H.below.size hbb29
   obtain ⟨b30, eb30, hbb30, hhb30⟩ := fact_rel hF 9 rfl rfl; have hnb30 := HP.neL H hbb30; replace hbb30 := Nat.le_trans H.below.size hbb30
   replace H := H.ext hx
   replace H := HP.push1 H hbb29 hnb29 hhb29
   replace H := HP.push1 H hbb30 ⟨fun e => (hA 8 9 (by decide) (by decide) (by decide)).1 rfl rfl (by rw [eb29, eb30]; exact congrArg (fun z => Value.pointer (some ⟨z, 0, none⟩)) e), hnb30⟩ hhb30
   clear hbb29 hnb29 hhb29 hbb30 hnb30 hhb30
   clear hx hF hA
   refine p_storeW tg24 H eb29 (k := 1) rfl rfl rfl rfl rfl ?_; clear H; intro w32 H
   refine HP.name H (k := 1) rfl ?_; clear H; intro u hu H; have lu : u < two256 := by (rw [hu]; first | exact fm_lt2 _ _ | exact fa_lt2 _ _ | exact fs_lt2 _ _ | exact fn_lt2 _)
   refine p_storeW tg24 H eb30 (k := 0) rfl rfl rfl rfl rfl ?_; clear H; intro w33 H
   refine HP.name H (k := 0) rfl ?_; clear H; intro v hv H; have lv : v < two256 := by (rw [hv]; first | exact fm_lt2 _ _ | exact fa_lt2 _ _ | exact fs_lt2 _ _ | exact fn_lt2 _)
   refine wpList_nil ?_; refine on_norm ?_
   refine xn hK26 ?_; try clear hK26 K26
   refine wp_seq_k ?_; intro K34 hK34
   apply wp_region_ext 16 (kinds [(5, .inl _), (6, .inl _), (12, .inl _), (13, .inl _), (14, .inr (NewAt _ [.int .u64 0, .int .u64 0, .int .u64 0, .int .u64 0] 24)), (15, .inr (NewAt _ [.int .u64 0, .int .u64 0, .int .u64 0, .int .u64 0] 24))]) rfl rfl (by kernel_rfl); intro vs36
   simp only [tkS, tkZ, drS, drZ]
   replace H := H.drew
   refine t_v (fun w hx => r_field fa152_1 rfl) ?_
   refine t_v (fun w hx => r_load (l := numL Y) tg24 (H.ext hx) rfl (k := 6) rfl rfl rfl) ?_
   refine t_v (fun w hx => r_loadW tg24 (H.ext hx) eb22 (k := 2) rfl rfl) ?_
   refine t_v (fun w hx => r_field fa152_2 rfl) ?_
   refine t_v (fun w hx => r_load (l := numL C) tg24 (H.ext hx) rfl (k := 5) rfl rfl rfl) ?_
   refine t_call (l := [(.agg (List.toArray _)), (.agg (List.toArray _))]) rfl rfl is108 rfl (fun w hx hF => (times_c _ _ lt2_CrvB lt2_CrvB _).mono (fun _ _ ⟨he, hx⟩ => ⟨he, hx⟩)) ?_
   refine t_call (l := [(.agg (List.toArray _)), (.agg (List.toArray _))]) rfl rfl is108 rfl (fun w hx hF => (times_c _ _ lt2_CrvB lt2_CrvB _).mono (fun _ _ ⟨he, hx⟩ => ⟨he, hx⟩)) ?_
   refine t_v (fun w hx => r_field fa152_1 rfl) ?_
   refine t_v (fun w hx => r_load (l := numL B) tg24 (H.ext hx) rfl (k := 5) rfl rfl rfl) ?_
   refine t_v (fun w hx => r_loadW tg24 (H.ext hx) eb21 (k := 3) rfl rfl) ?_
   refine t_v (fun w hx => r_field fa152_2 rfl) ?_
   refine t_v (fun w hx => r_load (l := numL Z) tg24 (H.ext hx) rfl (k := 6) rfl rfl rfl) ?_
   refine t_call (l := [(.agg (List.toArray _)), (.agg (List.toArray _))]) rfl rfl is108 rfl (fun w hx hF => (times_c _ _ lt2_CrvB lt2_CrvB _).mono (fun _ _ ⟨he, hx⟩ => ⟨he, hx⟩)) ?_
   refine t_call (l := [(.agg (List.toArray _)), (.agg (List.toArray _))]) rfl rfl is108 rfl (fun w hx hF => (times_c _ _ lt2_CrvB lt2_CrvB _).mono (fun _ _ ⟨he, hx⟩ => ⟨he, hx⟩)) ?_
   refine t_alloc rfl rfl tz24 rfl ?_
   refine t_alloc rfl rfl tz24 rfl ?_
   refine t_nil (fun w39 hx hF hA => ?_)
   obtain ⟨b37, eb37, hbb37, hhb37⟩ := fact_rel hF 14 rfl rfl; have hnb37 := HP.neL H hbb37; replace hbb37 := Nat.le_trans H.below.size hbb37
   obtain ⟨b38, eb38, hbb38, hhb38⟩ := fact_rel hF 15 rfl rfl; have hnb38 := HP.neL H hbb38; replace hbb38 := Nat.le_trans H.below.size hbb38
   replace H := H.ext hx
   replace H := HP.push1 H hbb37 hnb37 hhb37
   replace H := HP.push1 H hbb38 ⟨fun e => (hA 14 15 (by decide) (by decide) (by decide)).1 rfl rfl (by rw [eb37, eb38]; exact congrArg (fun z => Value.pointer (some ⟨z, 0, none⟩)) e), hnb38⟩ hhb38
   clear hbb37 hnb37 hhb37 hbb38 hnb38 hhb38
   clear hx hF hA
   refine p_storeW tg24 H eb37 (k := 1) rfl rfl rfl rfl rfl ?_; clear H; intro w40 H
   refine HP.name H (k := 1) rfl ?_; clear H; intro s1 hs1 H; have ls1 : s1 < two256 := by (rw [hs1]; first | exact fm_lt2 _ _ | exact fa_lt2 _ _ | exact fs_lt2 _ _ | exact fn_lt2 _)
   refine p_storeW tg24 H eb38 (k := 0) rfl rfl rfl rfl rfl ?_; clear H; intro w41 H
   refine HP.name H (k := 0) rfl ?_; clear H; intro t1 ht1 H; have lt1 : t1 < two256 := by (rw [ht1]; first | exact fm_lt2 _ _ | exact fa_lt2 _ _ | exact fs_lt2 _ _ | exact fn_lt2 _)
   refine wpList_nil ?_; refine on_norm ?_
   refine xn hK34 ?_; try clear hK34 K34
   refine wp_seq_k ?_; intro K42 hK42
   apply wp_region_ext 8 (kinds [(2, .inl _), (5, .inl _), (6, .inr (NewAt _ [.int .u64 0, .int .u64 0, .int .u64 0, .int .u64 0] 24)), (7, .inr (NewAt _ [.int .u64 0, .int .u64 0, .int .u64 0, .int .u64 0] 24))]) rfl rfl (by kernel_rfl); intro vs44
   simp only [tkS, tkZ, drS, drZ]
   replace H := H.drew
   refine t_v (fun w hx => r_loadW tg24 (H.ext hx) eb30 (k := 2) rfl rfl) ?_
   refine t_v (fun w hx => r_loadW tg24 (H.ext hx) eb29 (k := 3) rfl rfl) ?_
   refine t_call (l := [(.agg (List.toArray _)), (.agg (List.toArray _))]) rfl rfl is109 rfl (fun w hx hF => (minus_c _ _ lt2_CrvB lt2_CrvB _).mono (fun _ _ ⟨he, hx⟩ => ⟨he, hx⟩)) ?_
   refine t_v (fun w hx => r_loadW tg24 (H.ext hx) eb38 (k := 0) rfl rfl) ?_
   refine t_v (fun w hx => r_loadW tg24 (H.ext hx) eb37 (k := 1) rfl rfl) ?_
   refine t_call (l := [(.agg (List.toArray _)), (.agg (List.toArray _))]) rfl rfl is109 rfl (fun w hx hF => (minus_c _ _ lt2_CrvB lt2_CrvB _).mono (fun _ _ ⟨he, hx⟩ => ⟨he, hx⟩)) ?_
   refine t_alloc rfl rfl tz24 rfl ?_
   refine t_alloc rfl rfl tz24 rfl ?_
   refine t_nil (fun w47 hx hF hA => ?_)
   obtain ⟨b45, eb45, hbb45, hhb45⟩ := fact_rel hF 6 rfl rfl; have hnb45 := HP.neL H hbb45; replace hbb45 := Nat.le_trans H.below.size hbb45
   obtain ⟨b46, eb46, hbb46, hhb46⟩ := fact_rel hF 7 rfl rfl; have hnb46 := HP.neL H hbb46; replace hbb46 := Nat.le_trans H.below.size hbb46
   replace H := H.ext hx
   replace H := HP.push1 H hbb45 hnb45 hhb45
   replace H := HP.push1 H hbb46 ⟨fun e => (hA 6 7 (by decide) (by decide) (by decide)).1 rfl rfl (by rw [eb45, eb46]; exact congrArg (fun z => Value.pointer (some ⟨z, 0, none⟩)) e), hnb46⟩ hhb46
   clear hbb45 hnb45 hhb45 hbb46 hnb46 hhb46
   clear hx hF hA
   refine p_storeW tg24 H eb45 (k := 1) rfl rfl rfl rfl rfl ?_; clear H; intro w48 H
   refine HP.name H (k := 1) rfl ?_; clear H; intro hd hhd H; have lhd : hd < two256 := by (rw [hhd]; first | exact fm_lt2 _ _ | exact fa_lt2 _ _ | exact fs_lt2 _ _ | exact fn_lt2 _)
   refine p_storeW tg24 H eb46 (k := 0) rfl rfl rfl rfl rfl ?_; clear H; intro w49 H
   refine HP.name H (k := 0) rfl ?_; clear H; intro rd hrd H; have lrd : rd < two256 := by (rw [hrd]; first | exact fm_lt2 _ _ | exact fa_lt2 _ _ | exact fs_lt2 _ _ | exact fn_lt2 _)
   refine wpList_nil ?_; refine on_norm ?_
   refine xn hK42 ?_; try clear hK42 K42
   refine wp_seq_k ?_; intro K50 hK50
   refine sr ?_; intro K51 hK51
   refine p_val (r_loadW tg24 H eb45 (k := 1) rfl rfl) ?_
   refine p_val (r_as (l' := numL 0) (r_build (vals := []) (l := [_, _, _, _]) tb24 rfl rfl) (num_0)) ?_
   refine p_val (r_eqnum u24 u22 sz22 ag22 eg24 rfl rfl lt2_CrvB lt2_CrvB rfl) ?_
   refine xk hK51 ?_; try clear hK51 K51
   refine c_split (t := _) rfl (fun hc_9 => ?_) (fun hc_9 => ?_)
   ·skip
    refine wp_seq_k ?_; intro K53 hK53
    refine sr ?_; intro K54 hK54
    refine p_val (r_loadW tg24 H eb46 (k := 0) rfl rfl) ?_
    refine p_val (r_as (l' := numL 0) (r_build (vals := []) (l := [_, _, _, _]) tb24 rfl rfl) (num_0)) ?_
    refine p_val (r_eqnum u24 u22 sz22 ag22 eg24 rfl rfl lt2_CrvB lt2_CrvB rfl) ?_
    refine xk hK54 ?_; try clear hK54 K54
    refine c_split (t := _) rfl (fun hc_10 => ?_) (fun hc_10 => ?_)
    ·skip
     refine sr ?_; intro K56 hK56
     refine p_val (r_loadW tg152 H rfl (k := 10) rfl rfl) ?_
     refine p_call (l := [(.agg (List.toArray _))]) is111 rfl ?_
     refine (ctwice_c (X, Y, Z) (by repeat (first | assumption | exact TL_0 | exact TL_jtw _ | exact TL_jof (by assumption) (by assumption) | exact ⟨by assumption, by assumption, by assumption⟩ | refine TL_jad ?_ ?_ | refine TL_jmul ?_ _)) _).mono ?_; rintro _ w57 ⟨rfl, hx⟩; replace H := H.ext hx; clear hx
     refine p_storeW tg152 H rfl (k := 8) rfl rfl rfl rfl rfl ?_; clear H; intro w58 H
     refine xk hK56 ?_; try clear hK56 K56
     refine wp_ret ?_
     refine x_ret ?_
     refine x_ret ?_
     refine e_1 rfl (q_cellW tg152 H rfl (k := 8) rfl rfl) ?_
     exact ⟨by rw [jad_of hc_1 hc_3 hpz hqz hu hv hs1 ht1 hhd hrd, jad2_t hc_9 hc_10], H.below⟩
    ·skip
     refine wp_skip ?_
     refine xn hK53 ?_; try clear hK53 K53
     refine sr ?_; intro K59 hK59
     refine p_val (r_as (l' := (numL 0 ++ (numL 0 ++ numL 0))) (r_build (vals := []) (l := ([.int .u64 0, .int .u64 0, .int .u64 0, .int .u64 0] ++ ([.int .u64 0, .int .u64 0, .int .u64 0, .int .u64 0] ++ [.int .u64 0, .int .u64 0, .int .u64 0, .int .u64 0]))) tb152 rfl rfl) (by rw [num_0])) ?_
     refine p_storeW tg152 H rfl (k := 8) rfl rfl rfl rfl rfl ?_; clear H; intro w60 H
     refine xk hK59 ?_; try clear hK59 K59
     refine wp_ret ?_
     refine x_ret ?_
     refine e_1 rfl (q_cellW tg152 H rfl (k := 8) rfl rfl) ?_
     exact ⟨by rw [jad_of hc_1 hc_3 hpz hqz hu hv hs1 ht1 hhd hrd, jad2_0 hc_9 hc_10], H.below⟩
   ·skip
    refine wp_skip ?_
    refine xn hK50 ?_; try clear hK50 K50
    refine sr ?_; intro K61 hK61
    refine p_val (r_loadW tg24 H eb45 (k := 1) rfl rfl) ?_
    refine p_val (r_loadW tg24 H eb45 (k := 1) rfl rfl) ?_
    refine p_call (l := [(.agg (List.toArray _)), (.agg (List.toArray _))]) is108 rfl ?_
    refine (times_c _ _ lt2_CrvB lt2_CrvB _).mono ?_; rintro _ w62 ⟨rfl, hx⟩; replace H := H.ext hx; clear hx
    refine p_alloc (l := [.int .u64 0, .int .u64 0, .int .u64 0, .int .u64 0]) H tz24 rfl ?_; clear H; intro w64 b63 H
    refine p_storeW tg24 H rfl (k := 0) rfl rfl rfl rfl rfl ?_; clear H; intro w65 H
    refine HP.name H (k := 0) rfl ?_; clear H; intro h2 hh2 H; have lh2 : h2 < two256 := by (rw [hh2]; first | exact fm_lt2 _ _ | exact fa_lt2 _ _ | exact fs_lt2 _ _ | exact fn_lt2 _)
    refine xk hK61 ?_; try clear hK61 K61
    refine wp_seq_k ?_; intro K66 hK66
    apply wp_region_ext 8 (kinds [(2, .inl _), (5, .inl _), (6, .inr (NewAt _ [.int .u64 0, .int .u64 0, .int .u64 0, .int .u64 0] 24)), (7, .inr (NewAt _ [.int .u64 0, .int .u64 0, .int .u64 0, .int .u64 0] 24))]) rfl rfl (by kernel_rfl); intro vs68
    simp only [tkS, tkZ, drS, drZ]
    replace H := H.drew
    refine t_v (fun w hx => r_loadW tg24 (H.ext hx) eb45 (k := 2) rfl rfl) ?_
    refine t_v (fun w hx => r_loadW tg24 (H.ext hx) rfl (k := 0) rfl rfl) ?_
    refine t_call (l := [(.agg (List.toArray _)), (.agg (List.toArray _))]) rfl rfl is108 rfl (fun w hx hF => (times_c _ _ lt2_CrvB lt2_CrvB _).mono (fun _ _ ⟨he, hx⟩ => ⟨he, hx⟩)) ?_
    refine t_v (fun w hx => r_loadW tg24 (H.ext hx) eb29 (k := 6) rfl rfl) ?_
    refine t_v (fun w hx => r_loadW tg24 (H.ext hx) rfl (k := 0) rfl rfl) ?_
    refine t_call (l := [(.agg (List.toArray _)), (.agg (List.toArray _))]) rfl rfl is108 rfl (fun w hx hF => (times_c _ _ lt2_CrvB lt2_CrvB _).mono (fun _ _ ⟨he, hx⟩ => ⟨he, hx⟩)) ?_
    refine t_alloc rfl rfl tz24 rfl ?_
    refine t_alloc rfl rfl tz24 rfl ?_
    refine t_nil (fun w71 hx hF hA => ?_)
    obtain ⟨b69, eb69, hbb69, hhb69⟩ := fact_rel hF 6 rfl rfl; have hnb69 := HP.neL H hbb69; replace hbb69 := Nat.le_trans H.below.size hbb69
    obtain ⟨b70, eb70, hbb70, hhb70⟩ := fact_rel hF 7 rfl rfl; have hnb70 := HP.neL H hbb70; replace hbb70 := Nat.le_trans H.below.size hbb70
    replace H := H.ext hx
    replace H := HP.push1 H hbb69 hnb69 hhb69
    replace H := HP.push1 H hbb70 ⟨fun e => (hA 6 7 (by decide) (by decide) (by decide)).1 rfl rfl (by rw [eb69, eb70]; exact congrArg (fun z => Value.pointer (some ⟨z, 0, none⟩)) e), hnb70⟩ hhb70
    clear hbb69 hnb69 hhb69 hbb70 hnb70 hhb70
    clear hx hF hA
    refine p_storeW tg24 H eb69 (k := 1) rfl rfl rfl rfl rfl ?_; clear H; intro w72 H
    refine HP.name H (k := 1) rfl ?_; clear H; intro h3 hh3 H; have lh3 : h3 < two256 := by (rw [hh3]; first | exact fm_lt2 _ _ | exact fa_lt2 _ _ | exact fs_lt2 _ _ | exact fn_lt2 _)
    refine p_storeW tg24 H eb70 (k := 0) rfl rfl rfl rfl rfl ?_; clear H; intro w73 H
    refine HP.name H (k := 0) rfl ?_; clear H; intro uh huh H; have luh : uh < two256 := by (rw [huh]; first | exact fm_lt2 _ _ | exact fa_lt2 _ _ | exact fs_lt2 _ _ | exact fn_lt2 _)
    refine wpList_nil ?_; refine on_norm ?_
    refine xn hK66 ?_; try clear hK66 K66
    refine wp_seq_k ?_; intro K74 hK74
    apply wp_region_ext 10 (kinds [(2, .inl _), (4, .inl _), (7, .inl _), (8, .inl _), (9, .inr (NewAt _ [.int .u64 0, .int .u64 0, .int .u64 0, .int .u64 0] 24))]) rfl rfl (by kernel_rfl); intro vs76
    simp only [tkS, tkZ, drS, drZ]
    replace H := H.drew
    refine t_v (fun w hx => r_loadW tg24 (H.ext hx) eb46 (k := 3) rfl rfl) ?_
    refine t_v (fun w hx => r_loadW tg24 (H.ext hx) eb46 (k := 3) rfl rfl) ?_
    refine t_call (l := [(.agg (List.toArray _)), (.agg (List.toArray _))]) rfl rfl is108 rfl (fun w hx hF => (times_c _ _ lt2_CrvB lt2_CrvB _).mono (fun _ _ ⟨he, hx⟩ => ⟨he, hx⟩)) ?_
    refine t_v (fun w hx => r_loadW tg24 (H.ext hx) eb69 (k := 1) rfl rfl) ?_
    refine t_call (l := [(.agg (List.toArray _)), (.agg (List.toArray _))]) rfl rfl is109 rfl (fun w hx hF => (minus_c _ _ lt2_CrvB lt2_CrvB _).mono (fun _ _ ⟨he, hx⟩ => ⟨he, hx⟩)) ?_
    refine t_v (fun w hx => r_loadW tg24 (H.ext hx) eb70 (k := 0) rfl rfl) ?_
    refine t_v (fun w hx => r_loadW tg24 (H.ext hx) eb70 (k := 0) rfl rfl) ?_
    refine t_call (l := [(.agg (List.toArray _)), (.agg (List.toArray _))]) rfl rfl is107 rfl (fun w hx hF => (plus_c _ _ lt2_CrvB lt2_CrvB _).mono (fun _ _ ⟨he, hx⟩ => ⟨he, hx⟩)) ?_
    refine t_call (l := [(.agg (List.toArray _)), (.agg (List.toArray _))]) rfl rfl is109 rfl (fun w hx hF => (minus_c _ _ lt2_CrvB lt2_CrvB _).mono (fun _ _ ⟨he, hx⟩ => ⟨he, hx⟩)) ?_
    refine t_alloc rfl rfl tz24 rfl ?_
    refine t_nil (fun w78 hx hF hA => ?_)
    obtain ⟨b77, eb77, hbb77, hhb77⟩ := fact_rel hF 9 rfl rfl; have hnb77 := HP.neL H hbb77; replace hbb77 := Nat.le_trans H.below.size hbb77
    replace H := H.ext hx
    replace H := HP.push1 H hbb77 hnb77 hhb77
    clear hbb77 hnb77 hhb77
    clear hx hF hA
    refine p_storeW tg24 H eb77 (k := 0) rfl rfl rfl rfl rfl ?_; clear H; intro w79 H
    refine HP.name H (k := 0) rfl ?_; clear H; intro x3 hx3 H; have lx3 : x3 < two256 := by (rw [hx3]; first | exact fm_lt2 _ _ | exact fa_lt2 _ _ | exact fs_lt2 _ _ | exact fn_lt2 _)
    refine wpList_nil ?_; refine on_norm ?_
    refine xn hK74 ?_; try clear hK74 K74
    refine wp_seq_k ?_; intro K80 hK80
    apply wp_region_ext 10 (kinds [(3, .inl _), (4, .inl _), (7, .inl _), (8, .inl _), (9, .inr (NewAt _ [.int .u64 0, .int .u64 0, .int .u64 0, .int .u64 0] 24))]) rfl rfl (by kernel_rfl); intro vs82
    simp only [tkS, tkZ, drS, drZ]
    replace H := H.drew
    refine t_v (fun w hx => r_loadW tg24 (H.ext hx) eb46 (k := 4) rfl rfl) ?_
    refine t_v (fun w hx => r_loadW tg24 (H.ext hx) eb70 (k := 1) rfl rfl) ?_
    refine t_v (fun w hx => r_loadW tg24 (H.ext hx) eb77 (k := 0) rfl rfl) ?_
    refine t_call (l := [(.agg (List.toArray _)), (.agg (List.toArray _))]) rfl rfl is109 rfl (fun w hx hF => (minus_c _ _ lt2_CrvB lt2_CrvB _).mono (fun _ _ ⟨he, hx⟩ => ⟨he, hx⟩)) ?_
    refine t_call (l := [(.agg (List.toArray _)), (.agg (List.toArray _))]) rfl rfl is108 rfl (fun w hx hF => (times_c _ _ lt2_CrvB lt2_CrvB _).mono (fun _ _ ⟨he, hx⟩ => ⟨he, hx⟩)) ?_
    refine t_v (fun w hx => r_loadW tg24 (H.ext hx) eb37 (k := 7) rfl rfl) ?_
    refine t_v (fun w hx => r_loadW tg24 (H.ext hx) eb69 (k := 2) rfl rfl) ?_
    refine t_call (l := [(.agg (List.toArray _)), (.agg (List.toArray _))]) rfl rfl is108 rfl (fun w hx hF => (times_c _ _ lt2_CrvB lt2_CrvB _).mono (fun _ _ ⟨he, hx⟩ => ⟨he, hx⟩)) ?_
    refine t_call (l := [(.agg (List.toArray _)), (.agg (List.toArray _))]) rfl rfl is109 rfl (fun w hx hF => (minus_c _ _ lt2_CrvB lt2_CrvB _).mono (fun _ _ ⟨he, hx⟩ => ⟨he, hx⟩)) ?_
    refine t_alloc rfl rfl tz24 rfl ?_
    refine t_nil (fun w84 hx hF hA => ?_)
    obtain ⟨b83, eb83, hbb83, hhb83⟩ := fact_rel hF 9 rfl rfl; have hnb83 := HP.neL H hbb83; replace hbb83 := Nat.le_trans H.below.size hbb83
    replace H := H.ext hx
    replace H := HP.push1 H hbb83 hnb83 hhb83
    clear hbb83 hnb83 hhb83
    clear hx hF hA
    refine p_storeW tg24 H eb83 (k := 0) rfl rfl rfl rfl rfl ?_; clear H; intro w85 H
    refine HP.name H (k := 0) rfl ?_; clear H; intro y3 hy3 H; have ly3 : y3 < two256 := by (rw [hy3]; first | exact fm_lt2 _ _ | exact fa_lt2 _ _ | exact fs_lt2 _ _ | exact fn_lt2 _)
    refine wpList_nil ?_; refine on_norm ?_
    refine xn hK80 ?_; try clear hK80 K80
    refine wp_seq_k ?_; intro K86 hK86
    apply wp_region_ext 10 (kinds [(7, .inl _), (8, .inl _)]) rfl rfl (by kernel_rfl); intro vs88
    simp only [tkS, tkZ, drS, drZ]
    replace H := H.drew
    refine t_v (fun w hx => r_loadW tg24 (H.ext hx) eb77 (k := 1) rfl rfl) ?_
    refine t_v (fun w hx => r_loadW tg24 (H.ext hx) eb83 (k := 0) rfl rfl) ?_
    refine t_v (fun w hx => r_loadW tg24 (H.ext hx) eb45 (k := 6) rfl rfl) ?_
    refine t_v (fun w hx => r_field fa152_2 rfl) ?_
    refine t_v (fun w hx => r_load (l := numL Z) tg24 (H.ext hx) rfl (k := 15) rfl rfl rfl) ?_
    refine t_v (fun w hx => r_field fa152_2 rfl) ?_
    refine t_v (fun w hx => r_load (l := numL C) tg24 (H.ext hx) rfl (k := 14) rfl rfl rfl) ?_
    refine t_call (l := [(.agg (List.toArray _)), (.agg (List.toArray _))]) rfl rfl is108 rfl (fun w hx hF => (times_c _ _ lt2_CrvB lt2_CrvB _).mono (fun _ _ ⟨he, hx⟩ => ⟨he, hx⟩)) ?_
    refine t_call (l := [(.agg (List.toArray _)), (.agg (List.toArray _))]) rfl rfl is108 rfl (fun w hx hF => (times_c _ _ lt2_CrvB lt2_CrvB _).mono (fun _ _ ⟨he, hx⟩ => ⟨he, hx⟩)) ?_
    refine t_v (fun w hx => r_build (vals := [(0, .agg (numL x3).toArray), (1, .agg (numL y3).toArray), (2, .agg (numL (fm hd (fm Z C))).toArray)]) (l := (numL x3 ++ (numL y3 ++ numL (fm hd (fm Z C))))) tb152 rfl rfl) ?_
    refine t_nil (fun w89 hx hF hA => ?_)
    replace H := H.ext hx
    clear hx hF hA
    refine p_storeW tg152 H rfl (k := 13) rfl rfl rfl rfl rfl ?_; clear H; intro w90 H
    refine wpList_nil ?_; refine on_norm ?_
    refine xn hK86 ?_; try clear hK86 K86
    refine wp_ret ?_
    refine e_1 rfl (q_cellW tg152 H rfl (k := 13) rfl rfl) ?_
    exact ⟨by rw [jad_of hc_1 hc_3 hpz hqz hu hv hs1 ht1 hhd hrd, jad2_of hc_9 hh2 hh3 huh hx3 hy3], H.below⟩
theorem cadd_j (t s : Tr) (h : TL t) (h' : TL s) (w : World) : Calls Tryz.prog 112 #[.agg (jcT t).toArray, .agg (jcT s).toArray] w fun e w' => e = .returned (.agg (jcT (jad t s)).toArray) ∧ Ext w w' := cadd_v t.1 t.2.1 t.2.2 h.1 h.2.1 h.2.2 s.1 s.2.1 s.2.2 h'.1 h'.2.1 h'.2.2 w
end Go.Proofs.YtmbcolbbekbccaaGreat
namespace Go.Proofs.YtmbcolbbekbccaaGreat
open Go Go.RowKit
theorem lt2_CrvC {x : Nat} (h : x < two256 := by first | exact Nat.mod_lt _ two256_pos | exact Mod.lt (mod_modN _) | assumption | exact onceN_lt (by assumption) | exact Nat.lt_trans (Nat.mod_lt _ (mod_modN _).pos) (mod_modN _).lt | exact ofV_lt2 _ _ | exact invV_lt2 _ _ | exact fm_lt2 _ _ | exact fa_lt2 _ _ | exact fs_lt2 _ _ | exact fn_lt2 _ | exact PP_lt | exact AL_GG.1 | exact AL_GG.2 | exact (AL_cadd _ _).1 | exact (AL_cadd _ _).2 | exact (AL_cmul _ _).1 | exact (AL_cmul _ _).2 | exact (AL_cofV _).1 | exact (AL_cofV _).2 | exact (AL_cneg (by assumption)).1 | exact (AL_cneg (by assumption)).2 | exact lt_lit (by decide)) : x < two256 := h
attribute [local irreducible] wpList wpT Code.wp Calls Code.rounds lm sd sb ad ac modN bval be fm fa fs fn jtwX jtwY jtwZ onB invV invE
theorem is60 : IsFn Tryz.prog 60 := isFn Tryz.func60 (by kernel_rfl) (by kernel_rfl)
theorem is110 : IsFn Tryz.prog 110 := isFn Tryz.func110 (by kernel_rfl) (by kernel_rfl)
theorem is112 : IsFn Tryz.prog 112 := isFn Tryz.func112 (by kernel_rfl) (by kernel_rfl)
theorem is113 : IsFn Tryz.prog 113 := isFn Tryz.func113 (by kernel_rfl) (by kernel_rfl)
set_option maxRecDepth 4000 in
theorem cmul_c (K : Nat) (hK : K < two256) (X Y : Nat) (I : Bool) (hX : X < two256) (hY : Y < two256) (w : World) :
    Calls Tryz.prog 61 #[numV K, ptV X Y I] w fun e w' => e = .returned (.tuple #[.agg (ptT (cmul K (X, Y, I))).toArray, .int .i64 (cerr (X, Y, I))]) ∧ Ext w w' := by
 refine enter (n := 38) Tryz.func61 rfl rfl rfl ?_
 have H := HP.start w
 refine sr ?_; intro K1 hK1
 refine p_box (l := numL K) H rfl ?_; clear H; intro w2 b3 H
 refine p_box (l := (numL X ++ (numL Y ++ [(.bool I : Value)]))) H rfl ?_; clear H; intro w4 b5 H
 refine p_alloc (l := [.int .u64 0, .int .u64 0, .int .u64 0, .int .u64 0, .int .u64 0, .int .u64 0, .int .u64 0, .int .u64 0, .bool false]) H tz26 rfl ?_; clear H; intro w7 b6 H
 refine p_as (v := (.int _ _)) rfl ?_
 refine xk hK1 ?_; try clear hK1 K1
 refine wp_seq_k ?_; intro K8 hK8
 refine sr ?_; intro K9 hK9
 refine p_val (r_loadW tg26 H rfl (k := 1) rfl rfl) ?_
 refine p_call (l := [(.agg (List.toArray _))]) is60 rfl ?_
 refine (on_c _ _ _ lt2_CrvC lt2_CrvC _).mono ?_; rintro _ w10 ⟨rfl, hx⟩; replace H := H.ext hx; clear hx
 refine p_val (r_not (t := _) rfl rfl) ?_
 refine xk hK9 ?_; try clear hK9 K9
 refine c_split (t := _) rfl (fun hc_1 => ?_) (fun hc_1 => ?_)
 ·skip
  refine sr ?_; intro K12 hK12
  refine p_val (r_as (l' := (numL 0 ++ (numL 0 ++ [(.bool false : Value)]))) (r_build (vals := []) (l := ([.int .u64 0, .int .u64 0, .int .u64 0, .int .u64 0] ++ ([.int .u64 0, .int .u64 0, .int .u64 0, .int .u64 0] ++ [(.bool false : Value)]))) tb26 rfl rfl) (by rw [num_0])) ?_
  refine p_storeW tg26 H rfl (k := 0) rfl rfl rfl rfl rfl ?_; clear H; intro w13 H
  refine p_as (v := (.int _ _)) rfl ?_
  refine xk hK12 ?_; try clear hK12 K12
  refine wp_ret ?_
  refine x_ret ?_
  refine e_2 rfl (q_cellW tg26 H rfl (k := 0) rfl rfl) (q_tmp (v := (.int _ _)) rfl) ?_
  have h0 := cmul_f (k := K) (p := (X, Y, I)) (by simpa [onT] using hc_1)
  exact ⟨by rw [h0.1, h0.2], H.below⟩
 ·skip
  refine wp_skip ?_
  refine xn hK8 ?_; try clear hK8 K8
  refine sr ?_; intro K14 hK14
  refine p_alloc (l := [.int .u64 0, .int .u64 0, .int .u64 0, .int .u64 0, .int .u64 0, .int .u64 0, .int .u64 0, .int .u64 0, .int .u64 0, .int .u64 0, .int .u64 0, .int .u64 0]) H tz152 rfl ?_; clear H; intro w16 b15 H
  refine xk hK14 ?_; try clear hK14 K14
  refine sr ?_; intro K17 hK17
  refine p_val (r_loadW tg26 H rfl (k := 2) rfl rfl) ?_
  refine p_call (l := [(.agg (List.toArray _))]) is110 rfl ?_
  refine (cof_c _ _ _ lt2_CrvC lt2_CrvC _).mono ?_; rintro _ w18 ⟨rfl, hx⟩; replace H := H.ext hx; clear hx
  refine p_alloc (l := [.int .u64 0, .int .u64 0, .int .u64 0, .int .u64 0, .int .u64 0, .int .u64 0, .int .u64 0, .int .u64 0, .int .u64 0, .int .u64 0, .int .u64 0, .int .u64 0]) H tz152 rfl ?_; clear H; intro w20 b19 H
  refine p_storeW tg152 H rfl (k := 0) rfl rfl rfl rfl rfl ?_; clear H; intro w21 H
  refine xk hK17 ?_; try clear hK17 K17
  refine wp_seq_k ?_; intro K22 hK22
  refine sr ?_; intro K23 hK23
  replace H := HP.recast H (k := 1) (cs' := jcT (jmul (jof X Y I) (K / 2 ^ 256))) rfl (zero_jc.trans (congrArg jcT (jmul_top hK).symm))
  refine p_as (v := (.int _ _)) rfl ?_
  refine xk hK23 ?_; try clear hK23 K23
  refine wp_block ?_
  refine loopF [8, 9, 16, 17, 18, 19, 20, 21, 22, 23, 24, 25, 26, 27, 28, 29, 30, 31, 32, 33, 34, 35] (fun γ μ w' => ∃ (k : Nat), k = γ ∧ look μ 8 = .int .i64 ((k : Int) - 1) ∧ HP w w' [(b19, jcT (jof X Y I), 152), (b15, jcT (jmul (jof X Y I) (K / 2 ^ k)), 152), (b6, [.int .u64 0, .int .u64 0, .int .u64 0, .int .u64 0, .int .u64 0, .int .u64 0, .int .u64 0, .int .u64 0, .bool false], 26), (b5, (numL X ++ (numL Y ++ [(.bool I : Value)])), 26), (b3, numL K, 24)] ∧ (k ≤ 256)) (256) ⟨256, rfl, rfl, H, Nat.le_refl _⟩ ?_
  clear H
  intro g27 m24 w25 hk26 hI; obtain ⟨k, rfl, hl28, H, hk⟩ := hI
  refine wp_seq_k ?_; intro K29 hK29
  refine sr ?_; intro K30 hK30
  refine p_mv (v := (.int _ _)) hl28 ?_
  refine p_val (r_geq rfl rfl rfl) ?_
  refine xk hK30 ?_; try clear hK30 K30
  refine c_split (t := _) rfl (fun hc_6 => ?_) (fun hc_6 => ?_)
  ·skip
   have hk0 : 0 < k := by have := of_decide_eq_true hc_6; omega
   refine wp_skip ?_
   refine xn hK29 ?_; try clear hK29 K29
   refine wp_seq_k ?_; intro K32 hK32
   refine wp_block ?_
   refine sr ?_; intro K33 hK33
   refine p_val (r_loadW tg152 H (hk26 6 rfl) (k := 1) rfl rfl) ?_
   refine p_call (l := [(.agg (List.toArray _))]) is111 rfl ?_
   refine (ctwice_c (jmul (jof X Y I) (K / 2 ^ k)) (by repeat (first | assumption | exact TL_0 | exact TL_jtw _ | exact TL_jof (by assumption) (by assumption) | exact ⟨by assumption, by assumption, by assumption⟩ | refine TL_jad ?_ ?_ | refine TL_jmul ?_ _)) _).mono ?_; rintro _ w34 ⟨rfl, hx⟩; replace H := H.ext hx; clear hx
   refine p_storeW tg152 H (hk26 6 rfl) (k := 1) rfl rfl rfl rfl rfl ?_; clear H; intro w35 H
   refine xk hK33 ?_; try clear hK33 K33
   refine sr ?_; intro K36 hK36
   refine p_mv (v := (.int _ _)) hl28 ?_
   refine p_val (r_quo (r := (((k - 1) / 64 : Nat) : Int)) rfl rfl (by decide) (pow_quo hk0 hk)) ?_
   refine p_val (r_addrA (i := (k - 1) / 64) u24 sz22 (hk26 2 rfl) rfl (rfl) (by omega) (by omega)) ?_
   refine p_val (r_load1 (v := .int .u64 (lm K ((k - 1) / 64))) to22 H rfl (k := 4) rfl ((by rw [Nat.zero_add, Nat.mul_one]; exact numL_piece _ _ (by omega)))) ?_
   refine p_mv (v := (.int _ _)) hl28 ?_
   refine p_val (r_rem (r := (((k - 1) % 64 : Nat) : Int)) rfl rfl (by decide) (pow_rem hk0)) ?_
   refine p_val (r_shr (r := ((K / 2 ^ (64 * ((k - 1) / 64)) % 2 ^ 64 / 2 ^ ((k - 1) % 64) : Nat) : Int)) rfl rfl (by omega) (pow_shr K _ _ (by omega))) ?_
   refine p_val (r_bits (bo := .and) (by simp) (r := ((K / 2 ^ (k - 1) % 2 : Nat) : Int)) rfl rfl (pow_and K (k - 1))) ?_
   refine p_val (r_eql rfl rfl rfl) ?_
   refine xk hK36 ?_; try clear hK36 K36
   refine c_split (t := _) rfl (fun hc_9 => ?_) (fun hc_9 => ?_)
   ·skip
    have hbit := bit_t hc_9
    refine sr ?_; intro K38 hK38
    refine p_val (r_loadW tg152 H (hk26 6 rfl) (k := 1) rfl rfl) ?_
    refine p_val (r_makeFunc (first := [(.agg (jcT (jtw (jmul (jof X Y I) (K / 2 ^ k)))).toArray)]) rfl) ?_
    refine p_as (v := (.func (.func 112) #[.agg (jcT (jtw (jmul (jof X Y I) (K / 2 ^ k)))).toArray] #[])) rfl ?_
    refine xk hK38 ?_; try clear hK38 K38
    refine wp_region_lit ?_
    refine p_mv (v := (.func (.func 112) #[.agg (jcT (jtw (jmul (jof X Y I) (K / 2 ^ k)))).toArray] #[])) rfl ?_
    refine p_val (r_loadW tg152 H (hk26 7 rfl) (k := 0) rfl rfl) ?_
    refine p_callf (first := #[.agg (jcT (jtw (jmul (jof X Y I) (K / 2 ^ k)))).toArray]) (cap := #[]) (l := [.agg (jcT (jtw (jmul (jof X Y I) (K / 2 ^ k)))).toArray, .agg (jcT (jof X Y I)).toArray]) is112 rfl (by first | rfl | simp [ev, look]) ?_
    refine (cadd_j (jtw (jmul (jof X Y I) (K / 2 ^ k))) (jof X Y I) (by repeat (first | assumption | exact TL_0 | exact TL_jtw _ | exact TL_jof (by assumption) (by assumption) | exact ⟨by assumption, by assumption, by assumption⟩ | refine TL_jad ?_ ?_ | refine TL_jmul ?_ _)) (by repeat (first | assumption | exact TL_0 | exact TL_jtw _ | exact TL_jof (by assumption) (by assumption) | exact ⟨by assumption, by assumption, by assumption⟩ | refine TL_jad ?_ ?_ | refine TL_jmul ?_ _)) _).mono ?_; rintro _ w39 ⟨rfl, hx⟩; replace H := H.ext hx; clear hx
    refine p_storeW tg152 H (hk26 6 rfl) (k := 1) rfl rfl rfl rfl rfl ?_; clear H; intro w40 H
    refine wpList_nil ?_
    refine b_norm ?_
    refine xn hK32 ?_; try clear hK32 K32
    refine wp_region_lit ?_
    refine p_mv (v := (.int _ _)) hl28 ?_
    refine p_val (r_sub rfl rfl (wr64 (by omega) (by omega))) ?_
    refine p_as (v := (.int _ _)) rfl ?_
    refine wpList_nil ?_
    refine x_norm ?_
    exact ⟨_, _, (by omega), rfl, (by repeat (first | exact hk26 | refine keep_cons rfl ?_)), k - 1, rfl, congrArg (Value.int .i64) (by omega), (HP.recast H (k := 1) rfl (congrArg jcT (jmul_b1 hk0 hbit))), (by omega)⟩
   ·skip
    have hbit := bit_f hc_9
    refine wp_skip ?_
    refine b_norm ?_
    refine xn hK32 ?_; try clear hK32 K32
    refine wp_region_lit ?_
    refine p_mv (v := (.int _ _)) hl28 ?_
    refine p_val (r_sub rfl rfl (wr64 (by omega) (by omega))) ?_
    refine p_as (v := (.int _ _)) rfl ?_
    refine wpList_nil ?_
    refine x_norm ?_
    exact ⟨_, _, (by omega), rfl, (by repeat (first | exact hk26 | refine keep_cons rfl ?_)), k - 1, rfl, congrArg (Value.int .i64) (by omega), (HP.recast H (k := 1) rfl (congrArg jcT (jmul_b0 hk0 (by omega)))), (by omega)⟩
  ·skip
   have hk0 : k = 0 := by have := of_decide_eq_false hc_6; omega
   refine wp_exit ?_
   refine x_exit ?_
   refine x_exit ?_
   refine b_hit ?_
   refine xn hK22 ?_; try clear hK22 K22
   refine sr ?_; intro K41 hK41
   refine p_val (r_loadW tg152 H (hk26 6 rfl) (k := 1) rfl rfl) ?_
   refine p_call (l := [(.agg (List.toArray _))]) is113 rfl ?_
   refine (cend_c (jmul (jof X Y I) (K / 2 ^ k)) (by repeat (first | assumption | exact TL_0 | exact TL_jtw _ | exact TL_jof (by assumption) (by assumption) | exact ⟨by assumption, by assumption, by assumption⟩ | refine TL_jad ?_ ?_ | refine TL_jmul ?_ _)) _).mono ?_; rintro _ w42 ⟨rfl, hx⟩; replace H := H.ext hx; clear hx
   refine p_storeW tg26 H (hk26 4 rfl) (k := 2) rfl rfl rfl rfl rfl ?_; clear H; intro w43 H
   refine p_as (v := (.int _ _)) rfl ?_
   refine xk hK41 ?_; try clear hK41 K41
   refine wp_ret ?_
   refine e_2 rfl (q_cellW tg26 H (hk26 4 rfl) (k := 2) rfl rfl) (q_tmp (v := (.int _ _)) rfl) ?_
   subst hk0
   have h0 := cmul_t (k := K) (p := (X, Y, I)) (by simpa [onT] using hc_1)
   exact ⟨by rw [h0.1, h0.2]; rw [Nat.pow_zero, Nat.div_one], H.below⟩
end Go.Proofs.YtmbcolbbekbccaaGreat
namespace Go.Proofs.YtmbcolbbekbccaaGreat
open Go Go.RowKit
section
variable {α : Type} [Rp α] {S T : Mem}
instance instRpOpt : Rp (Option α) where
  sz := 1
  rep S c x := match x with
    | none => c = [.pointer none]
    | some a => ∃ b cs, c = [.pointer (some ⟨b, 0, none⟩)] ∧ CellAt S b 0 cs ∧ Rp.rep S cs a
  len {_ _ x} h := by cases x with
    | none => rw [show _ = _ from h]; rfl
    | some a => obtain ⟨b, cs, e, _⟩ := h; rw [e]; rfl
  mono {_ _ _ x} h hl := by cases x with
    | none => exact h
    | some a => obtain ⟨b, cs, e, h1, h2⟩ := h; exact ⟨b, cs, e, h1.mono hl, Rp.mono h2 hl⟩
  one {_ _ x} h u hu := by cases x with
    | none => rw [show _ = _ from h, List.mem_singleton] at hu; rw [hu]; rfl
    | some a => obtain ⟨b, cs, e, _⟩ := h; rw [e, List.mem_singleton] at hu; rw [hu]; rfl
theorem Rp.rep.mono {β : Type} [Rp β] {c : List Value} {x : β} (h : Rp.rep S c x) (hl : Mem.le S T) : Rp.rep T c x := Rp.mono h hl
theorem rpK0 : Rp.rep S [.pointer none] (none : Option α) := rfl
theorem rpK {b : Nat} {cs : List Value} {a : α} (hc : CellAt S b 0 cs) (h : Rp.rep S cs a) : Rp.rep S [.pointer (some ⟨b, 0, none⟩)] (some a) := ⟨b, cs, rfl, hc, h⟩
theorem elK {c : List Value} {x : Option α} (h : Rp.rep S c x) : ∃ v, c = [v] ∧ Rp.rep S [v] x := by
  cases x with
  | none => exact ⟨_, h, rfl⟩
  | some a => obtain ⟨b, cs, e, h1, h2⟩ := h; exact ⟨_, e, b, cs, rfl, h1, h2⟩
theorem opK {v : Value} {x : Option α} {a : α} (h : Rp.rep S [v] x) (e : x = some a) : ∃ b cs, v = .pointer (some ⟨b, 0, none⟩) ∧ CellAt S b 0 cs ∧ Rp.rep S cs a := by
  subst e
  obtain ⟨b, cs, e, h1, h2⟩ := h
  exact ⟨b, cs, (List.cons.inj e).1, h1, h2⟩
theorem opK' {b : Nat} {x : Option α} {a : α} (h : Rp.rep S [.pointer (some ⟨b, 0, none⟩)] x) (e : x = some a) : ∃ cs, CellAt S b 0 cs ∧ Rp.rep S cs a := by
  obtain ⟨b', cs, e, h1, h2⟩ := opK h e
  cases e
  exact ⟨cs, h1, h2⟩
theorem cellsK {v : Value} {x : Option α} (h : Rp.rep S [v] x) : v.cells.toList = [v] := by
  cases x with
  | none => rw [(List.cons.inj (show [v] = [_] from h)).1]; rfl
  | some a => obtain ⟨b, cs, e, _⟩ := h; rw [(List.cons.inj e).1]; rfl
theorem CellAt.whole {b : Nat} {cs : List Value} {E : TypeId} {fz : Nat × Nat} (h : S b = some (.cells cs.toArray E fz)) : CellAt S b 0 cs := ⟨cs, E, fz, h, by omega, by rw [piece_eq]; simp⟩
end
section
variable {P : Program} {w : World} {e : Operand → Value} {dst : Option Nat} {ty : TypeId} {pos : String} {aft : Array Edge} {g : Option (Nat × Bool)} {T T' E : TypeId} {x y : Operand}
theorem run_eqK0 {a : Option Addr} (hu : P.underlying T = some (.pointer E)) : (Op.equal T (.pointer a) (.pointer none)).run P w = .ok a.isNone w := by
  have key : ∀ d, (Op.equalIn (d + 1) T (.pointer a) (.pointer none)).run P w = .ok a.isNone w := fun d => by
    cases a <;> simp [Op.equalIn, Go.underlying, hu]
  exact key 9999
theorem r_eqPn {a : Option Addr} (hu : P.underlying T = some (.pointer E)) (hg : P.eqGuardType P.depth T = false) (h1 : e x = .pointer a) (h2 : e y = .pointer none) : (execOp e ⟨dst, .binOp .eql T x y T', ty, pos, aft, g⟩).run P w = .ok (.value (.bool a.isNone)) w := by
  have key := run_eqK0 (w := w) (a := a) hu
  simp only [execOp, h1, h2, eqGuard, binOp, Sem.run_bind, run_program, Result.andThen_ok, hg]
  simp [hg, key]
theorem r_nePn {a : Option Addr} (hu : P.underlying T = some (.pointer E)) (hg : P.eqGuardType P.depth T = false) (h1 : e x = .pointer a) (h2 : e y = .pointer none) : (execOp e ⟨dst, .binOp .neq T x y T', ty, pos, aft, g⟩).run P w = .ok (.value (.bool (!a.isNone))) w := by
  have key := run_eqK0 (w := w) (a := a) hu
  simp only [execOp, h1, h2, eqGuard, binOp, Sem.run_bind, run_program, Result.andThen_ok, hg]
  simp [hg, key]
variable {α : Type} [Rp α] {S : Mem} {v : Value} {X : Option α}
theorem ptrK (h : Rp.rep S [v] X) : ∃ a, v = .pointer a ∧ a.isNone = X.isNone := by
  cases X with
  | none => exact ⟨none, (List.cons.inj (show [v] = [_] from h)).1, rfl⟩
  | some a => obtain ⟨b, cs, e, _⟩ := h; exact ⟨_, (List.cons.inj e).1, rfl⟩
theorem r_neK (hu : P.underlying T = some (.pointer E)) (hg : P.eqGuardType P.depth T = false) (h1 : e x = v) (h : Rp.rep S [v] X) (h2 : e y = .pointer none) : (execOp e ⟨dst, .binOp .neq T x y T', ty, pos, aft, g⟩).run P w = .ok (.value (.bool (!X.isNone))) w := by
  obtain ⟨a, rfl, e⟩ := ptrK h
  rw [← e]; exact r_nePn hu hg h1 h2
end
section
variable {B : Bas} {S T : Mem} {w w' : World} {L N : List Res}
theorem HS.ownCells (H : HS B S w L) {k : Nat} {v : Value} {n sz : Nat} {cs rs : List Value} {E : TypeId} (hk : lkR L k = some (.osl v n sz cs rs E)) : v.cells.toList = [v] := by
  rcases H.own k _ hk with ⟨rfl, _⟩ | ⟨b, c, fz, rfl, _⟩ <;> rfl
theorem HS.blkAt (H : HS B S w L) {k b : Nat} {cs : List Value} {E : TypeId} (hk : lkR L k = some (.blk b cs E)) : CellAt (memOf w) b 0 cs := CellAt.whole (H.own k _ hk)
/-- Behind a call to which something was lent: what it laid anew. -/
theorem HS.joinNew {S2 : Mem} (H : HS B S w L) (H2 : HS ⟨memOf w, [], w⟩ S2 w' N) : HS B S w' (N ++ L) := by
  have hx : Ext w w' := H2.fr.ext
  have H' := H.ext hx
  have hlk : ∀ k, lkR (N ++ L) k = if k < N.length then lkR N k else lkR L (k - N.length) := fun k => by
    rw [lkR_eq, lkR_eq, lkR_eq, List.getElem?_append]
  have hN : ∀ k r b, lkR N k = some r → r.key = some b → w.heap.size ≤ b := fun k r b hk hb => by
    rcases (H2.old k r b hk hb).1 with h | h
    · exact h
    · simp at h
  refine ⟨H'.fr, H'.sub, H'.keep, fun k r hk => ?_, fun k r b hk hb => ?_, fun i j r s b hi hj h1 h2 => ?_⟩
  · rw [hlk] at hk; split at hk
    · exact H2.own k r hk
    · exact H'.own _ r hk
  · rw [hlk] at hk; split at hk
    · have := hN k r b hk hb; exact ⟨.inl (Nat.le_trans H.fr.size this), H.sub.none this⟩
    · exact H'.old _ r b hk hb
  · rw [hlk] at hi hj
    split at hi <;> split at hj
    · exact H2.inj i j r s b hi hj h1 h2
    · have := hN _ r b hi h1; have := H.res_lt hj h2; omega
    · have := hN _ s b hj h2; have := H.res_lt hi h1; omega
    · have := H'.inj _ _ r s b hi hj h1 h2; omega
theorem RL.strs : ∀ {xs : List (List UInt8)} {cs : List Value}, RL S cs xs → RL T cs xs
  | [], _, h => h
  | _ :: _, _, ⟨c, d, e, h1, h2⟩ => ⟨c, d, e, h1, RL.strs h2⟩
end
/-- Three cells whose content does not matter. -/
structure Onc where
  l : List Value
  h : l.length = 3
  one : l.all (·.oneCell') = true
instance instRpOnc : Rp Onc where
  sz := 3
  rep _ c x := c = x.l
  len {_ _ x} e := by rw [e]; exact x.h
  mono e _ := e
  one {_ _ x} e u hu := by rw [e] at hu; exact List.all_eq_true.1 x.one u hu
theorem rpOnc {S : Mem} (x : Onc) : Rp.rep S x.l x := rfl
theorem elOnc {S : Mem} {c : List Value} {x : Onc} (h : Rp.rep S c x) : c = x.l := h
def onc0 : Onc := ⟨[.int .u32 0, .int .i32 0, .int .u32 0], rfl, rfl⟩
end Go.Proofs.YtmbcolbbekbccaaGreat
namespace Go.Proofs.YtmbcolbbekbccaaGreat
open Go Go.RowKit
attribute [local irreducible] wpList wpT Code.wp Calls Code.rounds
def cl24 (x : Qw) : List Value := [Value.int .u64 ((x.1.toNat : Int))] ++ ([Value.int .u64 ((x.2.1.toNat : Int))] ++ ([Value.int .u64 ((x.2.2.1.toNat : Int))] ++ ([Value.int .u64 ((x.2.2.2.toNat : Int))])))
theorem rp24c {S : Mem} (x : Qw) : Rp.rep S (cl24 x) x := rpP (rpU64) (rpP (rpU64) (rpP (rpU64) (rpU64)))
theorem el24c {S : Mem} {c : List Value} {x : Qw} (h : Rp.rep S c x) : c = cl24 x := by
  obtain ⟨c0, d0, rfl, h0, k1⟩ := elP h; obtain rfl := elU64 h0
  obtain ⟨c1, d1, rfl, h1, k2⟩ := elP k1; obtain rfl := elU64 h1
  obtain ⟨c2, d2, rfl, h2, k3⟩ := elP k2; obtain rfl := elU64 h2
  obtain rfl := elU64 k3; rfl
def cl26 (x : Qp) : List Value := cl24 x.1 ++ (cl24 x.2.1 ++ ([Value.bool (x.2.2)]))
theorem rp26c {S : Mem} (x : Qp) : Rp.rep S (cl26 x) x := rpP (rp24c _) (rpP (rp24c _) (rpB))
theorem el26c {S : Mem} {c : List Value} {x : Qp} (h : Rp.rep S c x) : c = cl26 x := by
  obtain ⟨c0, d0, rfl, h0, k1⟩ := elP h; obtain rfl := el24c h0
  obtain ⟨c1, d1, rfl, h1, k2⟩ := elP k1; obtain rfl := el24c h1
  obtain rfl := elB k2; rfl
end Go.Proofs.YtmbcolbbekbccaaGreat
namespace Go.Proofs.YtmbcolbbekbccaaGreat
open Go Go.RowKit
theorem clN_nv (x : W4) : cl24 x = numL (nv x) := by
  unfold numL lm
  rw [nv_wd x (by decide), nv_wd x (by decide), nv_wd x (by decide), nv_wd x (by decide)]
  rfl
theorem clN_tv (A : Nat) : cl24 (tv A) = numL A := by
  have e : ∀ i : Nat, ((UInt64.ofNat (A / 2 ^ (64 * i))).toNat : Int) = lm A i := fun i => by
    rw [lm, UInt64.toNat_ofNat']
  unfold numL
  rw [← e 0, ← e 1, ← e 2, ← e 3]; rfl
theorem clP_ap (x : Pw) : cl26 x = ptT (apT x) := by
  show cl24 x.1 ++ (cl24 x.2.1 ++ [Value.bool x.2.2]) = _
  rw [clN_nv, clN_nv]; rfl
theorem clP_W (t : Ap) : cl26 (ptW t) = ptT t := by
  show cl24 (tv t.1) ++ (cl24 (tv t.2.1) ++ [Value.bool t.2.2]) = _
  rw [clN_tv, clN_tv]
theorem clN_v (A : Nat) : Value.agg (cl24 (tv A)).toArray = numV A := by rw [clN_tv]
theorem clN_w (x : W4) : Value.agg (cl24 x).toArray = numV (nv x) := by rw [clN_nv]
section
variable {S : Mem} {w : World}
def field_Modulus_p (m : Int) : Option W4 := some (tv (modN m))
theorem field_Modulus_c (_ : Sub S w) {x0 : Int} {r : W4} (hF : field_Modulus_p x0 = some r) : Calls Tryz.prog 40 #[.int .i64 x0] w fun e w' => e = .returned (.agg (cl24 r).toArray) ∧ Ext w w' := by
  obtain rfl := osi hF; rw [clN_v]; exact modulus_c x0 w
def field_Add_p (m : Int) (a b : W4) : Option W4 := some (tv ((nv a + nv b) % modN m))
theorem field_Add_c (_ : Sub S w) {x0 : Int} {x1 x2 r : W4} (hF : field_Add_p x0 x1 x2 = some r) : Calls Tryz.prog 49 #[.int .i64 x0, .agg (cl24 x1).toArray, .agg (cl24 x2).toArray] w fun e w' => e = .returned (.agg (cl24 r).toArray) ∧ Ext w w' := by
  obtain rfl := osi hF; rw [clN_v, clN_w, clN_w]; exact add_c x0 _ _ (nv_lt _) (nv_lt _) w
def field_Reduce_p (m : Int) (l : List UInt8) : Option W4 := Option.bind (chk (decide (l.length ≤ LIM))) fun _ => some (tv (bval l % modN m))
theorem field_Reduce_c (_ : Sub S w) {x0 : Int} {x1 : List UInt8} {r : W4} (hF : field_Reduce_p x0 x1 = some r) : Calls Tryz.prog 86 #[.int .i64 x0, str x1] w fun e w' => e = .returned (.agg (cl24 r).toArray) ∧ Ext w w' := by
  unfold field_Reduce_p at hF
  obtain ⟨y, e, hF⟩ := bnd hF
  have hl := of_decide_eq_true (chk_some e)
  obtain rfl := osi hF; rw [clN_v]; exact reduce_c x0 x1 (by unfold LIM at hl; omega) w
def curve_Base_p : Option Pw := some (ptW (GX, GY, false))
theorem curve_Base_c (_ : Sub S w) {r : Pw} (hF : curve_Base_p = some r) : Calls Tryz.prog 41 #[] w fun e w' => e = .returned (.agg (cl26 r).toArray) ∧ Ext w w' := by
  obtain rfl := osi hF; rw [clP_W]; exact base_c w
def curve_Mul_p (x0 : W4) (x1 : Pw) : Option (Pw × Int) := some (ptW (cmul (nv x0) (apT x1)), cerr (apT x1))
theorem curve_Mul_c (_ : Sub S w) {x0 : W4} {x1 : Pw} {r : Pw × Int} (hF : curve_Mul_p x0 x1 = some r) : Calls Tryz.prog 61 #[.agg (cl24 x0).toArray, .agg (cl26 x1).toArray] w fun e w' => e = .returned (.tuple #[.agg (cl26 r.1).toArray, .int .i64 r.2]) ∧ Ext w w' := by
  obtain rfl := osi hF; rw [clP_ap, clP_W, clN_w]
  exact cmul_c (nv x0) (nv_lt x0) (nv x1.1) (nv x1.2.1) x1.2.2 (nv_lt _) (nv_lt _) w
def curve_On_p (x0 : Pw) : Option Bool := some (onT (apT x0))
theorem curve_On_c (_ : Sub S w) {x0 : Pw} {r : Bool} (hF : curve_On_p x0 = some r) : Calls Tryz.prog 60 #[.agg (cl26 x0).toArray] w fun e w' => e = .returned (.bool r) ∧ Ext w w' := by
  obtain rfl := osi hF; rw [clP_ap]; exact on_c (nv x0.1) (nv x0.2.1) x0.2.2 (nv_lt _) (nv_lt _) w
end
end Go.Proofs.YtmbcolbbekbccaaGreat
namespace Go.Proofs.YtmbcolbbekbccaaGreat
open Go Go.RowKit
/-- The elements of an array. -/
structure Vec (α : Type) (n : Nat) where
  l : List α
  h : l.length = n
section
variable {α : Type} {n : Nat}
theorem Vec.eq {x y : Vec α n} (h : x.l = y.l) : x = y := by cases x; cases y; simp at h; subst h; rfl
def vcl (cf : α → Value) (x : Vec α n) : List Value := x.l.map cf
theorem vcl_len (cf : α → Value) (x : Vec α n) : (vcl cf x).length = n := by simp [vcl, x.h]
def vrep (n : Nat) (z : α) : Vec α n := ⟨List.replicate n z, by simp⟩
def setV (x : Vec α n) (i : Int) (u : α) : Option (Vec α n) := bif decide (0 ≤ i) && decide (i < (n : Int)) then some ⟨x.l.set i.toNat u, by simp [x.h]⟩ else none
theorem setV_some {x r : Vec α n} {i : Int} {u : α} (h : setV x i u = some r) : i = (i.toNat : Int) ∧ i.toNat < n ∧ r.l = x.l.set i.toNat u := by
  unfold setV at h
  cases hc : decide (0 ≤ i) && decide (i < (n : Int)) with
  | false => rw [hc] at h; cases h
  | true =>
    rw [hc] at h
    obtain rfl := osi h
    simp only [Bool.and_eq_true, decide_eq_true_eq] at hc
    exact ⟨by omega, by omega, rfl⟩
theorem idx_ltV {x : Vec α n} {i : Int} {u : α} (h : idx x.l i = some u) : i.toNat < n := by have := idx_lt h; rwa [x.h] at this
theorem vcl_piece (cf : α → Value) (x : Vec α n) : piece (vcl cf x) 0 x.l.length = x.l.map cf := by rw [piece_eq, vcl, List.drop_zero, List.take_of_length_le (by simp)]
theorem vcl_all (cf : α → Value) (x : Vec α n) : piece (vcl cf x) 0 n = vcl cf x := by
  have := vcl_piece cf x
  rw [x.h] at this; exact this
end
section
variable {P : Program} {w : World} {B : Bas} {S : Mem} {L : List Res} {T T' : TypeId} {e : Operand → Value} {x y : Operand} {v : Value} {dst : Option Tmp} {pos : String} {aft : Array Edge} {ty : TypeId} {g : Option (Nat × Bool)}
theorem h_loadV {α : Type} {n : Nat} {i : Int} {X : Vec α n} {u : α} {cf : α → Value} {b k : Nat} (tg : TOne P T) (H : HS B S w L) (hp : e x = .pointer (some ⟨b, 0 + i.toNat * 1, none⟩)) (hk : lkR L k = some (.blk b (vcl cf X) T')) (hi : idx X.l i = some u) :
    (execOp e ⟨dst, .load T x, ty, pos, aft, g⟩).run P w = .ok (.value (cf u)) w := h_loadA tg H hp hk hi (vcl_piece cf X)
theorem lay_set1 {α : Type} (cf : α → Value) (l : List α) (i : Nat) (u : α) (h : i < l.length) : lay (l.map cf) i [cf u] = (l.set i u).map cf := by
  apply List.ext_getElem?
  intro j
  rw [lay_get]
  by_cases hj : j = i
  · subst hj
    rw [if_pos (by simp; omega)]
    simp [h]
  · rw [if_neg (by simp; omega), List.getElem?_map, List.getElem?_map, List.getElem?_set_ne (by omega)]
theorem lay_all {l l' : List Value} (h : l.length = l'.length) : lay l 0 l' = l' := by
  apply List.ext_getElem?
  intro j
  rw [lay_get]
  by_cases hj : j < l'.length
  · rw [if_pos (by omega)]; simp
  · rw [if_neg (by omega), List.getElem?_eq_none (by omega), List.getElem?_eq_none (by omega)]
theorem a_storeV {α : Type} {n : Nat} {i : Int} {X R : Vec α n} {u : α} {cf : α → Value} {b k : Nat} (ts : TSz P T 1) (H : HS B S w L) (hp : e x = .pointer (some ⟨b, 0 + i.toNat * 1, none⟩)) (hk : lkR L k = some (.blk b (vcl cf X) T')) (hy : e y = cf u) (h1 : (cf u).oneCell' = true)
    (hs : setV X i u = some R) : ∃ w', (execOp e ⟨none, .store T x y, ty, pos, aft, g⟩).run P w = .ok .skip w' ∧ HS B S w' (stR L k (.blk b (vcl cf R) T')) := by
  obtain ⟨h2, h3, h4⟩ := setV_some hs
  have := a_store (k := k) (v := cf u) (l := [cf u]) (ty := ty) (pos := pos) (aft := aft) (g := g) ts H hp hk hy (cells_one h1) rfl (by simpa using h1) (by rw [vcl_len]; simp; omega)
  rw [Nat.mul_one, Nat.zero_add, vcl, lay_set1 cf X.l i.toNat u (by rw [X.h]; exact h3), ← h4] at this
  exact this
theorem a_storeVW {α : Type} {n : Nat} {X Y : Vec α n} {cf : α → Value} {b k : Nat} (ts : TSz P T n) (H : HS B S w L) (hp : e x = .pointer (some ⟨b, 0, none⟩)) (hk : lkR L k = some (.blk b (vcl cf X) T')) (hy : e y = .agg (vcl cf Y).toArray) (h1 : ∀ u, (cf u).oneCell' = true) :
    ∃ w', (execOp e ⟨none, .store T x y, ty, pos, aft, g⟩).run P w = .ok .skip w' ∧ HS B S w' (stR L k (.blk b (vcl cf Y) T')) := by
  have := a_store (k := k) (v := .agg (vcl cf Y).toArray) (l := vcl cf Y) (ty := ty) (pos := pos) (aft := aft) (g := g) ts H hp hk hy (cells_agg _) (vcl_len cf Y) (fun u hu => by
    simp only [vcl, List.mem_map] at hu
    obtain ⟨a, _, rfl⟩ := hu
    exact h1 a) (by rw [vcl_len]; simp)
  have e2 : lay (vcl cf X) 0 (vcl cf Y) = vcl cf Y := lay_all (by rw [vcl_len, vcl_len])
  rw [e2] at this
  exact this
end
theorem vcl_ble {α : Type} {n : Nat} (cf : α → Value) (x : Vec α n) : Nat.ble (0 + n) (vcl cf x).length = true := by rw [vcl_len]; simp
section
variable {P : Program} {e : Operand → Value} {dst : Option Tmp} {x : Operand} {ty : TypeId} {pos : String} {aft : Array Edge} {g : Option (Nat × Bool)} {w : World}
/-- ^x for numbers without a sign. -/
theorem r_com {T'} {k : IntKind} {a r : Int} (hk : k.signed = false) (hx : e x = .int k a) (h : bits .xor k k.max a = r) : (execOp e ⟨dst, .unOp .xor T' x, ty, pos, aft, g⟩).run P w = .ok (.value (.int k r)) w := by
  simp [execOp, hx, Op.unary, hk, Op.intBits, ← h, bits]
end
section
variable {P : Program} {w : World} {B : Bas} {S : Mem} {L : List Res} {T T' E dT sT : TypeId} {e : Operand → Value} {x y lo hi : Operand} {dst : Option Tmp} {pos : String} {aft : Array Edge} {ty : TypeId} {g : Option (Nat × Bool)} {k1 k2 : IntKind}
theorem r_sliceAL {n o b p : Nat} (hu : P.underlying T = some (.array n E)) (ts : TSz P E 1) (hx : e x = .pointer (some ⟨b, o, none⟩)) (hz : e lo = .int k1 (p : Int)) (hp : p < n) :
    (execOp e ⟨dst, .slice T x (some lo) none none, ty, pos, aft, g⟩).run P w = .ok (.value (.slice (some ⟨b, o + p, none⟩) (n - p) (n - p))) w := by
  have hne : ¬ n = p := by omega
  simp [execOp, Instr.sliceAt, Instr.sliceBounds, Instr.sureAddr, Go.underlying, hu, hx, hz, run_bound (P := P) (w := w) (rfl : (p : Int) = (p : Int)) (Nat.le_of_lt hp), ts w, hne, Addr.add]
theorem r_sliceAH {n o b h : Nat} (hu : P.underlying T = some (.array n E)) (ts : TSz P E 1) (hx : e x = .pointer (some ⟨b, o, none⟩)) (hy : e hi = .int k1 (h : Int)) (hh : h ≤ n) :
    (execOp e ⟨dst, .slice T x none (some hi) none, ty, pos, aft, g⟩).run P w = .ok (.value (.slice (some ⟨b, o, none⟩) h n)) w := by
  simp [execOp, Instr.sliceAt, Instr.sliceBounds, Instr.sureAddr, Go.underlying, hu, hx, hy, run_bound (P := P) (w := w) (rfl : (h : Int) = (h : Int)) hh, ts w, Addr.add]
theorem r_idxAV {α : Type} {n : Nat} {l : List α} {cf : α → Value} {cs : List Value} {i : Int} {u : α} (hu : P.underlying T = some (.array n E)) (tg : TOne P E) (hx : e x = .agg cs.toArray) (hy : e y = .int k1 i) (hc : cs = l.map cf) (hl : l.length = n) (h : idx l i = some u) :
    (execOp e ⟨dst, .index T x y, ty, pos, aft, g⟩).run P w = .ok (.value (cf u)) w := by
  obtain ⟨h1, h2⟩ := idx_some h
  have h3 := idx_lt h
  have hp := part1 (l := cs) (v := cf u) (o := i.toNat) tg (by rw [hc, List.getElem?_map, h2]; rfl) w
  have ha : 0 ≤ i := by omega
  have hb : i < (n : Int) := by omega
  simp [execOp, Instr.index, asIntOf, Go.underlying, hu, hx, hy, ha, hb, tg.2 w, hp]
/-- copy within a block. -/
theorem a_copyA {k b o1 o2 n1 c1 n2 c2 n : Nat} {cs l : List Value} (hu : P.underlying dT = some (.slice E)) (ts : TSz P E 1) (H : HS B S w L) (hx : e x = .slice (some ⟨b, o1, none⟩) n1 c1) (hy : e y = .slice (some ⟨b, o2, none⟩) n2 c2)
    (hk : lkR L k = some (.blk b cs T')) (hn : Nat.min n2 n1 = n) (hl : piece cs o2 n = l) (h1 : Nat.ble (o1 + n) cs.length = true) (h2 : Nat.ble (o2 + n) cs.length = true) (hone : ∀ u ∈ l, u.oneCell' = true) :
    ∃ w', (execOp e ⟨dst, .call ⟨.builtin .copy, #[x, y], #[dT, sT]⟩, ty, pos, aft, g⟩).run P w = .ok (.value (.int .i64 (n : Int))) w' ∧ HS B S w' (stR L k (.blk b (lay cs o1 l) T')) := by
  have hb := H.own k _ hk
  have hlen : l.length = n := by rw [← hl]; exact piece_len (Nat.le_of_ble_eq_true h2)
  obtain ⟨w', he, hb', hs, h4, h5, h6, h7⟩ := run_storeCellsF (P := P) (o := o1) l 0 w cs hone hb (.inl rfl) (by rw [hlen]; have := Nat.le_of_ble_eq_true h1; omega)
  have hld := run_loadCells_list (P := P) w ⟨b, o2, none⟩ l (fun j v hj => by
    rw [add_addr, cell_of_F hb, ← hj, ← hl, piece_eq]
    have : j < n := by rw [← hlen]; exact (List.getElem?_eq_some_iff.1 hj).1
    simp [List.getElem?_take, this])
  rw [hlen] at hld
  refine ⟨w', ?_, H.upd hk (by omega) h4 h5 h6 (fun i _ hne => h7 i fun e => hne (by rw [e]; rfl)) hb' fun b' hb' => .inl hb'⟩
  simp [execOp, resolve, invoke, builtin, hx, hy, Builtin.copy_, Go.underlying, hu, Builtin.lenOf, Builtin.firstCells, ts w, hn, hld, he, goInt]
end
section
variable {P : Program} {ops : Array Oper} {Q : Exit → Act → World → Prop} {rest : List Oper} {n : Nat} {m : FM} {w : World} {d : Nat} {ty : TypeId} {pos : String} {aft : Array Edge} {x : Operand}
variable {nh k : Nat} {Φ : Kinds} {W : World} {vs : Nat → Gv} {Fin : Act → Prop} {c : Value}
theorem t_callD {args : List Operand} {at_ : Array TypeId} {f : FuncId} {l : List Value} (hx : ev n m x = .func (.func f) #[] #[]) (hk : Φ k = some (.inl c)) (hf : floats ops nh k = false) (hfn : IsFn P f) (ha : args? n m args = l)
    (h : ∀ w, Ext W w → factsL Φ vs w (depsOf ⟨some d, .call ⟨.value x, args.toArray, at_⟩, ty, pos, aft, none⟩) → Calls P f l.toArray w fun e w' => e = .returned c ∧ Ext w w') (hr : wpT P ops nh Φ W vs Fin (k + 1) rest (fr n ((d, c) :: m))) :
    wpT P ops nh Φ W vs Fin k (⟨some d, .call ⟨.value x, args.toArray, at_⟩, ty, pos, aft, none⟩ :: rest) (fr n m) :=
  wpT_det rfl hk hf rfl (fun w hx' hF R hR => by
    rw [eval_fr]
    exact outcome_call (first := #[]) (cap := #[]) hfn hx (by simp [args_eq, ha]) ((h w hx' hF).mono fun e w' ⟨he, hx'⟩ => ⟨c, he, hR w' hx'⟩)) (by rw [put_fr]; exact hr)
end
end Go.Proofs.YtmbcolbbekbccaaGreat
