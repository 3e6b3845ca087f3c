/- The walks of some functions. Conditions: as each theorem says. -/
import Derived.Test.YtmbcolbbekbccaaGreatQvD
namespace Go.Proofs.YtmbcolbbekbccaaGreat
open Go Go.RowKit
theorem lt2_FldB {x : Nat} (h : x < two256 := by first | exact Nat.mod_lt _ two256_pos | exact Mod.lt (mod_modN _) | assumption | exact onceN_lt (by assumption) | exact Nat.lt_trans (Nat.mod_lt _ (mod_modN _).pos) (mod_modN _).lt | exact ofV_lt2 _ _ | exact invV_lt2 _ _ | exact fm_lt2 _ _ | exact fa_lt2 _ _ | exact fs_lt2 _ _ | exact fn_lt2 _ | exact PP_lt | exact AL_GG.1 | exact AL_GG.2 | exact (AL_cadd _ _).1 | exact (AL_cadd _ _).2 | exact (AL_cmul _ _).1 | exact (AL_cmul _ _).2 | exact (AL_cofV _).1 | exact (AL_cofV _).2 | exact (AL_cneg (by assumption)).1 | exact (AL_cneg (by assumption)).2 | exact lt_lit (by decide)) : x < two256 := h
theorem ltu_FldB {x : Int} (h : U x := by first | exact U_lm _ _ | exact U_sd _ _ _ | exact U_ad _ _ _ | exact U_ml _ _ | assumption | exact U_0 | exact hf' _ | exact hf _) : U x := h
attribute [local irreducible] wpList wpT Code.wp Calls Code.rounds lm sd sb ad ac
theorem tg144 : TAgg Tryz.prog 144 8 := ⟨fun _ => by kernel_rfl, fun _ => by kernel_rfl⟩
theorem tz144 : TZero Tryz.prog 144 (.agg #[uz, uz, uz, uz, uz, uz, uz, uz]) := fun _ => by kernel_rfl
theorem u144 : Tryz.prog.underlying 144 = some (.array 8 22) := by kernel_rfl
theorem is100 : IsFn Tryz.prog 100 := isFn Tryz.func100
theorem is101 : IsFn Tryz.prog 101 := isFn Tryz.func101
theorem is139 : IsFn Tryz.prog 139 := isFn Tryz.func139
theorem wide_c (A B : Nat) (hA : A < two256) (hB : B < two256) (w : World) :
    Calls Tryz.prog 100 #[numV A, numV B] w fun e w' => e = .returned (.agg (outL (lm (A * B))).toArray) ∧ Ext w w' := by
 refine enter (n := 63) Tryz.func100 rfl rfl rfl ?_
 have H := HP.start w
 refine sr fun K1 hK1 => p_box (l := numL A) H rfl ?_; clear H; intro w2 b3 H
 refine p_box (l := numL B) H rfl ?_; clear H; intro w4 b5 H
 refine p_alloc (l := [uz, uz, uz, uz, uz, uz, uz, uz]) H tz144 rfl ?_; clear H; intro w7 b6 H
 refine xk hK1 ?_; try clear hK1 K1
 refine sr fun K8 hK8 => p_alloc (l := [uz, uz, uz, uz, uz, uz, uz, uz]) H tz144 rfl ?_; clear H; intro w10 b9 H
 refine xk hK8 ?_; try clear hK8 K8
 refine wp_seq_k fun K11 hK11 => sr fun K12 hK12 => p_val (r_loadW tg24 H rfl (k := 3) rfl rfl) <| p_mv (v := (.int _ _)) rfl <| xk hK12 ?_; try clear hK12 K12
 refine wp_block ?_
 refine loopF [6, 7, 8, 9, 10, 11, 12, 13, 15, 16, 17, 18, 19, 20, 21, 22, 23, 24, 25, 26, 27, 28, 29, 30, 31, 32, 33, 34, 35, 36, 37, 38, 39, 40, 41, 42, 43, 44, 45, 46, 47, 48, 49, 50, 51, 52, 53, 54, 55, 56, 57, 58, 59, 60, 61] (fun γ μ w' => ∃ (k : Nat) (f : Nat → Int), 4 - k = γ ∧ look μ 15 = .int .i64 (k : Int) ∧ HP w w' [(b9, outL f, 144), (b6, [uz, uz, uz, uz, uz, uz, uz, uz], 144), (b5, numL B, 24), (b3, numL A, 24)] ∧ (k ≤ 4) ∧ ((∀ s, U (f s))) ∧ ((∀ s, k + 4 ≤ s → f s = 0)) ∧ (val8 f = low A k * (B : Int))) (4) ⟨0, fun _ => 0, rfl, rfl, H, Nat.zero_le _, fun _ => U_0, fun _ _ => rfl, by rw [low_0, Int.zero_mul]; simp [val8]⟩ ?_
 clear H
 intro g16 m13 w14 hk15 hI; obtain ⟨k, f, rfl, hl17, H, hk, hf, hz, hv⟩ := hI
 refine sr fun K18 hK18 => p_val (r_lss hl17 rfl rfl) <| xk hK18 ?_; try clear hK18 K18
 refine wp_seq_k fun K20 hK20 => ?_
 refine c_split (t := _) rfl (fun hc_3 => ?_) (fun hc_3 => ?_)
 ·skip
  have hk4 := of_decide_eq_true hc_3
  refine wp_skip <| xn hK20 ?_; try clear hK20 K20
  refine wp_seq_k fun K21 hK21 => wp_block <| sr fun K22 hK22 => p_mv (v := (.int _ _)) hl17 <| p_val (r_idxA (v := .int .u64 (lm A k)) (i := k) u24 sz22 ag22 (hk15 14 rfl) hl17 (Int.toNat_natCast k) (by omega) (by omega) (by rw [Nat.mul_one]; exact numL_piece A k (by omega))) ?_
  refine p_as (v := (.int _ _)) rfl <| p_as (v := (.int _ _)) rfl <| xk hK22 ?_; try clear hK22 K22
  refine sr fun K23 hK23 => p_as (v := (.int _ _)) rfl <| xk hK23 ?_; try clear hK23 K23
  refine wp_seq_k fun K24 hK24 => sr fun K25 hK25 => p_val (r_loadW tg24 H (hk15 3 rfl) (k := 2) rfl rfl) <| p_mv (v := (.int _ _)) rfl <| xk hK25 ?_; try clear hK25 K25
  refine wp_block ?_
  refine loopF [8, 9, 10, 11, 12, 13, 20, 21, 22, 23, 24, 25, 26, 27, 28, 29, 30, 31, 32, 33, 34, 35, 36, 37, 38, 39, 40, 41, 42, 43, 44, 45, 46, 47, 48, 49, 50, 51, 52, 53, 54, 55, 56] (fun γ μ w' => ∃ (j : Nat) (c : Int) (f' : Nat → Int), 4 - j = γ ∧ look μ 20 = .int .i64 (j : Int) ∧ look μ 8 = .int .u64 c ∧ HP w w' [(b9, outL f', 144), (b6, [uz, uz, uz, uz, uz, uz, uz, uz], 144), (b5, numL B, 24), (b3, numL A, 24)] ∧ (j ≤ 4) ∧ (U c) ∧ ((∀ s, U (f' s))) ∧ ((∀ s, k + j ≤ s → f' s = f s)) ∧ (val8 f' + c * wv (k + j) = val8 f + lm A k * low B j * wv k)) (4) ⟨0, 0, f, rfl, rfl, rfl, H, Nat.zero_le _, U_0, hf, fun _ _ => rfl, by rw [low_0]; simp⟩ ?_
  clear H
  intro g29 m26 w27 hk28 hI; obtain ⟨j, c, f', rfl, hl30, hl31, H, hj, hc, hf', hz', hv'⟩ := hI
  refine sr fun K32 hK32 => p_val (r_lss hl30 rfl rfl) <| xk hK32 ?_; try clear hK32 K32
  refine wp_seq_k fun K34 hK34 => ?_
  refine c_split (t := _) rfl (fun hc_7 => ?_) (fun hc_7 => ?_)
  ·skip
   have hj4 := of_decide_eq_true hc_7
   refine wp_skip <| xn hK34 ?_; try clear hK34 K34
   refine wp_seq_k fun K35 hK35 => wp_block <| sr fun K36 hK36 => p_mv (v := (.int _ _)) hl30 <| p_val (r_idxA (v := .int .u64 (lm B j)) (i := j) u24 sz22 ag22 (hk28 19 rfl) hl30 (Int.toNat_natCast j) (by omega) (by omega) (by rw [Nat.mul_one]; exact numL_piece B j (by omega))) ?_
   refine p_as (v := (.int _ _)) rfl <| p_as (v := (.int _ _)) rfl <| xk hK36 ?_; try clear hK36 K36
   refine sr fun K37 hK37 => p_mv (v := (.int _ _)) (hk28 7 rfl) <| p_mv (v := (.int _ _)) rfl <| p_call (l := [(.int _ _), (.int _ _)]) is139 rfl <| (mul64_c ltu_FldB ltu_FldB _).mono ?_; rintro _ w38 ⟨rfl, hx⟩; replace H := H.ext hx; clear hx
   refine p_mv (v := (.tuple _)) rfl <| p_val (r_extract (v := (.int _ _)) rfl rfl) <| p_val (r_extract (v := (.int _ _)) rfl rfl) <| p_as (v := (.int _ _)) rfl <| p_as (v := (.int _ _)) rfl <| xk hK37 ?_; try clear hK37 K37
   refine sr fun K39 hK39 => p_mv (v := (.int _ _)) rfl <| p_mv (v := (.int _ _)) hl31 <| p_callv (l := [(.int _ _), (.int _ _), (.int _ _)]) rfl (run_Add64 ltu_FldB ltu_FldB (by first | exact C_sb _ _ _ | exact C_ac _ _ _ | exact C1_0 | assumption) _) <| p_mv (v := (.tuple _)) rfl <| p_val (r_extract (v := (.int _ _)) rfl rfl) <| p_val (r_extract (v := (.int _ _)) rfl rfl) <| p_as (v := (.int _ _)) rfl ?_
   refine p_as (v := (.int _ _)) rfl <| xk hK39 ?_; try clear hK39 K39
   refine sr fun K40 hK40 => p_mv (v := (.int _ _)) rfl <| p_mv (v := (.int _ _)) rfl <| p_val (r_add (r := mh (lm A k) (lm B j) + ac (ml (lm A k) (lm B j)) c 0) rfl rfl (wide_w1 (U_lm _ _) (U_lm _ _) hc)) <| p_as (v := (.int _ _)) rfl <| xk hK40 ?_; try clear hK40 K40
   refine sr fun K41 hK41 => p_mv (v := (.int _ _)) (hk28 6 rfl) <| p_mv (v := (.int _ _)) rfl <| p_val (r_add (r := ((k + j : Nat) : Int)) rfl rfl ((wr64 (by omega) (by omega)).trans (by omega))) <| p_mv (v := (.int _ _)) (hk28 6 rfl) <| p_mv (v := (.int _ _)) rfl <| p_val (r_add (r := ((k + j : Nat) : Int)) rfl rfl ((wr64 (by omega) (by omega)).trans (by omega))) ?_
   refine p_val (r_addrA (i := k + j) u144 sz22 ((hk28 5 rfl).trans (hk15 5 rfl)) rfl (rfl) (by omega) (by omega)) <| p_val (r_load1 (v := .int .u64 (f' (k + j))) to22 H rfl (k := 0) rfl (by simpa using out_piece f' (k + j) (by omega))) <| p_mv (v := (.int _ _)) rfl ?_
   refine p_callv (l := [(.int _ _), (.int _ _), (.int _ _)]) rfl (run_Add64 ltu_FldB ltu_FldB (by first | exact C_sb _ _ _ | exact C_ac _ _ _ | exact C1_0 | assumption) _) <| p_mv (v := (.tuple _)) rfl <| p_val (r_extract (v := (.int _ _)) rfl rfl) <| p_val (r_extract (v := (.int _ _)) rfl rfl) <| p_val (r_addrA (i := k + j) u144 sz22 ((hk28 5 rfl).trans (hk15 5 rfl)) rfl (rfl) (by omega) (by omega)) ?_
   refine p_store1 (cs := _) (v := (.int _ _)) to22 H rfl (k := 0) rfl rfl rfl (by rw [nat_blt]; simp [outL]; omega) ?_; clear H; intro w42 H
   rw [show 0 + (k + j) * 1 = k + j by omega, out_lay _ _ _ (by omega)] at H
   refine p_as (v := (.int _ _)) rfl <| xk hK41 ?_; try clear hK41 K41
   refine wp_region_lit <| p_mv (v := (.int _ _)) rfl <| p_mv (v := (.int _ _)) rfl <| p_val (r_add (r := mh (lm A k) (lm B j) + ac (ml (lm A k) (lm B j)) c 0 + ac (f' (k + j)) (ad (ml (lm A k) (lm B j)) c 0) 0) rfl rfl ((wide_step (U_lm A k) (U_lm B j) hc (hf' (k + j))).1)) <| p_as (v := (.int _ _)) rfl <| wpList_nil <| b_norm <| xn hK35 ?_; try clear hK35 K35
   refine wp_region_lit <| p_val (r_add (r := ((j + 1 : Nat) : Int)) hl30 rfl ((wr64 (by omega) (by omega)).trans (by omega))) <| p_mv (v := (.int _ _)) rfl <| wpList_nil <| x_norm ?_
   exact ⟨_, _, (by omega), rfl, (by repeat (first | exact hk28 | refine keep_cons rfl ?_)), j + 1, mh (lm A k) (lm B j) + ac (ml (lm A k) (lm B j)) c 0 + ac (f' (k + j)) (ad (ml (lm A k) (lm B j)) c 0) 0, upd f' (k + j) (ad (f' (k + j)) (ad (ml (lm A k) (lm B j)) c 0) 0), rfl, rfl, rfl, H, by omega, (wide_step (U_lm A k) (U_lm B j) hc (hf' (k + j))).2.1, U_upd hf' (U_ad _ _ _), fun s hs => by rw [upd_other (by omega), hz' s (by omega)], wide_inv hv' (wide_step (U_lm A k) (U_lm B j) hc (hf' (k + j))).2.2 (by omega)⟩
  ·skip
   have hj4 := of_decide_eq_false hc_7
   obtain rfl : j = 4 := by omega
   refine wp_exit <| x_exit <| x_exit <| b_hit <| xn hK24 ?_; try clear hK24 K24
   refine wp_region_lit <| p_mv (v := (.int _ _)) (hk28 6 rfl) <| p_val (r_add (r := ((k + 4 : Nat) : Int)) rfl rfl ((wr64 (by omega) (by omega)).trans (by omega))) <| p_mv (v := (.int _ _)) hl31 <| p_val (r_addrA (i := k + 4) u144 sz22 ((hk28 5 rfl).trans (hk15 5 rfl)) rfl (rfl) (by omega) (by omega)) ?_
   refine p_store1 (cs := _) (v := (.int _ _)) to22 H rfl (k := 0) rfl rfl rfl (by rw [nat_blt]; simp [outL]; omega) ?_; clear H; intro w43 H
   rw [show 0 + (k + 4) * 1 = k + 4 by omega, out_lay _ _ _ (by omega)] at H
   refine wpList_nil <| b_norm <| xn hK21 ?_; try clear hK21 K21
   refine wp_region_lit <| p_val (r_add (r := ((k + 1 : Nat) : Int)) ((hk28 15 rfl).trans hl17) rfl ((wr64 (by omega) (by omega)).trans (by omega))) <| p_mv (v := (.int _ _)) rfl <| wpList_nil <| x_norm ?_
   exact ⟨_, _, (by omega), rfl, (by repeat (first | exact hk15 | refine keep_cons rfl ?_ | refine keep_sub hk28 rfl ?_)), k + 1, upd f' (k + 4) c, rfl, rfl, H, by omega, U_upd hf' hc, fun s hs => by rw [upd_other (by omega), hz' s (by omega), hz s (by omega)], wide_out hv' hv hB ((hz' _ (Nat.le_refl _)).trans (hz _ (Nat.le_refl _))) (by omega)⟩
 ·skip
  have hk4 := of_decide_eq_false hc_3
  refine wp_exit <| x_exit <| x_exit <| b_hit <| xn hK11 ?_; try clear hK11 K11
  refine sr fun K44 hK44 => p_val (r_loadW tg144 H (hk15 5 rfl) (k := 0) rfl rfl) <| p_storeW tg144 H (hk15 4 rfl) (k := 1) rfl rfl rfl rfl rfl ?_; clear H; intro w45 H
  refine xk hK44 ?_; try clear hK44 K44
  refine wp_ret <| e_1 rfl (q_cellW tg144 H (hk15 4 rfl) (k := 1) rfl rfl) ?_
  obtain rfl : k = 4 := by omega
  rw [low_4 hA] at hv
  exact ⟨by rw [outL_of hf (X := A * B) (by rw [hv, Int.natCast_mul])], H.below⟩
set_option maxHeartbeats 1000000 in
set_option maxRecDepth 10000 in
theorem mul_c (m : Int) (A B : Nat) (hA : A < two256) (hB : B < two256) (w : World) :
    Calls Tryz.prog 51 #[.int .i64 m, numV A, numV B] w fun e w' => e = .returned (numV (A * B % modN m)) ∧ Ext w w' := by
 refine enter (n := 73) Tryz.func51 rfl rfl rfl ?_
 have H := HP.start w
 have hp := mod_modN m
 have hone : two256 - modN m < two256 := by have := hp.pos; have := hp.lt; omega
 refine sr fun K1 hK1 => p_box (l := numL A) H rfl ?_; clear H; intro w2 b3 H
 refine p_box (l := numL B) H rfl ?_; clear H; intro w4 b5 H
 refine p_alloc (l := [uz, uz, uz, uz]) H tz24 rfl ?_; clear H; intro w7 b6 H
 refine xk hK1 ?_; try clear hK1 K1
 refine sr fun K8 hK8 => p_mv (v := (.int _ _)) rfl <| p_call (l := [(.int _ _)]) is40 rfl <| (modulus_c _ _).mono ?_; rintro _ w9 ⟨rfl, hx⟩; replace H := H.ext hx; clear hx
 refine p_alloc (l := [uz, uz, uz, uz]) H tz24 rfl ?_; clear H; intro w11 b10 H
 refine p_storeW tg24 H rfl (k := 0) rfl rfl rfl rfl rfl ?_; clear H; intro w12 H
 refine xk hK8 ?_; try clear hK8 K8
 refine sr fun K13 hK13 => p_val (r_loadW tg24 H rfl (k := 3) rfl rfl) <| p_val (r_loadW tg24 H rfl (k := 2) rfl rfl) <| p_call (l := [(.agg (List.toArray _)), (.agg (List.toArray _))]) is100 rfl <| (wide_c _ _ lt2_FldB lt2_FldB _).mono ?_; rintro _ w14 ⟨rfl, hx⟩; replace H := H.ext hx; clear hx
 refine p_alloc (l := [uz, uz, uz, uz, uz, uz, uz, uz]) H tz144 rfl ?_; clear H; intro w16 b15 H
 refine p_storeW tg144 H rfl (k := 0) rfl rfl rfl rfl rfl ?_; clear H; intro w17 H
 refine xk hK13 ?_; try clear hK13 K13
 refine wp_seq_k fun K18 hK18 => wp_block ?_
 refine loopF [9, 10, 11, 12, 18, 19, 20, 21, 22, 23, 24, 25, 26, 27, 28, 29, 30, 31, 32, 33, 34, 35, 36, 37, 38, 39, 40, 41, 42, 43, 44, 45, 46, 47, 48, 49, 50, 51, 52, 53, 54, 55, 56, 57, 58, 59, 60, 61] (fun γ μ w' => ∃ (X : Nat), X = γ ∧ HP w w' [(b15, outL (lm X), 144), (b10, numL (modN m), 24), (b6, [uz, uz, uz, uz], 24), (b5, numL B, 24), (b3, numL A, 24)] ∧ (X < two256 * two256) ∧ (X % modN m = A * B % modN m)) (A * B) ⟨A * B, rfl, H, Nat.mul_lt_mul'' hA hB, rfl⟩ ?_
 clear H
 intro g22 m19 w20 hk21 hI; obtain ⟨X, rfl, H, hX, hv⟩ := hI
 have hXh : X / two256 < two256 := Nat.div_lt_of_lt_mul hX
 refine wp_seq_k fun K23 hK23 => sr fun K24 hK24 => p_val (r_addrA u144 sz22 (hk21 8 rfl) (k := .i64) (i := 4) rfl rfl (by decide) (by decide)) <| p_val (r_load1 (v := (.int _ _)) to22 H rfl (k := 0) rfl rfl) <| p_val (r_addrA u144 sz22 (hk21 8 rfl) (k := .i64) (i := 5) rfl rfl (by decide) (by decide)) <| p_val (r_load1 (v := (.int _ _)) to22 H rfl (k := 0) rfl rfl) ?_
 refine p_val (r_bits (bo := .or) (by simp) rfl rfl rfl) <| p_val (r_addrA u144 sz22 (hk21 8 rfl) (k := .i64) (i := 6) rfl rfl (by decide) (by decide)) <| p_val (r_load1 (v := (.int _ _)) to22 H rfl (k := 0) rfl rfl) <| p_val (r_bits (bo := .or) (by simp) rfl rfl rfl) <| p_val (r_addrA u144 sz22 (hk21 8 rfl) (k := .i64) (i := 7) rfl rfl (by decide) (by decide)) ?_
 refine p_val (r_load1 (v := (.int _ _)) to22 H rfl (k := 0) rfl rfl) <| p_val (r_bits (bo := .or) (by simp) rfl rfl rfl) <| p_val (r_neq (t := decide (two256 ≤ X)) rfl rfl (or4_ne X hX)) <| xk hK24 ?_; try clear hK24 K24
 refine c_split (t := _) rfl (fun hc_3 => ?_) (fun hc_3 => ?_)
 ·skip
  have hX2 := of_decide_eq_true hc_3
  refine wp_skip <| xn hK23 ?_; try clear hK23 K23
  refine wp_block <| wp_seq_k fun K26 hK26 => ?_
  apply wp_region_ext 13 (kinds [(10, .inl _), (11, .inl _), (12, .inr (NewAt _ [uz, uz, uz, uz, uz, uz, uz, uz] 144))]) rfl rfl (by kernel_rfl); intro vs28
  simp only [tkS, tkZ, drS, drZ]
  replace H := H.drew
  refine t_v (fun w hx => r_addrA u144 sz22 (hk21 8 rfl) (k := .i64) (i := 4) rfl rfl (by decide) (by decide)) <| t_v (fun w hx => r_load1 (v := (.int _ _)) to22 (H.ext hx) rfl (k := 0) rfl rfl) <| t_v (fun w hx => r_addrA u144 sz22 (hk21 8 rfl) (k := .i64) (i := 5) rfl rfl (by decide) (by decide)) <| t_v (fun w hx => r_load1 (v := (.int _ _)) to22 (H.ext hx) rfl (k := 0) rfl rfl) ?_
  refine t_v (fun w hx => r_addrA u144 sz22 (hk21 8 rfl) (k := .i64) (i := 6) rfl rfl (by decide) (by decide)) <| t_v (fun w hx => r_load1 (v := (.int _ _)) to22 (H.ext hx) rfl (k := 0) rfl rfl) <| t_v (fun w hx => r_addrA u144 sz22 (hk21 8 rfl) (k := .i64) (i := 7) rfl rfl (by decide) (by decide)) <| t_v (fun w hx => r_load1 (v := (.int _ _)) to22 (H.ext hx) rfl (k := 0) rfl rfl) ?_
  refine t_v (fun w hx => r_as (l' := numL (X / two256)) (r_build (vals := [(0, (.int _ _)), (1, (.int _ _)), (2, (.int _ _)), (3, (.int _ _))]) (l := [_, _, _, _]) tb24 rfl rfl) (numL_hi X)) <| t_v (fun w hx => r_loadW tg24 (H.ext hx) (hk21 7 rfl) (k := 1) rfl rfl) ?_
  refine t_call (l := [(.agg (List.toArray _))]) rfl rfl is101 rfl (fun w hx hF => (one_c _ (by first | assumption | exact mod_modN _) _).mono (fun _ _ h => h)) <| t_call (l := [(.agg (List.toArray _)), (.agg (List.toArray _))]) rfl rfl is100 rfl (fun w hx hF => (wide_c _ _ lt2_FldB lt2_FldB _).mono (fun _ _ h => h)) <| t_alloc rfl rfl tz144 rfl ?_
  refine t_nil (fun w30 hx hF hA => ?_)
  obtain ⟨b29, eb29, hbb29, hhb29⟩ := fact_rel hF 12 rfl rfl; have hnb29 := HP.neL H hbb29; replace hbb29 := Nat.le_trans H.below.size hbb29
  replace H := H.ext hx
  replace H := HP.push1 H hbb29 hnb29 hhb29
  clear hbb29 hnb29 hhb29
  clear hx hF hA
  refine p_storeW tg144 H eb29 (k := 0) rfl rfl rfl rfl rfl ?_; clear H; intro w31 H
  refine wpList_nil ?_; refine on_norm ?_
  refine xn hK26 ?_; try clear hK26 K26
  refine sr fun K32 hK32 => p_as (v := (.int _ _)) rfl <| xk hK32 ?_; try clear hK32 K32
  refine sr fun K33 hK33 => p_mv (v := (.int _ _)) rfl <| xk hK33 ?_; try clear hK33 K33
  refine wp_block <| wp_loop_rounds 9 ?_; rw [rounds_succ]
  refine sr fun K34 hK34 => p_val (r_lss (t := true) rfl rfl (by decide)) <| xk hK34 ?_; try clear hK34 K34
  refine wp_seq_k fun K35 hK35 => c_true rfl rfl <| wp_skip <| xn hK35 ?_; try clear hK35 K35
  refine wp_seq_k fun K36 hK36 => wp_block <| sr fun K37 hK37 => p_mv (v := (.int _ _)) rfl <| p_as (v := (.int _ _)) rfl <| xk hK37 ?_; try clear hK37 K37
  refine sr fun K38 hK38 => p_as (v := (.int _ _)) rfl <| xk hK38 ?_; try clear hK38 K38
  refine wp_seq_k fun K39 hK39 => sr fun K40 hK40 => p_mv (v := (.int _ _)) rfl <| p_val (r_lss (t := true) rfl rfl (by decide)) <| xk hK40 ?_; try clear hK40 K40
  refine c_true rfl rfl <| wp_region_lit <| p_mv (v := (.int _ _)) rfl <| p_val (r_addrA u144 sz22 (hk21 8 rfl) (k := .i64) (i := 0) rfl rfl (by decide) (by decide)) <| p_val (r_load1 (v := (.int _ _)) to22 H rfl (k := 1) rfl rfl) <| p_as (v := (.int _ _)) rfl <| xk hK39 ?_; try clear hK39 K39
  refine wp_region_lit <| p_mv (v := (.int _ _)) rfl <| p_mv (v := (.int _ _)) rfl <| p_val (r_addrA u144 sz22 eb29 (k := .i64) (i := 0) rfl rfl (by decide) (by decide)) <| p_val (r_load1 (v := (.int _ _)) to22 H rfl (k := 0) rfl rfl) <| p_mv (v := (.int _ _)) rfl <| p_mv (v := (.int _ _)) rfl ?_
  refine p_callv (l := [(.int _ _), (.int _ _), (.int _ _)]) rfl (run_Add64 ltu_FldB ltu_FldB (by first | exact C_sb _ _ _ | exact C_ac _ _ _ | exact C1_0 | assumption) _) <| p_mv (v := (.tuple _)) rfl <| p_val (r_extract (v := (.int _ _)) rfl rfl) <| p_val (r_extract (v := (.int _ _)) rfl rfl) <| p_val (r_addrA u144 sz22 (hk21 8 rfl) (k := .i64) (i := 0) rfl rfl (by decide) (by decide)) ?_
  refine p_store1 (v := (.int _ _)) to22 H rfl (k := 1) rfl rfl rfl rfl ?_; clear H; intro w41 H
  refine p_as (v := (.int _ _)) rfl <| wpList_nil <| b_norm <| xn hK36 ?_; try clear hK36 K36
  refine wp_region_lit <| p_val (r_add (r := 1) rfl rfl rfl) <| p_mv (v := (.int _ _)) rfl <| wpList_nil <| x_norm ?_
  rw [rounds_succ]
  refine sr fun K42 hK42 => p_val (r_lss (t := true) rfl rfl (by decide)) <| xk hK42 ?_; try clear hK42 K42
  refine wp_seq_k fun K43 hK43 => c_true rfl rfl <| wp_skip <| xn hK43 ?_; try clear hK43 K43
  refine wp_seq_k fun K44 hK44 => wp_block <| sr fun K45 hK45 => p_mv (v := (.int _ _)) rfl <| p_as (v := (.int _ _)) rfl <| xk hK45 ?_; try clear hK45 K45
  refine sr fun K46 hK46 => p_as (v := (.int _ _)) rfl <| xk hK46 ?_; try clear hK46 K46
  refine wp_seq_k fun K47 hK47 => sr fun K48 hK48 => p_mv (v := (.int _ _)) rfl <| p_val (r_lss (t := true) rfl rfl (by decide)) <| xk hK48 ?_; try clear hK48 K48
  refine c_true rfl rfl <| wp_region_lit <| p_mv (v := (.int _ _)) rfl <| p_val (r_addrA u144 sz22 (hk21 8 rfl) (k := .i64) (i := 1) rfl rfl (by decide) (by decide)) <| p_val (r_load1 (v := (.int _ _)) to22 H rfl (k := 1) rfl rfl) <| p_as (v := (.int _ _)) rfl <| xk hK47 ?_; try clear hK47 K47
  refine wp_region_lit <| p_mv (v := (.int _ _)) rfl <| p_mv (v := (.int _ _)) rfl <| p_val (r_addrA u144 sz22 eb29 (k := .i64) (i := 1) rfl rfl (by decide) (by decide)) <| p_val (r_load1 (v := (.int _ _)) to22 H rfl (k := 0) rfl rfl) <| p_mv (v := (.int _ _)) rfl <| p_mv (v := (.int _ _)) rfl ?_
  refine p_callv (l := [(.int _ _), (.int _ _), (.int _ _)]) rfl (run_Add64 ltu_FldB ltu_FldB (by first | exact C_sb _ _ _ | exact C_ac _ _ _ | exact C1_0 | assumption) _) <| p_mv (v := (.tuple _)) rfl <| p_val (r_extract (v := (.int _ _)) rfl rfl) <| p_val (r_extract (v := (.int _ _)) rfl rfl) <| p_val (r_addrA u144 sz22 (hk21 8 rfl) (k := .i64) (i := 1) rfl rfl (by decide) (by decide)) ?_
  refine p_store1 (v := (.int _ _)) to22 H rfl (k := 1) rfl rfl rfl rfl ?_; clear H; intro w49 H
  refine p_as (v := (.int _ _)) rfl <| wpList_nil <| b_norm <| xn hK44 ?_; try clear hK44 K44
  refine wp_region_lit <| p_val (r_add (r := 2) rfl rfl rfl) <| p_mv (v := (.int _ _)) rfl <| wpList_nil <| x_norm ?_
  rw [rounds_succ]
  refine sr fun K50 hK50 => p_val (r_lss (t := true) rfl rfl (by decide)) <| xk hK50 ?_; try clear hK50 K50
  refine wp_seq_k fun K51 hK51 => c_true rfl rfl <| wp_skip <| xn hK51 ?_; try clear hK51 K51
  refine wp_seq_k fun K52 hK52 => wp_block <| sr fun K53 hK53 => p_mv (v := (.int _ _)) rfl <| p_as (v := (.int _ _)) rfl <| xk hK53 ?_; try clear hK53 K53
  refine sr fun K54 hK54 => p_as (v := (.int _ _)) rfl <| xk hK54 ?_; try clear hK54 K54
  refine wp_seq_k fun K55 hK55 => sr fun K56 hK56 => p_mv (v := (.int _ _)) rfl <| p_val (r_lss (t := true) rfl rfl (by decide)) <| xk hK56 ?_; try clear hK56 K56
  refine c_true rfl rfl <| wp_region_lit <| p_mv (v := (.int _ _)) rfl <| p_val (r_addrA u144 sz22 (hk21 8 rfl) (k := .i64) (i := 2) rfl rfl (by decide) (by decide)) <| p_val (r_load1 (v := (.int _ _)) to22 H rfl (k := 1) rfl rfl) <| p_as (v := (.int _ _)) rfl <| xk hK55 ?_; try clear hK55 K55
  refine wp_region_lit <| p_mv (v := (.int _ _)) rfl <| p_mv (v := (.int _ _)) rfl <| p_val (r_addrA u144 sz22 eb29 (k := .i64) (i := 2) rfl rfl (by decide) (by decide)) <| p_val (r_load1 (v := (.int _ _)) to22 H rfl (k := 0) rfl rfl) <| p_mv (v := (.int _ _)) rfl <| p_mv (v := (.int _ _)) rfl ?_
  refine p_callv (l := [(.int _ _), (.int _ _), (.int _ _)]) rfl (run_Add64 ltu_FldB ltu_FldB (by first | exact C_sb _ _ _ | exact C_ac _ _ _ | exact C1_0 | assumption) _) <| p_mv (v := (.tuple _)) rfl <| p_val (r_extract (v := (.int _ _)) rfl rfl) <| p_val (r_extract (v := (.int _ _)) rfl rfl) <| p_val (r_addrA u144 sz22 (hk21 8 rfl) (k := .i64) (i := 2) rfl rfl (by decide) (by decide)) ?_
  refine p_store1 (v := (.int _ _)) to22 H rfl (k := 1) rfl rfl rfl rfl ?_; clear H; intro w57 H
  refine p_as (v := (.int _ _)) rfl <| wpList_nil <| b_norm <| xn hK52 ?_; try clear hK52 K52
  refine wp_region_lit <| p_val (r_add (r := 3) rfl rfl rfl) <| p_mv (v := (.int _ _)) rfl <| wpList_nil <| x_norm ?_
  rw [rounds_succ]
  refine sr fun K58 hK58 => p_val (r_lss (t := true) rfl rfl (by decide)) <| xk hK58 ?_; try clear hK58 K58
  refine wp_seq_k fun K59 hK59 => c_true rfl rfl <| wp_skip <| xn hK59 ?_; try clear hK59 K59
  refine wp_seq_k fun K60 hK60 => wp_block <| sr fun K61 hK61 => p_mv (v := (.int _ _)) rfl <| p_as (v := (.int _ _)) rfl <| xk hK61 ?_; try clear hK61 K61
  refine sr fun K62 hK62 => p_as (v := (.int _ _)) rfl <| xk hK62 ?_; try clear hK62 K62
  refine wp_seq_k fun K63 hK63 => sr fun K64 hK64 => p_mv (v := (.int _ _)) rfl <| p_val (r_lss (t := true) rfl rfl (by decide)) <| xk hK64 ?_; try clear hK64 K64
  refine c_true rfl rfl <| wp_region_lit <| p_mv (v := (.int _ _)) rfl <| p_val (r_addrA u144 sz22 (hk21 8 rfl) (k := .i64) (i := 3) rfl rfl (by decide) (by decide)) <| p_val (r_load1 (v := (.int _ _)) to22 H rfl (k := 1) rfl rfl) <| p_as (v := (.int _ _)) rfl <| xk hK63 ?_; try clear hK63 K63
  refine wp_region_lit <| p_mv (v := (.int _ _)) rfl <| p_mv (v := (.int _ _)) rfl <| p_val (r_addrA u144 sz22 eb29 (k := .i64) (i := 3) rfl rfl (by decide) (by decide)) <| p_val (r_load1 (v := (.int _ _)) to22 H rfl (k := 0) rfl rfl) <| p_mv (v := (.int _ _)) rfl <| p_mv (v := (.int _ _)) rfl ?_
  refine p_callv (l := [(.int _ _), (.int _ _), (.int _ _)]) rfl (run_Add64 ltu_FldB ltu_FldB (by first | exact C_sb _ _ _ | exact C_ac _ _ _ | exact C1_0 | assumption) _) <| p_mv (v := (.tuple _)) rfl <| p_val (r_extract (v := (.int _ _)) rfl rfl) <| p_val (r_extract (v := (.int _ _)) rfl rfl) <| p_val (r_addrA u144 sz22 (hk21 8 rfl) (k := .i64) (i := 3) rfl rfl (by decide) (by decide)) ?_
  refine p_store1 (v := (.int _ _)) to22 H rfl (k := 1) rfl rfl rfl rfl ?_; clear H; intro w65 H
  refine p_as (v := (.int _ _)) rfl <| wpList_nil <| b_norm <| xn hK60 ?_; try clear hK60 K60
  refine wp_region_lit <| p_val (r_add (r := 4) rfl rfl rfl) <| p_mv (v := (.int _ _)) rfl <| wpList_nil <| x_norm ?_
  rw [rounds_succ]
  refine sr fun K66 hK66 => p_val (r_lss (t := true) rfl rfl (by decide)) <| xk hK66 ?_; try clear hK66 K66
  refine wp_seq_k fun K67 hK67 => c_true rfl rfl <| wp_skip <| xn hK67 ?_; try clear hK67 K67
  refine wp_seq_k fun K68 hK68 => wp_block <| sr fun K69 hK69 => p_mv (v := (.int _ _)) rfl <| p_as (v := (.int _ _)) rfl <| xk hK69 ?_; try clear hK69 K69
  refine sr fun K70 hK70 => p_as (v := (.int _ _)) rfl <| xk hK70 ?_; try clear hK70 K70
  refine wp_seq_k fun K71 hK71 => sr fun K72 hK72 => p_mv (v := (.int _ _)) rfl <| p_val (r_lss (t := false) rfl rfl (by decide)) <| xk hK72 ?_; try clear hK72 K72
  refine c_false rfl rfl <| wp_skip <| xn hK71 ?_; try clear hK71 K71
  refine wp_region_lit <| p_mv (v := (.int _ _)) rfl <| p_mv (v := (.int _ _)) rfl <| p_val (r_addrA u144 sz22 eb29 (k := .i64) (i := 4) rfl rfl (by decide) (by decide)) <| p_val (r_load1 (v := (.int _ _)) to22 H rfl (k := 0) rfl rfl) <| p_mv (v := (.int _ _)) rfl <| p_mv (v := (.int _ _)) rfl ?_
  refine p_callv (l := [(.int _ _), (.int _ _), (.int _ _)]) rfl (run_Add64 ltu_FldB ltu_FldB (by first | exact C_sb _ _ _ | exact C_ac _ _ _ | exact C1_0 | assumption) _) <| p_mv (v := (.tuple _)) rfl <| p_val (r_extract (v := (.int _ _)) rfl rfl) <| p_val (r_extract (v := (.int _ _)) rfl rfl) <| p_val (r_addrA u144 sz22 (hk21 8 rfl) (k := .i64) (i := 4) rfl rfl (by decide) (by decide)) ?_
  refine p_store1 (v := (.int _ _)) to22 H rfl (k := 1) rfl rfl rfl rfl ?_; clear H; intro w73 H
  refine p_as (v := (.int _ _)) rfl <| wpList_nil <| b_norm <| xn hK68 ?_; try clear hK68 K68
  refine wp_region_lit <| p_val (r_add (r := 5) rfl rfl rfl) <| p_mv (v := (.int _ _)) rfl <| wpList_nil <| x_norm ?_
  rw [rounds_succ]
  refine sr fun K74 hK74 => p_val (r_lss (t := true) rfl rfl (by decide)) <| xk hK74 ?_; try clear hK74 K74
  refine wp_seq_k fun K75 hK75 => c_true rfl rfl <| wp_skip <| xn hK75 ?_; try clear hK75 K75
  refine wp_seq_k fun K76 hK76 => wp_block <| sr fun K77 hK77 => p_mv (v := (.int _ _)) rfl <| p_as (v := (.int _ _)) rfl <| xk hK77 ?_; try clear hK77 K77
  refine sr fun K78 hK78 => p_as (v := (.int _ _)) rfl <| xk hK78 ?_; try clear hK78 K78
  refine wp_seq_k fun K79 hK79 => sr fun K80 hK80 => p_mv (v := (.int _ _)) rfl <| p_val (r_lss (t := false) rfl rfl (by decide)) <| xk hK80 ?_; try clear hK80 K80
  refine c_false rfl rfl <| wp_skip <| xn hK79 ?_; try clear hK79 K79
  refine wp_region_lit <| p_mv (v := (.int _ _)) rfl <| p_mv (v := (.int _ _)) rfl <| p_val (r_addrA u144 sz22 eb29 (k := .i64) (i := 5) rfl rfl (by decide) (by decide)) <| p_val (r_load1 (v := (.int _ _)) to22 H rfl (k := 0) rfl rfl) <| p_mv (v := (.int _ _)) rfl <| p_mv (v := (.int _ _)) rfl ?_
  refine p_callv (l := [(.int _ _), (.int _ _), (.int _ _)]) rfl (run_Add64 ltu_FldB ltu_FldB (by first | exact C_sb _ _ _ | exact C_ac _ _ _ | exact C1_0 | assumption) _) <| p_mv (v := (.tuple _)) rfl <| p_val (r_extract (v := (.int _ _)) rfl rfl) <| p_val (r_extract (v := (.int _ _)) rfl rfl) <| p_val (r_addrA u144 sz22 (hk21 8 rfl) (k := .i64) (i := 5) rfl rfl (by decide) (by decide)) ?_
  refine p_store1 (v := (.int _ _)) to22 H rfl (k := 1) rfl rfl rfl rfl ?_; clear H; intro w81 H
  refine p_as (v := (.int _ _)) rfl <| wpList_nil <| b_norm <| xn hK76 ?_; try clear hK76 K76
  refine wp_region_lit <| p_val (r_add (r := 6) rfl rfl rfl) <| p_mv (v := (.int _ _)) rfl <| wpList_nil <| x_norm ?_
  rw [rounds_succ]
  refine sr fun K82 hK82 => p_val (r_lss (t := true) rfl rfl (by decide)) <| xk hK82 ?_; try clear hK82 K82
  refine wp_seq_k fun K83 hK83 => c_true rfl rfl <| wp_skip <| xn hK83 ?_; try clear hK83 K83
  refine wp_seq_k fun K84 hK84 => wp_block <| sr fun K85 hK85 => p_mv (v := (.int _ _)) rfl <| p_as (v := (.int _ _)) rfl <| xk hK85 ?_; try clear hK85 K85
  refine sr fun K86 hK86 => p_as (v := (.int _ _)) rfl <| xk hK86 ?_; try clear hK86 K86
  refine wp_seq_k fun K87 hK87 => sr fun K88 hK88 => p_mv (v := (.int _ _)) rfl <| p_val (r_lss (t := false) rfl rfl (by decide)) <| xk hK88 ?_; try clear hK88 K88
  refine c_false rfl rfl <| wp_skip <| xn hK87 ?_; try clear hK87 K87
  refine wp_region_lit <| p_mv (v := (.int _ _)) rfl <| p_mv (v := (.int _ _)) rfl <| p_val (r_addrA u144 sz22 eb29 (k := .i64) (i := 6) rfl rfl (by decide) (by decide)) <| p_val (r_load1 (v := (.int _ _)) to22 H rfl (k := 0) rfl rfl) <| p_mv (v := (.int _ _)) rfl <| p_mv (v := (.int _ _)) rfl ?_
  refine p_callv (l := [(.int _ _), (.int _ _), (.int _ _)]) rfl (run_Add64 ltu_FldB ltu_FldB (by first | exact C_sb _ _ _ | exact C_ac _ _ _ | exact C1_0 | assumption) _) <| p_mv (v := (.tuple _)) rfl <| p_val (r_extract (v := (.int _ _)) rfl rfl) <| p_val (r_extract (v := (.int _ _)) rfl rfl) <| p_val (r_addrA u144 sz22 (hk21 8 rfl) (k := .i64) (i := 6) rfl rfl (by decide) (by decide)) ?_
  refine p_store1 (v := (.int _ _)) to22 H rfl (k := 1) rfl rfl rfl rfl ?_; clear H; intro w89 H
  refine p_as (v := (.int _ _)) rfl <| wpList_nil <| b_norm <| xn hK84 ?_; try clear hK84 K84
  refine wp_region_lit <| p_val (r_add (r := 7) rfl rfl rfl) <| p_mv (v := (.int _ _)) rfl <| wpList_nil <| x_norm ?_
  rw [rounds_succ]
  refine sr fun K90 hK90 => p_val (r_lss (t := true) rfl rfl (by decide)) <| xk hK90 ?_; try clear hK90 K90
  refine wp_seq_k fun K91 hK91 => c_true rfl rfl <| wp_skip <| xn hK91 ?_; try clear hK91 K91
  refine wp_seq_k fun K92 hK92 => wp_block <| sr fun K93 hK93 => p_mv (v := (.int _ _)) rfl <| p_as (v := (.int _ _)) rfl <| xk hK93 ?_; try clear hK93 K93
  refine sr fun K94 hK94 => p_as (v := (.int _ _)) rfl <| xk hK94 ?_; try clear hK94 K94
  refine wp_seq_k fun K95 hK95 => sr fun K96 hK96 => p_mv (v := (.int _ _)) rfl <| p_val (r_lss (t := false) rfl rfl (by decide)) <| xk hK96 ?_; try clear hK96 K96
  refine c_false rfl rfl <| wp_skip <| xn hK95 ?_; try clear hK95 K95
  refine wp_region_lit <| p_mv (v := (.int _ _)) rfl <| p_mv (v := (.int _ _)) rfl <| p_val (r_addrA u144 sz22 eb29 (k := .i64) (i := 7) rfl rfl (by decide) (by decide)) <| p_val (r_load1 (v := (.int _ _)) to22 H rfl (k := 0) rfl rfl) <| p_mv (v := (.int _ _)) rfl <| p_mv (v := (.int _ _)) rfl ?_
  refine p_callv (l := [(.int _ _), (.int _ _), (.int _ _)]) rfl (run_Add64 ltu_FldB ltu_FldB (by first | exact C_sb _ _ _ | exact C_ac _ _ _ | exact C1_0 | assumption) _) <| p_mv (v := (.tuple _)) rfl <| p_val (r_extract (v := (.int _ _)) rfl rfl) <| p_val (r_extract (v := (.int _ _)) rfl rfl) <| p_val (r_addrA u144 sz22 (hk21 8 rfl) (k := .i64) (i := 7) rfl rfl (by decide) (by decide)) ?_
  refine p_store1 (v := (.int _ _)) to22 H rfl (k := 1) rfl rfl rfl rfl ?_; clear H; intro w97 H
  refine p_as (v := (.int _ _)) rfl <| wpList_nil <| b_norm <| xn hK92 ?_; try clear hK92 K92
  refine wp_region_lit <| p_val (r_add (r := 8) rfl rfl rfl) <| p_mv (v := (.int _ _)) rfl <| wpList_nil <| x_norm ?_
  rw [rounds_succ]
  refine sr fun K98 hK98 => p_val (r_lss (t := false) rfl rfl (by decide)) <| xk hK98 ?_; try clear hK98 K98
  refine wp_seq_k fun K99 hK99 => c_false rfl rfl <| wp_exit <| x_exit <| x_exit <| b_hit <| b_norm <| x_norm ?_
  have hlt := fold_lt hp hX2
  replace H := H.tail
  exact ⟨_, _, (by omega), rfl, (by repeat (first | exact hk21 | refine keep_cons rfl ?_)), X / two256 * (two256 - modN m) + X % two256, rfl, (HP.recast H (k := 0) rfl (add8_fin (X / two256 * (two256 - modN m)) X (by omega) (by omega))), by omega, by rw [fold_mod hp, hv]⟩
 ·skip
  have hX2 := of_decide_eq_false hc_3
  have hX3 : X < two256 := by omega
  refine wp_exit <| x_exit <| x_exit <| b_hit <| xn hK18 ?_; try clear hK18 K18
  refine sr fun K100 hK100 => p_val (r_addrA u144 sz22 (hk21 8 rfl) (k := .i64) (i := 0) rfl rfl (by decide) (by decide)) <| p_val (r_load1 (v := (.int _ _)) to22 H rfl (k := 0) rfl rfl) <| p_val (r_addrA u144 sz22 (hk21 8 rfl) (k := .i64) (i := 1) rfl rfl (by decide) (by decide)) <| p_val (r_load1 (v := (.int _ _)) to22 H rfl (k := 0) rfl rfl) ?_
  refine p_val (r_addrA u144 sz22 (hk21 8 rfl) (k := .i64) (i := 2) rfl rfl (by decide) (by decide)) <| p_val (r_load1 (v := (.int _ _)) to22 H rfl (k := 0) rfl rfl) <| p_val (r_addrA u144 sz22 (hk21 8 rfl) (k := .i64) (i := 3) rfl rfl (by decide) (by decide)) <| p_val (r_load1 (v := (.int _ _)) to22 H rfl (k := 0) rfl rfl) ?_
  refine p_val (r_as (l' := numL X) (r_build (vals := [(0, (.int _ _)), (1, (.int _ _)), (2, (.int _ _)), (3, (.int _ _))]) (l := [_, _, _, _]) tb24 rfl rfl) (numL_lo X)) <| p_val (r_loadW tg24 H (hk21 7 rfl) (k := 1) rfl rfl) <| p_call (l := [(.agg (List.toArray _)), (.agg (List.toArray _))]) is97 rfl ?_
  refine (below_c _ _ lt2_FldB (by first | assumption | exact mod_modN _) _).mono ?_; rintro _ w101 ⟨rfl, hx⟩; replace H := H.ext hx; clear hx
  refine p_storeW tg24 H (hk21 6 rfl) (k := 2) rfl rfl rfl rfl rfl ?_; clear H; intro w102 H
  refine xk hK100 ?_; try clear hK100 K100
  refine wp_ret <| e_1 rfl (q_cellW tg24 H (hk21 6 rfl) (k := 2) rfl rfl) ?_
  exact ⟨by rw [hv], H.below⟩
end Go.Proofs.YtmbcolbbekbccaaGreat
namespace Go.Proofs.YtmbcolbbekbccaaGreat
open Go Go.RowKit
theorem lt2_FldC {x : Nat} (h : x < two256 := by first | exact Nat.mod_lt _ two256_pos | exact Mod.lt (mod_modN _) | assumption | exact onceN_lt (by assumption) | exact Nat.lt_trans (Nat.mod_lt _ (mod_modN _).pos) (mod_modN _).lt | exact ofV_lt2 _ _ | exact invV_lt2 _ _ | exact fm_lt2 _ _ | exact fa_lt2 _ _ | exact fs_lt2 _ _ | exact fn_lt2 _ | exact PP_lt | exact AL_GG.1 | exact AL_GG.2 | exact (AL_cadd _ _).1 | exact (AL_cadd _ _).2 | exact (AL_cmul _ _).1 | exact (AL_cmul _ _).2 | exact (AL_cofV _).1 | exact (AL_cofV _).2 | exact (AL_cneg (by assumption)).1 | exact (AL_cneg (by assumption)).2 | exact lt_lit (by decide)) : x < two256 := h
attribute [local irreducible] wpList wpT Code.wp Calls Code.rounds lm sd sb ad ac modN bval be
theorem u5 : Tryz.prog.underlying 5 = some (.int .u8) := by kernel_rfl
theorem u9 : Tryz.prog.underlying 9 = some .string := by kernel_rfl
theorem is51 : IsFn Tryz.prog 51 := isFn Tryz.func51
theorem is96 : IsFn Tryz.prog 96 := isFn Tryz.func96
theorem is99 : IsFn Tryz.prog 99 := isFn Tryz.func99
theorem is134 : IsFn Tryz.prog 134 := isFn Tryz.func134
theorem pow_c (m : Int) (A X : Nat) (hA : A < two256) (hX : X < two256) (w : World) :
    Calls Tryz.prog 99 #[.int .i64 m, numV A, numV X] w fun e w' => e = .returned (numV (A ^ X % modN m)) ∧ Ext w w' := by
 refine enter (n := 32) Tryz.func99 rfl rfl rfl ?_
 have H := HP.start w
 have hpl := (mod_modN m).lt
 have hl : ∀ Y, Y % modN m < two256 := fun Y => Nat.lt_trans (Nat.mod_lt _ (mod_modN m).pos) hpl
 refine sr fun K1 hK1 => p_box (l := numL A) H rfl ?_; clear H; intro w2 b3 H
 refine p_box (l := numL X) H rfl ?_; clear H; intro w4 b5 H
 refine p_alloc (l := [uz, uz, uz, uz]) H tz24 rfl ?_; clear H; intro w7 b6 H
 refine xk hK1 ?_; try clear hK1 K1
 refine sr fun K8 hK8 => p_val (r_as (l' := numL 1) (r_build (vals := [(0, (.int _ _))]) (l := [_, _, _, _]) tb24 rfl rfl) (num_lit 1 (by decide))) <| p_alloc (l := [uz, uz, uz, uz]) H tz24 rfl ?_; clear H; intro w10 b9 H
 refine p_storeW tg24 H rfl (k := 0) rfl rfl rfl rfl rfl ?_; clear H; intro w11 H
 refine xk hK8 ?_; try clear hK8 K8
 refine wp_seq_k fun K12 hK12 => sr fun K13 hK13 => ?_
 replace H := HP.recast H (k := 0) (cs' := numL (A ^ (X / 2 ^ 256) % modN m)) rfl (congrArg numL (pow_init0 m hX).symm)
 refine p_as (v := (.int _ _)) rfl <| xk hK13 ?_; try clear hK13 K13
 refine wp_block <| loopF [8, 10, 11, 12, 13, 14, 15, 16, 17, 18, 19, 20, 21, 22, 23, 24, 25, 26, 27, 28, 29, 30] (fun γ μ w' => ∃ (k : Nat), k = γ ∧ look μ 8 = .int .i64 ((k : Int) - 1) ∧ HP w w' [(b9, numL (A ^ (X / 2 ^ k) % modN m), 24), (b6, [uz, uz, uz, uz], 24), (b5, numL X, 24), (b3, numL A, 24)] ∧ (k ≤ 256)) (256) ⟨256, rfl, rfl, H, Nat.le_refl _⟩ ?_
 clear H
 intro g17 m14 w15 hk16 hI; obtain ⟨k, rfl, hl18, H, hk⟩ := hI
 refine wp_seq_k fun K19 hK19 => sr fun K20 hK20 => p_mv (v := (.int _ _)) hl18 <| p_val (r_geq rfl rfl rfl) <| xk hK20 ?_; try clear hK20 K20
 refine c_split (t := _) rfl (fun hc_3 => ?_) (fun hc_3 => ?_)
 ·skip
  have hk0 : 0 < k := by have := of_decide_eq_true hc_3; omega
  refine wp_skip <| xn hK19 ?_; try clear hK19 K19
  refine wp_seq_k fun K22 hK22 => wp_block <| sr fun K23 hK23 => p_mv (v := (.int _ _)) (hk16 0 rfl) <| p_val (r_loadW tg24 H (hk16 7 rfl) (k := 0) rfl rfl) <| p_val (r_loadW tg24 H (hk16 7 rfl) (k := 0) rfl rfl) <| p_call (l := [(.int _ _), (.agg (List.toArray _)), (.agg (List.toArray _))]) is51 rfl ?_
  refine (mul_c _ _ _ (by first | exact hl _ | assumption) (by first | exact hl _ | assumption) _).mono ?_; rintro _ w24 ⟨rfl, hx⟩; replace H := H.ext hx; clear hx
  refine p_storeW tg24 H (hk16 7 rfl) (k := 0) rfl rfl rfl rfl rfl ?_; clear H; intro w25 H
  refine xk hK23 ?_; try clear hK23 K23
  refine sr fun K26 hK26 => p_mv (v := (.int _ _)) hl18 <| p_val (r_quo (r := (((k - 1) / 64 : Nat) : Int)) rfl rfl (by decide) (pow_quo hk0 hk)) <| p_val (r_addrA (i := (k - 1) / 64) u24 sz22 (hk16 5 rfl) rfl (rfl) (by omega) (by omega)) <| p_val (r_load1 (v := .int .u64 (lm X ((k - 1) / 64))) to22 H rfl (k := 2) rfl ((by rw [Nat.zero_add, Nat.mul_one]; exact numL_piece _ _ (by omega)))) ?_
  refine p_mv (v := (.int _ _)) hl18 <| p_val (r_rem (r := (((k - 1) % 64 : Nat) : Int)) rfl rfl (by decide) (pow_rem hk0)) <| p_val (r_shr (r := ((X / 2 ^ (64 * ((k - 1) / 64)) % 2 ^ 64 / 2 ^ ((k - 1) % 64) : Nat) : Int)) rfl rfl (by omega) (pow_shr X _ _ (by omega))) <| p_val (r_bits (bo := .and) (by simp) (r := ((X / 2 ^ (k - 1) % 2 : Nat) : Int)) rfl rfl (pow_and X (k - 1))) <| p_val (r_eql rfl rfl rfl) ?_
  refine xk hK26 ?_; try clear hK26 K26
  refine c_split (t := _) rfl (fun hc_6 => ?_) (fun hc_6 => ?_)
  ·skip
   have hbit := bit_t hc_6
   refine wp_region_lit <| p_mv (v := (.int _ _)) (hk16 0 rfl) <| p_val (r_loadW tg24 H (hk16 7 rfl) (k := 0) rfl rfl) <| p_val (r_loadW tg24 H (hk16 4 rfl) (k := 3) rfl rfl) <| p_call (l := [(.int _ _), (.agg (List.toArray _)), (.agg (List.toArray _))]) is51 rfl ?_
   refine (mul_c _ _ _ (by first | exact hl _ | assumption) (by first | exact hl _ | assumption) _).mono ?_; rintro _ w28 ⟨rfl, hx⟩; replace H := H.ext hx; clear hx
   refine p_storeW tg24 H (hk16 7 rfl) (k := 0) rfl rfl rfl rfl rfl ?_; clear H; intro w29 H
   refine wpList_nil <| b_norm <| xn hK22 ?_; try clear hK22 K22
   refine wp_region_lit <| p_mv (v := (.int _ _)) hl18 <| p_val (r_sub rfl rfl (wr64 (by omega) (by omega))) <| p_as (v := (.int _ _)) rfl <| wpList_nil <| x_norm ?_
   exact ⟨_, _, (by omega), rfl, (by repeat (first | exact hk16 | refine keep_cons rfl ?_)), k - 1, rfl, congrArg (Value.int .i64) (by omega), (HP.recast H (k := 0) rfl (congrArg numL (pow_b1 hk0 hbit))), by omega⟩
  ·skip
   have hbit := bit_f hc_6
   refine wp_skip <| b_norm <| xn hK22 ?_; try clear hK22 K22
   refine wp_region_lit <| p_mv (v := (.int _ _)) hl18 <| p_val (r_sub rfl rfl (wr64 (by omega) (by omega))) <| p_as (v := (.int _ _)) rfl <| wpList_nil <| x_norm ?_
   exact ⟨_, _, (by omega), rfl, (by repeat (first | exact hk16 | refine keep_cons rfl ?_)), k - 1, rfl, congrArg (Value.int .i64) (by omega), (HP.recast H (k := 0) rfl (congrArg numL (pow_b0 hk0 hbit))), by omega⟩
 ·skip
  have hk0 : k = 0 := by have := of_decide_eq_false hc_3; omega
  refine wp_exit <| x_exit <| x_exit <| b_hit <| xn hK12 ?_; try clear hK12 K12
  refine sr fun K30 hK30 => p_val (r_loadW tg24 H (hk16 7 rfl) (k := 0) rfl rfl) <| p_storeW tg24 H (hk16 6 rfl) (k := 1) rfl rfl rfl rfl rfl ?_; clear H; intro w31 H
  refine xk hK30 ?_; try clear hK30 K30
  refine wp_ret <| e_1 rfl (q_cellW tg24 H (hk16 6 rfl) (k := 1) rfl rfl) ?_
  subst hk0
  exact ⟨by rw [Nat.pow_zero, Nat.div_one], H.below⟩
theorem inv_c (m : Int) (A : Nat) (hA : A < two256) (w : World) :
    Calls Tryz.prog 50 #[.int .i64 m, numV A] w fun e w' => e = .returned (.tuple #[numV (invV m A), .int .i64 (invE m A)]) ∧ Ext w w' := by
 refine enter (n := 23) Tryz.func50 rfl rfl rfl ?_
 have H := HP.start w
 have hpl := (mod_modN m).lt
 refine sr fun K1 hK1 => p_box (l := numL A) H rfl ?_; clear H; intro w2 b3 H
 refine p_alloc (l := [uz, uz, uz, uz]) H tz24 rfl ?_; clear H; intro w5 b4 H
 refine p_as (v := (.int _ _)) rfl <| xk hK1 ?_; try clear hK1 K1
 refine sr fun K6 hK6 => p_mv (v := (.int _ _)) rfl <| p_call (l := [(.int _ _)]) is40 rfl <| (modulus_c _ _).mono ?_; rintro _ w7 ⟨rfl, hx⟩; replace H := H.ext hx; clear hx
 refine p_alloc (l := [uz, uz, uz, uz]) H tz24 rfl ?_; clear H; intro w9 b8 H
 refine p_storeW tg24 H rfl (k := 0) rfl rfl rfl rfl rfl ?_; clear H; intro w10 H
 refine xk hK6 ?_; try clear hK6 K6
 refine wp_seq_k fun K11 hK11 => sr fun K12 hK12 => p_val (r_loadW tg24 H rfl (k := 2) rfl rfl) <| p_val (r_loadW tg24 H rfl (k := 0) rfl rfl) <| p_call (l := [(.agg (List.toArray _)), (.agg (List.toArray _))]) is97 rfl <| (below_c _ _ lt2_FldC (by first | assumption | exact mod_modN _) _).mono ?_; rintro _ w13 ⟨rfl, hx⟩; replace H := H.ext hx; clear hx
 refine p_val (r_as (l' := numL 0) (r_build (vals := []) (l := [_, _, _, _]) tb24 rfl rfl) (num_0)) <| p_val (r_eqnum u24 u22 sz22 ag22 eg24 rfl rfl lt2_FldC lt2_FldC rfl) <| xk hK12 ?_; try clear hK12 K12
 refine c_split (t := _) rfl (fun hc_2 => ?_) (fun hc_2 => ?_)
 ·skip
  refine sr fun K15 hK15 => p_val (r_as (l' := numL 0) (r_build (vals := []) (l := [_, _, _, _]) tb24 rfl rfl) (num_0)) <| p_storeW tg24 H rfl (k := 1) rfl rfl rfl rfl rfl ?_; clear H; intro w16 H
  refine p_as (v := (.int _ _)) rfl <| xk hK15 ?_; try clear hK15 K15
  refine wp_ret <| x_ret <| e_2 rfl (q_cellW tg24 H rfl (k := 1) rfl rfl) (q_tmp (v := (.int _ _)) rfl) ?_
  have e0 := beqN hc_2
  exact ⟨by simp only [invV, invE, e0, if_true], H.below⟩
 ·skip
  refine wp_skip <| xn hK11 ?_; try clear hK11 K11
  refine sr fun K17 hK17 => p_val (r_addrA u24 sz22 rfl (k := .i64) (i := 0) rfl rfl (by decide) (by decide)) <| p_val (r_load1 (v := (.int _ _)) to22 H rfl (k := 0) rfl rfl) <| p_val (r_sub rfl rfl rfl) <| p_val (r_addrA u24 sz22 rfl (k := .i64) (i := 0) rfl rfl (by decide) (by decide)) <| p_store1 (cs := _) (v := (.int _ _)) to22 H rfl (k := 0) rfl rfl rfl (rfl) ?_; clear H; intro w18 H
  rw [low_sub m] at H
  refine xk hK17 ?_; try clear hK17 K17
  refine sr fun K19 hK19 => p_mv (v := (.int _ _)) rfl <| p_val (r_loadW tg24 H rfl (k := 2) rfl rfl) <| p_val (r_loadW tg24 H rfl (k := 0) rfl rfl) <| p_call (l := [(.int _ _), (.agg (List.toArray _)), (.agg (List.toArray _))]) is99 rfl <| (pow_c _ _ _ hA (low_lt m) _).mono ?_; rintro _ w20 ⟨rfl, hx⟩; replace H := H.ext hx; clear hx
  refine p_storeW tg24 H rfl (k := 1) rfl rfl rfl rfl rfl ?_; clear H; intro w21 H
  refine p_as (v := (.int _ _)) rfl <| xk hK19 ?_; try clear hK19 K19
  refine wp_ret <| e_2 rfl (q_cellW tg24 H rfl (k := 1) rfl rfl) (q_tmp (v := (.int _ _)) rfl) ?_
  have e0 := bneN hc_2
  exact ⟨by simp only [invV, invE, e0, if_false], H.below⟩
theorem value_c (l : List UInt8) (hl : l.length ≤ 8) (w : World) :
    Calls Tryz.prog 134 #[str l] w fun e w' => e = .returned (.int .u64 (bval l : Int)) ∧ Ext w w' := by
 refine enter (n := 19) Tryz.func134 rfl rfl rfl ?_
 have H := HP.start w
 refine sr fun K1 hK1 => p_as (v := (.int _ _)) rfl <| xk hK1 ?_; try clear hK1 K1
 refine sr fun K2 hK2 => p_as (v := (.int _ _)) rfl <| xk hK2 ?_; try clear hK2 K2
 refine wp_seq_k fun K3 hK3 => sr fun K4 hK4 => p_mv (v := (str l)) rfl <| p_val (r_lenT (N := _) u9 rfl (rfl)) <| p_mv (v := (.int _ _)) rfl <| xk hK4 ?_; try clear hK4 K4
 refine wp_block <| loopF [3, 4, 7, 8, 9, 10, 11, 12, 13, 14, 15, 16, 17] (fun γ μ w' => ∃ (i : Nat), l.length - i = γ ∧ look μ 7 = .int .i64 (i : Int) ∧ look μ 3 = .int .u64 (bval (l.take i) : Int) ∧ HP w w' [] ∧ (i ≤ l.length)) (l.length) ⟨0, rfl, rfl, (by rw [List.take_zero, bval_nil]; rfl), H, Nat.zero_le _⟩ ?_
 clear H
 intro g8 m5 w6 hk7 hI; obtain ⟨i, rfl, hl9, hl10, H, hi⟩ := hI
 refine sr fun K11 hK11 => p_val (r_lss hl9 (hk7 6 rfl) rfl) <| xk hK11 ?_; try clear hK11 K11
 refine wp_seq_k fun K13 hK13 => ?_
 refine c_split (t := _) rfl (fun hc_3 => ?_) (fun hc_3 => ?_)
 ·skip
  have hi1 : i < l.length := by have := of_decide_eq_true hc_3; omega
  obtain ⟨b, hb⟩ : ∃ b, l[i]? = some b := ⟨_, List.getElem?_eq_getElem hi1⟩
  have hv7 := value_lt7 hi1 hl
  refine wp_skip <| xn hK13 ?_; try clear hK13 K13
  refine wp_seq_k fun K14 hK14 => wp_block <| sr fun K15 hK15 => p_mv (v := (.int _ _)) hl9 <| p_as (v := (.int _ _)) rfl <| xk hK15 ?_; try clear hK15 K15
  refine wp_region_lit <| p_mv (v := (.int _ _)) hl10 <| p_val (r_shl (r := ((bval (l.take i) * 256 : Nat) : Int)) rfl rfl (by decide) (value_shl hv7)) <| p_mv (v := (str l)) (hk7 0 rfl) <| p_mv (v := (.int _ _)) rfl <| p_val (r_idxT (i := i) (u := b) u9 rfl rfl (rfl) (hb)) <| p_val (r_conv (r := (b.toNat : Int)) u5 u22 rfl (u8_64 b)) ?_
  refine p_val (r_bits (bo := .or) (by simp) (r := ((bval (l.take i) * 256 + b.toNat : Nat) : Int)) rfl rfl (value_or hv7)) <| p_as (v := (.int _ _)) rfl <| wpList_nil <| b_norm <| xn hK14 ?_; try clear hK14 K14
  refine wp_region_lit <| p_val (r_add (r := ((i + 1 : Nat) : Int)) hl9 rfl ((wr64 (by omega) (by omega)).trans (by omega))) <| p_mv (v := (.int _ _)) rfl <| wpList_nil <| x_norm ?_
  exact ⟨_, _, (by omega), rfl, (by repeat (first | exact hk7 | refine keep_cons rfl ?_)), i + 1, rfl, rfl, congrArg (fun z : Nat => Value.int .u64 (z : Int)) (bval_take hb).symm, H, by omega⟩
 ·skip
  have hi1 : i = l.length := by have := of_decide_eq_false hc_3; omega
  refine wp_exit <| x_exit <| x_exit <| b_hit <| xn hK3 ?_; try clear hK3 K3
  refine sr fun K16 hK16 => p_mv (v := (.int _ _)) hl10 <| p_as (v := (.int _ _)) rfl <| xk hK16 ?_; try clear hK16 K16
  refine wp_ret <| e_1 rfl (q_tmp (v := (.int _ _)) rfl) ?_
  subst hi1
  exact ⟨by rw [List.take_length], H.below⟩
theorem number_c (l : List UInt8) (hl : l.length = 32) (w : World) :
    Calls Tryz.prog 96 #[str l] w fun e w' => e = .returned (numV (bval l)) ∧ Ext w w' := by
 refine enter (n := 21) Tryz.func96 rfl rfl rfl ?_
 have H := HP.start w
 refine sr fun K1 hK1 => p_alloc (l := [uz, uz, uz, uz]) H tz24 rfl ?_; clear H; intro w3 b2 H
 refine xk hK1 ?_; try clear hK1 K1
 refine sr fun K4 hK4 => p_alloc (l := [uz, uz, uz, uz]) H tz24 rfl ?_; clear H; intro w6 b5 H
 refine xk hK4 ?_; try clear hK4 K4
 refine wp_seq_k fun K7 hK7 => sr fun K8 hK8 => p_mv (v := (.int _ _)) rfl <| xk hK8 ?_; try clear hK8 K8
 refine wp_block <| wp_loop_rounds 5 ?_; rw [rounds_succ]
 refine sr fun K9 hK9 => p_val (r_lss (t := true) rfl rfl (by decide)) <| xk hK9 ?_; try clear hK9 K9
 refine wp_seq_k fun K10 hK10 => c_true rfl rfl <| wp_skip <| xn hK10 ?_; try clear hK10 K10
 refine wp_seq_k fun K11 hK11 => wp_block <| sr fun K12 hK12 => p_mv (v := (.int _ _)) rfl <| p_as (v := (.int _ _)) rfl <| xk hK12 ?_; try clear hK12 K12
 refine wp_region_lit <| p_mv (v := (.int _ _)) rfl <| p_val (r_sub (r := 3) rfl rfl rfl) <| p_mv (v := (str l)) rfl <| p_mv (v := (.int _ _)) rfl <| p_val (r_mul (r := 0) rfl rfl rfl) <| p_mv (v := (.int _ _)) rfl <| p_val (r_mul (r := 0) rfl rfl rfl) <| p_val (r_add (r := 8) rfl rfl rfl) ?_
 refine p_val (r_sliceT (p := 0) (h := 8) (r := _) u9 rfl rfl rfl (rfl) (rfl) (by omega) (by omega) (rfl)) <| p_call (l := [(str _)]) is134 rfl <| (value_c _ (by first | (simp; done) | (simp; omega)) _).mono ?_; rintro _ w13 ⟨rfl, hx⟩; replace H := H.ext hx; clear hx
 refine p_val (r_addrA u24 sz22 rfl (k := .i64) (i := 3) rfl rfl (by decide) (by decide)) <| p_store1 (v := (.int _ _)) to22 H rfl (k := 0) rfl rfl rfl rfl ?_; clear H; intro w14 H
 refine wpList_nil <| b_norm <| xn hK11 ?_; try clear hK11 K11
 refine wp_region_lit <| p_val (r_add (r := 1) rfl rfl rfl) <| p_mv (v := (.int _ _)) rfl <| wpList_nil <| x_norm ?_
 rw [rounds_succ]
 refine sr fun K15 hK15 => p_val (r_lss (t := true) rfl rfl (by decide)) <| xk hK15 ?_; try clear hK15 K15
 refine wp_seq_k fun K16 hK16 => c_true rfl rfl <| wp_skip <| xn hK16 ?_; try clear hK16 K16
 refine wp_seq_k fun K17 hK17 => wp_block <| sr fun K18 hK18 => p_mv (v := (.int _ _)) rfl <| p_as (v := (.int _ _)) rfl <| xk hK18 ?_; try clear hK18 K18
 refine wp_region_lit <| p_mv (v := (.int _ _)) rfl <| p_val (r_sub (r := 2) rfl rfl rfl) <| p_mv (v := (str l)) rfl <| p_mv (v := (.int _ _)) rfl <| p_val (r_mul (r := 8) rfl rfl rfl) <| p_mv (v := (.int _ _)) rfl <| p_val (r_mul (r := 8) rfl rfl rfl) <| p_val (r_add (r := 16) rfl rfl rfl) ?_
 refine p_val (r_sliceT (p := 8) (h := 16) (r := _) u9 rfl rfl rfl (rfl) (rfl) (by omega) (by omega) (rfl)) <| p_call (l := [(str _)]) is134 rfl <| (value_c _ (by first | (simp; done) | (simp; omega)) _).mono ?_; rintro _ w19 ⟨rfl, hx⟩; replace H := H.ext hx; clear hx
 refine p_val (r_addrA u24 sz22 rfl (k := .i64) (i := 2) rfl rfl (by decide) (by decide)) <| p_store1 (v := (.int _ _)) to22 H rfl (k := 0) rfl rfl rfl rfl ?_; clear H; intro w20 H
 refine wpList_nil <| b_norm <| xn hK17 ?_; try clear hK17 K17
 refine wp_region_lit <| p_val (r_add (r := 2) rfl rfl rfl) <| p_mv (v := (.int _ _)) rfl <| wpList_nil <| x_norm ?_
 rw [rounds_succ]
 refine sr fun K21 hK21 => p_val (r_lss (t := true) rfl rfl (by decide)) <| xk hK21 ?_; try clear hK21 K21
 refine wp_seq_k fun K22 hK22 => c_true rfl rfl <| wp_skip <| xn hK22 ?_; try clear hK22 K22
 refine wp_seq_k fun K23 hK23 => wp_block <| sr fun K24 hK24 => p_mv (v := (.int _ _)) rfl <| p_as (v := (.int _ _)) rfl <| xk hK24 ?_; try clear hK24 K24
 refine wp_region_lit <| p_mv (v := (.int _ _)) rfl <| p_val (r_sub (r := 1) rfl rfl rfl) <| p_mv (v := (str l)) rfl <| p_mv (v := (.int _ _)) rfl <| p_val (r_mul (r := 16) rfl rfl rfl) <| p_mv (v := (.int _ _)) rfl <| p_val (r_mul (r := 16) rfl rfl rfl) <| p_val (r_add (r := 24) rfl rfl rfl) ?_
 refine p_val (r_sliceT (p := 16) (h := 24) (r := _) u9 rfl rfl rfl (rfl) (rfl) (by omega) (by omega) (rfl)) <| p_call (l := [(str _)]) is134 rfl <| (value_c _ (by first | (simp; done) | (simp; omega)) _).mono ?_; rintro _ w25 ⟨rfl, hx⟩; replace H := H.ext hx; clear hx
 refine p_val (r_addrA u24 sz22 rfl (k := .i64) (i := 1) rfl rfl (by decide) (by decide)) <| p_store1 (v := (.int _ _)) to22 H rfl (k := 0) rfl rfl rfl rfl ?_; clear H; intro w26 H
 refine wpList_nil <| b_norm <| xn hK23 ?_; try clear hK23 K23
 refine wp_region_lit <| p_val (r_add (r := 3) rfl rfl rfl) <| p_mv (v := (.int _ _)) rfl <| wpList_nil <| x_norm ?_
 rw [rounds_succ]
 refine sr fun K27 hK27 => p_val (r_lss (t := true) rfl rfl (by decide)) <| xk hK27 ?_; try clear hK27 K27
 refine wp_seq_k fun K28 hK28 => c_true rfl rfl <| wp_skip <| xn hK28 ?_; try clear hK28 K28
 refine wp_seq_k fun K29 hK29 => wp_block <| sr fun K30 hK30 => p_mv (v := (.int _ _)) rfl <| p_as (v := (.int _ _)) rfl <| xk hK30 ?_; try clear hK30 K30
 refine wp_region_lit <| p_mv (v := (.int _ _)) rfl <| p_val (r_sub (r := 0) rfl rfl rfl) <| p_mv (v := (str l)) rfl <| p_mv (v := (.int _ _)) rfl <| p_val (r_mul (r := 24) rfl rfl rfl) <| p_mv (v := (.int _ _)) rfl <| p_val (r_mul (r := 24) rfl rfl rfl) <| p_val (r_add (r := 32) rfl rfl rfl) ?_
 refine p_val (r_sliceT (p := 24) (h := 32) (r := _) u9 rfl rfl rfl (rfl) (rfl) (by omega) (by omega) (rfl)) <| p_call (l := [(str _)]) is134 rfl <| (value_c _ (by first | (simp; done) | (simp; omega)) _).mono ?_; rintro _ w31 ⟨rfl, hx⟩; replace H := H.ext hx; clear hx
 refine p_val (r_addrA u24 sz22 rfl (k := .i64) (i := 0) rfl rfl (by decide) (by decide)) <| p_store1 (v := (.int _ _)) to22 H rfl (k := 0) rfl rfl rfl rfl ?_; clear H; intro w32 H
 refine wpList_nil <| b_norm <| xn hK29 ?_; try clear hK29 K29
 refine wp_region_lit <| p_val (r_add (r := 4) rfl rfl rfl) <| p_mv (v := (.int _ _)) rfl <| wpList_nil <| x_norm ?_
 rw [rounds_succ]
 refine sr fun K33 hK33 => p_val (r_lss (t := false) rfl rfl (by decide)) <| xk hK33 ?_; try clear hK33 K33
 refine wp_seq_k fun K34 hK34 => c_false rfl rfl <| wp_exit <| x_exit <| x_exit <| b_hit <| xn hK7 ?_; try clear hK7 K7
 refine sr fun K35 hK35 => p_val (r_loadW tg24 H rfl (k := 0) rfl rfl) <| p_storeW tg24 H rfl (k := 1) rfl rfl rfl rfl rfl ?_; clear H; intro w36 H
 refine xk hK35 ?_; try clear hK35 K35
 refine wp_ret <| e_1 rfl (q_cellW tg24 H rfl (k := 1) rfl rfl) ?_
 exact ⟨congrArg (fun z : List Value => Ending.returned (.agg z.toArray)) (number_fin hl), H.below⟩
theorem of_c (m : Int) (l : List UInt8) (hl : l.length < 4611686018427387904) (w : World) :
    Calls Tryz.prog 47 #[.int .i64 m, str l] w fun e w' => e = .returned (.tuple #[numV (ofV m l), .int .i64 (ofE m l)]) ∧ Ext w w' := by
 refine enter (n := 21) Tryz.func47 rfl rfl rfl ?_
 have H := HP.start w
 have hpl := (mod_modN m).lt
 refine sr fun K1 hK1 => p_alloc (l := [uz, uz, uz, uz]) H tz24 rfl ?_; clear H; intro w3 b2 H
 refine p_as (v := (.int _ _)) rfl <| xk hK1 ?_; try clear hK1 K1
 refine wp_seq_k fun K4 hK4 => sr fun K5 hK5 => p_mv (v := (str l)) rfl <| p_val (r_lenT (N := _) u9 rfl (rfl)) <| p_val (r_neq rfl rfl rfl) <| xk hK5 ?_; try clear hK5 K5
 refine c_split (t := _) rfl (fun hc_1 => ?_) (fun hc_1 => ?_)
 ·skip
  refine sr fun K7 hK7 => p_val (r_as (l' := numL 0) (r_build (vals := []) (l := [_, _, _, _]) tb24 rfl rfl) (num_0)) <| p_storeW tg24 H rfl (k := 0) rfl rfl rfl rfl rfl ?_; clear H; intro w8 H
  refine p_as (v := (.int _ _)) rfl <| xk hK7 ?_; try clear hK7 K7
  refine wp_ret <| x_ret <| e_2 rfl (q_cellW tg24 H rfl (k := 0) rfl rfl) (q_tmp (v := (.int _ _)) rfl) ?_
  have h0 := of_f (of_len (m := m) (l := l) (fun h => by rw [h] at hc_1; simp at hc_1))
  exact ⟨by rw [h0.1, h0.2], H.below⟩
 ·skip
  have h32 : l.length = 32 := by have := hc_1; simp at this; omega
  refine wp_skip <| xn hK4 ?_; try clear hK4 K4
  refine sr fun K9 hK9 => p_mv (v := (str l)) rfl <| p_call (l := [(str l)]) is96 rfl <| (number_c _ h32 _).mono ?_; rintro _ w10 ⟨rfl, hx⟩; replace H := H.ext hx; clear hx
  refine p_alloc (l := [uz, uz, uz, uz]) H tz24 rfl ?_; clear H; intro w12 b11 H
  refine p_storeW tg24 H rfl (k := 0) rfl rfl rfl rfl rfl ?_; clear H; intro w13 H
  refine xk hK9 ?_; try clear hK9 K9
  refine wp_seq_k fun K14 hK14 => wp_seq_k fun K15 hK15 => ?_
  apply wp_region_ext 6 (kinds [(2, .inl _), (3, .inl _)]) rfl rfl (by kernel_rfl); intro vs17
  simp only [tkS, tkZ, drS, drZ]
  replace H := H.drew
  refine t_v (fun w hx => r_loadW tg24 (H.ext hx) rfl (k := 0) rfl rfl) <| t_v (fun w hx => r_move (v := (.int _ _)) rfl) <| t_call (l := [(.int _ _)]) rfl rfl is40 rfl (fun w hx hF => (modulus_c _ _).mono (fun _ _ h => h)) <| t_call (l := [(.agg (List.toArray _)), (.agg (List.toArray _))]) rfl rfl is97 rfl (fun w hx hF => (below_c _ _ (bval_two256 h32) (mod_modN m) _).mono (fun _ _ h => h)) ?_
  refine t_v (fun w hx => r_loadW tg24 (H.ext hx) rfl (k := 0) rfl rfl) <| t_v (fun w hx => (r_nenum (t := bval l % modN m != bval l) u24 u22 sz22 ag22 eg24 rfl rfl (Nat.lt_trans (Nat.mod_lt _ (mod_modN m).pos) hpl) (bval_two256 h32) rfl)) ?_
  refine t_nil (fun w18 hx hF hA => ?_)
  replace H := H.ext hx
  clear hx hF hA
  refine wpList_nil ?_; refine on_norm ?_
  refine xn hK15 ?_; try clear hK15 K15
  refine c_split (t := _) rfl (fun hc_4 => ?_) (fun hc_4 => ?_)
  ·skip
   refine sr fun K20 hK20 => p_val (r_as (l' := numL 0) (r_build (vals := []) (l := [_, _, _, _]) tb24 rfl rfl) (num_0)) <| p_storeW tg24 H rfl (k := 1) rfl rfl rfl rfl rfl ?_; clear H; intro w21 H
   refine p_as (v := (.int _ _)) rfl <| xk hK20 ?_; try clear hK20 K20
   refine wp_ret <| x_ret <| e_2 rfl (q_cellW tg24 H rfl (k := 1) rfl rfl) (q_tmp (v := (.int _ _)) rfl) ?_
   have h0 := of_f (of_ne hc_4)
   exact ⟨by rw [h0.1, h0.2], H.below⟩
  ·skip
   refine wp_skip <| xn hK14 ?_; try clear hK14 K14
   refine sr fun K22 hK22 => p_val (r_loadW tg24 H rfl (k := 0) rfl rfl) <| p_storeW tg24 H rfl (k := 1) rfl rfl rfl rfl rfl ?_; clear H; intro w23 H
   refine p_as (v := (.int _ _)) rfl <| xk hK22 ?_; try clear hK22 K22
   refine wp_ret <| e_2 rfl (q_cellW tg24 H rfl (k := 1) rfl rfl) (q_tmp (v := (.int _ _)) rfl) ?_
   have h0 := of_t (of_eq h32 hc_4)
   exact ⟨by rw [h0.1, h0.2], H.below⟩
end Go.Proofs.YtmbcolbbekbccaaGreat
namespace Go.Proofs.YtmbcolbbekbccaaGreat
open Go Go.RowKit
attribute [local irreducible] wpList wpT Code.wp Calls Code.rounds lm sd sb ad ac modN bval be
theorem u127 : Tryz.prog.underlying 127 = some (.slice 5) := by kernel_rfl
theorem is133 : IsFn Tryz.prog 133 := isFn Tryz.func133
set_option maxRecDepth 4000 in
theorem word_c (A N p : Nat) (hp : Mod p) (h2 : 2 < p) (hA : A < p) (hN : N < 18446744073709551616) (w : World) :
    Calls Tryz.prog 133 #[numV A, .int .u64 (N : Int), numV p] w fun e w' => e = .returned (numV ((A * 2 ^ 64 + N) % p)) ∧ Ext w w' := by
 refine enter (n := 25) Tryz.func133 rfl rfl rfl ?_
 have H := HP.start w
 refine sr fun K1 hK1 => p_box (l := numL A) H rfl ?_; clear H; intro w2 b3 H
 refine p_box (l := numL p) H rfl ?_; clear H; intro w4 b5 H
 refine p_alloc (l := [uz, uz, uz, uz]) H tz24 rfl ?_; clear H; intro w7 b6 H
 refine xk hK1 ?_; try clear hK1 K1
 refine wp_seq_k fun K8 hK8 => sr fun K9 hK9 => ?_
 replace H := HP.recast H (k := 2) (cs' := numL ((A * 2 ^ (64 - 64) + N / 2 ^ 64) % p)) rfl (congrArg numL (word_0 hA hN).symm)
 refine p_as (v := (.int _ _)) rfl <| xk hK9 ?_; try clear hK9 K9
 refine wp_block <| loopF [7, 8, 9, 10, 11, 12, 13, 14, 15, 16, 17, 18, 19, 20, 21, 22, 23] (fun γ μ w' => ∃ (k : Nat), k = γ ∧ look μ 7 = .int .i64 ((k : Int) - 1) ∧ HP w w' [(b6, [uz, uz, uz, uz], 24), (b5, numL p, 24), (b3, numL ((A * 2 ^ (64 - k) + N / 2 ^ k) % p), 24)] ∧ (k ≤ 64)) (64) ⟨64, rfl, rfl, H, Nat.le_refl _⟩ ?_
 clear H
 intro g13 m10 w11 hk12 hI; obtain ⟨k, rfl, hl14, H, hk⟩ := hI
 refine wp_seq_k fun K15 hK15 => sr fun K16 hK16 => p_mv (v := (.int _ _)) hl14 <| p_val (r_geq rfl rfl rfl) <| xk hK16 ?_; try clear hK16 K16
 refine c_split (t := _) rfl (fun hc_2 => ?_) (fun hc_2 => ?_)
 ·skip
  have hk0 : 0 < k := by have := of_decide_eq_true hc_2; omega
  have hX := Nat.mod_lt (A * 2 ^ (64 - k) + N / 2 ^ k) hp.pos
  have hXX := Nat.mod_lt ((A * 2 ^ (64 - k) + N / 2 ^ k) % p + (A * 2 ^ (64 - k) + N / 2 ^ k) % p) hp.pos
  have hb : N / 2 ^ (k - 1) % 2 < p := Nat.lt_trans (Nat.mod_lt _ (by decide)) h2
  refine wp_skip <| xn hK15 ?_; try clear hK15 K15
  refine wp_seq_k fun K18 hK18 => wp_block <| sr fun K19 hK19 => p_val (r_loadW tg24 H (hk12 3 rfl) (k := 2) rfl rfl) <| p_val (r_loadW tg24 H (hk12 3 rfl) (k := 2) rfl rfl) <| p_val (r_loadW tg24 H (hk12 5 rfl) (k := 1) rfl rfl) <| p_call (l := [(.agg (List.toArray _)), (.agg (List.toArray _)), (.agg (List.toArray _))]) is98 rfl ?_
  refine (sum_c _ _ _ hp (by assumption) (by assumption) _).mono ?_; rintro _ w20 ⟨rfl, hx⟩; replace H := H.ext hx; clear hx
  refine p_storeW tg24 H (hk12 3 rfl) (k := 2) rfl rfl rfl rfl rfl ?_; clear H; intro w21 H
  refine xk hK19 ?_; try clear hK19 K19
  apply wp_region_ext 8 (kinds [(7, .inl _)]) rfl rfl (by kernel_rfl); intro vs23
  simp only [tkS, tkZ, drS, drZ]
  replace H := H.drew
  refine t_v (fun w hx => r_loadW tg24 (H.ext hx) (hk12 3 rfl) (k := 2) rfl rfl) <| t_v (fun w hx => r_move (v := (.int .u64 (N : Int))) (hk12 1 rfl)) <| t_v (fun w hx => r_move (v := (.int _ _)) hl14) <| t_v (fun w hx => r_shr (r := ((N / 2 ^ (k - 1) : Nat) : Int)) rfl rfl (by omega) (word_bit N k hk0 hk)) ?_
  refine t_v (fun w hx => r_bits (bo := .and) (by simp) (r := ((N / 2 ^ (k - 1) % 2 : Nat) : Int)) rfl rfl (and64_1 (Nat.lt_of_le_of_lt (Nat.div_le_self _ _) hN))) <| t_v (fun w hx => r_as (l' := numL (N / 2 ^ (k - 1) % 2)) (r_build (vals := [(0, (.int _ _))]) (l := [_, _, _, _]) tb24 rfl rfl) (num_lit (N / 2 ^ (k - 1) % 2) (Nat.lt_trans (Nat.mod_lt _ (by decide)) (by decide)))) ?_
  refine t_v (fun w hx => r_loadW tg24 (H.ext hx) (hk12 5 rfl) (k := 1) rfl rfl) <| t_call (l := [(.agg (List.toArray _)), (.agg (List.toArray _)), (.agg (List.toArray _))]) rfl rfl is98 rfl (fun w hx hF => (sum_c _ _ _ hp (by assumption) (by assumption) _).mono (fun _ _ h => h)) ?_
  refine t_nil (fun w24 hx hF hA => ?_)
  replace H := H.ext hx
  clear hx hF hA
  refine p_storeW tg24 H (hk12 3 rfl) (k := 2) rfl rfl rfl rfl rfl ?_; clear H; intro w25 H
  refine wpList_nil ?_; refine on_norm ?_
  refine b_norm <| xn hK18 ?_; try clear hK18 K18
  refine wp_region_lit <| p_mv (v := (.int _ _)) hl14 <| p_val (r_sub rfl rfl (wr64 (by omega) (by omega))) <| p_as (v := (.int _ _)) rfl <| wpList_nil <| x_norm ?_
  exact ⟨_, _, (by omega), rfl, (by repeat (first | exact hk12 | refine keep_cons rfl ?_)), k - 1, rfl, congrArg (Value.int .i64) (by omega), (HP.recast H (k := 2) rfl (congrArg numL (word_step hk0 hk))), by omega⟩
 ·skip
  have hk0 : k = 0 := by have := of_decide_eq_false hc_2; omega
  refine wp_exit <| x_exit <| x_exit <| b_hit <| xn hK8 ?_; try clear hK8 K8
  refine sr fun K26 hK26 => p_val (r_loadW tg24 H (hk12 3 rfl) (k := 2) rfl rfl) <| p_storeW tg24 H (hk12 6 rfl) (k := 0) rfl rfl rfl rfl rfl ?_; clear H; intro w27 H
  refine xk hK26 ?_; try clear hK26 K26
  refine wp_ret <| e_1 rfl (q_cellW tg24 H (hk12 6 rfl) (k := 0) rfl rfl) ?_
  subst hk0
  exact ⟨by rw [Nat.pow_zero, Nat.div_one, Nat.sub_zero], H.below⟩
set_option maxRecDepth 4000 in
theorem reduce_c (m : Int) (l : List UInt8) (hl : l.length < 4611686018427387904) (w : World) :
    Calls Tryz.prog 86 #[.int .i64 m, str l] w fun e w' => e = .returned (numV (bval l % modN m)) ∧ Ext w w' := by
 refine enter (n := 26) Tryz.func86 rfl rfl rfl ?_
 have H := HP.start w
 have hp := mod_modN m
 have h2 := two_lt_modN m
 refine sr fun K1 hK1 => p_alloc (l := [uz, uz, uz, uz]) H tz24 rfl ?_; clear H; intro w3 b2 H
 refine xk hK1 ?_; try clear hK1 K1
 refine sr fun K4 hK4 => p_mv (v := (.int _ _)) rfl <| p_call (l := [(.int _ _)]) is40 rfl <| (modulus_c _ _).mono ?_; rintro _ w5 ⟨rfl, hx⟩; replace H := H.ext hx; clear hx
 refine p_alloc (l := [uz, uz, uz, uz]) H tz24 rfl ?_; clear H; intro w7 b6 H
 refine p_storeW tg24 H rfl (k := 0) rfl rfl rfl rfl rfl ?_; clear H; intro w8 H
 refine xk hK4 ?_; try clear hK4 K4
 refine sr fun K9 hK9 => p_alloc (l := [uz, uz, uz, uz]) H tz24 rfl ?_; clear H; intro w11 b10 H
 refine xk hK9 ?_; try clear hK9 K9
 refine wp_seq_k fun K12 hK12 => wp_block ?_
 replace H := HP.recast H (k := 0) rfl num_0
 refine loopF [1, 9, 10, 11, 12, 13, 14] (fun γ μ w' => ∃ (j : Nat), (8 - (l.length + j) % 8) % 8 = γ ∧ look μ 1 = str (List.replicate j 0 ++ l) ∧ HP w w' [(b10, numL 0, 24), (b6, numL (modN m), 24), (b2, [uz, uz, uz, uz], 24)] ∧ (j + (8 - (l.length + j) % 8) % 8 ≤ 7)) ((8 - (l.length + 0) % 8) % 8) ⟨0, rfl, rfl, H, by omega⟩ ?_
 clear H
 intro g16 m13 w14 hk15 hI; obtain ⟨j, rfl, hl17, H, hj⟩ := hI
 refine wp_seq_k fun K18 hK18 => sr fun K19 hK19 => p_mv (v := _) hl17 <| p_val (r_lenT (N := (l.length + j)) u9 rfl (by simp; omega)) ?_
 refine p_val (r_rem (r := (((l.length + j) % 8 : Nat) : Int)) rfl rfl (by decide) (rem8 _)) <| p_val (r_neq rfl rfl rfl) <| xk hK19 ?_; try clear hK19 K19
 refine c_split (t := _) rfl (fun hc_3 => ?_) (fun hc_3 => ?_)
 ·skip
  have h8 : (l.length + j) % 8 ≠ 0 := by have := hc_3; simp at this; omega
  refine wp_skip <| xn hK18 ?_; try clear hK18 K18
  refine wp_block <| wp_region_lit <| p_mv (v := _) hl17 <| p_val (r_cat (r := List.replicate (j + 1) 0 ++ l) rfl rfl (by simp; omega) (red_cons _ _)) ?_
  refine p_as (v := (str _)) rfl <| wpList_nil <| b_norm <| x_norm ?_
  exact ⟨_, _, (by omega), rfl, (by repeat (first | exact hk15 | refine keep_cons rfl ?_)), j + 1, rfl, rfl, H, by omega⟩
 ·skip
  have h8 : (l.length + j) % 8 = 0 := by have := hc_3; simp at this; omega
  have hsl : (List.replicate j 0 ++ l : List UInt8).length = l.length + j := by simp; omega
  refine wp_exit <| x_exit <| x_exit <| b_hit <| xn hK12 ?_; try clear hK12 K12
  refine wp_seq_k fun K21 hK21 => wp_block ?_
  replace H := HP.recast H (k := 0) (cs' := numL (bval ((List.replicate j 0 ++ l : List UInt8).take (8 * 0)) % modN m)) rfl (congrArg numL (by rw [Nat.mul_zero, List.take_zero, bval_nil, Nat.zero_mod]))
  refine loopF [1, 15, 16, 17, 18, 19, 20, 21, 22, 23, 24] (fun γ μ w' => ∃ (n : Nat), (List.replicate j 0 ++ l : List UInt8).length - 8 * n = γ ∧ look μ 1 = str ((List.replicate j 0 ++ l : List UInt8).drop (8 * n)) ∧ HP w w' [(b10, numL (bval ((List.replicate j 0 ++ l : List UInt8).take (8 * n)) % modN m), 24), (b6, numL (modN m), 24), (b2, [uz, uz, uz, uz], 24)] ∧ (8 * n ≤ (List.replicate j 0 ++ l : List UInt8).length)) ((List.replicate j 0 ++ l : List UInt8).length - 8 * 0) ⟨0, rfl, hl17, H, Nat.zero_le _⟩ ?_
  clear H
  intro g25 m22 w23 hk24 hI; obtain ⟨n, rfl, hl26, H, hn⟩ := hI
  refine wp_seq_k fun K27 hK27 => sr fun K28 hK28 => p_mv (v := _) hl26 <| p_val (r_neT rfl rfl rfl) <| xk hK28 ?_; try clear hK28 K28
  refine c_split (t := _) rfl (fun hc_5 => ?_) (fun hc_5 => ?_)
  ·skip
   have hn8 := red_t (q := (l.length + j) / 8) (by omega) hc_5
   refine wp_skip <| xn hK27 ?_; try clear hK27 K27
   refine wp_seq_k fun K30 hK30 => wp_block ?_
   apply wp_region_ext 6 (kinds [(3, .inl _), (5, .inl _)]) rfl rfl (by kernel_rfl); intro vs32
   simp only [tkS, tkZ, drS, drZ]
   replace H := H.drew
   refine t_v (fun w hx => r_loadW tg24 (H.ext hx) ((hk24 6 rfl).trans (hk15 6 rfl)) (k := 0) rfl rfl) <| t_v (fun w hx => r_move (v := _) hl26) <| t_v (fun w hx => r_sliceTH (h := 8) (r := _) u9 rfl rfl (rfl) (by rw [List.length_drop]; omega) (rfl)) ?_
   refine t_call (l := [(str _)]) rfl rfl is134 rfl (fun w hx hF => (value_c _ (by first | (simp; done) | (simp; omega)) _).mono (fun _ _ h => h)) ?_
   refine t_v (fun w hx => r_loadW tg24 (H.ext hx) ((hk24 5 rfl).trans (hk15 5 rfl)) (k := 1) rfl rfl) <| t_call (l := [(.agg (List.toArray _)), (.int _ _), (.agg (List.toArray _))]) rfl rfl is133 rfl (fun w hx hF => (word_c _ _ _ hp h2 (Nat.mod_lt _ hp.pos) (bval_lt8 (by rw [List.length_take]; omega)) _).mono (fun _ _ h => h)) ?_
   refine t_nil (fun w33 hx hF hA => ?_)
   replace H := H.ext hx
   clear hx hF hA
   refine p_storeW tg24 H ((hk24 6 rfl).trans (hk15 6 rfl)) (k := 0) rfl rfl rfl rfl rfl ?_; clear H; intro w34 H
   refine wpList_nil ?_; refine on_norm ?_
   refine b_norm <| xn hK30 ?_; try clear hK30 K30
   refine wp_region_lit <| p_mv (v := _) hl26 <| p_val (r_sliceTL (p := 8) (r := (List.replicate j 0 ++ l : List UInt8).drop (8 * (n + 1))) u9 rfl rfl (rfl) (by rw [List.length_drop]; omega) (by simp [List.drop_drop, Nat.mul_add])) ?_
   refine p_as (v := (str _)) rfl <| wpList_nil <| x_norm ?_
   exact ⟨_, _, (by omega), rfl, (by repeat (first | exact hk24 | refine keep_cons rfl ?_)), n + 1, rfl, rfl, (HP.recast H (k := 0) rfl (congrArg numL (red_step hn8))), by omega⟩
  ·skip
   refine wp_exit <| x_exit <| x_exit <| b_hit <| xn hK21 ?_; try clear hK21 K21
   refine sr fun K35 hK35 => p_val (r_loadW tg24 H ((hk24 6 rfl).trans (hk15 6 rfl)) (k := 0) rfl rfl) <| p_storeW tg24 H ((hk24 4 rfl).trans (hk15 4 rfl)) (k := 2) rfl rfl rfl rfl rfl ?_; clear H; intro w36 H
   refine xk hK35 ?_; try clear hK35 K35
   refine wp_ret <| e_1 rfl (q_cellW tg24 H ((hk24 4 rfl).trans (hk15 4 rfl)) (k := 2) rfl rfl) ?_
   exact ⟨by rw [red_f hc_5, bval_zeros], H.below⟩
end Go.Proofs.YtmbcolbbekbccaaGreat
namespace Go.Proofs.YtmbcolbbekbccaaGreat
open Go Go.RowKit
theorem lt2_CrvA {x : Nat} (h : x < two256 := by first | exact Nat.mod_lt _ two256_pos | exact Mod.lt (mod_modN _) | assumption | exact onceN_lt (by assumption) | exact Nat.lt_trans (Nat.mod_lt _ (mod_modN _).pos) (mod_modN _).lt | exact ofV_lt2 _ _ | exact invV_lt2 _ _ | exact fm_lt2 _ _ | exact fa_lt2 _ _ | exact fs_lt2 _ _ | exact fn_lt2 _ | exact PP_lt | exact AL_GG.1 | exact AL_GG.2 | exact (AL_cadd _ _).1 | exact (AL_cadd _ _).2 | exact (AL_cmul _ _).1 | exact (AL_cmul _ _).2 | exact (AL_cofV _).1 | exact (AL_cofV _).2 | exact (AL_cneg (by assumption)).1 | exact (AL_cneg (by assumption)).2 | exact lt_lit (by decide)) : x < two256 := h
attribute [local irreducible] wpList wpT Code.wp Calls Code.rounds lm sd sb ad ac modN bval be fm fa fs fn jtwX jtwY jtwZ onB invV invE
theorem tg26 : TAgg Tryz.prog 26 9 := ⟨fun _ => by kernel_rfl, fun _ => by kernel_rfl⟩
theorem to4 : TOne Tryz.prog 4 := ⟨fun _ => by kernel_rfl, fun _ => by kernel_rfl⟩
theorem tz26 : TZero Tryz.prog 26 (.agg #[uz, uz, uz, uz, uz, uz, uz, uz, .bool false]) := fun _ => by kernel_rfl
theorem u4 : Tryz.prog.underlying 4 = some .bool := by kernel_rfl
theorem eg26 : Tryz.prog.eqGuardType Tryz.prog.depth 26 = false := by kernel_rfl
theorem is107 : IsFn Tryz.prog 107 := isFn Tryz.func107
theorem is108 : IsFn Tryz.prog 108 := isFn Tryz.func108
theorem is109 : IsFn Tryz.prog 109 := isFn Tryz.func109
theorem is151 : IsFn Tryz.prog 151 := isFn Tryz.func151
theorem tb26 : TBuild Tryz.prog 26 (.agg #[uz, uz, uz, uz, uz, uz, uz, uz, .bool false]) [(0, 4), (4, 4), (8, 1)] := tbuildS (fs := fieldsOf Tryz.prog 26) (by kernel_rfl) tz26 (fun _ => by kernel_rfl)
theorem agt4 : ∀ w : World, (isAgg 4).run Tryz.prog w = .ok false w := fun _ => by kernel_rfl
theorem agt24 : ∀ w : World, (isAgg 24).run Tryz.prog w = .ok true w := fun _ => by kernel_rfl
theorem szt24 : ∀ w : World, (sizeOf 24).run Tryz.prog w = .ok 4 w := fun _ => by kernel_rfl
theorem pt26 : Tryz.prog.underlying 26 = some (.struct (fieldsOf Tryz.prog 26)) := by kernel_rfl
theorem ptf26 : (fieldsOf Tryz.prog 26).toList.map (fun f => (f.name, f.type, f.offset)) = [("X", 24, 0), ("Y", 24, 4), ("Inf", 4, 8)] := by kernel_rfl
theorem pts26 : Tryz.prog.stoodInHeld 26 = false := by kernel_rfl
theorem fa26_0 : TField Tryz.prog 26 0 0 := fun _ _ _ => by kernel_rfl
theorem fa26_1 : TField Tryz.prog 26 1 4 := fun _ _ _ => by kernel_rfl
theorem fa26_2 : TField Tryz.prog 26 2 8 := fun _ _ _ => by kernel_rfl
theorem times_c (A B : Nat) (hA : A < two256) (hB : B < two256) (w : World) :
    Calls Tryz.prog 108 #[numV A, numV B] w fun e w' => e = .returned (numV (fm A B)) ∧ Ext w w' := by
 refine enter (n := 8) Tryz.func108 rfl rfl rfl ?_
 have H := HP.start w
 refine sr fun K1 hK1 => p_box (l := _) H rfl ?_; clear H; intro w2 b3 H
 refine p_box (l := _) H rfl ?_; clear H; intro w4 b5 H
 refine p_alloc (l := [uz, uz, uz, uz]) H tz24 rfl ?_; clear H; intro w7 b6 H
 refine xk hK1 ?_; try clear hK1 K1
 refine sr fun K8 hK8 => p_val (r_loadW tg24 H rfl (k := 2) rfl rfl) <| p_val (r_loadW tg24 H rfl (k := 1) rfl rfl) <| p_call (l := [(.int _ _), (.agg (List.toArray _)), (.agg (List.toArray _))]) is51 rfl <| (mul_c _ _ _ lt2_CrvA lt2_CrvA _).mono ?_; rintro _ w9 ⟨rfl, hx⟩; replace H := H.ext hx; clear hx
 refine p_storeW tg24 H rfl (k := 0) rfl rfl rfl rfl rfl ?_; clear H; intro w10 H
 refine xk hK8 ?_; try clear hK8 K8
 refine wp_ret <| e_1 rfl (q_cellW tg24 H rfl (k := 0) rfl rfl) ?_
 exact ⟨by rw [fm_def], H.below⟩
theorem plus_c (A B : Nat) (hA : A < two256) (hB : B < two256) (w : World) :
    Calls Tryz.prog 107 #[numV A, numV B] w fun e w' => e = .returned (numV (fa A B)) ∧ Ext w w' := by
 refine enter (n := 8) Tryz.func107 rfl rfl rfl ?_
 have H := HP.start w
 refine sr fun K1 hK1 => p_box (l := _) H rfl ?_; clear H; intro w2 b3 H
 refine p_box (l := _) H rfl ?_; clear H; intro w4 b5 H
 refine p_alloc (l := [uz, uz, uz, uz]) H tz24 rfl ?_; clear H; intro w7 b6 H
 refine xk hK1 ?_; try clear hK1 K1
 refine sr fun K8 hK8 => p_val (r_loadW tg24 H rfl (k := 2) rfl rfl) <| p_val (r_loadW tg24 H rfl (k := 1) rfl rfl) <| p_call (l := [(.int _ _), (.agg (List.toArray _)), (.agg (List.toArray _))]) is49 rfl <| (add_c _ _ _ lt2_CrvA lt2_CrvA _).mono ?_; rintro _ w9 ⟨rfl, hx⟩; replace H := H.ext hx; clear hx
 refine p_storeW tg24 H rfl (k := 0) rfl rfl rfl rfl rfl ?_; clear H; intro w10 H
 refine xk hK8 ?_; try clear hK8 K8
 refine wp_ret <| e_1 rfl (q_cellW tg24 H rfl (k := 0) rfl rfl) ?_
 exact ⟨by rw [fa_def], H.below⟩
theorem minus_c (A B : Nat) (hA : A < two256) (hB : B < two256) (w : World) :
    Calls Tryz.prog 109 #[numV A, numV B] w fun e w' => e = .returned (numV (fs A B)) ∧ Ext w w' := by
 refine enter (n := 8) Tryz.func109 rfl rfl rfl ?_
 have H := HP.start w
 refine sr fun K1 hK1 => p_box (l := _) H rfl ?_; clear H; intro w2 b3 H
 refine p_box (l := _) H rfl ?_; clear H; intro w4 b5 H
 refine p_alloc (l := [uz, uz, uz, uz]) H tz24 rfl ?_; clear H; intro w7 b6 H
 refine xk hK1 ?_; try clear hK1 K1
 refine sr fun K8 hK8 => p_val (r_loadW tg24 H rfl (k := 2) rfl rfl) <| p_val (r_loadW tg24 H rfl (k := 1) rfl rfl) <| p_call (l := [(.int _ _), (.agg (List.toArray _)), (.agg (List.toArray _))]) is151 rfl <| (sub_c _ _ _ lt2_CrvA lt2_CrvA _).mono ?_; rintro _ w9 ⟨rfl, hx⟩; replace H := H.ext hx; clear hx
 refine p_storeW tg24 H rfl (k := 0) rfl rfl rfl rfl rfl ?_; clear H; intro w10 H
 refine xk hK8 ?_; try clear hK8 K8
 refine wp_ret <| e_1 rfl (q_cellW tg24 H rfl (k := 0) rfl rfl) ?_
 exact ⟨by rw [fs_def], H.below⟩
set_option maxRecDepth 4000 in
theorem on_c (X Y : Nat) (I : Bool) (hX : X < two256) (hY : Y < two256) (w : World) :
    Calls Tryz.prog 60 #[ptV X Y I] w fun e w' => e = .returned (.bool (onB X Y I)) ∧ Ext w w' := by
 refine enter (n := 49) Tryz.func60 rfl rfl rfl ?_
 have H := HP.start w
 refine sr fun K1 hK1 => p_box (l := (numL X ++ (numL Y ++ [(.bool I : Value)]))) H rfl ?_; clear H; intro w2 b3 H
 refine p_as (v := (.bool _)) rfl <| xk hK1 ?_; try clear hK1 K1
 refine wp_seq_k fun K4 hK4 => sr fun K5 hK5 => p_val (r_field fa26_2 rfl) <| p_val (r_load1 (v := .bool I) to4 H rfl (k := 0) rfl (rfl)) <| xk hK5 ?_; try clear hK5 K5
 refine c_split (t := _) rfl (fun hc_1 => ?_) (fun hc_1 => ?_)
 ·skip
  refine sr fun K7 hK7 => p_val (r_loadW tg26 H rfl (k := 0) rfl rfl) <| p_val (r_as (l' := (numL 0 ++ (numL 0 ++ [(.bool true : Value)]))) (r_build (vals := [(2, .bool true)]) (l := ([uz, uz, uz, uz] ++ ([uz, uz, uz, uz] ++ [(.bool true : Value)]))) tb26 rfl rfl) (by rw [num_0])) <| p_val (r_eqpt pt26 ptf26 pts26 u24 u22 sz22 ag22 agt24 szt24 u4 agt4 eg26 rfl rfl lt2_CrvA lt2_CrvA lt2_CrvA lt2_CrvA rfl) ?_
  refine p_as (v := (.bool _)) rfl <| xk hK7 ?_; try clear hK7 K7
  refine wp_ret <| x_ret <| e_1 rfl (q_tmp (v := (.bool _)) rfl) ?_
  exact ⟨by rw [hc_1, onB_inf]; simp, H.below⟩
 ·skip
  refine wp_skip <| xn hK4 ?_; try clear hK4 K4
  refine wp_seq_k fun K9 hK9 => wp_seq_k fun K10 hK10 => ?_
  rcases Bool.eq_false_or_eq_true (fa X 0 != X) with hcx | hcx
  ·skip
   apply wp_region_ext 16 (kinds [(3, .inl _)]) rfl rfl (by kernel_rfl); intro vs12
   simp only [tkS, tkZ, drS, drZ]
   replace H := H.drew
   refine t_v (fun w hx => r_field fa26_0 rfl) <| t_v (fun w hx => r_load (l := numL X) tg24 (H.ext hx) rfl (k := 0) rfl rfl rfl) <| t_v (fun w hx => r_as (l' := numL 0) (r_build (vals := []) (l := [_, _, _, _]) tb24 rfl rfl) (num_0)) <| t_call (l := [(.agg (List.toArray _)), (.agg (List.toArray _))]) rfl rfl is107 rfl (fun w hx hF => (plus_c _ _ lt2_CrvA lt2_CrvA _).mono (fun _ _ h => h)) ?_
   refine t_v (fun w hx => r_field fa26_0 rfl) <| t_v (fun w hx => r_load (l := numL X) tg24 (H.ext hx) rfl (k := 0) rfl rfl rfl) <| t_v (fun w hx => r_nenum u24 u22 sz22 ag22 eg24 rfl rfl lt2_CrvA lt2_CrvA rfl) <| t_v (fun w hx => r_move (v := (.bool _)) rfl) <| t_skip rfl (hcx) rfl ?_
   rw [put_fr]
   refine t_skip rfl (hcx) rfl ?_
   rw [put_fr]
   refine t_skip rfl (hcx) rfl ?_
   rw [put_fr]
   refine t_skip rfl (hcx) rfl ?_
   rw [put_fr]
   refine t_skip rfl (hcx) rfl ?_
   rw [put_fr]
   refine t_skip rfl (hcx) rfl ?_
   rw [put_fr]
   refine t_skip rfl (hcx) rfl ?_
   rw [put_fr]
   refine t_v (fun w hx => r_pickt (v := (.bool _)) rfl (hcx) rfl) ?_
   refine t_nil (fun w14 hx hF hA => ?_)
   replace H := H.ext hx
   clear hx hF hA
   refine wpList_nil ?_; refine on_norm ?_
   refine xn hK10 ?_; try clear hK10 K10
   refine c_true rfl rfl <| sr fun K15 hK15 => p_as (v := (.bool _)) rfl <| xk hK15 ?_; try clear hK15 K15
   refine wp_ret <| x_ret <| e_1 rfl (q_tmp (v := (.bool _)) rfl) ?_
   exact ⟨by rw [hc_1, onB_out1 hcx], H.below⟩
  ·skip
   apply wp_region_ext 16 (kinds [(3, .inl _), (11, .inl _)]) rfl rfl (by kernel_rfl); intro vs17
   simp only [tkS, tkZ, drS, drZ]
   replace H := H.drew
   refine t_v (fun w hx => r_field fa26_0 rfl) <| t_v (fun w hx => r_load (l := numL X) tg24 (H.ext hx) rfl (k := 0) rfl rfl rfl) <| t_v (fun w hx => r_as (l' := numL 0) (r_build (vals := []) (l := [_, _, _, _]) tb24 rfl rfl) (num_0)) <| t_call (l := [(.agg (List.toArray _)), (.agg (List.toArray _))]) rfl rfl is107 rfl (fun w hx hF => (plus_c _ _ lt2_CrvA lt2_CrvA _).mono (fun _ _ h => h)) ?_
   refine t_v (fun w hx => r_field fa26_0 rfl) <| t_v (fun w hx => r_load (l := numL X) tg24 (H.ext hx) rfl (k := 0) rfl rfl rfl) <| t_v (fun w hx => r_nenum u24 u22 sz22 ag22 eg24 rfl rfl lt2_CrvA lt2_CrvA rfl) <| t_v (fun w hx => r_move (v := (.bool _)) rfl) <| t_valG rfl (hcx) (fun w hx => r_field fa26_1 rfl) rfl rfl ?_
   refine t_valG rfl (hcx) (fun w hx => r_load (l := numL Y) tg24 (H.ext hx) rfl (k := 0) rfl rfl rfl) rfl rfl <| t_valG rfl (hcx) (fun w hx => r_as (l' := numL 0) (r_build (vals := []) (l := [_, _, _, _]) tb24 rfl rfl) (num_0)) rfl rfl <| t_callG rfl (hcx) (l := [(.agg (List.toArray _)), (.agg (List.toArray _))]) rfl rfl is107 rfl (fun w hx hF => (plus_c _ _ lt2_CrvA lt2_CrvA _).mono (fun _ _ h => h)) ?_
   refine t_valG rfl (hcx) (fun w hx => r_field fa26_1 rfl) rfl rfl <| t_valG rfl (hcx) (fun w hx => r_load (l := numL Y) tg24 (H.ext hx) rfl (k := 0) rfl rfl rfl) rfl rfl <| t_valG rfl (hcx) (fun w hx => r_nenum u24 u22 sz22 ag22 eg24 rfl rfl lt2_CrvA lt2_CrvA rfl) rfl rfl <| t_v (fun w hx => r_pickf (v := (.bool _)) rfl (hcx) rfl) ?_
   refine t_nil (fun w20 hx hF hA => ?_)
   replace H := H.ext hx
   clear hx hF hA
   refine wpList_nil ?_; refine on_norm ?_
   refine xn hK10 ?_; try clear hK10 K10
   refine c_split (t := _) rfl (fun hc_3 => ?_) (fun hc_3 => ?_)
   ·skip
    refine sr fun K21 hK21 => p_as (v := (.bool _)) rfl <| xk hK21 ?_; try clear hK21 K21
    refine wp_ret <| x_ret <| e_1 rfl (q_tmp (v := (.bool _)) rfl) ?_
    exact ⟨by rw [hc_1, onB_out2 hc_3], H.below⟩
   ·skip
    refine wp_skip <| xn hK9 ?_; try clear hK9 K9
    refine sr fun K22 hK22 => ?_
    refine p_val (r_as (l' := numL 41058363725152142129326129780047268409114441015993725554835256314039467401291) (r_build (vals := [(0, (.int _ _)), (1, (.int _ _)), (2, (.int _ _)), (3, (.int _ _))]) (l := [_, _, _, _]) tb24 rfl rfl) (num_const (a := 4309448131093880907) (b := 7285987128567378166) (c := 12964664127075681980) (d := 6540974713487397863) _ (by decide) (by decide) (by decide) (by decide) (by decide))) ?_
    refine p_alloc (l := [uz, uz, uz, uz]) H tz24 rfl ?_; clear H; intro w24 b23 H
    refine p_storeW tg24 H rfl (k := 0) rfl rfl rfl rfl rfl ?_; clear H; intro w25 H
    refine xk hK22 ?_; try clear hK22 K22
    refine wp_seq_k fun K26 hK26 => ?_
    apply wp_region_ext 9 (kinds [(6, .inl _), (7, .inl _), (8, .inr (NewAt _ [uz, uz, uz, uz] 24))]) rfl rfl (by kernel_rfl); intro vs28
    simp only [tkS, tkZ, drS, drZ]
    replace H := H.drew
    refine t_v (fun w hx => r_field fa26_0 rfl) <| t_v (fun w hx => r_load (l := numL X) tg24 (H.ext hx) rfl (k := 1) rfl rfl rfl) <| t_v (fun w hx => r_field fa26_0 rfl) <| t_v (fun w hx => r_load (l := numL X) tg24 (H.ext hx) rfl (k := 1) rfl rfl rfl) <| t_v (fun w hx => r_field fa26_0 rfl) <| t_v (fun w hx => r_load (l := numL X) tg24 (H.ext hx) rfl (k := 1) rfl rfl rfl) ?_
    refine t_call (l := [(.agg (List.toArray _)), (.agg (List.toArray _))]) rfl rfl is108 rfl (fun w hx hF => (times_c _ _ lt2_CrvA lt2_CrvA _).mono (fun _ _ h => h)) <| t_call (l := [(.agg (List.toArray _)), (.agg (List.toArray _))]) rfl rfl is108 rfl (fun w hx hF => (times_c _ _ lt2_CrvA lt2_CrvA _).mono (fun _ _ h => h)) <| t_alloc rfl rfl tz24 rfl ?_
    refine t_nil (fun w30 hx hF hA => ?_)
    obtain ⟨b29, eb29, hbb29, hhb29⟩ := fact_rel hF 8 rfl rfl; have hnb29 := HP.neL H hbb29; replace hbb29 := Nat.le_trans H.below.size hbb29
    replace H := H.ext hx
    replace H := HP.push1 H hbb29 hnb29 hhb29
    clear hbb29 hnb29 hhb29
    clear hx hF hA
    refine p_storeW tg24 H eb29 (k := 0) rfl rfl rfl rfl rfl ?_; clear H; intro w31 H
    refine wpList_nil ?_; refine on_norm ?_
    refine xn hK26 ?_; try clear hK26 K26
    refine wp_seq_k fun K32 hK32 => ?_
    apply wp_region_ext 15 (kinds [(4, .inl _), (9, .inl _), (10, .inl _), (12, .inl _)]) rfl rfl (by kernel_rfl); intro vs34
    simp only [tkS, tkZ, drS, drZ]
    replace H := H.drew
    refine t_v (fun w hx => r_field fa26_1 rfl) <| t_v (fun w hx => r_load (l := numL Y) tg24 (H.ext hx) rfl (k := 2) rfl rfl rfl) <| t_v (fun w hx => r_field fa26_1 rfl) <| t_v (fun w hx => r_load (l := numL Y) tg24 (H.ext hx) rfl (k := 2) rfl rfl rfl) <| t_call (l := [(.agg (List.toArray _)), (.agg (List.toArray _))]) rfl rfl is108 rfl (fun w hx hF => (times_c _ _ lt2_CrvA lt2_CrvA _).mono (fun _ _ h => h)) ?_
    refine t_v (fun w hx => r_loadW tg24 (H.ext hx) eb29 (k := 0) rfl rfl) <| t_v (fun w hx => r_as (l' := numL 3) (r_build (vals := [(0, (.int _ _))]) (l := [_, _, _, _]) tb24 rfl rfl) (num_lit 3 (by decide))) <| t_v (fun w hx => r_field fa26_0 rfl) <| t_v (fun w hx => r_load (l := numL X) tg24 (H.ext hx) rfl (k := 2) rfl rfl rfl) ?_
    refine t_call (l := [(.agg (List.toArray _)), (.agg (List.toArray _))]) rfl rfl is108 rfl (fun w hx hF => (times_c _ _ lt2_CrvA lt2_CrvA _).mono (fun _ _ h => h)) <| t_call (l := [(.agg (List.toArray _)), (.agg (List.toArray _))]) rfl rfl is109 rfl (fun w hx hF => (minus_c _ _ lt2_CrvA lt2_CrvA _).mono (fun _ _ h => h)) <| t_v (fun w hx => r_loadW tg24 (H.ext hx) rfl (k := 1) rfl rfl) ?_
    refine t_call (l := [(.agg (List.toArray _)), (.agg (List.toArray _))]) rfl rfl is107 rfl (fun w hx hF => (plus_c _ _ lt2_CrvA lt2_CrvA _).mono (fun _ _ h => h)) <| t_v (fun w hx => r_eqnum u24 u22 sz22 ag22 eg24 rfl rfl lt2_CrvA lt2_CrvA rfl) <| t_v (fun w hx => r_assign (v := (.bool _)) rfl) ?_
    refine t_nil (fun w36 hx hF hA => ?_)
    replace H := H.ext hx
    clear hx hF hA
    refine wpList_nil ?_; refine on_norm ?_
    refine xn hK32 ?_; try clear hK32 K32
    refine wp_ret <| e_1 rfl (q_tmp (v := (.bool _)) rfl) ?_
    exact ⟨by rw [hc_1, onB_in hcx hc_3]; rfl, H.below⟩
end Go.Proofs.YtmbcolbbekbccaaGreat
namespace Go.Proofs.YtmbcolbbekbccaaGreat
open Go Go.RowKit
theorem lt2_CrvB {x : Nat} (h : x < two256 := by first | exact Nat.mod_lt _ two256_pos | exact Mod.lt (mod_modN _) | assumption | exact onceN_lt (by assumption) | exact Nat.lt_trans (Nat.mod_lt _ (mod_modN _).pos) (mod_modN _).lt | exact ofV_lt2 _ _ | exact invV_lt2 _ _ | exact fm_lt2 _ _ | exact fa_lt2 _ _ | exact fs_lt2 _ _ | exact fn_lt2 _ | exact PP_lt | exact AL_GG.1 | exact AL_GG.2 | exact (AL_cadd _ _).1 | exact (AL_cadd _ _).2 | exact (AL_cmul _ _).1 | exact (AL_cmul _ _).2 | exact (AL_cofV _).1 | exact (AL_cofV _).2 | exact (AL_cneg (by assumption)).1 | exact (AL_cneg (by assumption)).2 | exact lt_lit (by decide)) : x < two256 := h
attribute [local irreducible] wpList wpT Code.wp Calls Code.rounds lm sd sb ad ac modN bval be fm fa fs fn jtwX jtwY jtwZ onB invV invE
theorem tg152 : TAgg Tryz.prog 152 12 := ⟨fun _ => by kernel_rfl, fun _ => by kernel_rfl⟩
theorem tz152 : TZero Tryz.prog 152 (.agg #[uz, uz, uz, uz, uz, uz, uz, uz, uz, uz, uz, uz]) := fun _ => by kernel_rfl
theorem is50 : IsFn Tryz.prog 50 := isFn Tryz.func50
theorem is111 : IsFn Tryz.prog 111 := isFn Tryz.func111
theorem tb152 : TBuild Tryz.prog 152 (.agg #[uz, uz, uz, uz, uz, uz, uz, uz, uz, uz, uz, uz]) [(0, 4), (4, 4), (8, 4)] := tbuildS (fs := fieldsOf Tryz.prog 152) (by kernel_rfl) tz152 (fun _ => by kernel_rfl)
theorem fa152_0 : TField Tryz.prog 152 0 0 := fun _ _ _ => by kernel_rfl
theorem fa152_1 : TField Tryz.prog 152 1 4 := fun _ _ _ => by kernel_rfl
theorem fa152_2 : TField Tryz.prog 152 2 8 := fun _ _ _ => by kernel_rfl
theorem base_c  (w : World) :
    Calls Tryz.prog 41 #[] w fun e w' => e = .returned (ptV GX GY false) ∧ Ext w w' := by
 refine enter (n := 4) Tryz.func41 rfl rfl rfl ?_
 have H := HP.start w
 refine sr fun K1 hK1 => p_alloc (l := [uz, uz, uz, uz, uz, uz, uz, uz, .bool false]) H tz26 rfl ?_; clear H; intro w3 b2 H
 refine xk hK1 ?_; try clear hK1 K1
 refine sr fun K4 hK4 => ?_
 refine p_val (r_as (l' := numL 48439561293906451759052585252797914202762949526041747995844080717082404635286) (r_build (vals := [(0, (.int _ _)), (1, (.int _ _)), (2, (.int _ _)), (3, (.int _ _))]) (l := [_, _, _, _]) tb24 rfl rfl) (num_const (a := 17627433388654248598) (b := 8575836109218198432) (c := 17923454489921339634) (d := 7716867327612699207) _ (by decide) (by decide) (by decide) (by decide) (by decide))) ?_
 refine p_val (r_as (l' := numL 36134250956749795798585127919587881956611106672985015071877198253568414405109) (r_build (vals := [(0, (.int _ _)), (1, (.int _ _)), (2, (.int _ _)), (3, (.int _ _))]) (l := [_, _, _, _]) tb24 rfl rfl) (num_const (a := 14678990851816772085) (b := 3156516839386865358) (c := 10297457778147434006) (d := 5756518291402817435) _ (by decide) (by decide) (by decide) (by decide) (by decide))) ?_
 refine p_val (r_build (vals := [(0, .agg (numL 48439561293906451759052585252797914202762949526041747995844080717082404635286).toArray), (1, .agg (numL 36134250956749795798585127919587881956611106672985015071877198253568414405109).toArray)]) (l := (numL 48439561293906451759052585252797914202762949526041747995844080717082404635286 ++ (numL 36134250956749795798585127919587881956611106672985015071877198253568414405109 ++ [(.bool false : Value)]))) tb26 rfl rfl) ?_
 refine p_storeW tg26 H rfl (k := 0) rfl rfl rfl rfl rfl ?_; clear H; intro w5 H
 refine xk hK4 ?_; try clear hK4 K4
 refine wp_ret <| e_1 rfl (q_cellW tg26 H rfl (k := 0) rfl rfl) ?_
 exact ⟨by rw [GX, GY], H.below⟩
theorem cof_c (X Y : Nat) (I : Bool) (hX : X < two256) (hY : Y < two256) (w : World) :
    Calls Tryz.prog 110 #[ptV X Y I] w fun e w' => e = .returned (.agg (jcT (jof X Y I)).toArray) ∧ Ext w w' := by
 refine enter (n := 12) Tryz.func110 rfl rfl rfl ?_
 have H := HP.start w
 refine sr fun K1 hK1 => p_box (l := (numL X ++ (numL Y ++ [(.bool I : Value)]))) H rfl ?_; clear H; intro w2 b3 H
 refine p_alloc (l := [uz, uz, uz, uz, uz, uz, uz, uz, uz, uz, uz, uz]) H tz152 rfl ?_; clear H; intro w5 b4 H
 refine xk hK1 ?_; try clear hK1 K1
 refine wp_seq_k fun K6 hK6 => sr fun K7 hK7 => p_val (r_field fa26_2 rfl) <| p_val (r_load1 (v := .bool I) to4 H rfl (k := 1) rfl (rfl)) <| xk hK7 ?_; try clear hK7 K7
 refine c_split (t := _) rfl (fun hc_1 => ?_) (fun hc_1 => ?_)
 ·skip
  refine sr fun K9 hK9 => p_val (r_as (l' := (numL 0 ++ (numL 0 ++ numL 0))) (r_build (vals := []) (l := ([uz, uz, uz, uz] ++ ([uz, uz, uz, uz] ++ [uz, uz, uz, uz]))) tb152 rfl rfl) (by rw [num_0])) <| p_storeW tg152 H rfl (k := 0) rfl rfl rfl rfl rfl ?_; clear H; intro w10 H
  refine xk hK9 ?_; try clear hK9 K9
  refine wp_ret <| x_ret <| e_1 rfl (q_cellW tg152 H rfl (k := 0) rfl rfl) ?_
  rw [hc_1]; exact ⟨rfl, H.below⟩
 ·skip
  refine wp_skip <| xn hK6 ?_; try clear hK6 K6
  refine sr fun K11 hK11 => p_val (r_field fa26_0 rfl) <| p_val (r_load (l := numL X) tg24 H rfl (k := 1) rfl rfl rfl) <| p_val (r_field fa26_1 rfl) <| p_val (r_load (l := numL Y) tg24 H rfl (k := 1) rfl rfl rfl) <| p_val (r_as (l' := numL 1) (r_build (vals := [(0, (.int _ _))]) (l := [_, _, _, _]) tb24 rfl rfl) (num_lit 1 (by decide))) ?_
  refine p_val (r_build (vals := [(0, .agg (numL X).toArray), (1, .agg (numL Y).toArray), (2, .agg (numL 1).toArray)]) (l := (numL X ++ (numL Y ++ numL 1))) tb152 rfl rfl) <| p_storeW tg152 H rfl (k := 0) rfl rfl rfl rfl rfl ?_; clear H; intro w12 H
  refine xk hK11 ?_; try clear hK11 K11
  refine wp_ret <| e_1 rfl (q_cellW tg152 H rfl (k := 0) rfl rfl) ?_
  rw [hc_1]; exact ⟨rfl, H.below⟩
theorem cend_v (X Y Z : Nat) (hX : X < two256) (hY : Y < two256) (hZ : Z < two256) (w : World) :
    Calls Tryz.prog 113 #[jcV X Y Z] w fun e w' => e = .returned (.agg (ptT (jend (X, Y, Z))).toArray) ∧ Ext w w' := by
 refine enter (n := 29) Tryz.func113 rfl rfl rfl ?_
 have H := HP.start w
 refine sr fun K1 hK1 => p_box (l := (numL X ++ (numL Y ++ numL Z))) H rfl ?_; clear H; intro w2 b3 H
 refine p_alloc (l := [uz, uz, uz, uz, uz, uz, uz, uz, .bool false]) H tz26 rfl ?_; clear H; intro w5 b4 H
 refine xk hK1 ?_; try clear hK1 K1
 refine sr fun K6 hK6 => p_val (r_field fa152_2 rfl) <| p_val (r_load (l := numL Z) tg24 H rfl (k := 1) rfl rfl rfl) <| p_call (l := [(.int _ _), (.agg (List.toArray _))]) is50 rfl <| (inv_c _ _ lt2_CrvB _).mono ?_; rintro _ w7 ⟨rfl, hx⟩; replace H := H.ext hx; clear hx
 refine p_mv (v := (.tuple _)) rfl <| p_val (r_extract (v := (.agg (List.toArray _))) rfl rfl) <| p_val (r_extract (v := (.int _ _)) rfl rfl) <| p_alloc (l := [uz, uz, uz, uz]) H tz24 rfl ?_; clear H; intro w9 b8 H
 refine p_storeW tg24 H rfl (k := 0) rfl rfl rfl rfl rfl ?_; clear H; intro w10 H
 refine p_as (v := (.int _ _)) rfl <| xk hK6 ?_; try clear hK6 K6
 refine wp_seq_k fun K11 hK11 => sr fun K12 hK12 => p_mv (v := (.int _ _)) rfl <| p_val (r_neq rfl rfl rfl) <| xk hK12 ?_; try clear hK12 K12
 refine c_split (t := _) rfl (fun hc_2 => ?_) (fun hc_2 => ?_)
 ·skip
  refine sr fun K14 hK14 => p_val (r_as (l' := (numL 0 ++ (numL 0 ++ [(.bool true : Value)]))) (r_build (vals := [(2, .bool true)]) (l := ([uz, uz, uz, uz] ++ ([uz, uz, uz, uz] ++ [(.bool true : Value)]))) tb26 rfl rfl) (by rw [num_0])) <| p_storeW tg26 H rfl (k := 1) rfl rfl rfl rfl rfl ?_; clear H; intro w15 H
  refine xk hK14 ?_; try clear hK14 K14
  refine wp_ret <| x_ret <| e_1 rfl (q_cellW tg26 H rfl (k := 1) rfl rfl) ?_
  exact ⟨by rw [jend_t hc_2], H.below⟩
 ·skip
  refine wp_skip <| xn hK11 ?_; try clear hK11 K11
  refine sr fun K16 hK16 => p_val (r_loadW tg24 H rfl (k := 0) rfl rfl) <| p_val (r_loadW tg24 H rfl (k := 0) rfl rfl) <| p_call (l := [(.agg (List.toArray _)), (.agg (List.toArray _))]) is108 rfl <| (times_c _ _ lt2_CrvB lt2_CrvB _).mono ?_; rintro _ w17 ⟨rfl, hx⟩; replace H := H.ext hx; clear hx
  refine p_alloc (l := [uz, uz, uz, uz]) H tz24 rfl ?_; clear H; intro w19 b18 H
  refine p_storeW tg24 H rfl (k := 0) rfl rfl rfl rfl rfl ?_; clear H; intro w20 H
  refine xk hK16 ?_; try clear hK16 K16
  refine wp_seq_k fun K21 hK21 => ?_
  apply wp_region_ext 11 (kinds [(3, .inl _), (8, .inl _), (9, .inl _)]) rfl rfl (by kernel_rfl); intro vs23
  simp only [tkS, tkZ, drS, drZ]
  replace H := H.drew
  refine t_v (fun w hx => r_field fa152_0 rfl) <| t_v (fun w hx => r_load (l := numL X) tg24 (H.ext hx) rfl (k := 3) rfl rfl rfl) <| t_v (fun w hx => r_loadW tg24 (H.ext hx) rfl (k := 0) rfl rfl) <| t_call (l := [(.agg (List.toArray _)), (.agg (List.toArray _))]) rfl rfl is108 rfl (fun w hx hF => (times_c _ _ lt2_CrvB lt2_CrvB _).mono (fun _ _ h => h)) <| t_v (fun w hx => r_field fa152_1 rfl) ?_
  refine t_v (fun w hx => r_load (l := numL Y) tg24 (H.ext hx) rfl (k := 3) rfl rfl rfl) <| t_v (fun w hx => r_loadW tg24 (H.ext hx) rfl (k := 0) rfl rfl) <| t_v (fun w hx => r_loadW tg24 (H.ext hx) rfl (k := 1) rfl rfl) <| t_call (l := [(.agg (List.toArray _)), (.agg (List.toArray _))]) rfl rfl is108 rfl (fun w hx hF => (times_c _ _ lt2_CrvB lt2_CrvB _).mono (fun _ _ h => h)) ?_
  refine t_call (l := [(.agg (List.toArray _)), (.agg (List.toArray _))]) rfl rfl is108 rfl (fun w hx hF => (times_c _ _ lt2_CrvB lt2_CrvB _).mono (fun _ _ h => h)) ?_
  refine t_v (fun w hx => r_build (vals := [(0, .agg (numL (fm X (fm (invV 0 Z) (invV 0 Z)))).toArray), (1, .agg (numL (fm Y (fm (fm (invV 0 Z) (invV 0 Z)) (invV 0 Z)))).toArray)]) (l := (numL (fm X (fm (invV 0 Z) (invV 0 Z))) ++ (numL (fm Y (fm (fm (invV 0 Z) (invV 0 Z)) (invV 0 Z))) ++ [(.bool false : Value)]))) tb26 rfl rfl) ?_
  refine t_nil (fun w24 hx hF hA => ?_)
  replace H := H.ext hx
  clear hx hF hA
  refine p_storeW tg26 H rfl (k := 2) rfl rfl rfl rfl rfl ?_; clear H; intro w25 H
  refine wpList_nil ?_; refine on_norm ?_
  refine xn hK21 ?_; try clear hK21 K21
  refine wp_ret <| e_1 rfl (q_cellW tg26 H rfl (k := 2) rfl rfl) ?_
  exact ⟨by rw [jend_f hc_2], H.below⟩
theorem cend_c (t : Tr) (h : TL t) (w : World) : Calls Tryz.prog 113 #[.agg (jcT t).toArray] w fun e w' => e = .returned (.agg (ptT (jend t)).toArray) ∧ Ext w w' := cend_v t.1 t.2.1 t.2.2 h.1 h.2.1 h.2.2 w
set_option maxRecDepth 4000 in
theorem ctwice_v (X Y Z : Nat) (hX : X < two256) (hY : Y < two256) (hZ : Z < two256) (w : World) :
    Calls Tryz.prog 111 #[jcV X Y Z] w fun e w' => e = .returned (.agg (jcT (jtw (X, Y, Z))).toArray) ∧ Ext w w' := by
 refine enter (n := 64) Tryz.func111 rfl rfl rfl ?_
 have H := HP.start w
 refine sr fun K1 hK1 => p_box (l := (numL X ++ (numL Y ++ numL Z))) H rfl ?_; clear H; intro w2 b3 H
 refine p_alloc (l := [uz, uz, uz, uz, uz, uz, uz, uz, uz, uz, uz, uz]) H tz152 rfl ?_; clear H; intro w5 b4 H
 refine xk hK1 ?_; try clear hK1 K1
 refine wp_seq_k fun K6 hK6 => ?_
 apply wp_region_ext 12 (kinds [(4, .inl _), (9, .inl _), (10, .inr (NewAt _ [uz, uz, uz, uz] 24)), (11, .inr (NewAt _ [uz, uz, uz, uz] 24))]) rfl rfl (by kernel_rfl); intro vs8
 simp only [tkS, tkZ, drS, drZ]
 replace H := H.drew
 refine t_v (fun w hx => r_field fa152_2 rfl) <| t_v (fun w hx => r_load (l := numL Z) tg24 (H.ext hx) rfl (k := 1) rfl rfl rfl) <| t_v (fun w hx => r_field fa152_2 rfl) <| t_v (fun w hx => r_load (l := numL Z) tg24 (H.ext hx) rfl (k := 1) rfl rfl rfl) <| t_call (l := [(.agg (List.toArray _)), (.agg (List.toArray _))]) rfl rfl is108 rfl (fun w hx hF => (times_c _ _ lt2_CrvB lt2_CrvB _).mono (fun _ _ h => h)) ?_
 refine t_v (fun w hx => r_field fa152_1 rfl) <| t_v (fun w hx => r_load (l := numL Y) tg24 (H.ext hx) rfl (k := 1) rfl rfl rfl) <| t_v (fun w hx => r_field fa152_1 rfl) <| t_v (fun w hx => r_load (l := numL Y) tg24 (H.ext hx) rfl (k := 1) rfl rfl rfl) <| t_call (l := [(.agg (List.toArray _)), (.agg (List.toArray _))]) rfl rfl is108 rfl (fun w hx hF => (times_c _ _ lt2_CrvB lt2_CrvB _).mono (fun _ _ h => h)) ?_
 refine t_alloc rfl rfl tz24 rfl <| t_alloc rfl rfl tz24 rfl ?_
 refine t_nil (fun w11 hx hF hA => ?_)
 obtain ⟨b9, eb9, hbb9, hhb9⟩ := fact_rel hF 10 rfl rfl; have hnb9 := HP.neL H hbb9; replace hbb9 := Nat.le_trans H.below.size hbb9
 obtain ⟨b10, eb10, hbb10, hhb10⟩ := fact_rel hF 11 rfl rfl; have hnb10 := HP.neL H hbb10; replace hbb10 := Nat.le_trans H.below.size hbb10
 replace H := H.ext hx
 replace H := HP.push1 H hbb9 hnb9 hhb9
 replace H := HP.push1 H hbb10 ⟨fun e => (hA 10 11 (by decide) (by decide) (by decide)).1 rfl rfl (by rw [eb9, eb10]; exact congrArg (fun z => Value.pointer (some ⟨z, 0, none⟩)) e), hnb10⟩ hhb10
 clear hbb9 hnb9 hhb9 hbb10 hnb10 hhb10
 clear hx hF hA
 refine p_storeW tg24 H eb9 (k := 1) rfl rfl rfl rfl rfl ?_; clear H; intro w12 H
 refine HP.name H (k := 1) rfl ?_; clear H; intro zz hzz H; have lzz : zz < two256 := by (rw [hzz]; first | exact fm_lt2 _ _ | exact fa_lt2 _ _ | exact fs_lt2 _ _ | exact fn_lt2 _)
 refine p_storeW tg24 H eb10 (k := 0) rfl rfl rfl rfl rfl ?_; clear H; intro w13 H
 refine HP.name H (k := 0) rfl ?_; clear H; intro yy hyy H; have lyy : yy < two256 := by (rw [hyy]; first | exact fm_lt2 _ _ | exact fa_lt2 _ _ | exact fs_lt2 _ _ | exact fn_lt2 _)
 refine wpList_nil ?_; refine on_norm ?_
 refine xn hK6 ?_; try clear hK6 K6
 refine wp_seq_k fun K14 hK14 => ?_
 apply wp_region_ext 12 (kinds [(4, .inl _), (8, .inl _), (9, .inl _), (10, .inl _), (11, .inr (NewAt _ [uz, uz, uz, uz] 24))]) rfl rfl (by kernel_rfl); intro vs16
 simp only [tkS, tkZ, drS, drZ]
 replace H := H.drew
 refine t_v (fun w hx => r_as (l' := numL 3) (r_build (vals := [(0, (.int _ _))]) (l := [_, _, _, _]) tb24 rfl rfl) (num_lit 3 (by decide))) <| t_v (fun w hx => r_field fa152_0 rfl) <| t_v (fun w hx => r_load (l := numL X) tg24 (H.ext hx) rfl (k := 3) rfl rfl rfl) <| t_v (fun w hx => r_loadW tg24 (H.ext hx) eb9 (k := 1) rfl rfl) ?_
 refine t_call (l := [(.agg (List.toArray _)), (.agg (List.toArray _))]) rfl rfl is109 rfl (fun w hx hF => (minus_c _ _ lt2_CrvB lt2_CrvB _).mono (fun _ _ h => h)) <| t_v (fun w hx => r_field fa152_0 rfl) <| t_v (fun w hx => r_load (l := numL X) tg24 (H.ext hx) rfl (k := 3) rfl rfl rfl) <| t_v (fun w hx => r_loadW tg24 (H.ext hx) eb9 (k := 1) rfl rfl) ?_
 refine t_call (l := [(.agg (List.toArray _)), (.agg (List.toArray _))]) rfl rfl is107 rfl (fun w hx hF => (plus_c _ _ lt2_CrvB lt2_CrvB _).mono (fun _ _ h => h)) <| t_call (l := [(.agg (List.toArray _)), (.agg (List.toArray _))]) rfl rfl is108 rfl (fun w hx hF => (times_c _ _ lt2_CrvB lt2_CrvB _).mono (fun _ _ h => h)) ?_
 refine t_call (l := [(.agg (List.toArray _)), (.agg (List.toArray _))]) rfl rfl is108 rfl (fun w hx hF => (times_c _ _ lt2_CrvB lt2_CrvB _).mono (fun _ _ h => h)) <| t_alloc rfl rfl tz24 rfl ?_
 refine t_nil (fun w18 hx hF hA => ?_)
 obtain ⟨b17, eb17, hbb17, hhb17⟩ := fact_rel hF 11 rfl rfl; have hnb17 := HP.neL H hbb17; replace hbb17 := Nat.le_trans H.below.size hbb17
 replace H := H.ext hx
 replace H := HP.push1 H hbb17 hnb17 hhb17
 clear hbb17 hnb17 hhb17
 clear hx hF hA
 refine p_storeW tg24 H eb17 (k := 0) rfl rfl rfl rfl rfl ?_; clear H; intro w19 H
 refine HP.name H (k := 0) rfl ?_; clear H; intro m1 hm1 H; have lm1 : m1 < two256 := by (rw [hm1]; first | exact fm_lt2 _ _ | exact fa_lt2 _ _ | exact fs_lt2 _ _ | exact fn_lt2 _)
 refine wpList_nil ?_; refine on_norm ?_
 refine xn hK14 ?_; try clear hK14 K14
 refine sr fun K20 hK20 => p_val (r_as (l' := numL 4) (r_build (vals := [(0, (.int _ _))]) (l := [_, _, _, _]) tb24 rfl rfl) (num_lit 4 (by decide))) <| p_val (r_field fa152_0 rfl) <| p_val (r_load (l := numL X) tg24 H rfl (k := 4) rfl rfl rfl) <| p_val (r_loadW tg24 H eb10 (k := 1) rfl rfl) <| p_call (l := [(.agg (List.toArray _)), (.agg (List.toArray _))]) is108 rfl ?_
 refine (times_c _ _ lt2_CrvB lt2_CrvB _).mono ?_; rintro _ w21 ⟨rfl, hx⟩; replace H := H.ext hx; clear hx
 refine p_call (l := [(.agg (List.toArray _)), (.agg (List.toArray _))]) is108 rfl <| (times_c _ _ lt2_CrvB lt2_CrvB _).mono ?_; rintro _ w22 ⟨rfl, hx⟩; replace H := H.ext hx; clear hx
 refine p_alloc (l := [uz, uz, uz, uz]) H tz24 rfl ?_; clear H; intro w24 b23 H
 refine p_storeW tg24 H rfl (k := 0) rfl rfl rfl rfl rfl ?_; clear H; intro w25 H
 refine HP.name H (k := 0) rfl ?_; clear H; intro s1 hs1 H; have ls1 : s1 < two256 := by (rw [hs1]; first | exact fm_lt2 _ _ | exact fa_lt2 _ _ | exact fs_lt2 _ _ | exact fn_lt2 _)
 refine xk hK20 ?_; try clear hK20 K20
 refine wp_seq_k fun K26 hK26 => ?_
 apply wp_region_ext 8 (kinds [(2, .inl _), (5, .inl _), (6, .inl _), (7, .inr (NewAt _ [uz, uz, uz, uz] 24))]) rfl rfl (by kernel_rfl); intro vs28
 simp only [tkS, tkZ, drS, drZ]
 replace H := H.drew
 refine t_v (fun w hx => r_loadW tg24 (H.ext hx) eb17 (k := 1) rfl rfl) <| t_v (fun w hx => r_loadW tg24 (H.ext hx) eb17 (k := 1) rfl rfl) <| t_call (l := [(.agg (List.toArray _)), (.agg (List.toArray _))]) rfl rfl is108 rfl (fun w hx hF => (times_c _ _ lt2_CrvB lt2_CrvB _).mono (fun _ _ h => h)) <| t_v (fun w hx => r_loadW tg24 (H.ext hx) rfl (k := 0) rfl rfl) ?_
 refine t_v (fun w hx => r_loadW tg24 (H.ext hx) rfl (k := 0) rfl rfl) <| t_call (l := [(.agg (List.toArray _)), (.agg (List.toArray _))]) rfl rfl is107 rfl (fun w hx hF => (plus_c _ _ lt2_CrvB lt2_CrvB _).mono (fun _ _ h => h)) <| t_call (l := [(.agg (List.toArray _)), (.agg (List.toArray _))]) rfl rfl is109 rfl (fun w hx hF => (minus_c _ _ lt2_CrvB lt2_CrvB _).mono (fun _ _ h => h)) ?_
 refine t_alloc rfl rfl tz24 rfl ?_
 refine t_nil (fun w30 hx hF hA => ?_)
 obtain ⟨b29, eb29, hbb29, hhb29⟩ := fact_rel hF 7 rfl rfl; have hnb29 := HP.neL H hbb29; replace hbb29 := Nat.le_trans H.below.size hbb29
 replace H := H.ext hx
 replace H := HP.push1 H hbb29 hnb29 hhb29
 clear hbb29 hnb29 hhb29
 clear hx hF hA
 refine p_storeW tg24 H eb29 (k := 0) rfl rfl rfl rfl rfl ?_; clear H; intro w31 H
 refine HP.name H (k := 0) rfl ?_; clear H; intro x3 hx3 H; have lx3 : x3 < two256 := by (rw [hx3]; first | exact fm_lt2 _ _ | exact fa_lt2 _ _ | exact fs_lt2 _ _ | exact fn_lt2 _)
 refine wpList_nil ?_; refine on_norm ?_
 refine xn hK26 ?_; try clear hK26 K26
 refine wp_seq_k fun K32 hK32 => ?_
 apply wp_region_ext 12 (kinds [(3, .inl _), (4, .inl _), (8, .inl _), (9, .inl _), (10, .inl _), (11, .inr (NewAt _ [uz, uz, uz, uz] 24))]) rfl rfl (by kernel_rfl); intro vs34
 simp only [tkS, tkZ, drS, drZ]
 replace H := H.drew
 refine t_v (fun w hx => r_loadW tg24 (H.ext hx) eb17 (k := 2) rfl rfl) <| t_v (fun w hx => r_loadW tg24 (H.ext hx) rfl (k := 1) rfl rfl) <| t_v (fun w hx => r_loadW tg24 (H.ext hx) eb29 (k := 0) rfl rfl) <| t_call (l := [(.agg (List.toArray _)), (.agg (List.toArray _))]) rfl rfl is109 rfl (fun w hx hF => (minus_c _ _ lt2_CrvB lt2_CrvB _).mono (fun _ _ h => h)) ?_
 refine t_call (l := [(.agg (List.toArray _)), (.agg (List.toArray _))]) rfl rfl is108 rfl (fun w hx hF => (times_c _ _ lt2_CrvB lt2_CrvB _).mono (fun _ _ h => h)) <| t_v (fun w hx => r_as (l' := numL 8) (r_build (vals := [(0, (.int _ _))]) (l := [_, _, _, _]) tb24 rfl rfl) (num_lit 8 (by decide))) <| t_v (fun w hx => r_loadW tg24 (H.ext hx) eb10 (k := 3) rfl rfl) ?_
 refine t_v (fun w hx => r_loadW tg24 (H.ext hx) eb10 (k := 3) rfl rfl) <| t_call (l := [(.agg (List.toArray _)), (.agg (List.toArray _))]) rfl rfl is108 rfl (fun w hx hF => (times_c _ _ lt2_CrvB lt2_CrvB _).mono (fun _ _ h => h)) <| t_call (l := [(.agg (List.toArray _)), (.agg (List.toArray _))]) rfl rfl is108 rfl (fun w hx hF => (times_c _ _ lt2_CrvB lt2_CrvB _).mono (fun _ _ h => h)) ?_
 refine t_call (l := [(.agg (List.toArray _)), (.agg (List.toArray _))]) rfl rfl is109 rfl (fun w hx hF => (minus_c _ _ lt2_CrvB lt2_CrvB _).mono (fun _ _ h => h)) <| t_alloc rfl rfl tz24 rfl ?_
 refine t_nil (fun w36 hx hF hA => ?_)
 obtain ⟨b35, eb35, hbb35, hhb35⟩ := fact_rel hF 11 rfl rfl; have hnb35 := HP.neL H hbb35; replace hbb35 := Nat.le_trans H.below.size hbb35
 replace H := H.ext hx
 replace H := HP.push1 H hbb35 hnb35 hhb35
 clear hbb35 hnb35 hhb35
 clear hx hF hA
 refine p_storeW tg24 H eb35 (k := 0) rfl rfl rfl rfl rfl ?_; clear H; intro w37 H
 refine HP.name H (k := 0) rfl ?_; clear H; intro y3 hy3 H; have ly3 : y3 < two256 := by (rw [hy3]; first | exact fm_lt2 _ _ | exact fa_lt2 _ _ | exact fs_lt2 _ _ | exact fn_lt2 _)
 refine wpList_nil ?_; refine on_norm ?_
 refine xn hK32 ?_; try clear hK32 K32
 refine wp_seq_k fun K38 hK38 => ?_
 apply wp_region_ext 10 (kinds [(7, .inl _), (8, .inl _)]) rfl rfl (by kernel_rfl); intro vs40
 simp only [tkS, tkZ, drS, drZ]
 replace H := H.drew
 refine t_v (fun w hx => r_loadW tg24 (H.ext hx) eb29 (k := 1) rfl rfl) <| t_v (fun w hx => r_loadW tg24 (H.ext hx) eb35 (k := 0) rfl rfl) <| t_v (fun w hx => r_as (l' := numL 2) (r_build (vals := [(0, (.int _ _))]) (l := [_, _, _, _]) tb24 rfl rfl) (num_lit 2 (by decide))) <| t_v (fun w hx => r_field fa152_1 rfl) <| t_v (fun w hx => r_load (l := numL Y) tg24 (H.ext hx) rfl (k := 7) rfl rfl rfl) ?_
 refine t_v (fun w hx => r_field fa152_2 rfl) <| t_v (fun w hx => r_load (l := numL Z) tg24 (H.ext hx) rfl (k := 7) rfl rfl rfl) <| t_call (l := [(.agg (List.toArray _)), (.agg (List.toArray _))]) rfl rfl is108 rfl (fun w hx hF => (times_c _ _ lt2_CrvB lt2_CrvB _).mono (fun _ _ h => h)) ?_
 refine t_call (l := [(.agg (List.toArray _)), (.agg (List.toArray _))]) rfl rfl is108 rfl (fun w hx hF => (times_c _ _ lt2_CrvB lt2_CrvB _).mono (fun _ _ h => h)) <| t_v (fun w hx => r_build (vals := [(0, .agg (numL x3).toArray), (1, .agg (numL y3).toArray), (2, .agg (numL (fm 2 (fm Y Z))).toArray)]) (l := (numL x3 ++ (numL y3 ++ numL (fm 2 (fm Y Z))))) tb152 rfl rfl) ?_
 refine t_nil (fun w41 hx hF hA => ?_)
 replace H := H.ext hx
 clear hx hF hA
 refine p_storeW tg152 H rfl (k := 6) rfl rfl rfl rfl rfl ?_; clear H; intro w42 H
 refine wpList_nil ?_; refine on_norm ?_
 refine xn hK38 ?_; try clear hK38 K38
 refine wp_ret <| e_1 rfl (q_cellW tg152 H rfl (k := 6) rfl rfl) ?_
 exact ⟨by rw [jtw_of hzz hyy hm1 hs1 hx3 hy3], H.below⟩
theorem ctwice_c (t : Tr) (h : TL t) (w : World) : Calls Tryz.prog 111 #[.agg (jcT t).toArray] w fun e w' => e = .returned (.agg (jcT (jtw t)).toArray) ∧ Ext w w' := ctwice_v t.1 t.2.1 t.2.2 h.1 h.2.1 h.2.2 w
set_option maxRecDepth 8000 in
set_option maxHeartbeats 800000 in
theorem cadd_v (X Y Z : Nat) (hX : X < two256) (hY : Y < two256) (hZ : Z < two256) (A B C : Nat) (hA : A < two256) (hB : B < two256) (hC : C < two256) (w : World) :
    Calls Tryz.prog 112 #[jcV X Y Z, jcV A B C] w fun e w' => e = .returned (.agg (jcT (jad (X, Y, Z) (A, B, C))).toArray) ∧ Ext w w' := by
 refine enter (n := 112) Tryz.func112 rfl rfl rfl ?_
 have H := HP.start w
 refine sr fun K1 hK1 => p_box (l := (numL X ++ (numL Y ++ numL Z))) H rfl ?_; clear H; intro w2 b3 H
 refine p_box (l := (numL A ++ (numL B ++ numL C))) H rfl ?_; clear H; intro w4 b5 H
 refine p_alloc (l := [uz, uz, uz, uz, uz, uz, uz, uz, uz, uz, uz, uz]) H tz152 rfl ?_; clear H; intro w7 b6 H
 refine xk hK1 ?_; try clear hK1 K1
 refine wp_seq_k fun K8 hK8 => sr fun K9 hK9 => p_val (r_field fa152_2 rfl) <| p_val (r_load (l := numL Z) tg24 H rfl (k := 2) rfl rfl rfl) <| p_val (r_as (l' := numL 0) (r_build (vals := []) (l := [_, _, _, _]) tb24 rfl rfl) (num_0)) <| p_val (r_eqnum u24 u22 sz22 ag22 eg24 rfl rfl lt2_CrvB lt2_CrvB rfl) <| xk hK9 ?_; try clear hK9 K9
 refine c_split (t := _) rfl (fun hc_1 => ?_) (fun hc_1 => ?_)
 ·skip
  refine sr fun K11 hK11 => p_val (r_loadW tg152 H rfl (k := 1) rfl rfl) <| p_storeW tg152 H rfl (k := 0) rfl rfl rfl rfl rfl ?_; clear H; intro w12 H
  refine xk hK11 ?_; try clear hK11 K11
  refine wp_ret <| x_ret <| e_1 rfl (q_cellW tg152 H rfl (k := 0) rfl rfl) ?_
  exact ⟨by rw [jad_z1 (p := (X, Y, Z)) hc_1], H.below⟩
 ·skip
  refine wp_skip <| xn hK8 ?_; try clear hK8 K8
  refine wp_seq_k fun K13 hK13 => sr fun K14 hK14 => p_val (r_field fa152_2 rfl) <| p_val (r_load (l := numL C) tg24 H rfl (k := 1) rfl rfl rfl) <| p_val (r_as (l' := numL 0) (r_build (vals := []) (l := [_, _, _, _]) tb24 rfl rfl) (num_0)) <| p_val (r_eqnum u24 u22 sz22 ag22 eg24 rfl rfl lt2_CrvB lt2_CrvB rfl) <| xk hK14 ?_; try clear hK14 K14
  refine c_split (t := _) rfl (fun hc_3 => ?_) (fun hc_3 => ?_)
  ·skip
   refine sr fun K16 hK16 => p_val (r_loadW tg152 H rfl (k := 2) rfl rfl) <| p_storeW tg152 H rfl (k := 0) rfl rfl rfl rfl rfl ?_; clear H; intro w17 H
   refine xk hK16 ?_; try clear hK16 K16
   refine wp_ret <| x_ret <| e_1 rfl (q_cellW tg152 H rfl (k := 0) rfl rfl) ?_
   exact ⟨by rw [jad_z2 (p := (X, Y, Z)) (q := (A, B, C)) hc_1 hc_3], H.below⟩
  ·skip
   refine wp_skip <| xn hK13 ?_; try clear hK13 K13
   refine wp_seq_k fun K18 hK18 => ?_
   apply wp_region_ext 12 (kinds [(4, .inl _), (9, .inl _), (10, .inr (NewAt _ [uz, uz, uz, uz] 24)), (11, .inr (NewAt _ [uz, uz, uz, uz] 24))]) rfl rfl (by kernel_rfl); intro vs20
   simp only [tkS, tkZ, drS, drZ]
   replace H := H.drew
   refine t_v (fun w hx => r_field fa152_2 rfl) <| t_v (fun w hx => r_load (l := numL Z) tg24 (H.ext hx) rfl (k := 2) rfl rfl rfl) <| t_v (fun w hx => r_field fa152_2 rfl) <| t_v (fun w hx => r_load (l := numL Z) tg24 (H.ext hx) rfl (k := 2) rfl rfl rfl) <| t_call (l := [(.agg (List.toArray _)), (.agg (List.toArray _))]) rfl rfl is108 rfl (fun w hx hF => (times_c _ _ lt2_CrvB lt2_CrvB _).mono (fun _ _ h => h)) ?_
   refine t_v (fun w hx => r_field fa152_2 rfl) <| t_v (fun w hx => r_load (l := numL C) tg24 (H.ext hx) rfl (k := 1) rfl rfl rfl) <| t_v (fun w hx => r_field fa152_2 rfl) <| t_v (fun w hx => r_load (l := numL C) tg24 (H.ext hx) rfl (k := 1) rfl rfl rfl) <| t_call (l := [(.agg (List.toArray _)), (.agg (List.toArray _))]) rfl rfl is108 rfl (fun w hx hF => (times_c _ _ lt2_CrvB lt2_CrvB _).mono (fun _ _ h => h)) ?_
   refine t_alloc rfl rfl tz24 rfl <| t_alloc rfl rfl tz24 rfl ?_
   refine t_nil (fun w23 hx hF hA => ?_)
   obtain ⟨b21, eb21, hbb21, hhb21⟩ := fact_rel hF 10 rfl rfl; have hnb21 := HP.neL H hbb21; replace hbb21 := Nat.le_trans H.below.size hbb21
   obtain ⟨b22, eb22, hbb22, hhb22⟩ := fact_rel hF 11 rfl rfl; have hnb22 := HP.neL H hbb22; replace hbb22 := Nat.le_trans H.below.size hbb22
   replace H := H.ext hx
   replace H := HP.push1 H hbb21 hnb21 hhb21
   replace H := HP.push1 H hbb22 ⟨fun e => (hA 10 11 (by decide) (by decide) (by decide)).1 rfl rfl (by rw [eb21, eb22]; exact congrArg (fun z => Value.pointer (some ⟨z, 0, none⟩)) e), hnb22⟩ hhb22
   clear hbb21 hnb21 hhb21 hbb22 hnb22 hhb22
   clear hx hF hA
   refine p_storeW tg24 H eb21 (k := 1) rfl rfl rfl rfl rfl ?_; clear H; intro w24 H
   refine HP.name H (k := 1) rfl ?_; clear H; intro pz hpz H; have lpz : pz < two256 := by (rw [hpz]; first | exact fm_lt2 _ _ | exact fa_lt2 _ _ | exact fs_lt2 _ _ | exact fn_lt2 _)
   refine p_storeW tg24 H eb22 (k := 0) rfl rfl rfl rfl rfl ?_; clear H; intro w25 H
   refine HP.name H (k := 0) rfl ?_; clear H; intro qz hqz H; have lqz : qz < two256 := by (rw [hqz]; first | exact fm_lt2 _ _ | exact fa_lt2 _ _ | exact fs_lt2 _ _ | exact fn_lt2 _)
   refine wpList_nil ?_; refine on_norm ?_
   refine xn hK18 ?_; try clear hK18 K18
   refine wp_seq_k fun K26 hK26 => ?_
   apply wp_region_ext 10 (kinds [(3, .inl _), (7, .inl _), (8, .inr (NewAt _ [uz, uz, uz, uz] 24)), (9, .inr (NewAt _ [uz, uz, uz, uz] 24))]) rfl rfl (by kernel_rfl); intro vs28
   simp only [tkS, tkZ, drS, drZ]
   replace H := H.drew
   refine t_v (fun w hx => r_field fa152_0 rfl) <| t_v (fun w hx => r_load (l := numL X) tg24 (H.ext hx) rfl (k := 4) rfl rfl rfl) <| t_v (fun w hx => r_loadW tg24 (H.ext hx) eb22 (k := 0) rfl rfl) <| t_call (l := [(.agg (List.toArray _)), (.agg (List.toArray _))]) rfl rfl is108 rfl (fun w hx hF => (times_c _ _ lt2_CrvB lt2_CrvB _).mono (fun _ _ h => h)) <| t_v (fun w hx => r_field fa152_0 rfl) ?_
   refine t_v (fun w hx => r_load (l := numL A) tg24 (H.ext hx) rfl (k := 3) rfl rfl rfl) <| t_v (fun w hx => r_loadW tg24 (H.ext hx) eb21 (k := 1) rfl rfl) <| t_call (l := [(.agg (List.toArray _)), (.agg (List.toArray _))]) rfl rfl is108 rfl (fun w hx hF => (times_c _ _ lt2_CrvB lt2_CrvB _).mono (fun _ _ h => h)) <| t_alloc rfl rfl tz24 rfl <| t_alloc rfl rfl tz24 rfl ?_
   refine t_nil (fun w31 hx hF hA => ?_)
   obtain ⟨b29, eb29, hbb29, hhb29⟩ := fact_rel hF 8 rfl rfl; have hnb29 := HP.neL H hbb29; replace hbb29 := Nat.le_trans H.below.size hbb29
   obtain ⟨b30, eb30, hbb30, hhb30⟩ := fact_rel hF 9 rfl rfl; have hnb30 := HP.neL H hbb30; replace hbb30 := Nat.le_trans H.below.size hbb30
   replace H := H.ext hx
   replace H := HP.push1 H hbb29 hnb29 hhb29
   replace H := HP.push1 H hbb30 ⟨fun e => (hA 8 9 (by decide) (by decide) (by decide)).1 rfl rfl (by rw [eb29, eb30]; exact congrArg (fun z => Value.pointer (some ⟨z, 0, none⟩)) e), hnb30⟩ hhb30
   clear hbb29 hnb29 hhb29 hbb30 hnb30 hhb30
   clear hx hF hA
   refine p_storeW tg24 H eb29 (k := 1) rfl rfl rfl rfl rfl ?_; clear H; intro w32 H
   refine HP.name H (k := 1) rfl ?_; clear H; intro u hu H; have lu : u < two256 := by (rw [hu]; first | exact fm_lt2 _ _ | exact fa_lt2 _ _ | exact fs_lt2 _ _ | exact fn_lt2 _)
   refine p_storeW tg24 H eb30 (k := 0) rfl rfl rfl rfl rfl ?_; clear H; intro w33 H
   refine HP.name H (k := 0) rfl ?_; clear H; intro v hv H; have lv : v < two256 := by (rw [hv]; first | exact fm_lt2 _ _ | exact fa_lt2 _ _ | exact fs_lt2 _ _ | exact fn_lt2 _)
   refine wpList_nil ?_; refine on_norm ?_
   refine xn hK26 ?_; try clear hK26 K26
   refine wp_seq_k fun K34 hK34 => ?_
   apply wp_region_ext 16 (kinds [(5, .inl _), (6, .inl _), (12, .inl _), (13, .inl _), (14, .inr (NewAt _ [uz, uz, uz, uz] 24)), (15, .inr (NewAt _ [uz, uz, uz, uz] 24))]) rfl rfl (by kernel_rfl); intro vs36
   simp only [tkS, tkZ, drS, drZ]
   replace H := H.drew
   refine t_v (fun w hx => r_field fa152_1 rfl) <| t_v (fun w hx => r_load (l := numL Y) tg24 (H.ext hx) rfl (k := 6) rfl rfl rfl) <| t_v (fun w hx => r_loadW tg24 (H.ext hx) eb22 (k := 2) rfl rfl) <| t_v (fun w hx => r_field fa152_2 rfl) <| t_v (fun w hx => r_load (l := numL C) tg24 (H.ext hx) rfl (k := 5) rfl rfl rfl) ?_
   refine t_call (l := [(.agg (List.toArray _)), (.agg (List.toArray _))]) rfl rfl is108 rfl (fun w hx hF => (times_c _ _ lt2_CrvB lt2_CrvB _).mono (fun _ _ h => h)) <| t_call (l := [(.agg (List.toArray _)), (.agg (List.toArray _))]) rfl rfl is108 rfl (fun w hx hF => (times_c _ _ lt2_CrvB lt2_CrvB _).mono (fun _ _ h => h)) <| t_v (fun w hx => r_field fa152_1 rfl) ?_
   refine t_v (fun w hx => r_load (l := numL B) tg24 (H.ext hx) rfl (k := 5) rfl rfl rfl) <| t_v (fun w hx => r_loadW tg24 (H.ext hx) eb21 (k := 3) rfl rfl) <| t_v (fun w hx => r_field fa152_2 rfl) <| t_v (fun w hx => r_load (l := numL Z) tg24 (H.ext hx) rfl (k := 6) rfl rfl rfl) ?_
   refine t_call (l := [(.agg (List.toArray _)), (.agg (List.toArray _))]) rfl rfl is108 rfl (fun w hx hF => (times_c _ _ lt2_CrvB lt2_CrvB _).mono (fun _ _ h => h)) <| t_call (l := [(.agg (List.toArray _)), (.agg (List.toArray _))]) rfl rfl is108 rfl (fun w hx hF => (times_c _ _ lt2_CrvB lt2_CrvB _).mono (fun _ _ h => h)) <| t_alloc rfl rfl tz24 rfl <| t_alloc rfl rfl tz24 rfl ?_
   refine t_nil (fun w39 hx hF hA => ?_)
   obtain ⟨b37, eb37, hbb37, hhb37⟩ := fact_rel hF 14 rfl rfl; have hnb37 := HP.neL H hbb37; replace hbb37 := Nat.le_trans H.below.size hbb37
   obtain ⟨b38, eb38, hbb38, hhb38⟩ := fact_rel hF 15 rfl rfl; have hnb38 := HP.neL H hbb38; replace hbb38 := Nat.le_trans H.below.size hbb38
   replace H := H.ext hx
   replace H := HP.push1 H hbb37 hnb37 hhb37
   replace H := HP.push1 H hbb38 ⟨fun e => (hA 14 15 (by decide) (by decide) (by decide)).1 rfl rfl (by rw [eb37, eb38]; exact congrArg (fun z => Value.pointer (some ⟨z, 0, none⟩)) e), hnb38⟩ hhb38
   clear hbb37 hnb37 hhb37 hbb38 hnb38 hhb38
   clear hx hF hA
   refine p_storeW tg24 H eb37 (k := 1) rfl rfl rfl rfl rfl ?_; clear H; intro w40 H
   refine HP.name H (k := 1) rfl ?_; clear H; intro s1 hs1 H; have ls1 : s1 < two256 := by (rw [hs1]; first | exact fm_lt2 _ _ | exact fa_lt2 _ _ | exact fs_lt2 _ _ | exact fn_lt2 _)
   refine p_storeW tg24 H eb38 (k := 0) rfl rfl rfl rfl rfl ?_; clear H; intro w41 H
   refine HP.name H (k := 0) rfl ?_; clear H; intro t1 ht1 H; have lt1 : t1 < two256 := by (rw [ht1]; first | exact fm_lt2 _ _ | exact fa_lt2 _ _ | exact fs_lt2 _ _ | exact fn_lt2 _)
   refine wpList_nil ?_; refine on_norm ?_
   refine xn hK34 ?_; try clear hK34 K34
   refine wp_seq_k fun K42 hK42 => ?_
   apply wp_region_ext 8 (kinds [(2, .inl _), (5, .inl _), (6, .inr (NewAt _ [uz, uz, uz, uz] 24)), (7, .inr (NewAt _ [uz, uz, uz, uz] 24))]) rfl rfl (by kernel_rfl); intro vs44
   simp only [tkS, tkZ, drS, drZ]
   replace H := H.drew
   refine t_v (fun w hx => r_loadW tg24 (H.ext hx) eb30 (k := 2) rfl rfl) <| t_v (fun w hx => r_loadW tg24 (H.ext hx) eb29 (k := 3) rfl rfl) <| t_call (l := [(.agg (List.toArray _)), (.agg (List.toArray _))]) rfl rfl is109 rfl (fun w hx hF => (minus_c _ _ lt2_CrvB lt2_CrvB _).mono (fun _ _ h => h)) <| t_v (fun w hx => r_loadW tg24 (H.ext hx) eb38 (k := 0) rfl rfl) ?_
   refine t_v (fun w hx => r_loadW tg24 (H.ext hx) eb37 (k := 1) rfl rfl) <| t_call (l := [(.agg (List.toArray _)), (.agg (List.toArray _))]) rfl rfl is109 rfl (fun w hx hF => (minus_c _ _ lt2_CrvB lt2_CrvB _).mono (fun _ _ h => h)) <| t_alloc rfl rfl tz24 rfl <| t_alloc rfl rfl tz24 rfl ?_
   refine t_nil (fun w47 hx hF hA => ?_)
   obtain ⟨b45, eb45, hbb45, hhb45⟩ := fact_rel hF 6 rfl rfl; have hnb45 := HP.neL H hbb45; replace hbb45 := Nat.le_trans H.below.size hbb45
   obtain ⟨b46, eb46, hbb46, hhb46⟩ := fact_rel hF 7 rfl rfl; have hnb46 := HP.neL H hbb46; replace hbb46 := Nat.le_trans H.below.size hbb46
   replace H := H.ext hx
   replace H := HP.push1 H hbb45 hnb45 hhb45
   replace H := HP.push1 H hbb46 ⟨fun e => (hA 6 7 (by decide) (by decide) (by decide)).1 rfl rfl (by rw [eb45, eb46]; exact congrArg (fun z => Value.pointer (some ⟨z, 0, none⟩)) e), hnb46⟩ hhb46
   clear hbb45 hnb45 hhb45 hbb46 hnb46 hhb46
   clear hx hF hA
   refine p_storeW tg24 H eb45 (k := 1) rfl rfl rfl rfl rfl ?_; clear H; intro w48 H
   refine HP.name H (k := 1) rfl ?_; clear H; intro hd hhd H; have lhd : hd < two256 := by (rw [hhd]; first | exact fm_lt2 _ _ | exact fa_lt2 _ _ | exact fs_lt2 _ _ | exact fn_lt2 _)
   refine p_storeW tg24 H eb46 (k := 0) rfl rfl rfl rfl rfl ?_; clear H; intro w49 H
   refine HP.name H (k := 0) rfl ?_; clear H; intro rd hrd H; have lrd : rd < two256 := by (rw [hrd]; first | exact fm_lt2 _ _ | exact fa_lt2 _ _ | exact fs_lt2 _ _ | exact fn_lt2 _)
   refine wpList_nil ?_; refine on_norm ?_
   refine xn hK42 ?_; try clear hK42 K42
   refine wp_seq_k fun K50 hK50 => sr fun K51 hK51 => p_val (r_loadW tg24 H eb45 (k := 1) rfl rfl) <| p_val (r_as (l' := numL 0) (r_build (vals := []) (l := [_, _, _, _]) tb24 rfl rfl) (num_0)) <| p_val (r_eqnum u24 u22 sz22 ag22 eg24 rfl rfl lt2_CrvB lt2_CrvB rfl) <| xk hK51 ?_; try clear hK51 K51
   refine c_split (t := _) rfl (fun hc_9 => ?_) (fun hc_9 => ?_)
   ·skip
    refine wp_seq_k fun K53 hK53 => sr fun K54 hK54 => p_val (r_loadW tg24 H eb46 (k := 0) rfl rfl) <| p_val (r_as (l' := numL 0) (r_build (vals := []) (l := [_, _, _, _]) tb24 rfl rfl) (num_0)) <| p_val (r_eqnum u24 u22 sz22 ag22 eg24 rfl rfl lt2_CrvB lt2_CrvB rfl) <| xk hK54 ?_; try clear hK54 K54
    refine c_split (t := _) rfl (fun hc_10 => ?_) (fun hc_10 => ?_)
    ·skip
     refine sr fun K56 hK56 => p_val (r_loadW tg152 H rfl (k := 10) rfl rfl) <| p_call (l := [(.agg (List.toArray _))]) is111 rfl ?_
     refine (ctwice_c (X, Y, Z) (by repeat (first | assumption | exact TL_0 | exact TL_jtw _ | exact TL_jof (by assumption) (by assumption) | exact ⟨by assumption, by assumption, by assumption⟩ | refine TL_jad ?_ ?_ | refine TL_jmul ?_ _)) _).mono ?_; rintro _ w57 ⟨rfl, hx⟩; replace H := H.ext hx; clear hx
     refine p_storeW tg152 H rfl (k := 8) rfl rfl rfl rfl rfl ?_; clear H; intro w58 H
     refine xk hK56 ?_; try clear hK56 K56
     refine wp_ret <| x_ret <| x_ret <| e_1 rfl (q_cellW tg152 H rfl (k := 8) rfl rfl) ?_
     exact ⟨by rw [jad_of hc_1 hc_3 hpz hqz hu hv hs1 ht1 hhd hrd, jad2_t hc_9 hc_10], H.below⟩
    ·skip
     refine wp_skip <| xn hK53 ?_; try clear hK53 K53
     refine sr fun K59 hK59 => p_val (r_as (l' := (numL 0 ++ (numL 0 ++ numL 0))) (r_build (vals := []) (l := ([uz, uz, uz, uz] ++ ([uz, uz, uz, uz] ++ [uz, uz, uz, uz]))) tb152 rfl rfl) (by rw [num_0])) <| p_storeW tg152 H rfl (k := 8) rfl rfl rfl rfl rfl ?_; clear H; intro w60 H
     refine xk hK59 ?_; try clear hK59 K59
     refine wp_ret <| x_ret <| e_1 rfl (q_cellW tg152 H rfl (k := 8) rfl rfl) ?_
     exact ⟨by rw [jad_of hc_1 hc_3 hpz hqz hu hv hs1 ht1 hhd hrd, jad2_0 hc_9 hc_10], H.below⟩
   ·skip
    refine wp_skip <| xn hK50 ?_; try clear hK50 K50
    refine sr fun K61 hK61 => p_val (r_loadW tg24 H eb45 (k := 1) rfl rfl) <| p_val (r_loadW tg24 H eb45 (k := 1) rfl rfl) <| p_call (l := [(.agg (List.toArray _)), (.agg (List.toArray _))]) is108 rfl <| (times_c _ _ lt2_CrvB lt2_CrvB _).mono ?_; rintro _ w62 ⟨rfl, hx⟩; replace H := H.ext hx; clear hx
    refine p_alloc (l := [uz, uz, uz, uz]) H tz24 rfl ?_; clear H; intro w64 b63 H
    refine p_storeW tg24 H rfl (k := 0) rfl rfl rfl rfl rfl ?_; clear H; intro w65 H
    refine HP.name H (k := 0) rfl ?_; clear H; intro h2 hh2 H; have lh2 : h2 < two256 := by (rw [hh2]; first | exact fm_lt2 _ _ | exact fa_lt2 _ _ | exact fs_lt2 _ _ | exact fn_lt2 _)
    refine xk hK61 ?_; try clear hK61 K61
    refine wp_seq_k fun K66 hK66 => ?_
    apply wp_region_ext 8 (kinds [(2, .inl _), (5, .inl _), (6, .inr (NewAt _ [uz, uz, uz, uz] 24)), (7, .inr (NewAt _ [uz, uz, uz, uz] 24))]) rfl rfl (by kernel_rfl); intro vs68
    simp only [tkS, tkZ, drS, drZ]
    replace H := H.drew
    refine t_v (fun w hx => r_loadW tg24 (H.ext hx) eb45 (k := 2) rfl rfl) <| t_v (fun w hx => r_loadW tg24 (H.ext hx) rfl (k := 0) rfl rfl) <| t_call (l := [(.agg (List.toArray _)), (.agg (List.toArray _))]) rfl rfl is108 rfl (fun w hx hF => (times_c _ _ lt2_CrvB lt2_CrvB _).mono (fun _ _ h => h)) <| t_v (fun w hx => r_loadW tg24 (H.ext hx) eb29 (k := 6) rfl rfl) ?_
    refine t_v (fun w hx => r_loadW tg24 (H.ext hx) rfl (k := 0) rfl rfl) <| t_call (l := [(.agg (List.toArray _)), (.agg (List.toArray _))]) rfl rfl is108 rfl (fun w hx hF => (times_c _ _ lt2_CrvB lt2_CrvB _).mono (fun _ _ h => h)) <| t_alloc rfl rfl tz24 rfl <| t_alloc rfl rfl tz24 rfl ?_
    refine t_nil (fun w71 hx hF hA => ?_)
    obtain ⟨b69, eb69, hbb69, hhb69⟩ := fact_rel hF 6 rfl rfl; have hnb69 := HP.neL H hbb69; replace hbb69 := Nat.le_trans H.below.size hbb69
    obtain ⟨b70, eb70, hbb70, hhb70⟩ := fact_rel hF 7 rfl rfl; have hnb70 := HP.neL H hbb70; replace hbb70 := Nat.le_trans H.below.size hbb70
    replace H := H.ext hx
    replace H := HP.push1 H hbb69 hnb69 hhb69
    replace H := HP.push1 H hbb70 ⟨fun e => (hA 6 7 (by decide) (by decide) (by decide)).1 rfl rfl (by rw [eb69, eb70]; exact congrArg (fun z => Value.pointer (some ⟨z, 0, none⟩)) e), hnb70⟩ hhb70
    clear hbb69 hnb69 hhb69 hbb70 hnb70 hhb70
    clear hx hF hA
    refine p_storeW tg24 H eb69 (k := 1) rfl rfl rfl rfl rfl ?_; clear H; intro w72 H
    refine HP.name H (k := 1) rfl ?_; clear H; intro h3 hh3 H; have lh3 : h3 < two256 := by (rw [hh3]; first | exact fm_lt2 _ _ | exact fa_lt2 _ _ | exact fs_lt2 _ _ | exact fn_lt2 _)
    refine p_storeW tg24 H eb70 (k := 0) rfl rfl rfl rfl rfl ?_; clear H; intro w73 H
    refine HP.name H (k := 0) rfl ?_; clear H; intro uh huh H; have luh : uh < two256 := by (rw [huh]; first | exact fm_lt2 _ _ | exact fa_lt2 _ _ | exact fs_lt2 _ _ | exact fn_lt2 _)
    refine wpList_nil ?_; refine on_norm ?_
    refine xn hK66 ?_; try clear hK66 K66
    refine wp_seq_k fun K74 hK74 => ?_
    apply wp_region_ext 10 (kinds [(2, .inl _), (4, .inl _), (7, .inl _), (8, .inl _), (9, .inr (NewAt _ [uz, uz, uz, uz] 24))]) rfl rfl (by kernel_rfl); intro vs76
    simp only [tkS, tkZ, drS, drZ]
    replace H := H.drew
    refine t_v (fun w hx => r_loadW tg24 (H.ext hx) eb46 (k := 3) rfl rfl) <| t_v (fun w hx => r_loadW tg24 (H.ext hx) eb46 (k := 3) rfl rfl) <| t_call (l := [(.agg (List.toArray _)), (.agg (List.toArray _))]) rfl rfl is108 rfl (fun w hx hF => (times_c _ _ lt2_CrvB lt2_CrvB _).mono (fun _ _ h => h)) <| t_v (fun w hx => r_loadW tg24 (H.ext hx) eb69 (k := 1) rfl rfl) ?_
    refine t_call (l := [(.agg (List.toArray _)), (.agg (List.toArray _))]) rfl rfl is109 rfl (fun w hx hF => (minus_c _ _ lt2_CrvB lt2_CrvB _).mono (fun _ _ h => h)) <| t_v (fun w hx => r_loadW tg24 (H.ext hx) eb70 (k := 0) rfl rfl) <| t_v (fun w hx => r_loadW tg24 (H.ext hx) eb70 (k := 0) rfl rfl) ?_
    refine t_call (l := [(.agg (List.toArray _)), (.agg (List.toArray _))]) rfl rfl is107 rfl (fun w hx hF => (plus_c _ _ lt2_CrvB lt2_CrvB _).mono (fun _ _ h => h)) <| t_call (l := [(.agg (List.toArray _)), (.agg (List.toArray _))]) rfl rfl is109 rfl (fun w hx hF => (minus_c _ _ lt2_CrvB lt2_CrvB _).mono (fun _ _ h => h)) <| t_alloc rfl rfl tz24 rfl ?_
    refine t_nil (fun w78 hx hF hA => ?_)
    obtain ⟨b77, eb77, hbb77, hhb77⟩ := fact_rel hF 9 rfl rfl; have hnb77 := HP.neL H hbb77; replace hbb77 := Nat.le_trans H.below.size hbb77
    replace H := H.ext hx
    replace H := HP.push1 H hbb77 hnb77 hhb77
    clear hbb77 hnb77 hhb77
    clear hx hF hA
    refine p_storeW tg24 H eb77 (k := 0) rfl rfl rfl rfl rfl ?_; clear H; intro w79 H
    refine HP.name H (k := 0) rfl ?_; clear H; intro x3 hx3 H; have lx3 : x3 < two256 := by (rw [hx3]; first | exact fm_lt2 _ _ | exact fa_lt2 _ _ | exact fs_lt2 _ _ | exact fn_lt2 _)
    refine wpList_nil ?_; refine on_norm ?_
    refine xn hK74 ?_; try clear hK74 K74
    refine wp_seq_k fun K80 hK80 => ?_
    apply wp_region_ext 10 (kinds [(3, .inl _), (4, .inl _), (7, .inl _), (8, .inl _), (9, .inr (NewAt _ [uz, uz, uz, uz] 24))]) rfl rfl (by kernel_rfl); intro vs82
    simp only [tkS, tkZ, drS, drZ]
    replace H := H.drew
    refine t_v (fun w hx => r_loadW tg24 (H.ext hx) eb46 (k := 4) rfl rfl) <| t_v (fun w hx => r_loadW tg24 (H.ext hx) eb70 (k := 1) rfl rfl) <| t_v (fun w hx => r_loadW tg24 (H.ext hx) eb77 (k := 0) rfl rfl) <| t_call (l := [(.agg (List.toArray _)), (.agg (List.toArray _))]) rfl rfl is109 rfl (fun w hx hF => (minus_c _ _ lt2_CrvB lt2_CrvB _).mono (fun _ _ h => h)) ?_
    refine t_call (l := [(.agg (List.toArray _)), (.agg (List.toArray _))]) rfl rfl is108 rfl (fun w hx hF => (times_c _ _ lt2_CrvB lt2_CrvB _).mono (fun _ _ h => h)) <| t_v (fun w hx => r_loadW tg24 (H.ext hx) eb37 (k := 7) rfl rfl) <| t_v (fun w hx => r_loadW tg24 (H.ext hx) eb69 (k := 2) rfl rfl) ?_
    refine t_call (l := [(.agg (List.toArray _)), (.agg (List.toArray _))]) rfl rfl is108 rfl (fun w hx hF => (times_c _ _ lt2_CrvB lt2_CrvB _).mono (fun _ _ h => h)) <| t_call (l := [(.agg (List.toArray _)), (.agg (List.toArray _))]) rfl rfl is109 rfl (fun w hx hF => (minus_c _ _ lt2_CrvB lt2_CrvB _).mono (fun _ _ h => h)) <| t_alloc rfl rfl tz24 rfl ?_
    refine t_nil (fun w84 hx hF hA => ?_)
    obtain ⟨b83, eb83, hbb83, hhb83⟩ := fact_rel hF 9 rfl rfl; have hnb83 := HP.neL H hbb83; replace hbb83 := Nat.le_trans H.below.size hbb83
    replace H := H.ext hx
    replace H := HP.push1 H hbb83 hnb83 hhb83
    clear hbb83 hnb83 hhb83
    clear hx hF hA
    refine p_storeW tg24 H eb83 (k := 0) rfl rfl rfl rfl rfl ?_; clear H; intro w85 H
    refine HP.name H (k := 0) rfl ?_; clear H; intro y3 hy3 H; have ly3 : y3 < two256 := by (rw [hy3]; first | exact fm_lt2 _ _ | exact fa_lt2 _ _ | exact fs_lt2 _ _ | exact fn_lt2 _)
    refine wpList_nil ?_; refine on_norm ?_
    refine xn hK80 ?_; try clear hK80 K80
    refine wp_seq_k fun K86 hK86 => ?_
    apply wp_region_ext 10 (kinds [(7, .inl _), (8, .inl _)]) rfl rfl (by kernel_rfl); intro vs88
    simp only [tkS, tkZ, drS, drZ]
    replace H := H.drew
    refine t_v (fun w hx => r_loadW tg24 (H.ext hx) eb77 (k := 1) rfl rfl) <| t_v (fun w hx => r_loadW tg24 (H.ext hx) eb83 (k := 0) rfl rfl) <| t_v (fun w hx => r_loadW tg24 (H.ext hx) eb45 (k := 6) rfl rfl) <| t_v (fun w hx => r_field fa152_2 rfl) <| t_v (fun w hx => r_load (l := numL Z) tg24 (H.ext hx) rfl (k := 15) rfl rfl rfl) <| t_v (fun w hx => r_field fa152_2 rfl) ?_
    refine t_v (fun w hx => r_load (l := numL C) tg24 (H.ext hx) rfl (k := 14) rfl rfl rfl) <| t_call (l := [(.agg (List.toArray _)), (.agg (List.toArray _))]) rfl rfl is108 rfl (fun w hx hF => (times_c _ _ lt2_CrvB lt2_CrvB _).mono (fun _ _ h => h)) <| t_call (l := [(.agg (List.toArray _)), (.agg (List.toArray _))]) rfl rfl is108 rfl (fun w hx hF => (times_c _ _ lt2_CrvB lt2_CrvB _).mono (fun _ _ h => h)) ?_
    refine t_v (fun w hx => r_build (vals := [(0, .agg (numL x3).toArray), (1, .agg (numL y3).toArray), (2, .agg (numL (fm hd (fm Z C))).toArray)]) (l := (numL x3 ++ (numL y3 ++ numL (fm hd (fm Z C))))) tb152 rfl rfl) ?_
    refine t_nil (fun w89 hx hF hA => ?_)
    replace H := H.ext hx
    clear hx hF hA
    refine p_storeW tg152 H rfl (k := 13) rfl rfl rfl rfl rfl ?_; clear H; intro w90 H
    refine wpList_nil ?_; refine on_norm ?_
    refine xn hK86 ?_; try clear hK86 K86
    refine wp_ret <| e_1 rfl (q_cellW tg152 H rfl (k := 13) rfl rfl) ?_
    exact ⟨by rw [jad_of hc_1 hc_3 hpz hqz hu hv hs1 ht1 hhd hrd, jad2_of hc_9 hh2 hh3 huh hx3 hy3], H.below⟩
theorem cadd_j (t s : Tr) (h : TL t) (h' : TL s) (w : World) : Calls Tryz.prog 112 #[.agg (jcT t).toArray, .agg (jcT s).toArray] w fun e w' => e = .returned (.agg (jcT (jad t s)).toArray) ∧ Ext w w' := cadd_v t.1 t.2.1 t.2.2 h.1 h.2.1 h.2.2 s.1 s.2.1 s.2.2 h'.1 h'.2.1 h'.2.2 w
end Go.Proofs.YtmbcolbbekbccaaGreat
