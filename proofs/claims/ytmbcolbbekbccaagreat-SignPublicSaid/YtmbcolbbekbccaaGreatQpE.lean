/- The walks of some functions. Conditions: as each theorem says. -/
import Derived.Test.YtmbcolbbekbccaaGreatQpD
namespace Go.Proofs.YtmbcolbbekbccaaGreat
open Go Go.RowKit
theorem lt2_FldB {x : Nat} (h : x < two256 := by first | exact Nat.mod_lt _ two256_pos | exact Mod.lt (mod_modN _) | assumption | exact onceN_lt (by assumption) | exact Nat.lt_trans (Nat.mod_lt _ (mod_modN _).pos) (mod_modN _).lt | exact ofV_lt2 _ _ | exact invV_lt2 _ _ | exact fm_lt2 _ _ | exact fa_lt2 _ _ | exact fs_lt2 _ _ | exact fn_lt2 _ | exact PP_lt | exact AL_GG.1 | exact AL_GG.2 | exact (AL_cadd _ _).1 | exact (AL_cadd _ _).2 | exact (AL_cmul _ _).1 | exact (AL_cmul _ _).2 | exact (AL_cofV _).1 | exact (AL_cofV _).2 | exact (AL_cneg (by assumption)).1 | exact (AL_cneg (by assumption)).2 | exact lt_lit (by decide)) : x < two256 := h
theorem ltu_FldB {x : Int} (h : U x := by first | exact U_lm _ _ | exact U_sd _ _ _ | exact U_ad _ _ _ | exact U_ml _ _ | assumption | exact U_0 | exact hf' _ | exact hf _) : U x := h
attribute [local irreducible] wpList wpT Code.wp Calls Code.rounds lm sd sb ad ac
theorem tg144 : TAgg Tryz.prog 144 8 := ⟨fun _ => by kernel_rfl, fun _ => by kernel_rfl⟩
theorem tz144 : TZero Tryz.prog 144 (.agg #[.int .u64 0, .int .u64 0, .int .u64 0, .int .u64 0, .int .u64 0, .int .u64 0, .int .u64 0, .int .u64 0]) := fun _ => by kernel_rfl
theorem u144 : Tryz.prog.underlying 144 = some (.array 8 22) := by kernel_rfl
theorem is100 : IsFn Tryz.prog 100 := isFn Tryz.func100 (by kernel_rfl) (by kernel_rfl)
theorem is101 : IsFn Tryz.prog 101 := isFn Tryz.func101 (by kernel_rfl) (by kernel_rfl)
theorem is139 : IsFn Tryz.prog 139 := isFn Tryz.func139 (by kernel_rfl) (by kernel_rfl)
theorem wide_c (A B : Nat) (hA : A < two256) (hB : B < two256) (w : World) :
    Calls Tryz.prog 100 #[numV A, numV B] w fun e w' => e = .returned (.agg (outL (lm (A * B))).toArray) ∧ Ext w w' := by
 refine enter (n := 63) Tryz.func100 rfl rfl rfl ?_
 have H := HP.start w
 refine sr ?_; intro K1 hK1
 refine p_box (l := numL A) H rfl ?_; clear H; intro w2 b3 H
 refine p_box (l := numL B) H rfl ?_; clear H; intro w4 b5 H
 refine p_alloc (l := [.int .u64 0, .int .u64 0, .int .u64 0, .int .u64 0, .int .u64 0, .int .u64 0, .int .u64 0, .int .u64 0]) H tz144 rfl ?_; clear H; intro w7 b6 H
 refine xk hK1 ?_; try clear hK1 K1
 refine sr ?_; intro K8 hK8
 refine p_alloc (l := [.int .u64 0, .int .u64 0, .int .u64 0, .int .u64 0, .int .u64 0, .int .u64 0, .int .u64 0, .int .u64 0]) H tz144 rfl ?_; clear H; intro w10 b9 H
 refine xk hK8 ?_; try clear hK8 K8
 refine wp_seq_k ?_; intro K11 hK11
 refine sr ?_; intro K12 hK12
 refine p_val (r_loadW tg24 H rfl (k := 3) rfl rfl) ?_
 refine p_mv (v := (.int _ _)) rfl ?_
 refine xk hK12 ?_; try clear hK12 K12
 refine wp_block ?_
 refine loopF [6, 7, 8, 9, 10, 11, 12, 13, 15, 16, 17, 18, 19, 20, 21, 22, 23, 24, 25, 26, 27, 28, 29, 30, 31, 32, 33, 34, 35, 36, 37, 38, 39, 40, 41, 42, 43, 44, 45, 46, 47, 48, 49, 50, 51, 52, 53, 54, 55, 56, 57, 58, 59, 60, 61] (fun γ μ w' => ∃ (k : Nat) (f : Nat → Int), 4 - k = γ ∧ look μ 15 = .int .i64 (k : Int) ∧ HP w w' [(b9, outL f, 144), (b6, [.int .u64 0, .int .u64 0, .int .u64 0, .int .u64 0, .int .u64 0, .int .u64 0, .int .u64 0, .int .u64 0], 144), (b5, numL B, 24), (b3, numL A, 24)] ∧ (k ≤ 4) ∧ ((∀ s, U (f s))) ∧ ((∀ s, k + 4 ≤ s → f s = 0)) ∧ (val8 f = low A k * (B : Int))) (4) ⟨0, fun _ => 0, rfl, rfl, H, Nat.zero_le _, fun _ => U_0, fun _ _ => rfl, by rw [low_0, Int.zero_mul]; simp [val8]⟩ ?_
 clear H
 intro g16 m13 w14 hk15 hI; obtain ⟨k, f, rfl, hl17, H, hk, hf, hz, hv⟩ := hI
 refine sr ?_; intro K18 hK18
 refine p_val (r_lss hl17 rfl rfl) ?_
 refine xk hK18 ?_; try clear hK18 K18
 refine wp_seq_k ?_; intro K20 hK20
 refine c_split (t := _) rfl (fun hc_3 => ?_) (fun hc_3 => ?_)
 ·skip
  have hk4 := of_decide_eq_true hc_3
  refine wp_skip ?_
  refine xn hK20 ?_; try clear hK20 K20
  refine wp_seq_k ?_; intro K21 hK21
  refine wp_block ?_
  refine sr ?_; intro K22 hK22
  refine p_mv (v := (.int _ _)) hl17 ?_
  refine p_val (r_idxA (v := .int .u64 (lm A k)) (i := k) u24 sz22 ag22 (hk15 14 rfl) hl17 (Int.toNat_natCast k) (by omega) (by omega) (by rw [Nat.mul_one]; exact numL_piece A k (by omega))) ?_
  refine p_as (v := (.int _ _)) rfl ?_
  refine p_as (v := (.int _ _)) rfl ?_
  refine xk hK22 ?_; try clear hK22 K22
  refine sr ?_; intro K23 hK23
  refine p_as (v := (.int _ _)) rfl ?_
  refine xk hK23 ?_; try clear hK23 K23
  refine wp_seq_k ?_; intro K24 hK24
  refine sr ?_; intro K25 hK25
  refine p_val (r_loadW tg24 H (hk15 3 rfl) (k := 2) rfl rfl) ?_
  refine p_mv (v := (.int _ _)) rfl ?_
  refine xk hK25 ?_; try clear hK25 K25
  refine wp_block ?_
  refine loopF [8, 9, 10, 11, 12, 13, 20, 21, 22, 23, 24, 25, 26, 27, 28, 29, 30, 31, 32, 33, 34, 35, 36, 37, 38, 39, 40, 41, 42, 43, 44, 45, 46, 47, 48, 49, 50, 51, 52, 53, 54, 55, 56] (fun γ μ w' => ∃ (j : Nat) (c : Int) (f' : Nat → Int), 4 - j = γ ∧ look μ 20 = .int .i64 (j : Int) ∧ look μ 8 = .int .u64 c ∧ HP w w' [(b9, outL f', 144), (b6, [.int .u64 0, .int .u64 0, .int .u64 0, .int .u64 0, .int .u64 0, .int .u64 0, .int .u64 0, .int .u64 0], 144), (b5, numL B, 24), (b3, numL A, 24)] ∧ (j ≤ 4) ∧ (U c) ∧ ((∀ s, U (f' s))) ∧ ((∀ s, k + j ≤ s → f' s = f s)) ∧ (val8 f' + c * wv (k + j) = val8 f + lm A k * low B j * wv k)) (4) ⟨0, 0, f, rfl, rfl, rfl, H, Nat.zero_le _, U_0, hf, fun _ _ => rfl, by rw [low_0]; simp⟩ ?_
  clear H
  intro g29 m26 w27 hk28 hI; obtain ⟨j, c, f', rfl, hl30, hl31, H, hj, hc, hf', hz', hv'⟩ := hI
  refine sr ?_; intro K32 hK32
  refine p_val (r_lss hl30 rfl rfl) ?_
  refine xk hK32 ?_; try clear hK32 K32
  refine wp_seq_k ?_; intro K34 hK34
  refine c_split (t := _) rfl (fun hc_7 => ?_) (fun hc_7 => ?_)
  ·skip
   have hj4 := of_decide_eq_true hc_7
   refine wp_skip ?_
   refine xn hK34 ?_; try clear hK34 K34
   refine wp_seq_k ?_; intro K35 hK35
   refine wp_block ?_
   refine sr ?_; intro K36 hK36
   refine p_mv (v := (.int _ _)) hl30 ?_
   refine p_val (r_idxA (v := .int .u64 (lm B j)) (i := j) u24 sz22 ag22 (hk28 19 rfl) hl30 (Int.toNat_natCast j) (by omega) (by omega) (by rw [Nat.mul_one]; exact numL_piece B j (by omega))) ?_
   refine p_as (v := (.int _ _)) rfl ?_
   refine p_as (v := (.int _ _)) rfl ?_
   refine xk hK36 ?_; try clear hK36 K36
   refine sr ?_; intro K37 hK37
   refine p_mv (v := (.int _ _)) (hk28 7 rfl) ?_
   refine p_mv (v := (.int _ _)) rfl ?_
   refine p_call (l := [(.int _ _), (.int _ _)]) is139 rfl ?_
   refine (mul64_c ltu_FldB ltu_FldB _).mono ?_; rintro _ w38 ⟨rfl, hx⟩; replace H := H.ext hx; clear hx
   refine p_mv (v := (.tuple _)) rfl ?_
   refine p_val (r_extract (v := (.int _ _)) rfl rfl) ?_
   refine p_val (r_extract (v := (.int _ _)) rfl rfl) ?_
   refine p_as (v := (.int _ _)) rfl ?_
   refine p_as (v := (.int _ _)) rfl ?_
   refine xk hK37 ?_; try clear hK37 K37
   refine sr ?_; intro K39 hK39
   refine p_mv (v := (.int _ _)) rfl ?_
   refine p_mv (v := (.int _ _)) hl31 ?_
   refine p_callv (l := [(.int _ _), (.int _ _), (.int _ _)]) rfl (run_Add64 ltu_FldB ltu_FldB (by first | exact C_sb _ _ _ | exact C_ac _ _ _ | exact C1_0 | assumption) _) ?_
   refine p_mv (v := (.tuple _)) rfl ?_
   refine p_val (r_extract (v := (.int _ _)) rfl rfl) ?_
   refine p_val (r_extract (v := (.int _ _)) rfl rfl) ?_
   refine p_as (v := (.int _ _)) rfl ?_
   refine p_as (v := (.int _ _)) rfl ?_
   refine xk hK39 ?_; try clear hK39 K39
   refine sr ?_; intro K40 hK40
   refine p_mv (v := (.int _ _)) rfl ?_
   refine p_mv (v := (.int _ _)) rfl ?_
   refine p_val (r_add (r := mh (lm A k) (lm B j) + ac (ml (lm A k) (lm B j)) c 0) rfl rfl (wide_w1 (U_lm _ _) (U_lm _ _) hc)) ?_
   refine p_as (v := (.int _ _)) rfl ?_
   refine xk hK40 ?_; try clear hK40 K40
   refine sr ?_; intro K41 hK41
   refine p_mv (v := (.int _ _)) (hk28 6 rfl) ?_
   refine p_mv (v := (.int _ _)) rfl ?_
   refine p_val (r_add (r := ((k + j : Nat) : Int)) rfl rfl ((wr64 (by omega) (by omega)).trans (by omega))) ?_
   refine p_mv (v := (.int _ _)) (hk28 6 rfl) ?_
   refine p_mv (v := (.int _ _)) rfl ?_
   refine p_val (r_add (r := ((k + j : Nat) : Int)) rfl rfl ((wr64 (by omega) (by omega)).trans (by omega))) ?_
   refine p_val (r_addrA (i := k + j) u144 sz22 ((hk28 5 rfl).trans (hk15 5 rfl)) rfl (rfl) (by omega) (by omega)) ?_
   refine p_val (r_load1 (v := .int .u64 (f' (k + j))) to22 H rfl (k := 0) rfl (by simpa using out_piece f' (k + j) (by omega))) ?_
   refine p_mv (v := (.int _ _)) rfl ?_
   refine p_callv (l := [(.int _ _), (.int _ _), (.int _ _)]) rfl (run_Add64 ltu_FldB ltu_FldB (by first | exact C_sb _ _ _ | exact C_ac _ _ _ | exact C1_0 | assumption) _) ?_
   refine p_mv (v := (.tuple _)) rfl ?_
   refine p_val (r_extract (v := (.int _ _)) rfl rfl) ?_
   refine p_val (r_extract (v := (.int _ _)) rfl rfl) ?_
   refine p_val (r_addrA (i := k + j) u144 sz22 ((hk28 5 rfl).trans (hk15 5 rfl)) rfl (rfl) (by omega) (by omega)) ?_
   refine p_store1 (cs := _) (v := (.int _ _)) to22 H rfl (k := 0) rfl rfl rfl (by rw [nat_blt]; simp [outL]; omega) ?_; clear H; intro w42 H
   rw [show 0 + (k + j) * 1 = k + j by omega, out_lay _ _ _ (by omega)] at H
   refine p_as (v := (.int _ _)) rfl ?_
   refine xk hK41 ?_; try clear hK41 K41
   refine wp_region_lit ?_
   refine p_mv (v := (.int _ _)) rfl ?_
   refine p_mv (v := (.int _ _)) rfl ?_
   refine p_val (r_add (r := mh (lm A k) (lm B j) + ac (ml (lm A k) (lm B j)) c 0 + ac (f' (k + j)) (ad (ml (lm A k) (lm B j)) c 0) 0) rfl rfl ((wide_step (U_lm A k) (U_lm B j) hc (hf' (k + j))).1)) ?_
   refine p_as (v := (.int _ _)) rfl ?_
   refine wpList_nil ?_
   refine b_norm ?_
   refine xn hK35 ?_; try clear hK35 K35
   refine wp_region_lit ?_
   refine p_val (r_add (r := ((j + 1 : Nat) : Int)) hl30 rfl ((wr64 (by omega) (by omega)).trans (by omega))) ?_
   refine p_mv (v := (.int _ _)) rfl ?_
   refine wpList_nil ?_
   refine x_norm ?_
   exact ⟨_, _, (by omega), rfl, (by repeat (first | exact hk28 | refine keep_cons rfl ?_)), j + 1, mh (lm A k) (lm B j) + ac (ml (lm A k) (lm B j)) c 0 + ac (f' (k + j)) (ad (ml (lm A k) (lm B j)) c 0) 0, upd f' (k + j) (ad (f' (k + j)) (ad (ml (lm A k) (lm B j)) c 0) 0), rfl, rfl, rfl, H, by omega, (wide_step (U_lm A k) (U_lm B j) hc (hf' (k + j))).2.1, U_upd hf' (U_ad _ _ _), fun s hs => by rw [upd_other (by omega), hz' s (by omega)], wide_inv hv' (wide_step (U_lm A k) (U_lm B j) hc (hf' (k + j))).2.2 (by omega)⟩
  ·skip
   have hj4 := of_decide_eq_false hc_7
   obtain rfl : j = 4 := by omega
   refine wp_exit ?_
   refine x_exit ?_
   refine x_exit ?_
   refine b_hit ?_
   refine xn hK24 ?_; try clear hK24 K24
   refine wp_region_lit ?_
   refine p_mv (v := (.int _ _)) (hk28 6 rfl) ?_
   refine p_val (r_add (r := ((k + 4 : Nat) : Int)) rfl rfl ((wr64 (by omega) (by omega)).trans (by omega))) ?_
   refine p_mv (v := (.int _ _)) hl31 ?_
   refine p_val (r_addrA (i := k + 4) u144 sz22 ((hk28 5 rfl).trans (hk15 5 rfl)) rfl (rfl) (by omega) (by omega)) ?_
   refine p_store1 (cs := _) (v := (.int _ _)) to22 H rfl (k := 0) rfl rfl rfl (by rw [nat_blt]; simp [outL]; omega) ?_; clear H; intro w43 H
   rw [show 0 + (k + 4) * 1 = k + 4 by omega, out_lay _ _ _ (by omega)] at H
   refine wpList_nil ?_
   refine b_norm ?_
   refine xn hK21 ?_; try clear hK21 K21
   refine wp_region_lit ?_
   refine p_val (r_add (r := ((k + 1 : Nat) : Int)) ((hk28 15 rfl).trans hl17) rfl ((wr64 (by omega) (by omega)).trans (by omega))) ?_
   refine p_mv (v := (.int _ _)) rfl ?_
   refine wpList_nil ?_
   refine x_norm ?_
   exact ⟨_, _, (by omega), rfl, (by repeat (first | exact hk15 | refine keep_cons rfl ?_ | refine keep_sub hk28 rfl ?_)), k + 1, upd f' (k + 4) c, rfl, rfl, H, by omega, U_upd hf' hc, fun s hs => by rw [upd_other (by omega), hz' s (by omega), hz s (by omega)], wide_out hv' hv hB ((hz' _ (Nat.le_refl _)).trans (hz _ (Nat.le_refl _))) (by omega)⟩
 ·skip
  have hk4 := of_decide_eq_false hc_3
  refine wp_exit ?_
  refine x_exit ?_
  refine x_exit ?_
  refine b_hit ?_
  refine xn hK11 ?_; try clear hK11 K11
  refine sr ?_; intro K44 hK44
  refine p_val (r_loadW tg144 H (hk15 5 rfl) (k := 0) rfl rfl) ?_
  refine p_storeW tg144 H (hk15 4 rfl) (k := 1) rfl rfl rfl rfl rfl ?_; clear H; intro w45 H
  refine xk hK44 ?_; try clear hK44 K44
  refine wp_ret ?_
  refine e_1 rfl (q_cellW tg144 H (hk15 4 rfl) (k := 1) rfl rfl) ?_
  obtain rfl : k = 4 := by omega
  rw [low_4 hA] at hv
  exact ⟨by rw [outL_of hf (X := A * B) (by rw [hv, Int.natCast_mul])], H.below⟩
set_option maxHeartbeats 1000000 in
set_option maxRecDepth 10000 in
theorem mul_c (m : Int) (A B : Nat) (hA : A < two256) (hB : B < two256) (w : World) :
    Calls Tryz.prog 51 #[.int .i64 m, numV A, numV B] w fun e w' => e = .returned (numV (A * B % modN m)) ∧ Ext w w' := by
 refine enter (n := 73) Tryz.func51 rfl rfl rfl ?_
 have H := HP.start w
 have hp := mod_modN m
 have hone : two256 - modN m < two256 := by have := hp.pos; have := hp.lt; omega
 refine sr ?_; intro K1 hK1
 refine p_box (l := numL A) H rfl ?_; clear H; intro w2 b3 H
 refine p_box (l := numL B) H rfl ?_; clear H; intro w4 b5 H
 refine p_alloc (l := [.int .u64 0, .int .u64 0, .int .u64 0, .int .u64 0]) H tz24 rfl ?_; clear H; intro w7 b6 H
 refine xk hK1 ?_; try clear hK1 K1
 refine sr ?_; intro K8 hK8
 refine p_mv (v := (.int _ _)) rfl ?_
 refine p_call (l := [(.int _ _)]) is40 rfl ?_
 refine (modulus_c _ _).mono ?_; rintro _ w9 ⟨rfl, hx⟩; replace H := H.ext hx; clear hx
 refine p_alloc (l := [.int .u64 0, .int .u64 0, .int .u64 0, .int .u64 0]) H tz24 rfl ?_; clear H; intro w11 b10 H
 refine p_storeW tg24 H rfl (k := 0) rfl rfl rfl rfl rfl ?_; clear H; intro w12 H
 refine xk hK8 ?_; try clear hK8 K8
 refine sr ?_; intro K13 hK13
 refine p_val (r_loadW tg24 H rfl (k := 3) rfl rfl) ?_
 refine p_val (r_loadW tg24 H rfl (k := 2) rfl rfl) ?_
 refine p_call (l := [(.agg (List.toArray _)), (.agg (List.toArray _))]) is100 rfl ?_
 refine (wide_c _ _ lt2_FldB lt2_FldB _).mono ?_; rintro _ w14 ⟨rfl, hx⟩; replace H := H.ext hx; clear hx
 refine p_alloc (l := [.int .u64 0, .int .u64 0, .int .u64 0, .int .u64 0, .int .u64 0, .int .u64 0, .int .u64 0, .int .u64 0]) H tz144 rfl ?_; clear H; intro w16 b15 H
 refine p_storeW tg144 H rfl (k := 0) rfl rfl rfl rfl rfl ?_; clear H; intro w17 H
 refine xk hK13 ?_; try clear hK13 K13
 refine wp_seq_k ?_; intro K18 hK18
 refine wp_block ?_
 refine loopF [9, 10, 11, 12, 18, 19, 20, 21, 22, 23, 24, 25, 26, 27, 28, 29, 30, 31, 32, 33, 34, 35, 36, 37, 38, 39, 40, 41, 42, 43, 44, 45, 46, 47, 48, 49, 50, 51, 52, 53, 54, 55, 56, 57, 58, 59, 60, 61] (fun γ μ w' => ∃ (X : Nat), X = γ ∧ HP w w' [(b15, outL (lm X), 144), (b10, numL (modN m), 24), (b6, [.int .u64 0, .int .u64 0, .int .u64 0, .int .u64 0], 24), (b5, numL B, 24), (b3, numL A, 24)] ∧ (X < two256 * two256) ∧ (X % modN m = A * B % modN m)) (A * B) ⟨A * B, rfl, H, Nat.mul_lt_mul'' hA hB, rfl⟩ ?_
 clear H
 intro g22 m19 w20 hk21 hI; obtain ⟨X, rfl, H, hX, hv⟩ := hI
 have hXh : X / two256 < two256 := Nat.div_lt_of_lt_mul hX
 refine wp_seq_k ?_; intro K23 hK23
 refine sr ?_; intro K24 hK24
 refine p_val (r_addrA u144 sz22 (hk21 8 rfl) (k := .i64) (i := 4) rfl rfl (by decide) (by decide)) ?_
 refine p_val (r_load1 (v := (.int _ _)) to22 H rfl (k := 0) rfl rfl) ?_
 refine p_val (r_addrA u144 sz22 (hk21 8 rfl) (k := .i64) (i := 5) rfl rfl (by decide) (by decide)) ?_
 refine p_val (r_load1 (v := (.int _ _)) to22 H rfl (k := 0) rfl rfl) ?_
 refine p_val (r_bits (bo := .or) (by simp) rfl rfl rfl) ?_
 refine p_val (r_addrA u144 sz22 (hk21 8 rfl) (k := .i64) (i := 6) rfl rfl (by decide) (by decide)) ?_
 refine p_val (r_load1 (v := (.int _ _)) to22 H rfl (k := 0) rfl rfl) ?_
 refine p_val (r_bits (bo := .or) (by simp) rfl rfl rfl) ?_
 refine p_val (r_addrA u144 sz22 (hk21 8 rfl) (k := .i64) (i := 7) rfl rfl (by decide) (by decide)) ?_
 refine p_val (r_load1 (v := (.int _ _)) to22 H rfl (k := 0) rfl rfl) ?_
 refine p_val (r_bits (bo := .or) (by simp) rfl rfl rfl) ?_
 refine p_val (r_neq (t := decide (two256 ≤ X)) rfl rfl (or4_ne X hX)) ?_
 refine xk hK24 ?_; try clear hK24 K24
 refine c_split (t := _) rfl (fun hc_3 => ?_) (fun hc_3 => ?_)
 ·skip
  have hX2 := of_decide_eq_true hc_3
  refine wp_skip ?_
  refine xn hK23 ?_; try clear hK23 K23
  refine wp_block ?_
  refine wp_seq_k ?_; intro K26 hK26
  apply wp_region_ext 13 (kinds [(10, .inl _), (11, .inl _), (12, .inr (NewAt _ [.int .u64 0, .int .u64 0, .int .u64 0, .int .u64 0, .int .u64 0, .int .u64 0, .int .u64 0, .int .u64 0] 144))]) rfl rfl (by kernel_rfl); intro vs28
  simp only [tkS, tkZ, drS, drZ]
  replace H := H.drew
  refine t_v (fun w hx => r_addrA u144 sz22 (hk21 8 rfl) (k := .i64) (i := 4) rfl rfl (by decide) (by decide)) ?_
  refine t_v (fun w hx => r_load1 (v := (.int _ _)) to22 (H.ext hx) rfl (k := 0) rfl rfl) ?_
  refine t_v (fun w hx => r_addrA u144 sz22 (hk21 8 rfl) (k := .i64) (i := 5) rfl rfl (by decide) (by decide)) ?_
  refine t_v (fun w hx => r_load1 (v := (.int _ _)) to22 (H.ext hx) rfl (k := 0) rfl rfl) ?_
  refine t_v (fun w hx => r_addrA u144 sz22 (hk21 8 rfl) (k := .i64) (i := 6) rfl rfl (by decide) (by decide)) ?_
  refine t_v (fun w hx => r_load1 (v := (.int _ _)) to22 (H.ext hx) rfl (k := 0) rfl rfl) ?_
  refine t_v (fun w hx => r_addrA u144 sz22 (hk21 8 rfl) (k := .i64) (i := 7) rfl rfl (by decide) (by decide)) ?_
  refine t_v (fun w hx => r_load1 (v := (.int _ _)) to22 (H.ext hx) rfl (k := 0) rfl rfl) ?_
  refine t_v (fun w hx => r_as (l' := numL (X / two256)) (r_build (vals := [(0, (.int _ _)), (1, (.int _ _)), (2, (.int _ _)), (3, (.int _ _))]) (l := [_, _, _, _]) tb24 rfl rfl) (numL_hi X)) ?_
  refine t_v (fun w hx => r_loadW tg24 (H.ext hx) (hk21 7 rfl) (k := 1) rfl rfl) ?_
  refine t_call (l := [(.agg (List.toArray _))]) rfl rfl is101 rfl (fun w hx hF => (one_c _ (by first | assumption | exact mod_modN _) _).mono (fun _ _ ⟨he, hx⟩ => ⟨he, hx⟩)) ?_
  refine t_call (l := [(.agg (List.toArray _)), (.agg (List.toArray _))]) rfl rfl is100 rfl (fun w hx hF => (wide_c _ _ lt2_FldB lt2_FldB _).mono (fun _ _ ⟨he, hx⟩ => ⟨he, hx⟩)) ?_
  refine t_alloc rfl rfl tz144 rfl ?_
  refine t_nil (fun w30 hx hF hA => ?_)
  obtain ⟨b29, eb29, hbb29, hhb29⟩ := fact_rel hF 12 rfl rfl; have hnb29 := HP.neL H hbb29; replace hbb29 := Nat.le_trans H.below.size hbb29
  replace H := H.ext hx
  replace H := HP.push1 H hbb29 hnb29 hhb29
  clear hbb29 hnb29 hhb29
  clear hx hF hA
  refine p_storeW tg144 H eb29 (k := 0) rfl rfl rfl rfl rfl ?_; clear H; intro w31 H
  refine wpList_nil ?_; refine on_norm ?_
  refine xn hK26 ?_; try clear hK26 K26
  refine sr ?_; intro K32 hK32
  refine p_as (v := (.int _ _)) rfl ?_
  refine xk hK32 ?_; try clear hK32 K32
  refine sr ?_; intro K33 hK33
  refine p_mv (v := (.int _ _)) rfl ?_
  refine xk hK33 ?_; try clear hK33 K33
  refine wp_block ?_
  refine wp_loop_rounds 9 ?_; rw [rounds_succ]
  refine sr ?_; intro K34 hK34
  refine p_val (r_lss (t := true) rfl rfl (by decide)) ?_
  refine xk hK34 ?_; try clear hK34 K34
  refine wp_seq_k ?_; intro K35 hK35
  refine c_true rfl rfl ?_
  refine wp_skip ?_
  refine xn hK35 ?_; try clear hK35 K35
  refine wp_seq_k ?_; intro K36 hK36
  refine wp_block ?_
  refine sr ?_; intro K37 hK37
  refine p_mv (v := (.int _ _)) rfl ?_
  refine p_as (v := (.int _ _)) rfl ?_
  refine xk hK37 ?_; try clear hK37 K37
  refine sr ?_; intro K38 hK38
  refine p_as (v := (.int _ _)) rfl ?_
  refine xk hK38 ?_; try clear hK38 K38
  refine wp_seq_k ?_; intro K39 hK39
  refine sr ?_; intro K40 hK40
  refine p_mv (v := (.int _ _)) rfl ?_
  refine p_val (r_lss (t := true) rfl rfl (by decide)) ?_
  refine xk hK40 ?_; try clear hK40 K40
  refine c_true rfl rfl ?_
  refine wp_region_lit ?_
  refine p_mv (v := (.int _ _)) rfl ?_
  refine p_val (r_addrA u144 sz22 (hk21 8 rfl) (k := .i64) (i := 0) rfl rfl (by decide) (by decide)) ?_
  refine p_val (r_load1 (v := (.int _ _)) to22 H rfl (k := 1) rfl rfl) ?_
  refine p_as (v := (.int _ _)) rfl ?_
  refine xk hK39 ?_; try clear hK39 K39
  refine wp_region_lit ?_
  refine p_mv (v := (.int _ _)) rfl ?_
  refine p_mv (v := (.int _ _)) rfl ?_
  refine p_val (r_addrA u144 sz22 eb29 (k := .i64) (i := 0) rfl rfl (by decide) (by decide)) ?_
  refine p_val (r_load1 (v := (.int _ _)) to22 H rfl (k := 0) rfl rfl) ?_
  refine p_mv (v := (.int _ _)) rfl ?_
  refine p_mv (v := (.int _ _)) rfl ?_
  refine p_callv (l := [(.int _ _), (.int _ _), (.int _ _)]) rfl (run_Add64 ltu_FldB ltu_FldB (by first | exact C_sb _ _ _ | exact C_ac _ _ _ | exact C1_0 | assumption) _) ?_
  refine p_mv (v := (.tuple _)) rfl ?_
  refine p_val (r_extract (v := (.int _ _)) rfl rfl) ?_
  refine p_val (r_extract (v := (.int _ _)) rfl rfl) ?_
  refine p_val (r_addrA u144 sz22 (hk21 8 rfl) (k := .i64) (i := 0) rfl rfl (by decide) (by decide)) ?_
  refine p_store1 (v := (.int _ _)) to22 H rfl (k := 1) rfl rfl rfl rfl ?_; clear H; intro w41 H
  refine p_as (v := (.int _ _)) rfl ?_
  refine wpList_nil ?_
  refine b_norm ?_
  refine xn hK36 ?_; try clear hK36 K36
  refine wp_region_lit ?_
  refine p_val (r_add (r := 1) rfl rfl rfl) ?_
  refine p_mv (v := (.int _ _)) rfl ?_
  refine wpList_nil ?_
  refine x_norm ?_
  rw [rounds_succ]
  refine sr ?_; intro K42 hK42
  refine p_val (r_lss (t := true) rfl rfl (by decide)) ?_
  refine xk hK42 ?_; try clear hK42 K42
  refine wp_seq_k ?_; intro K43 hK43
  refine c_true rfl rfl ?_
  refine wp_skip ?_
  refine xn hK43 ?_; try clear hK43 K43
  refine wp_seq_k ?_; intro K44 hK44
  refine wp_block ?_
  refine sr ?_; intro K45 hK45
  refine p_mv (v := (.int _ _)) rfl ?_
  refine p_as (v := (.int _ _)) rfl ?_
  refine xk hK45 ?_; try clear hK45 K45
  refine sr ?_; intro K46 hK46
  refine p_as (v := (.int _ _)) rfl ?_
  refine xk hK46 ?_; try clear hK46 K46
  refine wp_seq_k ?_; intro K47 hK47
  refine sr ?_; intro K48 hK48
  refine p_mv (v := (.int _ _)) rfl ?_
  refine p_val (r_lss (t := true) rfl rfl (by decide)) ?_
  refine xk hK48 ?_; try clear hK48 K48
  refine c_true rfl rfl ?_
  refine wp_region_lit ?_
  refine p_mv (v := (.int _ _)) rfl ?_
  refine p_val (r_addrA u144 sz22 (hk21 8 rfl) (k := .i64) (i := 1) rfl rfl (by decide) (by decide)) ?_
  refine p_val (r_load1 (v := (.int _ _)) to22 H rfl (k := 1) rfl rfl) ?_
  refine p_as (v := (.int _ _)) rfl ?_
  refine xk hK47 ?_; try clear hK47 K47
  refine wp_region_lit ?_
  refine p_mv (v := (.int _ _)) rfl ?_
  refine p_mv (v := (.int _ _)) rfl ?_
  refine p_val (r_addrA u144 sz22 eb29 (k := .i64) (i := 1) rfl rfl (by decide) (by decide)) ?_
  refine p_val (r_load1 (v := (.int _ _)) to22 H rfl (k := 0) rfl rfl) ?_
  refine p_mv (v := (.int _ _)) rfl ?_
  refine p_mv (v := (.int _ _)) rfl ?_
  refine p_callv (l := [(.int _ _), (.int _ _), (.int _ _)]) rfl (run_Add64 ltu_FldB ltu_FldB (by first | exact C_sb _ _ _ | exact C_ac _ _ _ | exact C1_0 | assumption) _) ?_
  refine p_mv (v := (.tuple _)) rfl ?_
  refine p_val (r_extract (v := (.int _ _)) rfl rfl) ?_
  refine p_val (r_extract (v := (.int _ _)) rfl rfl) ?_
  refine p_val (r_addrA u144 sz22 (hk21 8 rfl) (k := .i64) (i := 1) rfl rfl (by decide) (by decide)) ?_
  refine p_store1 (v := (.int _ _)) to22 H rfl (k := 1) rfl rfl rfl rfl ?_; clear H; intro w49 H
  refine p_as (v := (.int _ _)) rfl ?_
  refine wpList_nil ?_
  refine b_norm ?_
  refine xn hK44 ?_; try clear hK44 K44
  refine wp_region_lit ?_
  refine p_val (r_add (r := 2) rfl rfl rfl) ?_
  refine p_mv (v := (.int _ _)) rfl ?_
  refine wpList_nil ?_
  refine x_norm ?_
  rw [rounds_succ]
  refine sr ?_; intro K50 hK50
  refine p_val (r_lss (t := true) rfl rfl (by decide)) ?_
  refine xk hK50 ?_; try clear hK50 K50
  refine wp_seq_k ?_; intro K51 hK51
  refine c_true rfl rfl ?_
  refine wp_skip ?_
  refine xn hK51 ?_; try clear hK51 K51
  refine wp_seq_k ?_; intro K52 hK52
  refine wp_block ?_
  refine sr ?_; intro K53 hK53
  refine p_mv (v := (.int _ _)) rfl ?_
  refine p_as (v := (.int _ _)) rfl ?_
  refine xk hK53 ?_; try clear hK53 K53
  refine sr ?_; intro K54 hK54
  refine p_as (v := (.int _ _)) rfl ?_
  refine xk hK54 ?_; try clear hK54 K54
  refine wp_seq_k ?_; intro K55 hK55
  refine sr ?_; intro K56 hK56
  refine p_mv (v := (.int _ _)) rfl ?_
  refine p_val (r_lss (t := true) rfl rfl (by decide)) ?_
  refine xk hK56 ?_; try clear hK56 K56
  refine c_true rfl rfl ?_
  refine wp_region_lit ?_
  refine p_mv (v := (.int _ _)) rfl ?_
  refine p_val (r_addrA u144 sz22 (hk21 8 rfl) (k := .i64) (i := 2) rfl rfl (by decide) (by decide)) ?_
  refine p_val (r_load1 (v := (.int _ _)) to22 H rfl (k := 1) rfl rfl) ?_
  refine p_as (v := (.int _ _)) rfl ?_
  refine xk hK55 ?_; try clear hK55 K55
  refine wp_region_lit ?_
  refine p_mv (v := (.int _ _)) rfl ?_
  refine p_mv (v := (.int _ _)) rfl ?_
  refine p_val (r_addrA u144 sz22 eb29 (k := .i64) (i := 2) rfl rfl (by decide) (by decide)) ?_
  refine p_val (r_load1 (v := (.int _ _)) to22 H rfl (k := 0) rfl rfl) ?_
  refine p_mv (v := (.int _ _)) rfl ?_
  refine p_mv (v := (.int _ _)) rfl ?_
  refine p_callv (l := [(.int _ _), (.int _ _), (.int _ _)]) rfl (run_Add64 ltu_FldB ltu_FldB (by first | exact C_sb _ _ _ | exact C_ac _ _ _ | exact C1_0 | assumption) _) ?_
  refine p_mv (v := (.tuple _)) rfl ?_
  refine p_val (r_extract (v := (.int _ _)) rfl rfl) ?_
  refine p_val (r_extract (v := (.int _ _)) rfl rfl) ?_
  refine p_val (r_addrA u144 sz22 (hk21 8 rfl) (k := .i64) (i := 2) rfl rfl (by decide) (by decide)) ?_
  refine p_store1 (v := (.int _ _)) to22 H rfl (k := 1) rfl rfl rfl rfl ?_; clear H; intro w57 H
  refine p_as (v := (.int _ _)) rfl ?_
  refine wpList_nil ?_
  refine b_norm ?_
  refine xn hK52 ?_; try clear hK52 K52
  refine wp_region_lit ?_
  refine p_val (r_add (r := 3) rfl rfl rfl) ?_
  refine p_mv (v := (.int _ _)) rfl ?_
  refine wpList_nil ?_
  refine x_norm ?_
  rw [rounds_succ]
  refine sr ?_; intro K58 hK58
  refine p_val (r_lss (t := true) rfl rfl (by decide)) ?_
  refine xk hK58 ?_; try clear hK58 K58
  refine wp_seq_k ?_; intro K59 hK59
  refine c_true rfl rfl ?_
  refine wp_skip ?_
  refine xn hK59 ?_; try clear hK59 K59
  refine wp_seq_k ?_; intro K60 hK60
  refine wp_block ?_
  refine sr ?_; intro K61 hK61
  refine p_mv (v := (.int _ _)) rfl ?_
  refine p_as (v := (.int _ _)) rfl ?_
  refine xk hK61 ?_; try clear hK61 K61
  refine sr ?_; intro K62 hK62
  refine p_as (v := (.int _ _)) rfl ?_
  refine xk hK62 ?_; try clear hK62 K62
  refine wp_seq_k ?_; intro K63 hK63
  refine sr ?_; intro K64 hK64
  refine p_mv (v := (.int _ _)) rfl ?_
  refine p_val (r_lss (t := true) rfl rfl (by decide)) ?_
  refine xk hK64 ?_; try clear hK64 K64
  refine c_true rfl rfl ?_
  refine wp_region_lit ?_
  refine p_mv (v := (.int _ _)) rfl ?_
  refine p_val (r_addrA u144 sz22 (hk21 8 rfl) (k := .i64) (i := 3) rfl rfl (by decide) (by decide)) ?_
  refine p_val (r_load1 (v := (.int _ _)) to22 H rfl (k := 1) rfl rfl) ?_
  refine p_as (v := (.int _ _)) rfl ?_
  refine xk hK63 ?_; try clear hK63 K63
  refine wp_region_lit ?_
  refine p_mv (v := (.int _ _)) rfl ?_
  refine p_mv (v := (.int _ _)) rfl ?_
  refine p_val (r_addrA u144 sz22 eb29 (k := .i64) (i := 3) rfl rfl (by decide) (by decide)) ?_
  refine p_val (r_load1 (v := (.int _ _)) to22 H rfl (k := 0) rfl rfl) ?_
  refine p_mv (v := (.int _ _)) rfl ?_
  refine p_mv (v := (.int _ _)) rfl ?_
  refine p_callv (l := [(.int _ _), (.int _ _), (.int _ _)]) rfl (run_Add64 ltu_FldB ltu_FldB (by first | exact C_sb _ _ _ | exact C_ac _ _ _ | exact C1_0 | assumption) _) ?_
  refine p_mv (v := (.tuple _)) rfl ?_
  refine p_val (r_extract (v := (.int _ _)) rfl rfl) ?_
  refine p_val (r_extract (v := (.int _ _)) rfl rfl) ?_
  refine p_val (r_addrA u144 sz22 (hk21 8 rfl) (k := .i64) (i := 3) rfl rfl (by decide) (by decide)) ?_
  refine p_store1 (v := (.int _ _)) to22 H rfl (k := 1) rfl rfl rfl rfl ?_; clear H; intro w65 H
  refine p_as (v := (.int _ _)) rfl ?_
  refine wpList_nil ?_
  refine b_norm ?_
  refine xn hK60 ?_; try clear hK60 K60
  refine wp_region_lit ?_
  refine p_val (r_add (r := 4) rfl rfl rfl) ?_
  refine p_mv (v := (.int _ _)) rfl ?_
  refine wpList_nil ?_
  refine x_norm ?_
  rw [rounds_succ]
  refine sr ?_; intro K66 hK66
  refine p_val (r_lss (t := true) rfl rfl (by decide)) ?_
  refine xk hK66 ?_; try clear hK66 K66
  refine wp_seq_k ?_; intro K67 hK67
  refine c_true rfl rfl ?_
  refine wp_skip ?_
  refine xn hK67 ?_; try clear hK67 K67
  refine wp_seq_k ?_; intro K68 hK68
  refine wp_block ?_
  refine sr ?_; intro K69 hK69
  refine p_mv (v := (.int _ _)) rfl ?_
  refine p_as (v := (.int _ _)) rfl ?_
  refine xk hK69 ?_; try clear hK69 K69
  refine sr ?_; intro K70 hK70
  refine p_as (v := (.int _ _)) rfl ?_
  refine xk hK70 ?_; try clear hK70 K70
  refine wp_seq_k ?_; intro K71 hK71
  refine sr ?_; intro K72 hK72
  refine p_mv (v := (.int _ _)) rfl ?_
  refine p_val (r_lss (t := false) rfl rfl (by decide)) ?_
  refine xk hK72 ?_; try clear hK72 K72
  refine c_false rfl rfl ?_
  refine wp_skip ?_
  refine xn hK71 ?_; try clear hK71 K71
  refine wp_region_lit ?_
  refine p_mv (v := (.int _ _)) rfl ?_
  refine p_mv (v := (.int _ _)) rfl ?_
  refine p_val (r_addrA u144 sz22 eb29 (k := .i64) (i := 4) rfl rfl (by decide) (by decide)) ?_
  refine p_val (r_load1 (v := (.int _ _)) to22 H rfl (k := 0) rfl rfl) ?_
  refine p_mv (v := (.int _ _)) rfl ?_
  refine p_mv (v := (.int _ _)) rfl ?_
  refine p_callv (l := [(.int _ _), (.int _ _), (.int _ _)]) rfl (run_Add64 ltu_FldB ltu_FldB (by first | exact C_sb _ _ _ | exact C_ac _ _ _ | exact C1_0 | assumption) _) ?_
  refine p_mv (v := (.tuple _)) rfl ?_
  refine p_val (r_extract (v := (.int _ _)) rfl rfl) ?_
  refine p_val (r_extract (v := (.int _ _)) rfl rfl) ?_
  refine p_val (r_addrA u144 sz22 (hk21 8 rfl) (k := .i64) (i := 4) rfl rfl (by decide) (by decide)) ?_
  refine p_store1 (v := (.int _ _)) to22 H rfl (k := 1) rfl rfl rfl rfl ?_; clear H; intro w73 H
  refine p_as (v := (.int _ _)) rfl ?_
  refine wpList_nil ?_
  refine b_norm ?_
  refine xn hK68 ?_; try clear hK68 K68
  refine wp_region_lit ?_
  refine p_val (r_add (r := 5) rfl rfl rfl) ?_
  refine p_mv (v := (.int _ _)) rfl ?_
  refine wpList_nil ?_
  refine x_norm ?_
  rw [rounds_succ]
  refine sr ?_; intro K74 hK74
  refine p_val (r_lss (t := true) rfl rfl (by decide)) ?_
  refine xk hK74 ?_; try clear hK74 K74
  refine wp_seq_k ?_; intro K75 hK75
  refine c_true rfl rfl ?_
  refine wp_skip ?_
  refine xn hK75 ?_; try clear hK75 K75
  refine wp_seq_k ?_; intro K76 hK76
  refine wp_block ?_
  refine sr ?_; intro K77 hK77
  refine p_mv (v := (.int _ _)) rfl ?_
  refine p_as (v := (.int _ _)) rfl ?_
  refine xk hK77 ?_; try clear hK77 K77
  refine sr ?_; intro K78 hK78
  refine p_as (v := (.int _ _)) rfl ?_
  refine xk hK78 ?_; try clear hK78 K78
  refine wp_seq_k ?_; intro K79 hK79
  refine sr ?_; intro K80 hK80
  refine p_mv (v := (.int _ _)) rfl ?_
  refine p_val (r_lss (t := false) rfl rfl (by decide)) ?_
  refine xk hK80 ?_; try clear hK80 K80
  refine c_false rfl rfl ?_
  refine wp_skip ?_
  refine xn hK79 ?_; try clear hK79 K79
  refine wp_region_lit ?_
  refine p_mv (v := (.int _ _)) rfl ?_
  refine p_mv (v := (.int _ _)) rfl ?_
  refine p_val (r_addrA u144 sz22 eb29 (k := .i64) (i := 5) rfl rfl (by decide) (by decide)) ?_
  refine p_val (r_load1 (v := (.int _ _)) to22 H rfl (k := 0) rfl rfl) ?_
  refine p_mv (v := (.int _ _)) rfl ?_
  refine p_mv (v := (.int _ _)) rfl ?_
  refine p_callv (l := [(.int _ _), (.int _ _), (.int _ _)]) rfl (run_Add64 ltu_FldB ltu_FldB (by first | exact C_sb _ _ _ | exact C_ac _ _ _ | exact C1_0 | assumption) _) ?_
  refine p_mv (v := (.tuple _)) rfl ?_
  refine p_val (r_extract (v := (.int _ _)) rfl rfl) ?_
  refine p_val (r_extract (v := (.int _ _)) rfl rfl) ?_
  refine p_val (r_addrA u144 sz22 (hk21 8 rfl) (k := .i64) (i := 5) rfl rfl (by decide) (by decide)) ?_
  refine p_store1 (v := (.int _ _)) to22 H rfl (k := 1) rfl rfl rfl rfl ?_; clear H; intro w81 H
  refine p_as (v := (.int _ _)) rfl ?_
  refine wpList_nil ?_
  refine b_norm ?_
  refine xn hK76 ?_; try clear hK76 K76
  refine wp_region_lit ?_
  refine p_val (r_add (r := 6) rfl rfl rfl) ?_
  refine p_mv (v := (.int _ _)) rfl ?_
  refine wpList_nil ?_
  refine x_norm ?_
  rw [rounds_succ]
  refine sr ?_; intro K82 hK82
  refine p_val (r_lss (t := true) rfl rfl (by decide)) ?_
  refine xk hK82 ?_; try clear hK82 K82
  refine wp_seq_k ?_; intro K83 hK83
  refine c_true rfl rfl ?_
  refine wp_skip ?_
  refine xn hK83 ?_; try clear hK83 K83
  refine wp_seq_k ?_; intro K84 hK84
  refine wp_block ?_
  refine sr ?_; intro K85 hK85
  refine p_mv (v := (.int _ _)) rfl ?_
  refine p_as (v := (.int _ _)) rfl ?_
  refine xk hK85 ?_; try clear hK85 K85
  refine sr ?_; intro K86 hK86
  refine p_as (v := (.int _ _)) rfl ?_
  refine xk hK86 ?_; try clear hK86 K86
  refine wp_seq_k ?_; intro K87 hK87
  refine sr ?_; intro K88 hK88
  refine p_mv (v := (.int _ _)) rfl ?_
  refine p_val (r_lss (t := false) rfl rfl (by decide)) ?_
  refine xk hK88 ?_; try clear hK88 K88
  refine c_false rfl rfl ?_
  refine wp_skip ?_
  refine xn hK87 ?_; try clear hK87 K87
  refine wp_region_lit ?_
  refine p_mv (v := (.int _ _)) rfl ?_
  refine p_mv (v := (.int _ _)) rfl ?_
  refine p_val (r_addrA u144 sz22 eb29 (k := .i64) (i := 6) rfl rfl (by decide) (by decide)) ?_
  refine p_val (r_load1 (v := (.int _ _)) to22 H rfl (k := 0) rfl rfl) ?_
  refine p_mv (v := (.int _ _)) rfl ?_
  refine p_mv (v := (.int _ _)) rfl ?_
  refine p_callv (l := [(.int _ _), (.int _ _), (.int _ _)]) rfl (run_Add64 ltu_FldB ltu_FldB (by first | exact C_sb _ _ _ | exact C_ac _ _ _ | exact C1_0 | assumption) _) ?_
  refine p_mv (v := (.tuple _)) rfl ?_
  refine p_val (r_extract (v := (.int _ _)) rfl rfl) ?_
  refine p_val (r_extract (v := (.int _ _)) rfl rfl) ?_
  refine p_val (r_addrA u144 sz22 (hk21 8 rfl) (k := .i64) (i := 6) rfl rfl (by decide) (by decide)) ?_
  refine p_store1 (v := (.int _ _)) to22 H rfl (k := 1) rfl rfl rfl rfl ?_; clear H; intro w89 H
  refine p_as (v := (.int _ _)) rfl ?_
  refine wpList_nil ?_
  refine b_norm ?_
  refine xn hK84 ?_; try clear hK84 K84
  refine wp_region_lit ?_
  refine p_val (r_add (r := 7) rfl rfl rfl) ?_
  refine p_mv (v := (.int _ _)) rfl ?_
  refine wpList_nil ?_
  refine x_norm ?_
  rw [rounds_succ]
  refine sr ?_; intro K90 hK90
  refine p_val (r_lss (t := true) rfl rfl (by decide)) ?_
  refine xk hK90 ?_; try clear hK90 K90
  refine wp_seq_k ?_; intro K91 hK91
  refine c_true rfl rfl ?_
  refine wp_skip ?_
  refine xn hK91 ?_; try clear hK91 K91
  refine wp_seq_k ?_; intro K92 hK92
  refine wp_block ?_
  refine sr ?_; intro K93 hK93
  refine p_mv (v := (.int _ _)) rfl ?_
  refine p_as (v := (.int _ _)) rfl ?_
  refine xk hK93 ?_; try clear hK93 K93
  refine sr ?_; intro K94 hK94
  refine p_as (v := (.int _ _)) rfl ?_
  refine xk hK94 ?_; try clear hK94 K94
  refine wp_seq_k ?_; intro K95 hK95
  refine sr ?_; intro K96 hK96
  refine p_mv (v := (.int _ _)) rfl ?_
  refine p_val (r_lss (t := false) rfl rfl (by decide)) ?_
  refine xk hK96 ?_; try clear hK96 K96
  refine c_false rfl rfl ?_
  refine wp_skip ?_
  refine xn hK95 ?_; try clear hK95 K95
  refine wp_region_lit ?_
  refine p_mv (v := (.int _ _)) rfl ?_
  refine p_mv (v := (.int _ _)) rfl ?_
  refine p_val (r_addrA u144 sz22 eb29 (k := .i64) (i := 7) rfl rfl (by decide) (by decide)) ?_
  refine p_val (r_load1 (v := (.int _ _)) to22 H rfl (k := 0) rfl rfl) ?_
  refine p_mv (v := (.int _ _)) rfl ?_
  refine p_mv (v := (.int _ _)) rfl ?_
  refine p_callv (l := [(.int _ _), (.int _ _), (.int _ _)]) rfl (run_Add64 ltu_FldB ltu_FldB (by first | exact C_sb _ _ _ | exact C_ac _ _ _ | exact C1_0 | assumption) _) ?_
  refine p_mv (v := (.tuple _)) rfl ?_
  refine p_val (r_extract (v := (.int _ _)) rfl rfl) ?_
  refine p_val (r_extract (v := (.int _ _)) rfl rfl) ?_
  refine p_val (r_addrA u144 sz22 (hk21 8 rfl) (k := .i64) (i := 7) rfl rfl (by decide) (by decide)) ?_
  refine p_store1 (v := (.int _ _)) to22 H rfl (k := 1) rfl rfl rfl rfl ?_; clear H; intro w97 H
  refine p_as (v := (.int _ _)) rfl ?_
  refine wpList_nil ?_
  refine b_norm ?_
  refine xn hK92 ?_; try clear hK92 K92
  refine wp_region_lit ?_
  refine p_val (r_add (r := 8) rfl rfl rfl) ?_
  refine p_mv (v := (.int _ _)) rfl ?_
  refine wpList_nil ?_
  refine x_norm ?_
  rw [rounds_succ]
  refine sr ?_; intro K98 hK98
  refine p_val (r_lss (t := false) rfl rfl (by decide)) ?_
  refine xk hK98 ?_; try clear hK98 K98
  refine wp_seq_k ?_; intro K99 hK99
  refine c_false rfl rfl ?_
  refine wp_exit ?_
  refine x_exit ?_
  refine x_exit ?_
  refine b_hit ?_
  refine b_norm ?_
  refine x_norm ?_
  have hlt := fold_lt hp hX2
  replace H := H.tail
  exact ⟨_, _, (by omega), rfl, (by repeat (first | exact hk21 | refine keep_cons rfl ?_)), X / two256 * (two256 - modN m) + X % two256, rfl, (HP.recast H (k := 0) rfl (add8_fin (X / two256 * (two256 - modN m)) X (by omega) (by omega))), by omega, by rw [fold_mod hp, hv]⟩
 ·skip
  have hX2 := of_decide_eq_false hc_3
  have hX3 : X < two256 := by omega
  refine wp_exit ?_
  refine x_exit ?_
  refine x_exit ?_
  refine b_hit ?_
  refine xn hK18 ?_; try clear hK18 K18
  refine sr ?_; intro K100 hK100
  refine p_val (r_addrA u144 sz22 (hk21 8 rfl) (k := .i64) (i := 0) rfl rfl (by decide) (by decide)) ?_
  refine p_val (r_load1 (v := (.int _ _)) to22 H rfl (k := 0) rfl rfl) ?_
  refine p_val (r_addrA u144 sz22 (hk21 8 rfl) (k := .i64) (i := 1) rfl rfl (by decide) (by decide)) ?_
  refine p_val (r_load1 (v := (.int _ _)) to22 H rfl (k := 0) rfl rfl) ?_
  refine p_val (r_addrA u144 sz22 (hk21 8 rfl) (k := .i64) (i := 2) rfl rfl (by decide) (by decide)) ?_
  refine p_val (r_load1 (v := (.int _ _)) to22 H rfl (k := 0) rfl rfl) ?_
  refine p_val (r_addrA u144 sz22 (hk21 8 rfl) (k := .i64) (i := 3) rfl rfl (by decide) (by decide)) ?_
  refine p_val (r_load1 (v := (.int _ _)) to22 H rfl (k := 0) rfl rfl) ?_
  refine p_val (r_as (l' := numL X) (r_build (vals := [(0, (.int _ _)), (1, (.int _ _)), (2, (.int _ _)), (3, (.int _ _))]) (l := [_, _, _, _]) tb24 rfl rfl) (numL_lo X)) ?_
  refine p_val (r_loadW tg24 H (hk21 7 rfl) (k := 1) rfl rfl) ?_
  refine p_call (l := [(.agg (List.toArray _)), (.agg (List.toArray _))]) is97 rfl ?_
  refine (below_c _ _ lt2_FldB (by first | assumption | exact mod_modN _) _).mono ?_; rintro _ w101 ⟨rfl, hx⟩; replace H := H.ext hx; clear hx
  refine p_storeW tg24 H (hk21 6 rfl) (k := 2) rfl rfl rfl rfl rfl ?_; clear H; intro w102 H
  refine xk hK100 ?_; try clear hK100 K100
  refine wp_ret ?_
  refine e_1 rfl (q_cellW tg24 H (hk21 6 rfl) (k := 2) rfl rfl) ?_
  exact ⟨by rw [hv], H.below⟩
end Go.Proofs.YtmbcolbbekbccaaGreat
namespace Go.Proofs.YtmbcolbbekbccaaGreat
open Go Go.RowKit
theorem lt2_FldC {x : Nat} (h : x < two256 := by first | exact Nat.mod_lt _ two256_pos | exact Mod.lt (mod_modN _) | assumption | exact onceN_lt (by assumption) | exact Nat.lt_trans (Nat.mod_lt _ (mod_modN _).pos) (mod_modN _).lt | exact ofV_lt2 _ _ | exact invV_lt2 _ _ | exact fm_lt2 _ _ | exact fa_lt2 _ _ | exact fs_lt2 _ _ | exact fn_lt2 _ | exact PP_lt | exact AL_GG.1 | exact AL_GG.2 | exact (AL_cadd _ _).1 | exact (AL_cadd _ _).2 | exact (AL_cmul _ _).1 | exact (AL_cmul _ _).2 | exact (AL_cofV _).1 | exact (AL_cofV _).2 | exact (AL_cneg (by assumption)).1 | exact (AL_cneg (by assumption)).2 | exact lt_lit (by decide)) : x < two256 := h
attribute [local irreducible] wpList wpT Code.wp Calls Code.rounds lm sd sb ad ac modN bval be
theorem u5 : Tryz.prog.underlying 5 = some (.int .u8) := by kernel_rfl
theorem u9 : Tryz.prog.underlying 9 = some .string := by kernel_rfl
theorem is51 : IsFn Tryz.prog 51 := isFn Tryz.func51 (by kernel_rfl) (by kernel_rfl)
theorem is99 : IsFn Tryz.prog 99 := isFn Tryz.func99 (by kernel_rfl) (by kernel_rfl)
theorem is134 : IsFn Tryz.prog 134 := isFn Tryz.func134 (by kernel_rfl) (by kernel_rfl)
theorem pow_c (m : Int) (A X : Nat) (hA : A < two256) (hX : X < two256) (w : World) :
    Calls Tryz.prog 99 #[.int .i64 m, numV A, numV X] w fun e w' => e = .returned (numV (A ^ X % modN m)) ∧ Ext w w' := by
 refine enter (n := 32) Tryz.func99 rfl rfl rfl ?_
 have H := HP.start w
 have hpl := (mod_modN m).lt
 have hl : ∀ Y, Y % modN m < two256 := fun Y => Nat.lt_trans (Nat.mod_lt _ (mod_modN m).pos) hpl
 refine sr ?_; intro K1 hK1
 refine p_box (l := numL A) H rfl ?_; clear H; intro w2 b3 H
 refine p_box (l := numL X) H rfl ?_; clear H; intro w4 b5 H
 refine p_alloc (l := [.int .u64 0, .int .u64 0, .int .u64 0, .int .u64 0]) H tz24 rfl ?_; clear H; intro w7 b6 H
 refine xk hK1 ?_; try clear hK1 K1
 refine sr ?_; intro K8 hK8
 refine p_val (r_as (l' := numL 1) (r_build (vals := [(0, (.int _ _))]) (l := [_, _, _, _]) tb24 rfl rfl) (num_lit 1 (by decide))) ?_
 refine p_alloc (l := [.int .u64 0, .int .u64 0, .int .u64 0, .int .u64 0]) H tz24 rfl ?_; clear H; intro w10 b9 H
 refine p_storeW tg24 H rfl (k := 0) rfl rfl rfl rfl rfl ?_; clear H; intro w11 H
 refine xk hK8 ?_; try clear hK8 K8
 refine wp_seq_k ?_; intro K12 hK12
 refine sr ?_; intro K13 hK13
 replace H := HP.recast H (k := 0) (cs' := numL (A ^ (X / 2 ^ 256) % modN m)) rfl (congrArg numL (pow_init0 m hX).symm)
 refine p_as (v := (.int _ _)) rfl ?_
 refine xk hK13 ?_; try clear hK13 K13
 refine wp_block ?_
 refine loopF [8, 10, 11, 12, 13, 14, 15, 16, 17, 18, 19, 20, 21, 22, 23, 24, 25, 26, 27, 28, 29, 30] (fun γ μ w' => ∃ (k : Nat), k = γ ∧ look μ 8 = .int .i64 ((k : Int) - 1) ∧ HP w w' [(b9, numL (A ^ (X / 2 ^ k) % modN m), 24), (b6, [.int .u64 0, .int .u64 0, .int .u64 0, .int .u64 0], 24), (b5, numL X, 24), (b3, numL A, 24)] ∧ (k ≤ 256)) (256) ⟨256, rfl, rfl, H, Nat.le_refl _⟩ ?_
 clear H
 intro g17 m14 w15 hk16 hI; obtain ⟨k, rfl, hl18, H, hk⟩ := hI
 refine wp_seq_k ?_; intro K19 hK19
 refine sr ?_; intro K20 hK20
 refine p_mv (v := (.int _ _)) hl18 ?_
 refine p_val (r_geq rfl rfl rfl) ?_
 refine xk hK20 ?_; try clear hK20 K20
 refine c_split (t := _) rfl (fun hc_3 => ?_) (fun hc_3 => ?_)
 ·skip
  have hk0 : 0 < k := by have := of_decide_eq_true hc_3; omega
  refine wp_skip ?_
  refine xn hK19 ?_; try clear hK19 K19
  refine wp_seq_k ?_; intro K22 hK22
  refine wp_block ?_
  refine sr ?_; intro K23 hK23
  refine p_mv (v := (.int _ _)) (hk16 0 rfl) ?_
  refine p_val (r_loadW tg24 H (hk16 7 rfl) (k := 0) rfl rfl) ?_
  refine p_val (r_loadW tg24 H (hk16 7 rfl) (k := 0) rfl rfl) ?_
  refine p_call (l := [(.int _ _), (.agg (List.toArray _)), (.agg (List.toArray _))]) is51 rfl ?_
  refine (mul_c _ _ _ (by first | exact hl _ | assumption) (by first | exact hl _ | assumption) _).mono ?_; rintro _ w24 ⟨rfl, hx⟩; replace H := H.ext hx; clear hx
  refine p_storeW tg24 H (hk16 7 rfl) (k := 0) rfl rfl rfl rfl rfl ?_; clear H; intro w25 H
  refine xk hK23 ?_; try clear hK23 K23
  refine sr ?_; intro K26 hK26
  refine p_mv (v := (.int _ _)) hl18 ?_
  refine p_val (r_quo (r := (((k - 1) / 64 : Nat) : Int)) rfl rfl (by decide) (pow_quo hk0 hk)) ?_
  refine p_val (r_addrA (i := (k - 1) / 64) u24 sz22 (hk16 5 rfl) rfl (rfl) (by omega) (by omega)) ?_
  refine p_val (r_load1 (v := .int .u64 (lm X ((k - 1) / 64))) to22 H rfl (k := 2) rfl ((by rw [Nat.zero_add, Nat.mul_one]; exact numL_piece _ _ (by omega)))) ?_
  refine p_mv (v := (.int _ _)) hl18 ?_
  refine p_val (r_rem (r := (((k - 1) % 64 : Nat) : Int)) rfl rfl (by decide) (pow_rem hk0)) ?_
  refine p_val (r_shr (r := ((X / 2 ^ (64 * ((k - 1) / 64)) % 2 ^ 64 / 2 ^ ((k - 1) % 64) : Nat) : Int)) rfl rfl (by omega) (pow_shr X _ _ (by omega))) ?_
  refine p_val (r_bits (bo := .and) (by simp) (r := ((X / 2 ^ (k - 1) % 2 : Nat) : Int)) rfl rfl (pow_and X (k - 1))) ?_
  refine p_val (r_eql rfl rfl rfl) ?_
  refine xk hK26 ?_; try clear hK26 K26
  refine c_split (t := _) rfl (fun hc_6 => ?_) (fun hc_6 => ?_)
  ·skip
   have hbit := bit_t hc_6
   refine wp_region_lit ?_
   refine p_mv (v := (.int _ _)) (hk16 0 rfl) ?_
   refine p_val (r_loadW tg24 H (hk16 7 rfl) (k := 0) rfl rfl) ?_
   refine p_val (r_loadW tg24 H (hk16 4 rfl) (k := 3) rfl rfl) ?_
   refine p_call (l := [(.int _ _), (.agg (List.toArray _)), (.agg (List.toArray _))]) is51 rfl ?_
   refine (mul_c _ _ _ (by first | exact hl _ | assumption) (by first | exact hl _ | assumption) _).mono ?_; rintro _ w28 ⟨rfl, hx⟩; replace H := H.ext hx; clear hx
   refine p_storeW tg24 H (hk16 7 rfl) (k := 0) rfl rfl rfl rfl rfl ?_; clear H; intro w29 H
   refine wpList_nil ?_
   refine b_norm ?_
   refine xn hK22 ?_; try clear hK22 K22
   refine wp_region_lit ?_
   refine p_mv (v := (.int _ _)) hl18 ?_
   refine p_val (r_sub rfl rfl (wr64 (by omega) (by omega))) ?_
   refine p_as (v := (.int _ _)) rfl ?_
   refine wpList_nil ?_
   refine x_norm ?_
   exact ⟨_, _, (by omega), rfl, (by repeat (first | exact hk16 | refine keep_cons rfl ?_)), k - 1, rfl, congrArg (Value.int .i64) (by omega), (HP.recast H (k := 0) rfl (congrArg numL (pow_b1 hk0 hbit))), by omega⟩
  ·skip
   have hbit := bit_f hc_6
   refine wp_skip ?_
   refine b_norm ?_
   refine xn hK22 ?_; try clear hK22 K22
   refine wp_region_lit ?_
   refine p_mv (v := (.int _ _)) hl18 ?_
   refine p_val (r_sub rfl rfl (wr64 (by omega) (by omega))) ?_
   refine p_as (v := (.int _ _)) rfl ?_
   refine wpList_nil ?_
   refine x_norm ?_
   exact ⟨_, _, (by omega), rfl, (by repeat (first | exact hk16 | refine keep_cons rfl ?_)), k - 1, rfl, congrArg (Value.int .i64) (by omega), (HP.recast H (k := 0) rfl (congrArg numL (pow_b0 hk0 hbit))), by omega⟩
 ·skip
  have hk0 : k = 0 := by have := of_decide_eq_false hc_3; omega
  refine wp_exit ?_
  refine x_exit ?_
  refine x_exit ?_
  refine b_hit ?_
  refine xn hK12 ?_; try clear hK12 K12
  refine sr ?_; intro K30 hK30
  refine p_val (r_loadW tg24 H (hk16 7 rfl) (k := 0) rfl rfl) ?_
  refine p_storeW tg24 H (hk16 6 rfl) (k := 1) rfl rfl rfl rfl rfl ?_; clear H; intro w31 H
  refine xk hK30 ?_; try clear hK30 K30
  refine wp_ret ?_
  refine e_1 rfl (q_cellW tg24 H (hk16 6 rfl) (k := 1) rfl rfl) ?_
  subst hk0
  exact ⟨by rw [Nat.pow_zero, Nat.div_one], H.below⟩
theorem inv_c (m : Int) (A : Nat) (hA : A < two256) (w : World) :
    Calls Tryz.prog 50 #[.int .i64 m, numV A] w fun e w' => e = .returned (.tuple #[numV (invV m A), .int .i64 (invE m A)]) ∧ Ext w w' := by
 refine enter (n := 23) Tryz.func50 rfl rfl rfl ?_
 have H := HP.start w
 have hpl := (mod_modN m).lt
 refine sr ?_; intro K1 hK1
 refine p_box (l := numL A) H rfl ?_; clear H; intro w2 b3 H
 refine p_alloc (l := [.int .u64 0, .int .u64 0, .int .u64 0, .int .u64 0]) H tz24 rfl ?_; clear H; intro w5 b4 H
 refine p_as (v := (.int _ _)) rfl ?_
 refine xk hK1 ?_; try clear hK1 K1
 refine sr ?_; intro K6 hK6
 refine p_mv (v := (.int _ _)) rfl ?_
 refine p_call (l := [(.int _ _)]) is40 rfl ?_
 refine (modulus_c _ _).mono ?_; rintro _ w7 ⟨rfl, hx⟩; replace H := H.ext hx; clear hx
 refine p_alloc (l := [.int .u64 0, .int .u64 0, .int .u64 0, .int .u64 0]) H tz24 rfl ?_; clear H; intro w9 b8 H
 refine p_storeW tg24 H rfl (k := 0) rfl rfl rfl rfl rfl ?_; clear H; intro w10 H
 refine xk hK6 ?_; try clear hK6 K6
 refine wp_seq_k ?_; intro K11 hK11
 refine sr ?_; intro K12 hK12
 refine p_val (r_loadW tg24 H rfl (k := 2) rfl rfl) ?_
 refine p_val (r_loadW tg24 H rfl (k := 0) rfl rfl) ?_
 refine p_call (l := [(.agg (List.toArray _)), (.agg (List.toArray _))]) is97 rfl ?_
 refine (below_c _ _ lt2_FldC (by first | assumption | exact mod_modN _) _).mono ?_; rintro _ w13 ⟨rfl, hx⟩; replace H := H.ext hx; clear hx
 refine p_val (r_as (l' := numL 0) (r_build (vals := []) (l := [_, _, _, _]) tb24 rfl rfl) (num_0)) ?_
 refine p_val (r_eqnum u24 u22 sz22 ag22 eg24 rfl rfl lt2_FldC lt2_FldC rfl) ?_
 refine xk hK12 ?_; try clear hK12 K12
 refine c_split (t := _) rfl (fun hc_2 => ?_) (fun hc_2 => ?_)
 ·skip
  refine sr ?_; intro K15 hK15
  refine p_val (r_as (l' := numL 0) (r_build (vals := []) (l := [_, _, _, _]) tb24 rfl rfl) (num_0)) ?_
  refine p_storeW tg24 H rfl (k := 1) rfl rfl rfl rfl rfl ?_; clear H; intro w16 H
  refine p_as (v := (.int _ _)) rfl ?_
  refine xk hK15 ?_; try clear hK15 K15
  refine wp_ret ?_
  refine x_ret ?_
  refine e_2 rfl (q_cellW tg24 H rfl (k := 1) rfl rfl) (q_tmp (v := (.int _ _)) rfl) ?_
  have e0 := beqN hc_2
  exact ⟨by simp only [invV, invE, e0, if_true], H.below⟩
 ·skip
  refine wp_skip ?_
  refine xn hK11 ?_; try clear hK11 K11
  refine sr ?_; intro K17 hK17
  refine p_val (r_addrA u24 sz22 rfl (k := .i64) (i := 0) rfl rfl (by decide) (by decide)) ?_
  refine p_val (r_load1 (v := (.int _ _)) to22 H rfl (k := 0) rfl rfl) ?_
  refine p_val (r_sub rfl rfl rfl) ?_
  refine p_val (r_addrA u24 sz22 rfl (k := .i64) (i := 0) rfl rfl (by decide) (by decide)) ?_
  refine p_store1 (cs := _) (v := (.int _ _)) to22 H rfl (k := 0) rfl rfl rfl (rfl) ?_; clear H; intro w18 H
  rw [low_sub m] at H
  refine xk hK17 ?_; try clear hK17 K17
  refine sr ?_; intro K19 hK19
  refine p_mv (v := (.int _ _)) rfl ?_
  refine p_val (r_loadW tg24 H rfl (k := 2) rfl rfl) ?_
  refine p_val (r_loadW tg24 H rfl (k := 0) rfl rfl) ?_
  refine p_call (l := [(.int _ _), (.agg (List.toArray _)), (.agg (List.toArray _))]) is99 rfl ?_
  refine (pow_c _ _ _ hA (low_lt m) _).mono ?_; rintro _ w20 ⟨rfl, hx⟩; replace H := H.ext hx; clear hx
  refine p_storeW tg24 H rfl (k := 1) rfl rfl rfl rfl rfl ?_; clear H; intro w21 H
  refine p_as (v := (.int _ _)) rfl ?_
  refine xk hK19 ?_; try clear hK19 K19
  refine wp_ret ?_
  refine e_2 rfl (q_cellW tg24 H rfl (k := 1) rfl rfl) (q_tmp (v := (.int _ _)) rfl) ?_
  have e0 := bneN hc_2
  exact ⟨by simp only [invV, invE, e0, if_false], H.below⟩
theorem value_c (l : List UInt8) (hl : l.length ≤ 8) (w : World) :
    Calls Tryz.prog 134 #[str l] w fun e w' => e = .returned (.int .u64 (bval l : Int)) ∧ Ext w w' := by
 refine enter (n := 19) Tryz.func134 rfl rfl rfl ?_
 have H := HP.start w
 refine sr ?_; intro K1 hK1
 refine p_as (v := (.int _ _)) rfl ?_
 refine xk hK1 ?_; try clear hK1 K1
 refine sr ?_; intro K2 hK2
 refine p_as (v := (.int _ _)) rfl ?_
 refine xk hK2 ?_; try clear hK2 K2
 refine wp_seq_k ?_; intro K3 hK3
 refine sr ?_; intro K4 hK4
 refine p_mv (v := (str l)) rfl ?_
 refine p_val (r_lenT (N := _) u9 rfl (rfl)) ?_
 refine p_mv (v := (.int _ _)) rfl ?_
 refine xk hK4 ?_; try clear hK4 K4
 refine wp_block ?_
 refine loopF [3, 4, 7, 8, 9, 10, 11, 12, 13, 14, 15, 16, 17] (fun γ μ w' => ∃ (i : Nat), l.length - i = γ ∧ look μ 7 = .int .i64 (i : Int) ∧ look μ 3 = .int .u64 (bval (l.take i) : Int) ∧ HP w w' [] ∧ (i ≤ l.length)) (l.length) ⟨0, rfl, rfl, (by rw [List.take_zero, bval_nil]; rfl), H, Nat.zero_le _⟩ ?_
 clear H
 intro g8 m5 w6 hk7 hI; obtain ⟨i, rfl, hl9, hl10, H, hi⟩ := hI
 refine sr ?_; intro K11 hK11
 refine p_val (r_lss hl9 (hk7 6 rfl) rfl) ?_
 refine xk hK11 ?_; try clear hK11 K11
 refine wp_seq_k ?_; intro K13 hK13
 refine c_split (t := _) rfl (fun hc_3 => ?_) (fun hc_3 => ?_)
 ·skip
  have hi1 : i < l.length := by have := of_decide_eq_true hc_3; omega
  obtain ⟨b, hb⟩ : ∃ b, l[i]? = some b := ⟨_, List.getElem?_eq_getElem hi1⟩
  have hv7 := value_lt7 hi1 hl
  refine wp_skip ?_
  refine xn hK13 ?_; try clear hK13 K13
  refine wp_seq_k ?_; intro K14 hK14
  refine wp_block ?_
  refine sr ?_; intro K15 hK15
  refine p_mv (v := (.int _ _)) hl9 ?_
  refine p_as (v := (.int _ _)) rfl ?_
  refine xk hK15 ?_; try clear hK15 K15
  refine wp_region_lit ?_
  refine p_mv (v := (.int _ _)) hl10 ?_
  refine p_val (r_shl (r := ((bval (l.take i) * 256 : Nat) : Int)) rfl rfl (by decide) (value_shl hv7)) ?_
  refine p_mv (v := (str l)) (hk7 0 rfl) ?_
  refine p_mv (v := (.int _ _)) rfl ?_
  refine p_val (r_idxT (i := i) (u := b) u9 rfl rfl (rfl) (hb)) ?_
  refine p_val (r_conv (r := (b.toNat : Int)) u5 u22 rfl (u8_64 b)) ?_
  refine p_val (r_bits (bo := .or) (by simp) (r := ((bval (l.take i) * 256 + b.toNat : Nat) : Int)) rfl rfl (value_or hv7)) ?_
  refine p_as (v := (.int _ _)) rfl ?_
  refine wpList_nil ?_
  refine b_norm ?_
  refine xn hK14 ?_; try clear hK14 K14
  refine wp_region_lit ?_
  refine p_val (r_add (r := ((i + 1 : Nat) : Int)) hl9 rfl ((wr64 (by omega) (by omega)).trans (by omega))) ?_
  refine p_mv (v := (.int _ _)) rfl ?_
  refine wpList_nil ?_
  refine x_norm ?_
  exact ⟨_, _, (by omega), rfl, (by repeat (first | exact hk7 | refine keep_cons rfl ?_)), i + 1, rfl, rfl, congrArg (fun z : Nat => Value.int .u64 (z : Int)) (bval_take hb).symm, H, by omega⟩
 ·skip
  have hi1 : i = l.length := by have := of_decide_eq_false hc_3; omega
  refine wp_exit ?_
  refine x_exit ?_
  refine x_exit ?_
  refine b_hit ?_
  refine xn hK3 ?_; try clear hK3 K3
  refine sr ?_; intro K16 hK16
  refine p_mv (v := (.int _ _)) hl10 ?_
  refine p_as (v := (.int _ _)) rfl ?_
  refine xk hK16 ?_; try clear hK16 K16
  refine wp_ret ?_
  refine e_1 rfl (q_tmp (v := (.int _ _)) rfl) ?_
  subst hi1
  exact ⟨by rw [List.take_length], H.below⟩
end Go.Proofs.YtmbcolbbekbccaaGreat
namespace Go.Proofs.YtmbcolbbekbccaaGreat
open Go Go.RowKit
attribute [local irreducible] wpList wpT Code.wp Calls Code.rounds lm sd sb ad ac modN bval be
theorem u127 : Tryz.prog.underlying 127 = some (.slice 5) := by kernel_rfl
theorem is133 : IsFn Tryz.prog 133 := isFn Tryz.func133 (by kernel_rfl) (by kernel_rfl)
set_option maxRecDepth 4000 in
theorem word_c (A N p : Nat) (hp : Mod p) (h2 : 2 < p) (hA : A < p) (hN : N < 18446744073709551616) (w : World) :
    Calls Tryz.prog 133 #[numV A, .int .u64 (N : Int), numV p] w fun e w' => e = .returned (numV ((A * 2 ^ 64 + N) % p)) ∧ Ext w w' := by
 refine enter (n := 25) Tryz.func133 rfl rfl rfl ?_
 have H := HP.start w
 refine sr ?_; intro K1 hK1
 refine p_box (l := numL A) H rfl ?_; clear H; intro w2 b3 H
 refine p_box (l := numL p) H rfl ?_; clear H; intro w4 b5 H
 refine p_alloc (l := [.int .u64 0, .int .u64 0, .int .u64 0, .int .u64 0]) H tz24 rfl ?_; clear H; intro w7 b6 H
 refine xk hK1 ?_; try clear hK1 K1
 refine wp_seq_k ?_; intro K8 hK8
 refine sr ?_; intro K9 hK9
 replace H := HP.recast H (k := 2) (cs' := numL ((A * 2 ^ (64 - 64) + N / 2 ^ 64) % p)) rfl (congrArg numL (word_0 hA hN).symm)
 refine p_as (v := (.int _ _)) rfl ?_
 refine xk hK9 ?_; try clear hK9 K9
 refine wp_block ?_
 refine loopF [7, 8, 9, 10, 11, 12, 13, 14, 15, 16, 17, 18, 19, 20, 21, 22, 23] (fun γ μ w' => ∃ (k : Nat), k = γ ∧ look μ 7 = .int .i64 ((k : Int) - 1) ∧ HP w w' [(b6, [.int .u64 0, .int .u64 0, .int .u64 0, .int .u64 0], 24), (b5, numL p, 24), (b3, numL ((A * 2 ^ (64 - k) + N / 2 ^ k) % p), 24)] ∧ (k ≤ 64)) (64) ⟨64, rfl, rfl, H, Nat.le_refl _⟩ ?_
 clear H
 intro g13 m10 w11 hk12 hI; obtain ⟨k, rfl, hl14, H, hk⟩ := hI
 refine wp_seq_k ?_; intro K15 hK15
 refine sr ?_; intro K16 hK16
 refine p_mv (v := (.int _ _)) hl14 ?_
 refine p_val (r_geq rfl rfl rfl) ?_
 refine xk hK16 ?_; try clear hK16 K16
 refine c_split (t := _) rfl (fun hc_2 => ?_) (fun hc_2 => ?_)
 ·skip
  have hk0 : 0 < k := by have := of_decide_eq_true hc_2; omega
  have hX := Nat.mod_lt (A * 2 ^ (64 - k) + N / 2 ^ k) hp.pos
  have hXX := Nat.mod_lt ((A * 2 ^ (64 - k) + N / 2 ^ k) % p + (A * 2 ^ (64 - k) + N / 2 ^ k) % p) hp.pos
  have hb : N / 2 ^ (k - 1) % 2 < p := Nat.lt_trans (Nat.mod_lt _ (by decide)) h2
  refine wp_skip ?_
  refine xn hK15 ?_; try clear hK15 K15
  refine wp_seq_k ?_; intro K18 hK18
  refine wp_block ?_
  refine sr ?_; intro K19 hK19
  refine p_val (r_loadW tg24 H (hk12 3 rfl) (k := 2) rfl rfl) ?_
  refine p_val (r_loadW tg24 H (hk12 3 rfl) (k := 2) rfl rfl) ?_
  refine p_val (r_loadW tg24 H (hk12 5 rfl) (k := 1) rfl rfl) ?_
  refine p_call (l := [(.agg (List.toArray _)), (.agg (List.toArray _)), (.agg (List.toArray _))]) is98 rfl ?_
  refine (sum_c _ _ _ hp (by assumption) (by assumption) _).mono ?_; rintro _ w20 ⟨rfl, hx⟩; replace H := H.ext hx; clear hx
  refine p_storeW tg24 H (hk12 3 rfl) (k := 2) rfl rfl rfl rfl rfl ?_; clear H; intro w21 H
  refine xk hK19 ?_; try clear hK19 K19
  apply wp_region_ext 8 (kinds [(7, .inl _)]) rfl rfl (by kernel_rfl); intro vs23
  simp only [tkS, tkZ, drS, drZ]
  replace H := H.drew
  refine t_v (fun w hx => r_loadW tg24 (H.ext hx) (hk12 3 rfl) (k := 2) rfl rfl) ?_
  refine t_v (fun w hx => r_move (v := (.int .u64 (N : Int))) (hk12 1 rfl)) ?_
  refine t_v (fun w hx => r_move (v := (.int _ _)) hl14) ?_
  refine t_v (fun w hx => r_shr (r := ((N / 2 ^ (k - 1) : Nat) : Int)) rfl rfl (by omega) (word_bit N k hk0 hk)) ?_
  refine t_v (fun w hx => r_bits (bo := .and) (by simp) (r := ((N / 2 ^ (k - 1) % 2 : Nat) : Int)) rfl rfl (and64_1 (Nat.lt_of_le_of_lt (Nat.div_le_self _ _) hN))) ?_
  refine t_v (fun w hx => r_as (l' := numL (N / 2 ^ (k - 1) % 2)) (r_build (vals := [(0, (.int _ _))]) (l := [_, _, _, _]) tb24 rfl rfl) (num_lit (N / 2 ^ (k - 1) % 2) (Nat.lt_trans (Nat.mod_lt _ (by decide)) (by decide)))) ?_
  refine t_v (fun w hx => r_loadW tg24 (H.ext hx) (hk12 5 rfl) (k := 1) rfl rfl) ?_
  refine t_call (l := [(.agg (List.toArray _)), (.agg (List.toArray _)), (.agg (List.toArray _))]) rfl rfl is98 rfl (fun w hx hF => (sum_c _ _ _ hp (by assumption) (by assumption) _).mono (fun _ _ ⟨he, hx⟩ => ⟨he, hx⟩)) ?_
  refine t_nil (fun w24 hx hF hA => ?_)
  replace H := H.ext hx
  clear hx hF hA
  refine p_storeW tg24 H (hk12 3 rfl) (k := 2) rfl rfl rfl rfl rfl ?_; clear H; intro w25 H
  refine wpList_nil ?_; refine on_norm ?_
  refine b_norm ?_
  refine xn hK18 ?_; try clear hK18 K18
  refine wp_region_lit ?_
  refine p_mv (v := (.int _ _)) hl14 ?_
  refine p_val (r_sub rfl rfl (wr64 (by omega) (by omega))) ?_
  refine p_as (v := (.int _ _)) rfl ?_
  refine wpList_nil ?_
  refine x_norm ?_
  exact ⟨_, _, (by omega), rfl, (by repeat (first | exact hk12 | refine keep_cons rfl ?_)), k - 1, rfl, congrArg (Value.int .i64) (by omega), (HP.recast H (k := 2) rfl (congrArg numL (word_step hk0 hk))), by omega⟩
 ·skip
  have hk0 : k = 0 := by have := of_decide_eq_false hc_2; omega
  refine wp_exit ?_
  refine x_exit ?_
  refine x_exit ?_
  refine b_hit ?_
  refine xn hK8 ?_; try clear hK8 K8
  refine sr ?_; intro K26 hK26
  refine p_val (r_loadW tg24 H (hk12 3 rfl) (k := 2) rfl rfl) ?_
  refine p_storeW tg24 H (hk12 6 rfl) (k := 0) rfl rfl rfl rfl rfl ?_; clear H; intro w27 H
  refine xk hK26 ?_; try clear hK26 K26
  refine wp_ret ?_
  refine e_1 rfl (q_cellW tg24 H (hk12 6 rfl) (k := 0) rfl rfl) ?_
  subst hk0
  exact ⟨by rw [Nat.pow_zero, Nat.div_one, Nat.sub_zero], H.below⟩
set_option maxRecDepth 4000 in
theorem reduce_c (m : Int) (l : List UInt8) (hl : l.length < 4611686018427387904) (w : World) :
    Calls Tryz.prog 86 #[.int .i64 m, str l] w fun e w' => e = .returned (numV (bval l % modN m)) ∧ Ext w w' := by
 refine enter (n := 26) Tryz.func86 rfl rfl rfl ?_
 have H := HP.start w
 have hp := mod_modN m
 have h2 := two_lt_modN m
 refine sr ?_; intro K1 hK1
 refine p_alloc (l := [.int .u64 0, .int .u64 0, .int .u64 0, .int .u64 0]) H tz24 rfl ?_; clear H; intro w3 b2 H
 refine xk hK1 ?_; try clear hK1 K1
 refine sr ?_; intro K4 hK4
 refine p_mv (v := (.int _ _)) rfl ?_
 refine p_call (l := [(.int _ _)]) is40 rfl ?_
 refine (modulus_c _ _).mono ?_; rintro _ w5 ⟨rfl, hx⟩; replace H := H.ext hx; clear hx
 refine p_alloc (l := [.int .u64 0, .int .u64 0, .int .u64 0, .int .u64 0]) H tz24 rfl ?_; clear H; intro w7 b6 H
 refine p_storeW tg24 H rfl (k := 0) rfl rfl rfl rfl rfl ?_; clear H; intro w8 H
 refine xk hK4 ?_; try clear hK4 K4
 refine sr ?_; intro K9 hK9
 refine p_alloc (l := [.int .u64 0, .int .u64 0, .int .u64 0, .int .u64 0]) H tz24 rfl ?_; clear H; intro w11 b10 H
 refine xk hK9 ?_; try clear hK9 K9
 refine wp_seq_k ?_; intro K12 hK12
 refine wp_block ?_
 replace H := HP.recast H (k := 0) rfl num_0
 refine loopF [1, 9, 10, 11, 12, 13, 14] (fun γ μ w' => ∃ (j : Nat), (8 - (l.length + j) % 8) % 8 = γ ∧ look μ 1 = str (List.replicate j 0 ++ l) ∧ HP w w' [(b10, numL 0, 24), (b6, numL (modN m), 24), (b2, [.int .u64 0, .int .u64 0, .int .u64 0, .int .u64 0], 24)] ∧ (j + (8 - (l.length + j) % 8) % 8 ≤ 7)) ((8 - (l.length + 0) % 8) % 8) ⟨0, rfl, rfl, H, by omega⟩ ?_
 clear H
 intro g16 m13 w14 hk15 hI; obtain ⟨j, rfl, hl17, H, hj⟩ := hI
 refine wp_seq_k ?_; intro K18 hK18
 refine sr ?_; intro K19 hK19
 refine p_mv (v := _) hl17 ?_
 refine p_val (r_lenT (N := (l.length + j)) u9 rfl (by simp; omega)) ?_
 refine p_val (r_rem (r := (((l.length + j) % 8 : Nat) : Int)) rfl rfl (by decide) (rem8 _)) ?_
 refine p_val (r_neq rfl rfl rfl) ?_
 refine xk hK19 ?_; try clear hK19 K19
 refine c_split (t := _) rfl (fun hc_3 => ?_) (fun hc_3 => ?_)
 ·skip
  have h8 : (l.length + j) % 8 ≠ 0 := by have := hc_3; simp at this; omega
  refine wp_skip ?_
  refine xn hK18 ?_; try clear hK18 K18
  refine wp_block ?_
  refine wp_region_lit ?_
  refine p_mv (v := _) hl17 ?_
  refine p_val (r_cat (r := List.replicate (j + 1) 0 ++ l) rfl rfl (by simp; omega) (red_cons _ _)) ?_
  refine p_as (v := (str _)) rfl ?_
  refine wpList_nil ?_
  refine b_norm ?_
  refine x_norm ?_
  exact ⟨_, _, (by omega), rfl, (by repeat (first | exact hk15 | refine keep_cons rfl ?_)), j + 1, rfl, rfl, H, by omega⟩
 ·skip
  have h8 : (l.length + j) % 8 = 0 := by have := hc_3; simp at this; omega
  have hsl : (List.replicate j 0 ++ l : List UInt8).length = l.length + j := by simp; omega
  refine wp_exit ?_
  refine x_exit ?_
  refine x_exit ?_
  refine b_hit ?_
  refine xn hK12 ?_; try clear hK12 K12
  refine wp_seq_k ?_; intro K21 hK21
  refine wp_block ?_
  replace H := HP.recast H (k := 0) (cs' := numL (bval ((List.replicate j 0 ++ l : List UInt8).take (8 * 0)) % modN m)) rfl (congrArg numL (by rw [Nat.mul_zero, List.take_zero, bval_nil, Nat.zero_mod]))
  refine loopF [1, 15, 16, 17, 18, 19, 20, 21, 22, 23, 24] (fun γ μ w' => ∃ (n : Nat), (List.replicate j 0 ++ l : List UInt8).length - 8 * n = γ ∧ look μ 1 = str ((List.replicate j 0 ++ l : List UInt8).drop (8 * n)) ∧ HP w w' [(b10, numL (bval ((List.replicate j 0 ++ l : List UInt8).take (8 * n)) % modN m), 24), (b6, numL (modN m), 24), (b2, [.int .u64 0, .int .u64 0, .int .u64 0, .int .u64 0], 24)] ∧ (8 * n ≤ (List.replicate j 0 ++ l : List UInt8).length)) ((List.replicate j 0 ++ l : List UInt8).length - 8 * 0) ⟨0, rfl, hl17, H, Nat.zero_le _⟩ ?_
  clear H
  intro g25 m22 w23 hk24 hI; obtain ⟨n, rfl, hl26, H, hn⟩ := hI
  refine wp_seq_k ?_; intro K27 hK27
  refine sr ?_; intro K28 hK28
  refine p_mv (v := _) hl26 ?_
  refine p_val (r_neT rfl rfl rfl) ?_
  refine xk hK28 ?_; try clear hK28 K28
  refine c_split (t := _) rfl (fun hc_5 => ?_) (fun hc_5 => ?_)
  ·skip
   have hn8 := red_t (q := (l.length + j) / 8) (by omega) hc_5
   refine wp_skip ?_
   refine xn hK27 ?_; try clear hK27 K27
   refine wp_seq_k ?_; intro K30 hK30
   refine wp_block ?_
   apply wp_region_ext 6 (kinds [(3, .inl _), (5, .inl _)]) rfl rfl (by kernel_rfl); intro vs32
   simp only [tkS, tkZ, drS, drZ]
   replace H := H.drew
   refine t_v (fun w hx => r_loadW tg24 (H.ext hx) ((hk24 6 rfl).trans (hk15 6 rfl)) (k := 0) rfl rfl) ?_
   refine t_v (fun w hx => r_move (v := _) hl26) ?_
   refine t_v (fun w hx => r_sliceTH (h := 8) (r := _) u9 rfl rfl (rfl) (by rw [List.length_drop]; omega) (rfl)) ?_
   refine t_call (l := [(str _)]) rfl rfl is134 rfl (fun w hx hF => (value_c _ (by first | (simp; done) | (simp; omega)) _).mono (fun _ _ ⟨he, hx⟩ => ⟨he, hx⟩)) ?_
   refine t_v (fun w hx => r_loadW tg24 (H.ext hx) ((hk24 5 rfl).trans (hk15 5 rfl)) (k := 1) rfl rfl) ?_
   refine t_call (l := [(.agg (List.toArray _)), (.int _ _), (.agg (List.toArray _))]) rfl rfl is133 rfl (fun w hx hF => (word_c _ _ _ hp h2 (Nat.mod_lt _ hp.pos) (bval_lt8 (by rw [List.length_take]; omega)) _).mono (fun _ _ ⟨he, hx⟩ => ⟨he, hx⟩)) ?_
   refine t_nil (fun w33 hx hF hA => ?_)
   replace H := H.ext hx
   clear hx hF hA
   refine p_storeW tg24 H ((hk24 6 rfl).trans (hk15 6 rfl)) (k := 0) rfl rfl rfl rfl rfl ?_; clear H; intro w34 H
   refine wpList_nil ?_; refine on_norm ?_
   refine b_norm ?_
   refine xn hK30 ?_; try clear hK30 K30
   refine wp_region_lit ?_
   refine p_mv (v := _) hl26 ?_
   refine p_val (r_sliceTL (p := 8) (r := (List.replicate j 0 ++ l : List UInt8).drop (8 * (n + 1))) u9 rfl rfl (rfl) (by rw [List.length_drop]; omega) (by simp [List.drop_drop, Nat.mul_add])) ?_
   refine p_as (v := (str _)) rfl ?_
   refine wpList_nil ?_
   refine x_norm ?_
   exact ⟨_, _, (by omega), rfl, (by repeat (first | exact hk24 | refine keep_cons rfl ?_)), n + 1, rfl, rfl, (HP.recast H (k := 0) rfl (congrArg numL (red_step hn8))), by omega⟩
  ·skip
   refine wp_exit ?_
   refine x_exit ?_
   refine x_exit ?_
   refine b_hit ?_
   refine xn hK21 ?_; try clear hK21 K21
   refine sr ?_; intro K35 hK35
   refine p_val (r_loadW tg24 H ((hk24 6 rfl).trans (hk15 6 rfl)) (k := 0) rfl rfl) ?_
   refine p_storeW tg24 H ((hk24 4 rfl).trans (hk15 4 rfl)) (k := 2) rfl rfl rfl rfl rfl ?_; clear H; intro w36 H
   refine xk hK35 ?_; try clear hK35 K35
   refine wp_ret ?_
   refine e_1 rfl (q_cellW tg24 H ((hk24 4 rfl).trans (hk15 4 rfl)) (k := 2) rfl rfl) ?_
   exact ⟨by rw [red_f hc_5, bval_zeros], H.below⟩
end Go.Proofs.YtmbcolbbekbccaaGreat
namespace Go.Proofs.YtmbcolbbekbccaaGreat
open Go Go.RowKit
theorem lt2_CrvA {x : Nat} (h : x < two256 := by first | exact Nat.mod_lt _ two256_pos | exact Mod.lt (mod_modN _) | assumption | exact onceN_lt (by assumption) | exact Nat.lt_trans (Nat.mod_lt _ (mod_modN _).pos) (mod_modN _).lt | exact ofV_lt2 _ _ | exact invV_lt2 _ _ | exact fm_lt2 _ _ | exact fa_lt2 _ _ | exact fs_lt2 _ _ | exact fn_lt2 _ | exact PP_lt | exact AL_GG.1 | exact AL_GG.2 | exact (AL_cadd _ _).1 | exact (AL_cadd _ _).2 | exact (AL_cmul _ _).1 | exact (AL_cmul _ _).2 | exact (AL_cofV _).1 | exact (AL_cofV _).2 | exact (AL_cneg (by assumption)).1 | exact (AL_cneg (by assumption)).2 | exact lt_lit (by decide)) : x < two256 := h
attribute [local irreducible] wpList wpT Code.wp Calls Code.rounds lm sd sb ad ac modN bval be fm fa fs fn jtwX jtwY jtwZ onB invV invE
theorem tg26 : TAgg Tryz.prog 26 9 := ⟨fun _ => by kernel_rfl, fun _ => by kernel_rfl⟩
theorem to4 : TOne Tryz.prog 4 := ⟨fun _ => by kernel_rfl, fun _ => by kernel_rfl⟩
theorem tz26 : TZero Tryz.prog 26 (.agg #[.int .u64 0, .int .u64 0, .int .u64 0, .int .u64 0, .int .u64 0, .int .u64 0, .int .u64 0, .int .u64 0, .bool false]) := fun _ => by kernel_rfl
theorem u4 : Tryz.prog.underlying 4 = some .bool := by kernel_rfl
theorem eg26 : Tryz.prog.eqGuardType Tryz.prog.depth 26 = false := by kernel_rfl
theorem is107 : IsFn Tryz.prog 107 := isFn Tryz.func107 (by kernel_rfl) (by kernel_rfl)
theorem is108 : IsFn Tryz.prog 108 := isFn Tryz.func108 (by kernel_rfl) (by kernel_rfl)
theorem is109 : IsFn Tryz.prog 109 := isFn Tryz.func109 (by kernel_rfl) (by kernel_rfl)
theorem is151 : IsFn Tryz.prog 151 := isFn Tryz.func151 (by kernel_rfl) (by kernel_rfl)
theorem tb26 : TBuild Tryz.prog 26 (.agg #[.int .u64 0, .int .u64 0, .int .u64 0, .int .u64 0, .int .u64 0, .int .u64 0, .int .u64 0, .int .u64 0, .bool false]) [(0, 4), (4, 4), (8, 1)] := tbuildS (fs := fieldsOf Tryz.prog 26) (by kernel_rfl) tz26 (fun _ => by kernel_rfl)
theorem agt4 : ∀ w : World, (isAgg 4).run Tryz.prog w = .ok false w := fun _ => by kernel_rfl
theorem agt24 : ∀ w : World, (isAgg 24).run Tryz.prog w = .ok true w := fun _ => by kernel_rfl
theorem szt24 : ∀ w : World, (sizeOf 24).run Tryz.prog w = .ok 4 w := fun _ => by kernel_rfl
theorem pt26 : Tryz.prog.underlying 26 = some (.struct (fieldsOf Tryz.prog 26)) := by kernel_rfl
theorem ptf26 : (fieldsOf Tryz.prog 26).toList.map (fun f => (f.name, f.type, f.offset)) = [("X", 24, 0), ("Y", 24, 4), ("Inf", 4, 8)] := by kernel_rfl
theorem pts26 : Tryz.prog.stoodInHeld 26 = false := by kernel_rfl
theorem fa26_0 : TField Tryz.prog 26 0 0 := fun _ _ _ => by kernel_rfl
theorem fa26_1 : TField Tryz.prog 26 1 4 := fun _ _ _ => by kernel_rfl
theorem fa26_2 : TField Tryz.prog 26 2 8 := fun _ _ _ => by kernel_rfl
theorem times_c (A B : Nat) (hA : A < two256) (hB : B < two256) (w : World) :
    Calls Tryz.prog 108 #[numV A, numV B] w fun e w' => e = .returned (numV (fm A B)) ∧ Ext w w' := by
 refine enter (n := 8) Tryz.func108 rfl rfl rfl ?_
 have H := HP.start w
 refine sr ?_; intro K1 hK1
 refine p_box (l := _) H rfl ?_; clear H; intro w2 b3 H
 refine p_box (l := _) H rfl ?_; clear H; intro w4 b5 H
 refine p_alloc (l := [.int .u64 0, .int .u64 0, .int .u64 0, .int .u64 0]) H tz24 rfl ?_; clear H; intro w7 b6 H
 refine xk hK1 ?_; try clear hK1 K1
 refine sr ?_; intro K8 hK8
 refine p_val (r_loadW tg24 H rfl (k := 2) rfl rfl) ?_
 refine p_val (r_loadW tg24 H rfl (k := 1) rfl rfl) ?_
 refine p_call (l := [(.int _ _), (.agg (List.toArray _)), (.agg (List.toArray _))]) is51 rfl ?_
 refine (mul_c _ _ _ lt2_CrvA lt2_CrvA _).mono ?_; rintro _ w9 ⟨rfl, hx⟩; replace H := H.ext hx; clear hx
 refine p_storeW tg24 H rfl (k := 0) rfl rfl rfl rfl rfl ?_; clear H; intro w10 H
 refine xk hK8 ?_; try clear hK8 K8
 refine wp_ret ?_
 refine e_1 rfl (q_cellW tg24 H rfl (k := 0) rfl rfl) ?_
 exact ⟨by rw [fm_def], H.below⟩
theorem plus_c (A B : Nat) (hA : A < two256) (hB : B < two256) (w : World) :
    Calls Tryz.prog 107 #[numV A, numV B] w fun e w' => e = .returned (numV (fa A B)) ∧ Ext w w' := by
 refine enter (n := 8) Tryz.func107 rfl rfl rfl ?_
 have H := HP.start w
 refine sr ?_; intro K1 hK1
 refine p_box (l := _) H rfl ?_; clear H; intro w2 b3 H
 refine p_box (l := _) H rfl ?_; clear H; intro w4 b5 H
 refine p_alloc (l := [.int .u64 0, .int .u64 0, .int .u64 0, .int .u64 0]) H tz24 rfl ?_; clear H; intro w7 b6 H
 refine xk hK1 ?_; try clear hK1 K1
 refine sr ?_; intro K8 hK8
 refine p_val (r_loadW tg24 H rfl (k := 2) rfl rfl) ?_
 refine p_val (r_loadW tg24 H rfl (k := 1) rfl rfl) ?_
 refine p_call (l := [(.int _ _), (.agg (List.toArray _)), (.agg (List.toArray _))]) is49 rfl ?_
 refine (add_c _ _ _ lt2_CrvA lt2_CrvA _).mono ?_; rintro _ w9 ⟨rfl, hx⟩; replace H := H.ext hx; clear hx
 refine p_storeW tg24 H rfl (k := 0) rfl rfl rfl rfl rfl ?_; clear H; intro w10 H
 refine xk hK8 ?_; try clear hK8 K8
 refine wp_ret ?_
 refine e_1 rfl (q_cellW tg24 H rfl (k := 0) rfl rfl) ?_
 exact ⟨by rw [fa_def], H.below⟩
theorem minus_c (A B : Nat) (hA : A < two256) (hB : B < two256) (w : World) :
    Calls Tryz.prog 109 #[numV A, numV B] w fun e w' => e = .returned (numV (fs A B)) ∧ Ext w w' := by
 refine enter (n := 8) Tryz.func109 rfl rfl rfl ?_
 have H := HP.start w
 refine sr ?_; intro K1 hK1
 refine p_box (l := _) H rfl ?_; clear H; intro w2 b3 H
 refine p_box (l := _) H rfl ?_; clear H; intro w4 b5 H
 refine p_alloc (l := [.int .u64 0, .int .u64 0, .int .u64 0, .int .u64 0]) H tz24 rfl ?_; clear H; intro w7 b6 H
 refine xk hK1 ?_; try clear hK1 K1
 refine sr ?_; intro K8 hK8
 refine p_val (r_loadW tg24 H rfl (k := 2) rfl rfl) ?_
 refine p_val (r_loadW tg24 H rfl (k := 1) rfl rfl) ?_
 refine p_call (l := [(.int _ _), (.agg (List.toArray _)), (.agg (List.toArray _))]) is151 rfl ?_
 refine (sub_c _ _ _ lt2_CrvA lt2_CrvA _).mono ?_; rintro _ w9 ⟨rfl, hx⟩; replace H := H.ext hx; clear hx
 refine p_storeW tg24 H rfl (k := 0) rfl rfl rfl rfl rfl ?_; clear H; intro w10 H
 refine xk hK8 ?_; try clear hK8 K8
 refine wp_ret ?_
 refine e_1 rfl (q_cellW tg24 H rfl (k := 0) rfl rfl) ?_
 exact ⟨by rw [fs_def], H.below⟩
set_option maxRecDepth 4000 in
theorem on_c (X Y : Nat) (I : Bool) (hX : X < two256) (hY : Y < two256) (w : World) :
    Calls Tryz.prog 60 #[ptV X Y I] w fun e w' => e = .returned (.bool (onB X Y I)) ∧ Ext w w' := by
 refine enter (n := 49) Tryz.func60 rfl rfl rfl ?_
 have H := HP.start w
 refine sr ?_; intro K1 hK1
 refine p_box (l := (numL X ++ (numL Y ++ [(.bool I : Value)]))) H rfl ?_; clear H; intro w2 b3 H
 refine p_as (v := (.bool _)) rfl ?_
 refine xk hK1 ?_; try clear hK1 K1
 refine wp_seq_k ?_; intro K4 hK4
 refine sr ?_; intro K5 hK5
 refine p_val (r_field fa26_2 rfl) ?_
 refine p_val (r_load1 (v := .bool I) to4 H rfl (k := 0) rfl (rfl)) ?_
 refine xk hK5 ?_; try clear hK5 K5
 refine c_split (t := _) rfl (fun hc_1 => ?_) (fun hc_1 => ?_)
 ·skip
  refine sr ?_; intro K7 hK7
  refine p_val (r_loadW tg26 H rfl (k := 0) rfl rfl) ?_
  refine p_val (r_as (l' := (numL 0 ++ (numL 0 ++ [(.bool true : Value)]))) (r_build (vals := [(2, .bool true)]) (l := ([.int .u64 0, .int .u64 0, .int .u64 0, .int .u64 0] ++ ([.int .u64 0, .int .u64 0, .int .u64 0, .int .u64 0] ++ [(.bool true : Value)]))) tb26 rfl rfl) (by rw [num_0])) ?_
  refine p_val (r_eqpt pt26 ptf26 pts26 u24 u22 sz22 ag22 agt24 szt24 u4 agt4 eg26 rfl rfl lt2_CrvA lt2_CrvA lt2_CrvA lt2_CrvA rfl) ?_
  refine p_as (v := (.bool _)) rfl ?_
  refine xk hK7 ?_; try clear hK7 K7
  refine wp_ret ?_
  refine x_ret ?_
  refine e_1 rfl (q_tmp (v := (.bool _)) rfl) ?_
  exact ⟨by rw [hc_1, onB_inf]; simp, H.below⟩
 ·skip
  refine wp_skip ?_
  refine xn hK4 ?_; try clear hK4 K4
  refine wp_seq_k ?_; intro K9 hK9
  refine wp_seq_k ?_; intro K10 hK10
  rcases Bool.eq_false_or_eq_true (fa X 0 != X) with hcx | hcx
  ·skip
   apply wp_region_ext 16 (kinds [(3, .inl _)]) rfl rfl (by kernel_rfl); intro vs12
   simp only [tkS, tkZ, drS, drZ]
   replace H := H.drew
   refine t_v (fun w hx => r_field fa26_0 rfl) ?_
   refine t_v (fun w hx => r_load (l := numL X) tg24 (H.ext hx) rfl (k := 0) rfl rfl rfl) ?_
   refine t_v (fun w hx => r_as (l' := numL 0) (r_build (vals := []) (l := [_, _, _, _]) tb24 rfl rfl) (num_0)) ?_
   refine t_call (l := [(.agg (List.toArray _)), (.agg (List.toArray _))]) rfl rfl is107 rfl (fun w hx hF => (plus_c _ _ lt2_CrvA lt2_CrvA _).mono (fun _ _ ⟨he, hx⟩ => ⟨he, hx⟩)) ?_
   refine t_v (fun w hx => r_field fa26_0 rfl) ?_
   refine t_v (fun w hx => r_load (l := numL X) tg24 (H.ext hx) rfl (k := 0) rfl rfl rfl) ?_
   refine t_v (fun w hx => r_nenum u24 u22 sz22 ag22 eg24 rfl rfl lt2_CrvA lt2_CrvA rfl) ?_
   refine t_v (fun w hx => r_move (v := (.bool _)) rfl) ?_
   refine t_skip rfl (hcx) rfl ?_
   rw [put_fr]
   refine t_skip rfl (hcx) rfl ?_
   rw [put_fr]
   refine t_skip rfl (hcx) rfl ?_
   rw [put_fr]
   refine t_skip rfl (hcx) rfl ?_
   rw [put_fr]
   refine t_skip rfl (hcx) rfl ?_
   rw [put_fr]
   refine t_skip rfl (hcx) rfl ?_
   rw [put_fr]
   refine t_skip rfl (hcx) rfl ?_
   rw [put_fr]
   refine t_v (fun w hx => r_pickt (v := (.bool _)) rfl (hcx) rfl) ?_
   refine t_nil (fun w14 hx hF hA => ?_)
   replace H := H.ext hx
   clear hx hF hA
   refine wpList_nil ?_; refine on_norm ?_
   refine xn hK10 ?_; try clear hK10 K10
   refine c_true rfl rfl ?_
   refine sr ?_; intro K15 hK15
   refine p_as (v := (.bool _)) rfl ?_
   refine xk hK15 ?_; try clear hK15 K15
   refine wp_ret ?_
   refine x_ret ?_
   refine e_1 rfl (q_tmp (v := (.bool _)) rfl) ?_
   exact ⟨by rw [hc_1, onB_out1 hcx], H.below⟩
  ·skip
   apply wp_region_ext 16 (kinds [(3, .inl _), (11, .inl _)]) rfl rfl (by kernel_rfl); intro vs17
   simp only [tkS, tkZ, drS, drZ]
   replace H := H.drew
   refine t_v (fun w hx => r_field fa26_0 rfl) ?_
   refine t_v (fun w hx => r_load (l := numL X) tg24 (H.ext hx) rfl (k := 0) rfl rfl rfl) ?_
   refine t_v (fun w hx => r_as (l' := numL 0) (r_build (vals := []) (l := [_, _, _, _]) tb24 rfl rfl) (num_0)) ?_
   refine t_call (l := [(.agg (List.toArray _)), (.agg (List.toArray _))]) rfl rfl is107 rfl (fun w hx hF => (plus_c _ _ lt2_CrvA lt2_CrvA _).mono (fun _ _ ⟨he, hx⟩ => ⟨he, hx⟩)) ?_
   refine t_v (fun w hx => r_field fa26_0 rfl) ?_
   refine t_v (fun w hx => r_load (l := numL X) tg24 (H.ext hx) rfl (k := 0) rfl rfl rfl) ?_
   refine t_v (fun w hx => r_nenum u24 u22 sz22 ag22 eg24 rfl rfl lt2_CrvA lt2_CrvA rfl) ?_
   refine t_v (fun w hx => r_move (v := (.bool _)) rfl) ?_
   refine t_valG rfl (hcx) (fun w hx => r_field fa26_1 rfl) rfl rfl ?_
   refine t_valG rfl (hcx) (fun w hx => r_load (l := numL Y) tg24 (H.ext hx) rfl (k := 0) rfl rfl rfl) rfl rfl ?_
   refine t_valG rfl (hcx) (fun w hx => r_as (l' := numL 0) (r_build (vals := []) (l := [_, _, _, _]) tb24 rfl rfl) (num_0)) rfl rfl ?_
   refine t_callG rfl (hcx) (l := [(.agg (List.toArray _)), (.agg (List.toArray _))]) rfl rfl is107 rfl (fun w hx hF => (plus_c _ _ lt2_CrvA lt2_CrvA _).mono (fun _ _ ⟨he, hx⟩ => ⟨he, hx⟩)) ?_
   refine t_valG rfl (hcx) (fun w hx => r_field fa26_1 rfl) rfl rfl ?_
   refine t_valG rfl (hcx) (fun w hx => r_load (l := numL Y) tg24 (H.ext hx) rfl (k := 0) rfl rfl rfl) rfl rfl ?_
   refine t_valG rfl (hcx) (fun w hx => r_nenum u24 u22 sz22 ag22 eg24 rfl rfl lt2_CrvA lt2_CrvA rfl) rfl rfl ?_
   refine t_v (fun w hx => r_pickf (v := (.bool _)) rfl (hcx) rfl) ?_
   refine t_nil (fun w20 hx hF hA => ?_)
   replace H := H.ext hx
   clear hx hF hA
   refine wpList_nil ?_; refine on_norm ?_
   refine xn hK10 ?_; try clear hK10 K10
   refine c_split (t := _) rfl (fun hc_3 => ?_) (fun hc_3 => ?_)
   ·skip
    refine sr ?_; intro K21 hK21
    refine p_as (v := (.bool _)) rfl ?_
    refine xk hK21 ?_; try clear hK21 K21
    refine wp_ret ?_
    refine x_ret ?_
    refine e_1 rfl (q_tmp (v := (.bool _)) rfl) ?_
    exact ⟨by rw [hc_1, onB_out2 hc_3], H.below⟩
   ·skip
    refine wp_skip ?_
    refine xn hK9 ?_; try clear hK9 K9
    refine sr ?_; intro K22 hK22
    refine p_val (r_as (l' := numL 41058363725152142129326129780047268409114441015993725554835256314039467401291) (r_build (vals := [(0, (.int _ _)), (1, (.int _ _)), (2, (.int _ _)), (3, (.int _ _))]) (l := [_, _, _, _]) tb24 rfl rfl) (num_const (a := 4309448131093880907) (b := 7285987128567378166) (c := 12964664127075681980) (d := 6540974713487397863) _ (by decide) (by decide) (by decide) (by decide) (by decide))) ?_
    refine p_alloc (l := [.int .u64 0, .int .u64 0, .int .u64 0, .int .u64 0]) H tz24 rfl ?_; clear H; intro w24 b23 H
    refine p_storeW tg24 H rfl (k := 0) rfl rfl rfl rfl rfl ?_; clear H; intro w25 H
    refine xk hK22 ?_; try clear hK22 K22
    refine wp_seq_k ?_; intro K26 hK26
    apply wp_region_ext 9 (kinds [(6, .inl _), (7, .inl _), (8, .inr (NewAt _ [.int .u64 0, .int .u64 0, .int .u64 0, .int .u64 0] 24))]) rfl rfl (by kernel_rfl); intro vs28
    simp only [tkS, tkZ, drS, drZ]
    replace H := H.drew
    refine t_v (fun w hx => r_field fa26_0 rfl) ?_
    refine t_v (fun w hx => r_load (l := numL X) tg24 (H.ext hx) rfl (k := 1) rfl rfl rfl) ?_
    refine t_v (fun w hx => r_field fa26_0 rfl) ?_
    refine t_v (fun w hx => r_load (l := numL X) tg24 (H.ext hx) rfl (k := 1) rfl rfl rfl) ?_
    refine t_v (fun w hx => r_field fa26_0 rfl) ?_
    refine t_v (fun w hx => r_load (l := numL X) tg24 (H.ext hx) rfl (k := 1) rfl rfl rfl) ?_
    refine t_call (l := [(.agg (List.toArray _)), (.agg (List.toArray _))]) rfl rfl is108 rfl (fun w hx hF => (times_c _ _ lt2_CrvA lt2_CrvA _).mono (fun _ _ ⟨he, hx⟩ => ⟨he, hx⟩)) ?_
    refine t_call (l := [(.agg (List.toArray _)), (.agg (List.toArray _))]) rfl rfl is108 rfl (fun w hx hF => (times_c _ _ lt2_CrvA lt2_CrvA _).mono (fun _ _ ⟨he, hx⟩ => ⟨he, hx⟩)) ?_
    refine t_alloc rfl rfl tz24 rfl ?_
    refine t_nil (fun w30 hx hF hA => ?_)
    obtain ⟨b29, eb29, hbb29, hhb29⟩ := fact_rel hF 8 rfl rfl; have hnb29 := HP.neL H hbb29; replace hbb29 := Nat.le_trans H.below.size hbb29
    replace H := H.ext hx
    replace H := HP.push1 H hbb29 hnb29 hhb29
    clear hbb29 hnb29 hhb29
    clear hx hF hA
    refine p_storeW tg24 H eb29 (k := 0) rfl rfl rfl rfl rfl ?_; clear H; intro w31 H
    refine wpList_nil ?_; refine on_norm ?_
    refine xn hK26 ?_; try clear hK26 K26
    refine wp_seq_k ?_; intro K32 hK32
    apply wp_region_ext 15 (kinds [(4, .inl _), (9, .inl _), (10, .inl _), (12, .inl _)]) rfl rfl (by kernel_rfl); intro vs34
    simp only [tkS, tkZ, drS, drZ]
    replace H := H.drew
    refine t_v (fun w hx => r_field fa26_1 rfl) ?_
    refine t_v (fun w hx => r_load (l := numL Y) tg24 (H.ext hx) rfl (k := 2) rfl rfl rfl) ?_
    refine t_v (fun w hx => r_field fa26_1 rfl) ?_
    refine t_v (fun w hx => r_load (l := numL Y) tg24 (H.ext hx) rfl (k := 2) rfl rfl rfl) ?_
    refine t_call (l := [(.agg (List.toArray _)), (.agg (List.toArray _))]) rfl rfl is108 rfl (fun w hx hF => (times_c _ _ lt2_CrvA lt2_CrvA _).mono (fun _ _ ⟨he, hx⟩ => ⟨he, hx⟩)) ?_
    refine t_v (fun w hx => r_loadW tg24 (H.ext hx) eb29 (k := 0) rfl rfl) ?_
    refine t_v (fun w hx => r_as (l' := numL 3) (r_build (vals := [(0, (.int _ _))]) (l := [_, _, _, _]) tb24 rfl rfl) (num_lit 3 (by decide))) ?_
    refine t_v (fun w hx => r_field fa26_0 rfl) ?_
    refine t_v (fun w hx => r_load (l := numL X) tg24 (H.ext hx) rfl (k := 2) rfl rfl rfl) ?_
    refine t_call (l := [(.agg (List.toArray _)), (.agg (List.toArray _))]) rfl rfl is108 rfl (fun w hx hF => (times_c _ _ lt2_CrvA lt2_CrvA _).mono (fun _ _ ⟨he, hx⟩ => ⟨he, hx⟩)) ?_
    refine t_call (l := [(.agg (List.toArray _)), (.agg (List.toArray _))]) rfl rfl is109 rfl (fun w hx hF => (minus_c _ _ lt2_CrvA lt2_CrvA _).mono (fun _ _ ⟨he, hx⟩ => ⟨he, hx⟩)) ?_
    refine t_v (fun w hx => r_loadW tg24 (H.ext hx) rfl (k := 1) rfl rfl) ?_
    refine t_call (l := [(.agg (List.toArray _)), (.agg (List.toArray _))]) rfl rfl is107 rfl (fun w hx hF => (plus_c _ _ lt2_CrvA lt2_CrvA _).mono (fun _ _ ⟨he, hx⟩ => ⟨he, hx⟩)) ?_
    refine t_v (fun w hx => r_eqnum u24 u22 sz22 ag22 eg24 rfl rfl lt2_CrvA lt2_CrvA rfl) ?_
    refine t_v (fun w hx => r_assign (v := (.bool _)) rfl) ?_
    refine t_nil (fun w36 hx hF hA => ?_)
    replace H := H.ext hx
    clear hx hF hA
    refine wpList_nil ?_; refine on_norm ?_
    refine xn hK32 ?_; try clear hK32 K32
    refine wp_ret ?_
    refine e_1 rfl (q_tmp (v := (.bool _)) rfl) ?_
    exact ⟨by rw [hc_1, onB_in hcx hc_3]; rfl, H.below⟩
end Go.Proofs.YtmbcolbbekbccaaGreat
