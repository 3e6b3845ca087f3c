/- The walks of some functions. Conditions: as each theorem says. -/
import Derived.Test.YtmbcolbbekbccaaFldA
import Derived.Test.YtmbcolbbekbccaaMl
namespace Go.Proofs.Ytmbcolbbekbccaa
open Go Go.RowKit
attribute [local irreducible] wpList wpT Code.wp Calls Code.rounds lm sd sb ad ac
theorem tg108 : TAgg Try.prog 108 8 := ⟨fun _ => by kernel_rfl, fun _ => by kernel_rfl⟩
theorem tz108 : TZero Try.prog 108 (.agg #[.int .u64 0, .int .u64 0, .int .u64 0, .int .u64 0, .int .u64 0, .int .u64 0, .int .u64 0, .int .u64 0]) := fun _ => by kernel_rfl
theorem u108 : Try.prog.underlying 108 = some (.array 8 22) := by kernel_rfl
theorem is51 : IsFn Try.prog 51 := isFn Try.func51 (by kernel_rfl) (by kernel_rfl)
theorem is52 : IsFn Try.prog 52 := isFn Try.func52 (by kernel_rfl) (by kernel_rfl)
theorem is73 : IsFn Try.prog 73 := isFn Try.func73 (by kernel_rfl) (by kernel_rfl)

theorem wide_c (A B : Nat) (hA : A < two256) (hB : B < two256) (w : World) :
    Calls Try.prog 51 #[numV A, numV B] w fun e w' => e = .returned (.agg (outL (lm (A * B))).toArray) ∧ Ext w w' := by
 refine enter (n := 63) Try.func51 rfl rfl rfl ?_
 have H := HP.start w
 refine sr ?_; intro K1 hK1
 refine p_box (l := numL A) H rfl ?_; clear H; intro w2 b3 H
 refine p_box (l := numL B) H rfl ?_; clear H; intro w4 b5 H
 refine p_alloc (l := [.int .u64 0, .int .u64 0, .int .u64 0, .int .u64 0, .int .u64 0, .int .u64 0, .int .u64 0, .int .u64 0]) H tz108 rfl ?_; clear H; intro w7 b6 H
 refine xk hK1 ?_; try clear hK1 K1
 refine sr ?_; intro K8 hK8
 refine p_alloc (l := [.int .u64 0, .int .u64 0, .int .u64 0, .int .u64 0, .int .u64 0, .int .u64 0, .int .u64 0, .int .u64 0]) H tz108 rfl ?_; clear H; intro w10 b9 H
 refine xk hK8 ?_; try clear hK8 K8
 refine wp_seq_k ?_; intro K11 hK11
 refine sr ?_; intro K12 hK12
 refine p_val (r_loadW tg24 H rfl (k := 3) rfl rfl) ?_
 refine p_mv (v := (.int _ _)) rfl ?_
 refine xk hK12 ?_; try clear hK12 K12
 refine wp_block ?_
 refine loopF [6, 7, 8, 9, 10, 11, 12, 13, 15, 16, 17, 18, 19, 20, 21, 22, 23, 24, 25, 26, 27, 28, 29, 30, 31, 32, 33, 34, 35, 36, 37, 38, 39, 40, 41, 42, 43, 44, 45, 46, 47, 48, 49, 50, 51, 52, 53, 54, 55, 56, 57, 58, 59, 60, 61] (fun γ μ w' => ∃ (k : Nat) (f : Nat → Int), 4 - k = γ ∧ look μ 15 = .int .i64 (k : Int) ∧ HP w w' [(b9, outL f, 108), (b6, [.int .u64 0, .int .u64 0, .int .u64 0, .int .u64 0, .int .u64 0, .int .u64 0, .int .u64 0, .int .u64 0], 108), (b5, numL B, 24), (b3, numL A, 24)] ∧ (k ≤ 4) ∧ ((∀ s, U (f s))) ∧ ((∀ s, k + 4 ≤ s → f s = 0)) ∧ (val8 f = low A k * (B : Int))) (4) ⟨0, fun _ => 0, rfl, rfl, H, Nat.zero_le _, fun _ => U_0, fun _ _ => rfl, by rw [low_0, Int.zero_mul]; simp [val8]⟩ ?_
 clear H
 intro g16 m13 w14 hk15 hI; obtain ⟨k, f, rfl, hl17, H, hk, hf, hz, hv⟩ := hI
 refine sr ?_; intro K18 hK18
 refine p_val (r_lss hl17 rfl rfl) ?_
 refine xk hK18 ?_; try clear hK18 K18
 refine wp_seq_k ?_; intro K20 hK20
 refine c_split (t := _) rfl (fun hc_3 => ?_) (fun hc_3 => ?_)
 ·skip
  have hk4 := of_decide_eq_true hc_3
  refine wp_skip ?_
  refine xn hK20 ?_; try clear hK20 K20
  refine wp_seq_k ?_; intro K21 hK21
  refine wp_block ?_
  refine sr ?_; intro K22 hK22
  refine p_mv (v := (.int _ _)) hl17 ?_
  refine p_val (r_idxA (v := .int .u64 (lm A k)) (i := k) u24 sz22 ag22 (hk15 14 rfl) hl17 (Int.toNat_natCast k) (by omega) (by omega) (by rw [Nat.mul_one]; exact numL_piece A k (by omega))) ?_
  refine p_as (v := (.int _ _)) rfl ?_
  refine p_as (v := (.int _ _)) rfl ?_
  refine xk hK22 ?_; try clear hK22 K22
  refine sr ?_; intro K23 hK23
  refine p_as (v := (.int _ _)) rfl ?_
  refine xk hK23 ?_; try clear hK23 K23
  refine wp_seq_k ?_; intro K24 hK24
  refine sr ?_; intro K25 hK25
  refine p_val (r_loadW tg24 H (hk15 3 rfl) (k := 2) rfl rfl) ?_
  refine p_mv (v := (.int _ _)) rfl ?_
  refine xk hK25 ?_; try clear hK25 K25
  refine wp_block ?_
  refine loopF [8, 9, 10, 11, 12, 13, 20, 21, 22, 23, 24, 25, 26, 27, 28, 29, 30, 31, 32, 33, 34, 35, 36, 37, 38, 39, 40, 41, 42, 43, 44, 45, 46, 47, 48, 49, 50, 51, 52, 53, 54, 55, 56] (fun γ μ w' => ∃ (j : Nat) (c : Int) (f' : Nat → Int), 4 - j = γ ∧ look μ 20 = .int .i64 (j : Int) ∧ look μ 8 = .int .u64 c ∧ HP w w' [(b9, outL f', 108), (b6, [.int .u64 0, .int .u64 0, .int .u64 0, .int .u64 0, .int .u64 0, .int .u64 0, .int .u64 0, .int .u64 0], 108), (b5, numL B, 24), (b3, numL A, 24)] ∧ (j ≤ 4) ∧ (U c) ∧ ((∀ s, U (f' s))) ∧ ((∀ s, k + j ≤ s → f' s = f s)) ∧ (val8 f' + c * wv (k + j) = val8 f + lm A k * low B j * wv k)) (4) ⟨0, 0, f, rfl, rfl, rfl, H, Nat.zero_le _, U_0, hf, fun _ _ => rfl, by rw [low_0]; simp⟩ ?_
  clear H
  intro g29 m26 w27 hk28 hI; obtain ⟨j, c, f', rfl, hl30, hl31, H, hj, hc, hf', hz', hv'⟩ := hI
  refine sr ?_; intro K32 hK32
  refine p_val (r_lss hl30 rfl rfl) ?_
  refine xk hK32 ?_; try clear hK32 K32
  refine wp_seq_k ?_; intro K34 hK34
  refine c_split (t := _) rfl (fun hc_7 => ?_) (fun hc_7 => ?_)
  ·skip
   have hj4 := of_decide_eq_true hc_7
   refine wp_skip ?_
   refine xn hK34 ?_; try clear hK34 K34
   refine wp_seq_k ?_; intro K35 hK35
   refine wp_block ?_
   refine sr ?_; intro K36 hK36
   refine p_mv (v := (.int _ _)) hl30 ?_
   refine p_val (r_idxA (v := .int .u64 (lm B j)) (i := j) u24 sz22 ag22 (hk28 19 rfl) hl30 (Int.toNat_natCast j) (by omega) (by omega) (by rw [Nat.mul_one]; exact numL_piece B j (by omega))) ?_
   refine p_as (v := (.int _ _)) rfl ?_
   refine p_as (v := (.int _ _)) rfl ?_
   refine xk hK36 ?_; try clear hK36 K36
   refine sr ?_; intro K37 hK37
   refine p_mv (v := (.int _ _)) (hk28 7 rfl) ?_
   refine p_mv (v := (.int _ _)) rfl ?_
   refine p_call (l := [(.int _ _), (.int _ _)]) is73 rfl ?_
   refine (mul64_c (by first | exact U_lm _ _ | exact U_sd _ _ _ | exact U_ad _ _ _ | exact U_ml _ _ | assumption | exact U_0 | exact hf' _ | exact hf _) (by first | exact U_lm _ _ | exact U_sd _ _ _ | exact U_ad _ _ _ | exact U_ml _ _ | assumption | exact U_0 | exact hf' _ | exact hf _) _).mono ?_; rintro _ w38 ⟨rfl, hx⟩; replace H := H.ext hx; clear hx
   refine p_mv (v := (.tuple _)) rfl ?_
   refine p_val (r_extract (v := (.int _ _)) rfl rfl) ?_
   refine p_val (r_extract (v := (.int _ _)) rfl rfl) ?_
   refine p_as (v := (.int _ _)) rfl ?_
   refine p_as (v := (.int _ _)) rfl ?_
   refine xk hK37 ?_; try clear hK37 K37
   refine sr ?_; intro K39 hK39
   refine p_mv (v := (.int _ _)) rfl ?_
   refine p_mv (v := (.int _ _)) hl31 ?_
   refine p_callv (l := [(.int _ _), (.int _ _), (.int _ _)]) rfl (run_Add64 (by first | exact U_lm _ _ | exact U_sd _ _ _ | exact U_ad _ _ _ | exact U_ml _ _ | assumption | exact U_0 | exact hf' _ | exact hf _) (by first | exact U_lm _ _ | exact U_sd _ _ _ | exact U_ad _ _ _ | exact U_ml _ _ | assumption | exact U_0 | exact hf' _ | exact hf _) (by first | exact C_sb _ _ _ | exact C_ac _ _ _ | exact C1_0 | assumption) _) ?_
   refine p_mv (v := (.tuple _)) rfl ?_
   refine p_val (r_extract (v := (.int _ _)) rfl rfl) ?_
   refine p_val (r_extract (v := (.int _ _)) rfl rfl) ?_
   refine p_as (v := (.int _ _)) rfl ?_
   refine p_as (v := (.int _ _)) rfl ?_
   refine xk hK39 ?_; try clear hK39 K39
   refine sr ?_; intro K40 hK40
   refine p_mv (v := (.int _ _)) rfl ?_
   refine p_mv (v := (.int _ _)) rfl ?_
   refine p_val (r_add (r := mh (lm A k) (lm B j) + ac (ml (lm A k) (lm B j)) c 0) rfl rfl (wide_w1 (U_lm _ _) (U_lm _ _) hc)) ?_
   refine p_as (v := (.int _ _)) rfl ?_
   refine xk hK40 ?_; try clear hK40 K40
   refine sr ?_; intro K41 hK41
   refine p_mv (v := (.int _ _)) (hk28 6 rfl) ?_
   refine p_mv (v := (.int _ _)) rfl ?_
   refine p_val (r_add (r := ((k + j : Nat) : Int)) rfl rfl ((wr64 (by omega) (by omega)).trans (by omega))) ?_
   refine p_mv (v := (.int _ _)) (hk28 6 rfl) ?_
   refine p_mv (v := (.int _ _)) rfl ?_
   refine p_val (r_add (r := ((k + j : Nat) : Int)) rfl rfl ((wr64 (by omega) (by omega)).trans (by omega))) ?_
   refine p_val (r_addrA (i := k + j) u108 sz22 ((hk28 5 rfl).trans (hk15 5 rfl)) rfl (rfl) (by omega) (by omega)) ?_
   refine p_val (r_load1 (v := .int .u64 (f' (k + j))) to22 H rfl (k := 0) rfl (by simpa using out_piece f' (k + j) (by omega))) ?_
   refine p_mv (v := (.int _ _)) rfl ?_
   refine p_callv (l := [(.int _ _), (.int _ _), (.int _ _)]) rfl (run_Add64 (by first | exact U_lm _ _ | exact U_sd _ _ _ | exact U_ad _ _ _ | exact U_ml _ _ | assumption | exact U_0 | exact hf' _ | exact hf _) (by first | exact U_lm _ _ | exact U_sd _ _ _ | exact U_ad _ _ _ | exact U_ml _ _ | assumption | exact U_0 | exact hf' _ | exact hf _) (by first | exact C_sb _ _ _ | exact C_ac _ _ _ | exact C1_0 | assumption) _) ?_
   refine p_mv (v := (.tuple _)) rfl ?_
   refine p_val (r_extract (v := (.int _ _)) rfl rfl) ?_
   refine p_val (r_extract (v := (.int _ _)) rfl rfl) ?_
   refine p_val (r_addrA (i := k + j) u108 sz22 ((hk28 5 rfl).trans (hk15 5 rfl)) rfl (rfl) (by omega) (by omega)) ?_
   refine p_store1 (cs := _) (v := (.int _ _)) to22 H rfl (k := 0) rfl rfl rfl (by rw [nat_blt]; simp [outL]; omega) ?_; clear H; intro w42 H
   rw [show 0 + (k + j) * 1 = k + j by omega, out_lay _ _ _ (by omega)] at H
   refine p_as (v := (.int _ _)) rfl ?_
   refine xk hK41 ?_; try clear hK41 K41
   refine wp_region_lit ?_
   refine p_mv (v := (.int _ _)) rfl ?_
   refine p_mv (v := (.int _ _)) rfl ?_
   refine p_val (r_add (r := mh (lm A k) (lm B j) + ac (ml (lm A k) (lm B j)) c 0 + ac (f' (k + j)) (ad (ml (lm A k) (lm B j)) c 0) 0) rfl rfl ((wide_step (U_lm A k) (U_lm B j) hc (hf' (k + j))).1)) ?_
   refine p_as (v := (.int _ _)) rfl ?_
   refine wpList_nil ?_
   refine b_norm ?_
   refine xn hK35 ?_; try clear hK35 K35
   refine wp_region_lit ?_
   refine p_val (r_add (r := ((j + 1 : Nat) : Int)) hl30 rfl ((wr64 (by omega) (by omega)).trans (by omega))) ?_
   refine p_mv (v := (.int _ _)) rfl ?_
   refine wpList_nil ?_
   refine x_norm ?_
   exact ⟨_, _, (by omega), rfl, (by repeat (first | exact hk28 | refine keep_cons rfl ?_)), j + 1, mh (lm A k) (lm B j) + ac (ml (lm A k) (lm B j)) c 0 + ac (f' (k + j)) (ad (ml (lm A k) (lm B j)) c 0) 0, upd f' (k + j) (ad (f' (k + j)) (ad (ml (lm A k) (lm B j)) c 0) 0), rfl, rfl, rfl, H, by omega, (wide_step (U_lm A k) (U_lm B j) hc (hf' (k + j))).2.1, U_upd hf' (U_ad _ _ _), fun s hs => by rw [upd_other (by omega), hz' s (by omega)], wide_inv hv' (wide_step (U_lm A k) (U_lm B j) hc (hf' (k + j))).2.2 (by omega)⟩
  ·skip
   have hj4 := of_decide_eq_false hc_7
   obtain rfl : j = 4 := by omega
   refine wp_exit ?_
   refine x_exit ?_
   refine x_exit ?_
   refine b_hit ?_
   refine xn hK24 ?_; try clear hK24 K24
   refine wp_region_lit ?_
   refine p_mv (v := (.int _ _)) (hk28 6 rfl) ?_
   refine p_val (r_add (r := ((k + 4 : Nat) : Int)) rfl rfl ((wr64 (by omega) (by omega)).trans (by omega))) ?_
   refine p_mv (v := (.int _ _)) hl31 ?_
   refine p_val (r_addrA (i := k + 4) u108 sz22 ((hk28 5 rfl).trans (hk15 5 rfl)) rfl (rfl) (by omega) (by omega)) ?_
   refine p_store1 (cs := _) (v := (.int _ _)) to22 H rfl (k := 0) rfl rfl rfl (by rw [nat_blt]; simp [outL]; omega) ?_; clear H; intro w43 H
   rw [show 0 + (k + 4) * 1 = k + 4 by omega, out_lay _ _ _ (by omega)] at H
   refine wpList_nil ?_
   refine b_norm ?_
   refine xn hK21 ?_; try clear hK21 K21
   refine wp_region_lit ?_
   refine p_val (r_add (r := ((k + 1 : Nat) : Int)) ((hk28 15 rfl).trans hl17) rfl ((wr64 (by omega) (by omega)).trans (by omega))) ?_
   refine p_mv (v := (.int _ _)) rfl ?_
   refine wpList_nil ?_
   refine x_norm ?_
   exact ⟨_, _, (by omega), rfl, (by repeat (first | exact hk15 | refine keep_cons rfl ?_ | refine keep_sub hk28 rfl ?_)), k + 1, upd f' (k + 4) c, rfl, rfl, H, by omega, U_upd hf' hc, fun s hs => by rw [upd_other (by omega), hz' s (by omega), hz s (by omega)], wide_out hv' hv hB ((hz' _ (Nat.le_refl _)).trans (hz _ (Nat.le_refl _))) (by omega)⟩
 ·skip
  have hk4 := of_decide_eq_false hc_3
  refine wp_exit ?_
  refine x_exit ?_
  refine x_exit ?_
  refine b_hit ?_
  refine xn hK11 ?_; try clear hK11 K11
  refine sr ?_; intro K44 hK44
  refine p_val (r_loadW tg108 H (hk15 5 rfl) (k := 0) rfl rfl) ?_
  refine p_storeW tg108 H (hk15 4 rfl) (k := 1) rfl rfl rfl rfl rfl ?_; clear H; intro w45 H
  refine xk hK44 ?_; try clear hK44 K44
  refine wp_ret ?_
  refine e_1 rfl (q_cellW tg108 H (hk15 4 rfl) (k := 1) rfl rfl) ?_
  obtain rfl : k = 4 := by omega
  rw [low_4 hA] at hv
  exact ⟨by rw [outL_of hf (X := A * B) (by rw [hv, Int.natCast_mul])], H.below⟩

set_option maxHeartbeats 1000000 in
set_option maxRecDepth 10000 in
theorem mul_c (m : Int) (A B : Nat) (hA : A < two256) (hB : B < two256) (w : World) :
    Calls Try.prog 25 #[.int .i64 m, numV A, numV B] w fun e w' => e = .returned (numV (A * B % modN m)) ∧ Ext w w' := by
 refine enter (n := 73) Try.func25 rfl rfl rfl ?_
 have H := HP.start w
 have hp := mod_modN m
 have hone : two256 - modN m < two256 := by have := hp.pos; have := hp.lt; omega
 refine sr ?_; intro K1 hK1
 refine p_box (l := numL A) H rfl ?_; clear H; intro w2 b3 H
 refine p_box (l := numL B) H rfl ?_; clear H; intro w4 b5 H
 refine p_alloc (l := [.int .u64 0, .int .u64 0, .int .u64 0, .int .u64 0]) H tz24 rfl ?_; clear H; intro w7 b6 H
 refine xk hK1 ?_; try clear hK1 K1
 refine sr ?_; intro K8 hK8
 refine p_mv (v := (.int _ _)) rfl ?_
 refine p_call (l := [(.int _ _)]) is26 rfl ?_
 refine (modulus_c _ _).mono ?_; rintro _ w9 ⟨rfl, hx⟩; replace H := H.ext hx; clear hx
 refine p_alloc (l := [.int .u64 0, .int .u64 0, .int .u64 0, .int .u64 0]) H tz24 rfl ?_; clear H; intro w11 b10 H
 refine p_storeW tg24 H rfl (k := 0) rfl rfl rfl rfl rfl ?_; clear H; intro w12 H
 refine xk hK8 ?_; try clear hK8 K8
 refine sr ?_; intro K13 hK13
 refine p_val (r_loadW tg24 H rfl (k := 3) rfl rfl) ?_
 refine p_val (r_loadW tg24 H rfl (k := 2) rfl rfl) ?_
 refine p_call (l := [(.agg (List.toArray _)), (.agg (List.toArray _))]) is51 rfl ?_
 refine (wide_c _ _ (by first | exact Nat.mod_lt _ two256_pos | exact Mod.lt (mod_modN _) | assumption | exact onceN_lt (by assumption) | exact Nat.lt_trans (Nat.mod_lt _ (mod_modN _).pos) (mod_modN _).lt | exact ofV_lt2 _ _ | exact invV_lt2 _ _ | exact fm_lt2 _ _ | exact fa_lt2 _ _ | exact fs_lt2 _ _ | exact fn_lt2 _ | exact PP_lt | exact AL_GG.1 | exact AL_GG.2 | exact (AL_cadd _ _).1 | exact (AL_cadd _ _).2 | exact (AL_cmul _ _).1 | exact (AL_cmul _ _).2 | exact (AL_cofV _).1 | exact (AL_cofV _).2 | exact (AL_cneg (by assumption)).1 | exact (AL_cneg (by assumption)).2 | exact lt_lit (by decide)) (by first | exact Nat.mod_lt _ two256_pos | exact Mod.lt (mod_modN _) | assumption | exact onceN_lt (by assumption) | exact Nat.lt_trans (Nat.mod_lt _ (mod_modN _).pos) (mod_modN _).lt | exact ofV_lt2 _ _ | exact invV_lt2 _ _ | exact fm_lt2 _ _ | exact fa_lt2 _ _ | exact fs_lt2 _ _ | exact fn_lt2 _ | exact PP_lt | exact AL_GG.1 | exact AL_GG.2 | exact (AL_cadd _ _).1 | exact (AL_cadd _ _).2 | exact (AL_cmul _ _).1 | exact (AL_cmul _ _).2 | exact (AL_cofV _).1 | exact (AL_cofV _).2 | exact (AL_cneg (by assumption)).1 | exact (AL_cneg (by assumption)).2 | exact lt_lit (by decide)) _).mono ?_; rintro _ w14 ⟨rfl, hx⟩; replace H := H.ext hx; clear hx
 refine p_alloc (l := [.int .u64 0, .int .u64 0, .int .u64 0, .int .u64 0, .int .u64 0, .int .u64 0, .int .u64 0, .int .u64 0]) H tz108 rfl ?_; clear H; intro w16 b15 H
 refine p_storeW tg108 H rfl (k := 0) rfl rfl rfl rfl rfl ?_; clear H; intro w17 H
 refine xk hK13 ?_; try clear hK13 K13
 refine wp_seq_k ?_; intro K18 hK18
 refine wp_block ?_
 refine loopF [9, 10, 11, 12, 18, 19, 20, 21, 22, 23, 24, 25, 26, 27, 28, 29, 30, 31, 32, 33, 34, 35, 36, 37, 38, 39, 40, 41, 42, 43, 44, 45, 46, 47, 48, 49, 50, 51, 52, 53, 54, 55, 56, 57, 58, 59, 60, 61] (fun γ μ w' => ∃ (X : Nat), X = γ ∧ HP w w' [(b15, outL (lm X), 108), (b10, numL (modN m), 24), (b6, [.int .u64 0, .int .u64 0, .int .u64 0, .int .u64 0], 24), (b5, numL B, 24), (b3, numL A, 24)] ∧ (X < two256 * two256) ∧ (X % modN m = A * B % modN m)) (A * B) ⟨A * B, rfl, H, Nat.mul_lt_mul'' hA hB, rfl⟩ ?_
 clear H
 intro g22 m19 w20 hk21 hI; obtain ⟨X, rfl, H, hX, hv⟩ := hI
 have hXh : X / two256 < two256 := Nat.div_lt_of_lt_mul hX
 refine wp_seq_k ?_; intro K23 hK23
 refine sr ?_; intro K24 hK24
 refine p_val (r_addrA u108 sz22 (hk21 8 rfl) (k := .i64) (i := 4) rfl rfl (by decide) (by decide)) ?_
 refine p_val (r_load1 (v := (.int _ _)) to22 H rfl (k := 0) rfl rfl) ?_
 refine p_val (r_addrA u108 sz22 (hk21 8 rfl) (k := .i64) (i := 5) rfl rfl (by decide) (by decide)) ?_
 refine p_val (r_load1 (v := (.int _ _)) to22 H rfl (k := 0) rfl rfl) ?_
 refine p_val (r_bits (bo := .or) (by simp) rfl rfl rfl) ?_
 refine p_val (r_addrA u108 sz22 (hk21 8 rfl) (k := .i64) (i := 6) rfl rfl (by decide) (by decide)) ?_
 refine p_val (r_load1 (v := (.int _ _)) to22 H rfl (k := 0) rfl rfl) ?_
 refine p_val (r_bits (bo := .or) (by simp) rfl rfl rfl) ?_
 refine p_val (r_addrA u108 sz22 (hk21 8 rfl) (k := .i64) (i := 7) rfl rfl (by decide) (by decide)) ?_
 refine p_val (r_load1 (v := (.int _ _)) to22 H rfl (k := 0) rfl rfl) ?_
 refine p_val (r_bits (bo := .or) (by simp) rfl rfl rfl) ?_
 refine p_val (r_neq (t := decide (two256 ≤ X)) rfl rfl (or4_ne X hX)) ?_
 refine xk hK24 ?_; try clear hK24 K24
 refine c_split (t := _) rfl (fun hc_3 => ?_) (fun hc_3 => ?_)
 ·skip
  have hX2 := of_decide_eq_true hc_3
  refine wp_skip ?_
  refine xn hK23 ?_; try clear hK23 K23
  refine wp_block ?_
  refine wp_seq_k ?_; intro K26 hK26
  apply wp_region_ext 13 (kinds [(10, .inl _), (11, .inl _), (12, .inr (NewAt _ [.int .u64 0, .int .u64 0, .int .u64 0, .int .u64 0, .int .u64 0, .int .u64 0, .int .u64 0, .int .u64 0] 108))]) rfl rfl (by kernel_rfl); intro vs28
  simp only [List.take_succ_cons, List.take_zero, List.drop_succ_cons, List.drop_zero]
  replace H := H.drew
  refine t_v (fun w hx => r_addrA u108 sz22 (hk21 8 rfl) (k := .i64) (i := 4) rfl rfl (by decide) (by decide)) ?_
  refine t_v (fun w hx => r_load1 (v := (.int _ _)) to22 (H.ext hx) rfl (k := 0) rfl rfl) ?_
  refine t_v (fun w hx => r_addrA u108 sz22 (hk21 8 rfl) (k := .i64) (i := 5) rfl rfl (by decide) (by decide)) ?_
  refine t_v (fun w hx => r_load1 (v := (.int _ _)) to22 (H.ext hx) rfl (k := 0) rfl rfl) ?_
  refine t_v (fun w hx => r_addrA u108 sz22 (hk21 8 rfl) (k := .i64) (i := 6) rfl rfl (by decide) (by decide)) ?_
  refine t_v (fun w hx => r_load1 (v := (.int _ _)) to22 (H.ext hx) rfl (k := 0) rfl rfl) ?_
  refine t_v (fun w hx => r_addrA u108 sz22 (hk21 8 rfl) (k := .i64) (i := 7) rfl rfl (by decide) (by decide)) ?_
  refine t_v (fun w hx => r_load1 (v := (.int _ _)) to22 (H.ext hx) rfl (k := 0) rfl rfl) ?_
  refine t_v (fun w hx => r_as (l' := numL (X / two256)) (r_build (vals := [(0, (.int _ _)), (1, (.int _ _)), (2, (.int _ _)), (3, (.int _ _))]) (l := [_, _, _, _]) tb24 rfl rfl) (numL_hi X)) ?_
  refine t_v (fun w hx => r_loadW tg24 (H.ext hx) (hk21 7 rfl) (k := 1) rfl rfl) ?_
  refine t_call (l := [(.agg (List.toArray _))]) rfl rfl is52 rfl (fun w hx hF => (one_c _ (by first | assumption | exact mod_modN _) _).mono (fun _ _ ⟨he, hx⟩ => ⟨he, hx⟩)) ?_
  refine t_call (l := [(.agg (List.toArray _)), (.agg (List.toArray _))]) rfl rfl is51 rfl (fun w hx hF => (wide_c _ _ (by first | exact Nat.mod_lt _ two256_pos | exact Mod.lt (mod_modN _) | assumption | exact onceN_lt (by assumption) | exact Nat.lt_trans (Nat.mod_lt _ (mod_modN _).pos) (mod_modN _).lt | exact ofV_lt2 _ _ | exact invV_lt2 _ _ | exact fm_lt2 _ _ | exact fa_lt2 _ _ | exact fs_lt2 _ _ | exact fn_lt2 _ | exact PP_lt | exact AL_GG.1 | exact AL_GG.2 | exact (AL_cadd _ _).1 | exact (AL_cadd _ _).2 | exact (AL_cmul _ _).1 | exact (AL_cmul _ _).2 | exact (AL_cofV _).1 | exact (AL_cofV _).2 | exact (AL_cneg (by assumption)).1 | exact (AL_cneg (by assumption)).2 | exact lt_lit (by decide)) (by first | exact Nat.mod_lt _ two256_pos | exact Mod.lt (mod_modN _) | assumption | exact onceN_lt (by assumption) | exact Nat.lt_trans (Nat.mod_lt _ (mod_modN _).pos) (mod_modN _).lt | exact ofV_lt2 _ _ | exact invV_lt2 _ _ | exact fm_lt2 _ _ | exact fa_lt2 _ _ | exact fs_lt2 _ _ | exact fn_lt2 _ | exact PP_lt | exact AL_GG.1 | exact AL_GG.2 | exact (AL_cadd _ _).1 | exact (AL_cadd _ _).2 | exact (AL_cmul _ _).1 | exact (AL_cmul _ _).2 | exact (AL_cofV _).1 | exact (AL_cofV _).2 | exact (AL_cneg (by assumption)).1 | exact (AL_cneg (by assumption)).2 | exact lt_lit (by decide)) _).mono (fun _ _ ⟨he, hx⟩ => ⟨he, hx⟩)) ?_
  refine t_alloc rfl rfl tz108 rfl ?_
  refine t_nil (fun w30 hx hF hA => ?_)
  obtain ⟨b29, eb29, hbb29, hhb29⟩ := fact_rel hF 12 rfl rfl; have hnb29 := HP.neL H hbb29; replace hbb29 := Nat.le_trans H.below.size hbb29
  replace H := H.ext hx
  replace H := HP.push1 H hbb29 hnb29 hhb29
  clear hbb29 hnb29 hhb29
  clear hx hF hA
  refine p_storeW tg108 H eb29 (k := 0) rfl rfl rfl rfl rfl ?_; clear H; intro w31 H
  refine wpList_nil ?_; refine on_norm ?_
  refine xn hK26 ?_; try clear hK26 K26
  refine sr ?_; intro K32 hK32
  refine p_as (v := (.int _ _)) rfl ?_
  refine xk hK32 ?_; try clear hK32 K32
  refine sr ?_; intro K33 hK33
  refine p_mv (v := (.int _ _)) rfl ?_
  refine xk hK33 ?_; try clear hK33 K33
  refine wp_block ?_
  refine wp_loop_rounds 9 ?_; rw [rounds_succ]
  refine sr ?_; intro K34 hK34
  refine p_val (r_lss (t := true) rfl rfl (by decide)) ?_
  refine xk hK34 ?_; try clear hK34 K34
  refine wp_seq_k ?_; intro K35 hK35
  refine c_true rfl rfl ?_
  refine wp_skip ?_
  refine xn hK35 ?_; try clear hK35 K35
  refine wp_seq_k ?_; intro K36 hK36
  refine wp_block ?_
  refine sr ?_; intro K37 hK37
  refine p_mv (v := (.int _ _)) rfl ?_
  refine p_as (v := (.int _ _)) rfl ?_
  refine xk hK37 ?_; try clear hK37 K37
  refine sr ?_; intro K38 hK38
  refine p_as (v := (.int _ _)) rfl ?_
  refine xk hK38 ?_; try clear hK38 K38
  refine wp_seq_k ?_; intro K39 hK39
  refine sr ?_; intro K40 hK40
  refine p_mv (v := (.int _ _)) rfl ?_
  refine p_val (r_lss (t := true) rfl rfl (by decide)) ?_
  refine xk hK40 ?_; try clear hK40 K40
  refine c_true rfl rfl ?_
  refine wp_region_lit ?_
  refine p_mv (v := (.int _ _)) rfl ?_
  refine p_val (r_addrA u108 sz22 (hk21 8 rfl) (k := .i64) (i := 0) rfl rfl (by decide) (by decide)) ?_
  refine p_val (r_load1 (v := (.int _ _)) to22 H rfl (k := 1) rfl rfl) ?_
  refine p_as (v := (.int _ _)) rfl ?_
  refine xk hK39 ?_; try clear hK39 K39
  refine wp_region_lit ?_
  refine p_mv (v := (.int _ _)) rfl ?_
  refine p_mv (v := (.int _ _)) rfl ?_
  refine p_val (r_addrA u108 sz22 eb29 (k := .i64) (i := 0) rfl rfl (by decide) (by decide)) ?_
  refine p_val (r_load1 (v := (.int _ _)) to22 H rfl (k := 0) rfl rfl) ?_
  refine p_mv (v := (.int _ _)) rfl ?_
  refine p_mv (v := (.int _ _)) rfl ?_
  refine p_callv (l := [(.int _ _), (.int _ _), (.int _ _)]) rfl (run_Add64 (by first | exact U_lm _ _ | exact U_sd _ _ _ | exact U_ad _ _ _ | exact U_ml _ _ | assumption | exact U_0 | exact hf' _ | exact hf _) (by first | exact U_lm _ _ | exact U_sd _ _ _ | exact U_ad _ _ _ | exact U_ml _ _ | assumption | exact U_0 | exact hf' _ | exact hf _) (by first | exact C_sb _ _ _ | exact C_ac _ _ _ | exact C1_0 | assumption) _) ?_
  refine p_mv (v := (.tuple _)) rfl ?_
  refine p_val (r_extract (v := (.int _ _)) rfl rfl) ?_
  refine p_val (r_extract (v := (.int _ _)) rfl rfl) ?_
  refine p_val (r_addrA u108 sz22 (hk21 8 rfl) (k := .i64) (i := 0) rfl rfl (by decide) (by decide)) ?_
  refine p_store1 (v := (.int _ _)) to22 H rfl (k := 1) rfl rfl rfl rfl ?_; clear H; intro w41 H
  refine p_as (v := (.int _ _)) rfl ?_
  refine wpList_nil ?_
  refine b_norm ?_
  refine xn hK36 ?_; try clear hK36 K36
  refine wp_region_lit ?_
  refine p_val (r_add (r := 1) rfl rfl rfl) ?_
  refine p_mv (v := (.int _ _)) rfl ?_
  refine wpList_nil ?_
  refine x_norm ?_
  rw [rounds_succ]
  refine sr ?_; intro K42 hK42
  refine p_val (r_lss (t := true) rfl rfl (by decide)) ?_
  refine xk hK42 ?_; try clear hK42 K42
  refine wp_seq_k ?_; intro K43 hK43
  refine c_true rfl rfl ?_
  refine wp_skip ?_
  refine xn hK43 ?_; try clear hK43 K43
  refine wp_seq_k ?_; intro K44 hK44
  refine wp_block ?_
  refine sr ?_; intro K45 hK45
  refine p_mv (v := (.int _ _)) rfl ?_
  refine p_as (v := (.int _ _)) rfl ?_
  refine xk hK45 ?_; try clear hK45 K45
  refine sr ?_; intro K46 hK46
  refine p_as (v := (.int _ _)) rfl ?_
  refine xk hK46 ?_; try clear hK46 K46
  refine wp_seq_k ?_; intro K47 hK47
  refine sr ?_; intro K48 hK48
  refine p_mv (v := (.int _ _)) rfl ?_
  refine p_val (r_lss (t := true) rfl rfl (by decide)) ?_
  refine xk hK48 ?_; try clear hK48 K48
  refine c_true rfl rfl ?_
  refine wp_region_lit ?_
  refine p_mv (v := (.int _ _)) rfl ?_
  refine p_val (r_addrA u108 sz22 (hk21 8 rfl) (k := .i64) (i := 1) rfl rfl (by decide) (by decide)) ?_
  refine p_val (r_load1 (v := (.int _ _)) to22 H rfl (k := 1) rfl rfl) ?_
  refine p_as (v := (.int _ _)) rfl ?_
  refine xk hK47 ?_; try clear hK47 K47
  refine wp_region_lit ?_
  refine p_mv (v := (.int _ _)) rfl ?_
  refine p_mv (v := (.int _ _)) rfl ?_
  refine p_val (r_addrA u108 sz22 eb29 (k := .i64) (i := 1) rfl rfl (by decide) (by decide)) ?_
  refine p_val (r_load1 (v := (.int _ _)) to22 H rfl (k := 0) rfl rfl) ?_
  refine p_mv (v := (.int _ _)) rfl ?_
  refine p_mv (v := (.int _ _)) rfl ?_
  refine p_callv (l := [(.int _ _), (.int _ _), (.int _ _)]) rfl (run_Add64 (by first | exact U_lm _ _ | exact U_sd _ _ _ | exact U_ad _ _ _ | exact U_ml _ _ | assumption | exact U_0 | exact hf' _ | exact hf _) (by first | exact U_lm _ _ | exact U_sd _ _ _ | exact U_ad _ _ _ | exact U_ml _ _ | assumption | exact U_0 | exact hf' _ | exact hf _) (by first | exact C_sb _ _ _ | exact C_ac _ _ _ | exact C1_0 | assumption) _) ?_
  refine p_mv (v := (.tuple _)) rfl ?_
  refine p_val (r_extract (v := (.int _ _)) rfl rfl) ?_
  refine p_val (r_extract (v := (.int _ _)) rfl rfl) ?_
  refine p_val (r_addrA u108 sz22 (hk21 8 rfl) (k := .i64) (i := 1) rfl rfl (by decide) (by decide)) ?_
  refine p_store1 (v := (.int _ _)) to22 H rfl (k := 1) rfl rfl rfl rfl ?_; clear H; intro w49 H
  refine p_as (v := (.int _ _)) rfl ?_
  refine wpList_nil ?_
  refine b_norm ?_
  refine xn hK44 ?_; try clear hK44 K44
  refine wp_region_lit ?_
  refine p_val (r_add (r := 2) rfl rfl rfl) ?_
  refine p_mv (v := (.int _ _)) rfl ?_
  refine wpList_nil ?_
  refine x_norm ?_
  rw [rounds_succ]
  refine sr ?_; intro K50 hK50
  refine p_val (r_lss (t := true) rfl rfl (by decide)) ?_
  refine xk hK50 ?_; try clear hK50 K50
  refine wp_seq_k ?_; intro K51 hK51
  refine c_true rfl rfl ?_
  refine wp_skip ?_
  refine xn hK51 ?_; try clear hK51 K51
  refine wp_seq_k ?_; intro K52 hK52
  refine wp_block ?_
  refine sr ?_; intro K53 hK53
  refine p_mv (v := (.int _ _)) rfl ?_
  refine p_as (v := (.int _ _)) rfl ?_
  refine xk hK53 ?_; try clear hK53 K53
  refine sr ?_; intro K54 hK54
  refine p_as (v := (.int _ _)) rfl ?_
  refine xk hK54 ?_; try clear hK54 K54
  refine wp_seq_k ?_; intro K55 hK55
  refine sr ?_; intro K56 hK56
  refine p_mv (v := (.int _ _)) rfl ?_
  refine p_val (r_lss (t := true) rfl rfl (by decide)) ?_
  refine xk hK56 ?_; try clear hK56 K56
  refine c_true rfl rfl ?_
  refine wp_region_lit ?_
  refine p_mv (v := (.int _ _)) rfl ?_
  refine p_val (r_addrA u108 sz22 (hk21 8 rfl) (k := .i64) (i := 2) rfl rfl (by decide) (by decide)) ?_
  refine p_val (r_load1 (v := (.int _ _)) to22 H rfl (k := 1) rfl rfl) ?_
  refine p_as (v := (.int _ _)) rfl ?_
  refine xk hK55 ?_; try clear hK55 K55
  refine wp_region_lit ?_
  refine p_mv (v := (.int _ _)) rfl ?_
  refine p_mv (v := (.int _ _)) rfl ?_
  refine p_val (r_addrA u108 sz22 eb29 (k := .i64) (i := 2) rfl rfl (by decide) (by decide)) ?_
  refine p_val (r_load1 (v := (.int _ _)) to22 H rfl (k := 0) rfl rfl) ?_
  refine p_mv (v := (.int _ _)) rfl ?_
  refine p_mv (v := (.int _ _)) rfl ?_
  refine p_callv (l := [(.int _ _), (.int _ _), (.int _ _)]) rfl (run_Add64 (by first | exact U_lm _ _ | exact U_sd _ _ _ | exact U_ad _ _ _ | exact U_ml _ _ | assumption | exact U_0 | exact hf' _ | exact hf _) (by first | exact U_lm _ _ | exact U_sd _ _ _ | exact U_ad _ _ _ | exact U_ml _ _ | assumption | exact U_0 | exact hf' _ | exact hf _) (by first | exact C_sb _ _ _ | exact C_ac _ _ _ | exact C1_0 | assumption) _) ?_
  refine p_mv (v := (.tuple _)) rfl ?_
  refine p_val (r_extract (v := (.int _ _)) rfl rfl) ?_
  refine p_val (r_extract (v := (.int _ _)) rfl rfl) ?_
  refine p_val (r_addrA u108 sz22 (hk21 8 rfl) (k := .i64) (i := 2) rfl rfl (by decide) (by decide)) ?_
  refine p_store1 (v := (.int _ _)) to22 H rfl (k := 1) rfl rfl rfl rfl ?_; clear H; intro w57 H
  refine p_as (v := (.int _ _)) rfl ?_
  refine wpList_nil ?_
  refine b_norm ?_
  refine xn hK52 ?_; try clear hK52 K52
  refine wp_region_lit ?_
  refine p_val (r_add (r := 3) rfl rfl rfl) ?_
  refine p_mv (v := (.int _ _)) rfl ?_
  refine wpList_nil ?_
  refine x_norm ?_
  rw [rounds_succ]
  refine sr ?_; intro K58 hK58
  refine p_val (r_lss (t := true) rfl rfl (by decide)) ?_
  refine xk hK58 ?_; try clear hK58 K58
  refine wp_seq_k ?_; intro K59 hK59
  refine c_true rfl rfl ?_
  refine wp_skip ?_
  refine xn hK59 ?_; try clear hK59 K59
  refine wp_seq_k ?_; intro K60 hK60
  refine wp_block ?_
  refine sr ?_; intro K61 hK61
  refine p_mv (v := (.int _ _)) rfl ?_
  refine p_as (v := (.int _ _)) rfl ?_
  refine xk hK61 ?_; try clear hK61 K61
  refine sr ?_; intro K62 hK62
  refine p_as (v := (.int _ _)) rfl ?_
  refine xk hK62 ?_; try clear hK62 K62
  refine wp_seq_k ?_; intro K63 hK63
  refine sr ?_; intro K64 hK64
  refine p_mv (v := (.int _ _)) rfl ?_
  refine p_val (r_lss (t := true) rfl rfl (by decide)) ?_
  refine xk hK64 ?_; try clear hK64 K64
  refine c_true rfl rfl ?_
  refine wp_region_lit ?_
  refine p_mv (v := (.int _ _)) rfl ?_
  refine p_val (r_addrA u108 sz22 (hk21 8 rfl) (k := .i64) (i := 3) rfl rfl (by decide) (by decide)) ?_
  refine p_val (r_load1 (v := (.int _ _)) to22 H rfl (k := 1) rfl rfl) ?_
  refine p_as (v := (.int _ _)) rfl ?_
  refine xk hK63 ?_; try clear hK63 K63
  refine wp_region_lit ?_
  refine p_mv (v := (.int _ _)) rfl ?_
  refine p_mv (v := (.int _ _)) rfl ?_
  refine p_val (r_addrA u108 sz22 eb29 (k := .i64) (i := 3) rfl rfl (by decide) (by decide)) ?_
  refine p_val (r_load1 (v := (.int _ _)) to22 H rfl (k := 0) rfl rfl) ?_
  refine p_mv (v := (.int _ _)) rfl ?_
  refine p_mv (v := (.int _ _)) rfl ?_
  refine p_callv (l := [(.int _ _), (.int _ _), (.int _ _)]) rfl (run_Add64 (by first | exact U_lm _ _ | exact U_sd _ _ _ | exact U_ad _ _ _ | exact U_ml _ _ | assumption | exact U_0 | exact hf' _ | exact hf _) (by first | exact U_lm _ _ | exact U_sd _ _ _ | exact U_ad _ _ _ | exact U_ml _ _ | assumption | exact U_0 | exact hf' _ | exact hf _) (by first | exact C_sb _ _ _ | exact C_ac _ _ _ | exact C1_0 | assumption) _) ?_
  refine p_mv (v := (.tuple _)) rfl ?_
  refine p_val (r_extract (v := (.int _ _)) rfl rfl) ?_
  refine p_val (r_extract (v := (.int _ _)) rfl rfl) ?_
  refine p_val (r_addrA u108 sz22 (hk21 8 rfl) (k := .i64) (i := 3) rfl rfl (by decide) (by decide)) ?_
  refine p_store1 (v := (.int _ _)) to22 H rfl (k := 1) rfl rfl rfl rfl ?_; clear H; intro w65 H
  refine p_as (v := (.int _ _)) rfl ?_
  refine wpList_nil ?_
  refine b_norm ?_
  refine xn hK60 ?_; try clear hK60 K60
  refine wp_region_lit ?_
  refine p_val (r_add (r := 4) rfl rfl rfl) ?_
  refine p_mv (v := (.int _ _)) rfl ?_
  refine wpList_nil ?_
  refine x_norm ?_
  rw [rounds_succ]
  refine sr ?_; intro K66 hK66
  refine p_val (r_lss (t := true) rfl rfl (by decide)) ?_
  refine xk hK66 ?_; try clear hK66 K66
  refine wp_seq_k ?_; intro K67 hK67
  refine c_true rfl rfl ?_
  refine wp_skip ?_
  refine xn hK67 ?_; try clear hK67 K67
  refine wp_seq_k ?_; intro K68 hK68
  refine wp_block ?_
  refine sr ?_; intro K69 hK69
  refine p_mv (v := (.int _ _)) rfl ?_
  refine p_as (v := (.int _ _)) rfl ?_
  refine xk hK69 ?_; try clear hK69 K69
  refine sr ?_; intro K70 hK70
  refine p_as (v := (.int _ _)) rfl ?_
  refine xk hK70 ?_; try clear hK70 K70
  refine wp_seq_k ?_; intro K71 hK71
  refine sr ?_; intro K72 hK72
  refine p_mv (v := (.int _ _)) rfl ?_
  refine p_val (r_lss (t := false) rfl rfl (by decide)) ?_
  refine xk hK72 ?_; try clear hK72 K72
  refine c_false rfl rfl ?_
  refine wp_skip ?_
  refine xn hK71 ?_; try clear hK71 K71
  refine wp_region_lit ?_
  refine p_mv (v := (.int _ _)) rfl ?_
  refine p_mv (v := (.int _ _)) rfl ?_
  refine p_val (r_addrA u108 sz22 eb29 (k := .i64) (i := 4) rfl rfl (by decide) (by decide)) ?_
  refine p_val (r_load1 (v := (.int _ _)) to22 H rfl (k := 0) rfl rfl) ?_
  refine p_mv (v := (.int _ _)) rfl ?_
  refine p_mv (v := (.int _ _)) rfl ?_
  refine p_callv (l := [(.int _ _), (.int _ _), (.int _ _)]) rfl (run_Add64 (by first | exact U_lm _ _ | exact U_sd _ _ _ | exact U_ad _ _ _ | exact U_ml _ _ | assumption | exact U_0 | exact hf' _ | exact hf _) (by first | exact U_lm _ _ | exact U_sd _ _ _ | exact U_ad _ _ _ | exact U_ml _ _ | assumption | exact U_0 | exact hf' _ | exact hf _) (by first | exact C_sb _ _ _ | exact C_ac _ _ _ | exact C1_0 | assumption) _) ?_
  refine p_mv (v := (.tuple _)) rfl ?_
  refine p_val (r_extract (v := (.int _ _)) rfl rfl) ?_
  refine p_val (r_extract (v := (.int _ _)) rfl rfl) ?_
  refine p_val (r_addrA u108 sz22 (hk21 8 rfl) (k := .i64) (i := 4) rfl rfl (by decide) (by decide)) ?_
  refine p_store1 (v := (.int _ _)) to22 H rfl (k := 1) rfl rfl rfl rfl ?_; clear H; intro w73 H
  refine p_as (v := (.int _ _)) rfl ?_
  refine wpList_nil ?_
  refine b_norm ?_
  refine xn hK68 ?_; try clear hK68 K68
  refine wp_region_lit ?_
  refine p_val (r_add (r := 5) rfl rfl rfl) ?_
  refine p_mv (v := (.int _ _)) rfl ?_
  refine wpList_nil ?_
  refine x_norm ?_
  rw [rounds_succ]
  refine sr ?_; intro K74 hK74
  refine p_val (r_lss (t := true) rfl rfl (by decide)) ?_
  refine xk hK74 ?_; try clear hK74 K74
  refine wp_seq_k ?_; intro K75 hK75
  refine c_true rfl rfl ?_
  refine wp_skip ?_
  refine xn hK75 ?_; try clear hK75 K75
  refine wp_seq_k ?_; intro K76 hK76
  refine wp_block ?_
  refine sr ?_; intro K77 hK77
  refine p_mv (v := (.int _ _)) rfl ?_
  refine p_as (v := (.int _ _)) rfl ?_
  refine xk hK77 ?_; try clear hK77 K77
  refine sr ?_; intro K78 hK78
  refine p_as (v := (.int _ _)) rfl ?_
  refine xk hK78 ?_; try clear hK78 K78
  refine wp_seq_k ?_; intro K79 hK79
  refine sr ?_; intro K80 hK80
  refine p_mv (v := (.int _ _)) rfl ?_
  refine p_val (r_lss (t := false) rfl rfl (by decide)) ?_
  refine xk hK80 ?_; try clear hK80 K80
  refine c_false rfl rfl ?_
  refine wp_skip ?_
  refine xn hK79 ?_; try clear hK79 K79
  refine wp_region_lit ?_
  refine p_mv (v := (.int _ _)) rfl ?_
  refine p_mv (v := (.int _ _)) rfl ?_
  refine p_val (r_addrA u108 sz22 eb29 (k := .i64) (i := 5) rfl rfl (by decide) (by decide)) ?_
  refine p_val (r_load1 (v := (.int _ _)) to22 H rfl (k := 0) rfl rfl) ?_
  refine p_mv (v := (.int _ _)) rfl ?_
  refine p_mv (v := (.int _ _)) rfl ?_
  refine p_callv (l := [(.int _ _), (.int _ _), (.int _ _)]) rfl (run_Add64 (by first | exact U_lm _ _ | exact U_sd _ _ _ | exact U_ad _ _ _ | exact U_ml _ _ | assumption | exact U_0 | exact hf' _ | exact hf _) (by first | exact U_lm _ _ | exact U_sd _ _ _ | exact U_ad _ _ _ | exact U_ml _ _ | assumption | exact U_0 | exact hf' _ | exact hf _) (by first | exact C_sb _ _ _ | exact C_ac _ _ _ | exact C1_0 | assumption) _) ?_
  refine p_mv (v := (.tuple _)) rfl ?_
  refine p_val (r_extract (v := (.int _ _)) rfl rfl) ?_
  refine p_val (r_extract (v := (.int _ _)) rfl rfl) ?_
  refine p_val (r_addrA u108 sz22 (hk21 8 rfl) (k := .i64) (i := 5) rfl rfl (by decide) (by decide)) ?_
  refine p_store1 (v := (.int _ _)) to22 H rfl (k := 1) rfl rfl rfl rfl ?_; clear H; intro w81 H
  refine p_as (v := (.int _ _)) rfl ?_
  refine wpList_nil ?_
  refine b_norm ?_
  refine xn hK76 ?_; try clear hK76 K76
  refine wp_region_lit ?_
  refine p_val (r_add (r := 6) rfl rfl rfl) ?_
  refine p_mv (v := (.int _ _)) rfl ?_
  refine wpList_nil ?_
  refine x_norm ?_
  rw [rounds_succ]
  refine sr ?_; intro K82 hK82
  refine p_val (r_lss (t := true) rfl rfl (by decide)) ?_
  refine xk hK82 ?_; try clear hK82 K82
  refine wp_seq_k ?_; intro K83 hK83
  refine c_true rfl rfl ?_
  refine wp_skip ?_
  refine xn hK83 ?_; try clear hK83 K83
  refine wp_seq_k ?_; intro K84 hK84
  refine wp_block ?_
  refine sr ?_; intro K85 hK85
  refine p_mv (v := (.int _ _)) rfl ?_
  refine p_as (v := (.int _ _)) rfl ?_
  refine xk hK85 ?_; try clear hK85 K85
  refine sr ?_; intro K86 hK86
  refine p_as (v := (.int _ _)) rfl ?_
  refine xk hK86 ?_; try clear hK86 K86
  refine wp_seq_k ?_; intro K87 hK87
  refine sr ?_; intro K88 hK88
  refine p_mv (v := (.int _ _)) rfl ?_
  refine p_val (r_lss (t := false) rfl rfl (by decide)) ?_
  refine xk hK88 ?_; try clear hK88 K88
  refine c_false rfl rfl ?_
  refine wp_skip ?_
  refine xn hK87 ?_; try clear hK87 K87
  refine wp_region_lit ?_
  refine p_mv (v := (.int _ _)) rfl ?_
  refine p_mv (v := (.int _ _)) rfl ?_
  refine p_val (r_addrA u108 sz22 eb29 (k := .i64) (i := 6) rfl rfl (by decide) (by decide)) ?_
  refine p_val (r_load1 (v := (.int _ _)) to22 H rfl (k := 0) rfl rfl) ?_
  refine p_mv (v := (.int _ _)) rfl ?_
  refine p_mv (v := (.int _ _)) rfl ?_
  refine p_callv (l := [(.int _ _), (.int _ _), (.int _ _)]) rfl (run_Add64 (by first | exact U_lm _ _ | exact U_sd _ _ _ | exact U_ad _ _ _ | exact U_ml _ _ | assumption | exact U_0 | exact hf' _ | exact hf _) (by first | exact U_lm _ _ | exact U_sd _ _ _ | exact U_ad _ _ _ | exact U_ml _ _ | assumption | exact U_0 | exact hf' _ | exact hf _) (by first | exact C_sb _ _ _ | exact C_ac _ _ _ | exact C1_0 | assumption) _) ?_
  refine p_mv (v := (.tuple _)) rfl ?_
  refine p_val (r_extract (v := (.int _ _)) rfl rfl) ?_
  refine p_val (r_extract (v := (.int _ _)) rfl rfl) ?_
  refine p_val (r_addrA u108 sz22 (hk21 8 rfl) (k := .i64) (i := 6) rfl rfl (by decide) (by decide)) ?_
  refine p_store1 (v := (.int _ _)) to22 H rfl (k := 1) rfl rfl rfl rfl ?_; clear H; intro w89 H
  refine p_as (v := (.int _ _)) rfl ?_
  refine wpList_nil ?_
  refine b_norm ?_
  refine xn hK84 ?_; try clear hK84 K84
  refine wp_region_lit ?_
  refine p_val (r_add (r := 7) rfl rfl rfl) ?_
  refine p_mv (v := (.int _ _)) rfl ?_
  refine wpList_nil ?_
  refine x_norm ?_
  rw [rounds_succ]
  refine sr ?_; intro K90 hK90
  refine p_val (r_lss (t := true) rfl rfl (by decide)) ?_
  refine xk hK90 ?_; try clear hK90 K90
  refine wp_seq_k ?_; intro K91 hK91
  refine c_true rfl rfl ?_
  refine wp_skip ?_
  refine xn hK91 ?_; try clear hK91 K91
  refine wp_seq_k ?_; intro K92 hK92
  refine wp_block ?_
  refine sr ?_; intro K93 hK93
  refine p_mv (v := (.int _ _)) rfl ?_
  refine p_as (v := (.int _ _)) rfl ?_
  refine xk hK93 ?_; try clear hK93 K93
  refine sr ?_; intro K94 hK94
  refine p_as (v := (.int _ _)) rfl ?_
  refine xk hK94 ?_; try clear hK94 K94
  refine wp_seq_k ?_; intro K95 hK95
  refine sr ?_; intro K96 hK96
  refine p_mv (v := (.int _ _)) rfl ?_
  refine p_val (r_lss (t := false) rfl rfl (by decide)) ?_
  refine xk hK96 ?_; try clear hK96 K96
  refine c_false rfl rfl ?_
  refine wp_skip ?_
  refine xn hK95 ?_; try clear hK95 K95
  refine wp_region_lit ?_
  refine p_mv (v := (.int _ _)) rfl ?_
  refine p_mv (v := (.int _ _)) rfl ?_
  refine p_val (r_addrA u108 sz22 eb29 (k := .i64) (i := 7) rfl rfl (by decide) (by decide)) ?_
  refine p_val (r_load1 (v := (.int _ _)) to22 H rfl (k := 0) rfl rfl) ?_
  refine p_mv (v := (.int _ _)) rfl ?_
  refine p_mv (v := (.int _ _)) rfl ?_
  refine p_callv (l := [(.int _ _), (.int _ _), (.int _ _)]) rfl (run_Add64 (by first | exact U_lm _ _ | exact U_sd _ _ _ | exact U_ad _ _ _ | exact U_ml _ _ | assumption | exact U_0 | exact hf' _ | exact hf _) (by first | exact U_lm _ _ | exact U_sd _ _ _ | exact U_ad _ _ _ | exact U_ml _ _ | assumption | exact U_0 | exact hf' _ | exact hf _) (by first | exact C_sb _ _ _ | exact C_ac _ _ _ | exact C1_0 | assumption) _) ?_
  refine p_mv (v := (.tuple _)) rfl ?_
  refine p_val (r_extract (v := (.int _ _)) rfl rfl) ?_
  refine p_val (r_extract (v := (.int _ _)) rfl rfl) ?_
  refine p_val (r_addrA u108 sz22 (hk21 8 rfl) (k := .i64) (i := 7) rfl rfl (by decide) (by decide)) ?_
  refine p_store1 (v := (.int _ _)) to22 H rfl (k := 1) rfl rfl rfl rfl ?_; clear H; intro w97 H
  refine p_as (v := (.int _ _)) rfl ?_
  refine wpList_nil ?_
  refine b_norm ?_
  refine xn hK92 ?_; try clear hK92 K92
  refine wp_region_lit ?_
  refine p_val (r_add (r := 8) rfl rfl rfl) ?_
  refine p_mv (v := (.int _ _)) rfl ?_
  refine wpList_nil ?_
  refine x_norm ?_
  rw [rounds_succ]
  refine sr ?_; intro K98 hK98
  refine p_val (r_lss (t := false) rfl rfl (by decide)) ?_
  refine xk hK98 ?_; try clear hK98 K98
  refine wp_seq_k ?_; intro K99 hK99
  refine c_false rfl rfl ?_
  refine wp_exit ?_
  refine x_exit ?_
  refine x_exit ?_
  refine b_hit ?_
  refine b_norm ?_
  refine x_norm ?_
  have hlt := fold_lt hp hX2
  replace H := H.tail
  exact ⟨_, _, (by omega), rfl, (by repeat (first | exact hk21 | refine keep_cons rfl ?_)), X / two256 * (two256 - modN m) + X % two256, rfl, (HP.recast H (k := 0) rfl (add8_fin (X / two256 * (two256 - modN m)) X (by omega) (by omega))), by omega, by rw [fold_mod hp, hv]⟩
 ·skip
  have hX2 := of_decide_eq_false hc_3
  have hX3 : X < two256 := by omega
  refine wp_exit ?_
  refine x_exit ?_
  refine x_exit ?_
  refine b_hit ?_
  refine xn hK18 ?_; try clear hK18 K18
  refine sr ?_; intro K100 hK100
  refine p_val (r_addrA u108 sz22 (hk21 8 rfl) (k := .i64) (i := 0) rfl rfl (by decide) (by decide)) ?_
  refine p_val (r_load1 (v := (.int _ _)) to22 H rfl (k := 0) rfl rfl) ?_
  refine p_val (r_addrA u108 sz22 (hk21 8 rfl) (k := .i64) (i := 1) rfl rfl (by decide) (by decide)) ?_
  refine p_val (r_load1 (v := (.int _ _)) to22 H rfl (k := 0) rfl rfl) ?_
  refine p_val (r_addrA u108 sz22 (hk21 8 rfl) (k := .i64) (i := 2) rfl rfl (by decide) (by decide)) ?_
  refine p_val (r_load1 (v := (.int _ _)) to22 H rfl (k := 0) rfl rfl) ?_
  refine p_val (r_addrA u108 sz22 (hk21 8 rfl) (k := .i64) (i := 3) rfl rfl (by decide) (by decide)) ?_
  refine p_val (r_load1 (v := (.int _ _)) to22 H rfl (k := 0) rfl rfl) ?_
  refine p_val (r_as (l' := numL X) (r_build (vals := [(0, (.int _ _)), (1, (.int _ _)), (2, (.int _ _)), (3, (.int _ _))]) (l := [_, _, _, _]) tb24 rfl rfl) (numL_lo X)) ?_
  refine p_val (r_loadW tg24 H (hk21 7 rfl) (k := 1) rfl rfl) ?_
  refine p_call (l := [(.agg (List.toArray _)), (.agg (List.toArray _))]) is34 rfl ?_
  refine (below_c _ _ (by first | exact Nat.mod_lt _ two256_pos | exact Mod.lt (mod_modN _) | assumption | exact onceN_lt (by assumption) | exact Nat.lt_trans (Nat.mod_lt _ (mod_modN _).pos) (mod_modN _).lt | exact ofV_lt2 _ _ | exact invV_lt2 _ _ | exact fm_lt2 _ _ | exact fa_lt2 _ _ | exact fs_lt2 _ _ | exact fn_lt2 _ | exact PP_lt | exact AL_GG.1 | exact AL_GG.2 | exact (AL_cadd _ _).1 | exact (AL_cadd _ _).2 | exact (AL_cmul _ _).1 | exact (AL_cmul _ _).2 | exact (AL_cofV _).1 | exact (AL_cofV _).2 | exact (AL_cneg (by assumption)).1 | exact (AL_cneg (by assumption)).2 | exact lt_lit (by decide)) (by first | assumption | exact mod_modN _) _).mono ?_; rintro _ w101 ⟨rfl, hx⟩; replace H := H.ext hx; clear hx
  refine p_storeW tg24 H (hk21 6 rfl) (k := 2) rfl rfl rfl rfl rfl ?_; clear H; intro w102 H
  refine xk hK100 ?_; try clear hK100 K100
  refine wp_ret ?_
  refine e_1 rfl (q_cellW tg24 H (hk21 6 rfl) (k := 2) rfl rfl) ?_
  exact ⟨by rw [hv], H.below⟩

end Go.Proofs.Ytmbcolbbekbccaa
