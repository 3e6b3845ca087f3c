/- The walks of some functions. Conditions: as each theorem says. -/
import Derived.Test.YtmbcolbbekbccaaFldC
namespace Go.Proofs.Ytmbcolbbekbccaa
open Go Go.RowKit
attribute [local irreducible] wpList wpT Code.wp Calls Code.rounds lm sd sb ad ac modN bval be
theorem u67 : Try.prog.underlying 67 = some (.slice 5) := by kernel_rfl
theorem is35 : IsFn Try.prog 35 := isFn Try.func35 (by kernel_rfl) (by kernel_rfl)
theorem is71 : IsFn Try.prog 71 := isFn Try.func71 (by kernel_rfl) (by kernel_rfl)
theorem ts67 : TSl Try.prog 67 5 (.int .u8 0) 1 := tslMk (by kernel_rfl) (by kernel_rfl) rfl

set_option maxRecDepth 4000 in
theorem word_c (A N p : Nat) (hp : Mod p) (h2 : 2 < p) (hA : A < p) (hN : N < 18446744073709551616) (w : World) :
    Calls Try.prog 71 #[numV A, .int .u64 (N : Int), numV p] w fun e w' => e = .returned (numV ((A * 2 ^ 64 + N) % p)) ∧ Ext w w' := by
 refine enter (n := 25) Try.func71 rfl rfl rfl ?_
 have H := HP.start w
 refine sr ?_; intro K1 hK1
 refine p_box (l := numL A) H rfl ?_; clear H; intro w2 b3 H
 refine p_box (l := numL p) H rfl ?_; clear H; intro w4 b5 H
 refine p_alloc (l := [.int .u64 0, .int .u64 0, .int .u64 0, .int .u64 0]) H tz24 rfl ?_; clear H; intro w7 b6 H
 refine xk hK1 ?_; try clear hK1 K1
 refine wp_seq_k ?_; intro K8 hK8
 refine sr ?_; intro K9 hK9
 replace H := HP.recast H (k := 2) (cs' := numL ((A * 2 ^ (64 - 64) + N / 2 ^ 64) % p)) rfl (congrArg numL (word_0 hA hN).symm)
 refine p_as (v := (.int _ _)) rfl ?_
 refine xk hK9 ?_; try clear hK9 K9
 refine wp_block ?_
 refine loopF [7, 8, 9, 10, 11, 12, 13, 14, 15, 16, 17, 18, 19, 20, 21, 22, 23] (fun γ μ w' => ∃ (k : Nat), k = γ ∧ look μ 7 = .int .i64 ((k : Int) - 1) ∧ HP w w' [(b6, [.int .u64 0, .int .u64 0, .int .u64 0, .int .u64 0], 24), (b5, numL p, 24), (b3, numL ((A * 2 ^ (64 - k) + N / 2 ^ k) % p), 24)] ∧ (k ≤ 64)) (64) ⟨64, rfl, rfl, H, Nat.le_refl _⟩ ?_
 clear H
 intro g13 m10 w11 hk12 hI; obtain ⟨k, rfl, hl14, H, hk⟩ := hI
 refine wp_seq_k ?_; intro K15 hK15
 refine sr ?_; intro K16 hK16
 refine p_mv (v := (.int _ _)) hl14 ?_
 refine p_val (r_geq rfl rfl rfl) ?_
 refine xk hK16 ?_; try clear hK16 K16
 refine c_split (t := _) rfl (fun hc_2 => ?_) (fun hc_2 => ?_)
 ·skip
  have hk0 : 0 < k := by have := of_decide_eq_true hc_2; omega
  have hX := Nat.mod_lt (A * 2 ^ (64 - k) + N / 2 ^ k) hp.pos
  have hXX := Nat.mod_lt ((A * 2 ^ (64 - k) + N / 2 ^ k) % p + (A * 2 ^ (64 - k) + N / 2 ^ k) % p) hp.pos
  have hb : N / 2 ^ (k - 1) % 2 < p := Nat.lt_trans (Nat.mod_lt _ (by decide)) h2
  refine wp_skip ?_
  refine xn hK15 ?_; try clear hK15 K15
  refine wp_seq_k ?_; intro K18 hK18
  refine wp_block ?_
  refine sr ?_; intro K19 hK19
  refine p_val (r_loadW tg24 H (hk12 3 rfl) (k := 2) rfl rfl) ?_
  refine p_val (r_loadW tg24 H (hk12 3 rfl) (k := 2) rfl rfl) ?_
  refine p_val (r_loadW tg24 H (hk12 5 rfl) (k := 1) rfl rfl) ?_
  refine p_call (l := [(.agg (List.toArray _)), (.agg (List.toArray _)), (.agg (List.toArray _))]) is49 rfl ?_
  refine (sum_c _ _ _ hp (by assumption) (by assumption) _).mono ?_; rintro _ w20 ⟨rfl, hx⟩; replace H := H.ext hx; clear hx
  refine p_storeW tg24 H (hk12 3 rfl) (k := 2) rfl rfl rfl rfl rfl ?_; clear H; intro w21 H
  refine xk hK19 ?_; try clear hK19 K19
  apply wp_region_ext 8 (kinds [(7, .inl _)]) rfl rfl (by kernel_rfl); intro vs23
  simp only [List.take_succ_cons, List.take_zero, List.drop_succ_cons, List.drop_zero]
  replace H := H.drew
  refine t_v (fun w hx => r_loadW tg24 (H.ext hx) (hk12 3 rfl) (k := 2) rfl rfl) ?_
  refine t_v (fun w hx => r_move (v := (.int .u64 (N : Int))) (hk12 1 rfl)) ?_
  refine t_v (fun w hx => r_move (v := (.int _ _)) hl14) ?_
  refine t_v (fun w hx => r_shr (r := ((N / 2 ^ (k - 1) : Nat) : Int)) rfl rfl (by omega) (word_bit N k hk0 hk)) ?_
  refine t_v (fun w hx => r_bits (bo := .and) (by simp) (r := ((N / 2 ^ (k - 1) % 2 : Nat) : Int)) rfl rfl (and64_1 (Nat.lt_of_le_of_lt (Nat.div_le_self _ _) hN))) ?_
  refine t_v (fun w hx => r_as (l' := numL (N / 2 ^ (k - 1) % 2)) (r_build (vals := [(0, (.int _ _))]) (l := [_, _, _, _]) tb24 rfl rfl) (num_lit (N / 2 ^ (k - 1) % 2) (Nat.lt_trans (Nat.mod_lt _ (by decide)) (by decide)))) ?_
  refine t_v (fun w hx => r_loadW tg24 (H.ext hx) (hk12 5 rfl) (k := 1) rfl rfl) ?_
  refine t_call (l := [(.agg (List.toArray _)), (.agg (List.toArray _)), (.agg (List.toArray _))]) rfl rfl is49 rfl (fun w hx hF => (sum_c _ _ _ hp (by assumption) (by assumption) _).mono (fun _ _ ⟨he, hx⟩ => ⟨he, hx⟩)) ?_
  refine t_nil (fun w24 hx hF hA => ?_)
  replace H := H.ext hx
  clear hx hF hA
  refine p_storeW tg24 H (hk12 3 rfl) (k := 2) rfl rfl rfl rfl rfl ?_; clear H; intro w25 H
  refine wpList_nil ?_; refine on_norm ?_
  refine b_norm ?_
  refine xn hK18 ?_; try clear hK18 K18
  refine wp_region_lit ?_
  refine p_mv (v := (.int _ _)) hl14 ?_
  refine p_val (r_sub rfl rfl (wr64 (by omega) (by omega))) ?_
  refine p_as (v := (.int _ _)) rfl ?_
  refine wpList_nil ?_
  refine x_norm ?_
  exact ⟨_, _, (by omega), rfl, (by repeat (first | exact hk12 | refine keep_cons rfl ?_)), k - 1, rfl, congrArg (Value.int .i64) (by omega), (HP.recast H (k := 2) rfl (congrArg numL (word_step hk0 hk))), by omega⟩
 ·skip
  have hk0 : k = 0 := by have := of_decide_eq_false hc_2; omega
  refine wp_exit ?_
  refine x_exit ?_
  refine x_exit ?_
  refine b_hit ?_
  refine xn hK8 ?_; try clear hK8 K8
  refine sr ?_; intro K26 hK26
  refine p_val (r_loadW tg24 H (hk12 3 rfl) (k := 2) rfl rfl) ?_
  refine p_storeW tg24 H (hk12 6 rfl) (k := 0) rfl rfl rfl rfl rfl ?_; clear H; intro w27 H
  refine xk hK26 ?_; try clear hK26 K26
  refine wp_ret ?_
  refine e_1 rfl (q_cellW tg24 H (hk12 6 rfl) (k := 0) rfl rfl) ?_
  subst hk0
  exact ⟨by rw [Nat.pow_zero, Nat.div_one, Nat.sub_zero], H.below⟩

set_option maxRecDepth 4000 in
theorem reduce_c (m : Int) (l : List UInt8) (hl : l.length < 4611686018427387904) (w : World) :
    Calls Try.prog 42 #[.int .i64 m, str l] w fun e w' => e = .returned (numV (bval l % modN m)) ∧ Ext w w' := by
 refine enter (n := 26) Try.func42 rfl rfl rfl ?_
 have H := HP.start w
 have hp := mod_modN m
 have h2 := two_lt_modN m
 refine sr ?_; intro K1 hK1
 refine p_alloc (l := [.int .u64 0, .int .u64 0, .int .u64 0, .int .u64 0]) H tz24 rfl ?_; clear H; intro w3 b2 H
 refine xk hK1 ?_; try clear hK1 K1
 refine sr ?_; intro K4 hK4
 refine p_mv (v := (.int _ _)) rfl ?_
 refine p_call (l := [(.int _ _)]) is26 rfl ?_
 refine (modulus_c _ _).mono ?_; rintro _ w5 ⟨rfl, hx⟩; replace H := H.ext hx; clear hx
 refine p_alloc (l := [.int .u64 0, .int .u64 0, .int .u64 0, .int .u64 0]) H tz24 rfl ?_; clear H; intro w7 b6 H
 refine p_storeW tg24 H rfl (k := 0) rfl rfl rfl rfl rfl ?_; clear H; intro w8 H
 refine xk hK4 ?_; try clear hK4 K4
 refine sr ?_; intro K9 hK9
 refine p_alloc (l := [.int .u64 0, .int .u64 0, .int .u64 0, .int .u64 0]) H tz24 rfl ?_; clear H; intro w11 b10 H
 refine xk hK9 ?_; try clear hK9 K9
 refine wp_seq_k ?_; intro K12 hK12
 refine wp_block ?_
 replace H := HP.recast H (k := 0) rfl num_0
 refine loopF [1, 9, 10, 11, 12, 13, 14] (fun γ μ w' => ∃ (j : Nat), (8 - (l.length + j) % 8) % 8 = γ ∧ look μ 1 = str (List.replicate j 0 ++ l) ∧ HP w w' [(b10, numL 0, 24), (b6, numL (modN m), 24), (b2, [.int .u64 0, .int .u64 0, .int .u64 0, .int .u64 0], 24)] ∧ (j + (8 - (l.length + j) % 8) % 8 ≤ 7)) ((8 - (l.length + 0) % 8) % 8) ⟨0, rfl, rfl, H, by omega⟩ ?_
 clear H
 intro g16 m13 w14 hk15 hI; obtain ⟨j, rfl, hl17, H, hj⟩ := hI
 refine wp_seq_k ?_; intro K18 hK18
 refine sr ?_; intro K19 hK19
 refine p_mv (v := _) hl17 ?_
 refine p_val (r_lenT (N := (l.length + j)) u9 rfl (by simp; omega)) ?_
 refine p_val (r_rem (r := (((l.length + j) % 8 : Nat) : Int)) rfl rfl (by decide) (rem8 _)) ?_
 refine p_val (r_neq rfl rfl rfl) ?_
 refine xk hK19 ?_; try clear hK19 K19
 refine c_split (t := _) rfl (fun hc_3 => ?_) (fun hc_3 => ?_)
 ·skip
  have h8 : (l.length + j) % 8 ≠ 0 := by have := hc_3; simp at this; omega
  refine wp_skip ?_
  refine xn hK18 ?_; try clear hK18 K18
  refine wp_block ?_
  refine wp_region_lit ?_
  refine p_mv (v := _) hl17 ?_
  refine p_val (r_cat (r := List.replicate (j + 1) 0 ++ l) rfl rfl (by simp; omega) (red_cons _ _)) ?_
  refine p_as (v := (str _)) rfl ?_
  refine wpList_nil ?_
  refine b_norm ?_
  refine x_norm ?_
  exact ⟨_, _, (by omega), rfl, (by repeat (first | exact hk15 | refine keep_cons rfl ?_)), j + 1, rfl, rfl, H, by omega⟩
 ·skip
  have h8 : (l.length + j) % 8 = 0 := by have := hc_3; simp at this; omega
  have hsl : (List.replicate j 0 ++ l : List UInt8).length = l.length + j := by simp; omega
  refine wp_exit ?_
  refine x_exit ?_
  refine x_exit ?_
  refine b_hit ?_
  refine xn hK12 ?_; try clear hK12 K12
  refine wp_seq_k ?_; intro K21 hK21
  refine wp_block ?_
  replace H := HP.recast H (k := 0) (cs' := numL (bval ((List.replicate j 0 ++ l : List UInt8).take (8 * 0)) % modN m)) rfl (congrArg numL (by rw [Nat.mul_zero, List.take_zero, bval_nil, Nat.zero_mod]))
  refine loopF [1, 15, 16, 17, 18, 19, 20, 21, 22, 23, 24] (fun γ μ w' => ∃ (n : Nat), (List.replicate j 0 ++ l : List UInt8).length - 8 * n = γ ∧ look μ 1 = str ((List.replicate j 0 ++ l : List UInt8).drop (8 * n)) ∧ HP w w' [(b10, numL (bval ((List.replicate j 0 ++ l : List UInt8).take (8 * n)) % modN m), 24), (b6, numL (modN m), 24), (b2, [.int .u64 0, .int .u64 0, .int .u64 0, .int .u64 0], 24)] ∧ (8 * n ≤ (List.replicate j 0 ++ l : List UInt8).length)) ((List.replicate j 0 ++ l : List UInt8).length - 8 * 0) ⟨0, rfl, hl17, H, Nat.zero_le _⟩ ?_
  clear H
  intro g25 m22 w23 hk24 hI; obtain ⟨n, rfl, hl26, H, hn⟩ := hI
  refine wp_seq_k ?_; intro K27 hK27
  refine sr ?_; intro K28 hK28
  refine p_mv (v := _) hl26 ?_
  refine p_val (r_neT rfl rfl rfl) ?_
  refine xk hK28 ?_; try clear hK28 K28
  refine c_split (t := _) rfl (fun hc_5 => ?_) (fun hc_5 => ?_)
  ·skip
   have hn8 := red_t (q := (l.length + j) / 8) (by omega) hc_5
   refine wp_skip ?_
   refine xn hK27 ?_; try clear hK27 K27
   refine wp_seq_k ?_; intro K30 hK30
   refine wp_block ?_
   apply wp_region_ext 6 (kinds [(3, .inl _), (5, .inl _)]) rfl rfl (by kernel_rfl); intro vs32
   simp only [List.take_succ_cons, List.take_zero, List.drop_succ_cons, List.drop_zero]
   replace H := H.drew
   refine t_v (fun w hx => r_loadW tg24 (H.ext hx) ((hk24 6 rfl).trans (hk15 6 rfl)) (k := 0) rfl rfl) ?_
   refine t_v (fun w hx => r_move (v := _) hl26) ?_
   refine t_v (fun w hx => r_sliceTH (h := 8) (r := _) u9 rfl rfl (rfl) (by rw [List.length_drop]; omega) (rfl)) ?_
   refine t_call (l := [(str _)]) rfl rfl is63 rfl (fun w hx hF => (value_c _ (by first | (simp; done) | (simp; omega)) _).mono (fun _ _ ⟨he, hx⟩ => ⟨he, hx⟩)) ?_
   refine t_v (fun w hx => r_loadW tg24 (H.ext hx) ((hk24 5 rfl).trans (hk15 5 rfl)) (k := 1) rfl rfl) ?_
   refine t_call (l := [(.agg (List.toArray _)), (.int _ _), (.agg (List.toArray _))]) rfl rfl is71 rfl (fun w hx hF => (word_c _ _ _ hp h2 (Nat.mod_lt _ hp.pos) (bval_lt8 (by rw [List.length_take]; omega)) _).mono (fun _ _ ⟨he, hx⟩ => ⟨he, hx⟩)) ?_
   refine t_nil (fun w33 hx hF hA => ?_)
   replace H := H.ext hx
   clear hx hF hA
   refine p_storeW tg24 H ((hk24 6 rfl).trans (hk15 6 rfl)) (k := 0) rfl rfl rfl rfl rfl ?_; clear H; intro w34 H
   refine wpList_nil ?_; refine on_norm ?_
   refine b_norm ?_
   refine xn hK30 ?_; try clear hK30 K30
   refine wp_region_lit ?_
   refine p_mv (v := _) hl26 ?_
   refine p_val (r_sliceTL (p := 8) (r := (List.replicate j 0 ++ l : List UInt8).drop (8 * (n + 1))) u9 rfl rfl (rfl) (by rw [List.length_drop]; omega) (by simp [List.drop_drop, Nat.mul_add])) ?_
   refine p_as (v := (str _)) rfl ?_
   refine wpList_nil ?_
   refine x_norm ?_
   exact ⟨_, _, (by omega), rfl, (by repeat (first | exact hk24 | refine keep_cons rfl ?_)), n + 1, rfl, rfl, (HP.recast H (k := 0) rfl (congrArg numL (red_step hn8))), by omega⟩
  ·skip
   refine wp_exit ?_
   refine x_exit ?_
   refine x_exit ?_
   refine b_hit ?_
   refine xn hK21 ?_; try clear hK21 K21
   refine sr ?_; intro K35 hK35
   refine p_val (r_loadW tg24 H ((hk24 6 rfl).trans (hk15 6 rfl)) (k := 0) rfl rfl) ?_
   refine p_storeW tg24 H ((hk24 4 rfl).trans (hk15 4 rfl)) (k := 2) rfl rfl rfl rfl rfl ?_; clear H; intro w36 H
   refine xk hK35 ?_; try clear hK35 K35
   refine wp_ret ?_
   refine e_1 rfl (q_cellW tg24 H ((hk24 4 rfl).trans (hk15 4 rfl)) (k := 2) rfl rfl) ?_
   exact ⟨by rw [red_f hc_5, bval_zeros], H.below⟩

set_option maxRecDepth 4000 in
theorem big_c (w0 : World) (L : List Ent) (b : Nat) (X : List UInt8) (rs : List Value) (x : Int) (hx : U x) (hX : X.length ≤ 1000) (w : World) (H : HP w0 w ((b, u8s (X) ++ rs, 5) :: L)) :
    Calls Try.prog 35 #[sl b 0 (u8s (X)).length (u8s (X) ++ rs).length, .int .u64 x, .int .i64 8] w fun e w' => ∃ b' rs', e = .returned (sl b' 0 (u8s (X ++ be 8 x.toNat)).length (u8s (X ++ be 8 x.toNat) ++ rs').length) ∧ HP w0 w' ((b', u8s (X ++ be 8 x.toNat) ++ rs', 5) :: L) := by
 refine enter (n := 23) Try.func35 rfl rfl rfl ?_
 refine sr ?_; intro K1 hK1
 refine p_as (v := (.slice none 0 0)) rfl ?_
 refine xk hK1 ?_; try clear hK1 K1
 refine wp_seq_k ?_; intro K2 hK2
 refine sr ?_; intro K3 hK3
 refine p_mv (v := (.int _ _)) rfl ?_
 refine p_val (r_sub (r := 7) rfl rfl rfl) ?_
 refine p_as (v := (.int _ _)) rfl ?_
 refine xk hK3 ?_; try clear hK3 K3
 refine wp_block ?_
 refine wp_loop_rounds 9 ?_; rw [rounds_succ]
 refine wp_seq_k ?_; intro K4 hK4
 refine sr ?_; intro K5 hK5
 refine p_mv (v := (.int _ _)) rfl ?_
 refine p_val (r_geq (t := true) rfl rfl (by decide)) ?_
 refine xk hK5 ?_; try clear hK5 K5
 refine c_true rfl rfl ?_
 refine wp_skip ?_
 refine xn hK4 ?_; try clear hK4 K4
 refine wp_seq_k ?_; intro K6 hK6
 refine wp_block ?_
 refine wp_region_lit ?_
 refine p_mv (v := (.slice _ _ _)) rfl ?_
 refine p_mv (v := (.int .u64 x)) rfl ?_
 refine p_mv (v := (.int _ _)) rfl ?_
 refine p_val (r_mul (r := 56) rfl rfl rfl) ?_
 refine p_val (r_shr (r := ((x.toNat / 2 ^ 56 : Nat) : Int)) rfl rfl (by decide) (bshr hx 56 (by decide))) ?_
 refine p_val (r_conv (r := ((UInt8.ofNat (x.toNat / 2 ^ 56)).toNat : Int)) u22 u5 rfl (to8 _)) ?_
 refine p_bslice (N := 1) (vals := [(0, (.int _ _))]) (l := [_]) (ys := [_]) ts67 H rfl rfl rfl rfl (rfl) ?_; clear H; intro w7 bs_4_6 H
 refine p_append (ys := u8s (X ++ [UInt8.ofNat (x.toNat / 2 ^ 56)])) (xs := u8s (X)) (rs := rs) ts67 H rfl (k := 1) rfl rfl rfl rfl (Rd.ownA H (k := 0) (xs := [_]) (rs := []) rfl rfl rfl) (onesI) (u8s_snoc _ _) (by simp only [u8s_length, List.length_append, List.length_cons, List.length_nil]; omega) ?_; clear H; intro w8 bb_4_7 rs_4_7 H
 refine p_as (v := (.slice _ _ _)) rfl ?_
 refine wpList_nil ?_
 refine b_norm ?_
 refine xn hK6 ?_; try clear hK6 K6
 refine wp_region_lit ?_
 refine p_mv (v := (.int _ _)) rfl ?_
 refine p_val (r_sub (r := 6) rfl rfl rfl) ?_
 refine p_as (v := (.int _ _)) rfl ?_
 refine wpList_nil ?_
 refine x_norm ?_
 rw [rounds_succ]
 refine wp_seq_k ?_; intro K9 hK9
 refine sr ?_; intro K10 hK10
 refine p_mv (v := (.int _ _)) rfl ?_
 refine p_val (r_geq (t := true) rfl rfl (by decide)) ?_
 refine xk hK10 ?_; try clear hK10 K10
 refine c_true rfl rfl ?_
 refine wp_skip ?_
 refine xn hK9 ?_; try clear hK9 K9
 refine wp_seq_k ?_; intro K11 hK11
 refine wp_block ?_
 refine wp_region_lit ?_
 refine p_mv (v := (.slice _ _ _)) rfl ?_
 refine p_mv (v := (.int .u64 x)) rfl ?_
 refine p_mv (v := (.int _ _)) rfl ?_
 refine p_val (r_mul (r := 48) rfl rfl rfl) ?_
 refine p_val (r_shr (r := ((x.toNat / 2 ^ 48 : Nat) : Int)) rfl rfl (by decide) (bshr hx 48 (by decide))) ?_
 refine p_val (r_conv (r := ((UInt8.ofNat (x.toNat / 2 ^ 48)).toNat : Int)) u22 u5 rfl (to8 _)) ?_
 refine p_bslice (N := 1) (vals := [(0, (.int _ _))]) (l := [_]) (ys := [_]) ts67 H rfl rfl rfl rfl (rfl) ?_; clear H; intro w12 bs_4_6 H
 refine p_append (ys := u8s (X ++ [UInt8.ofNat (x.toNat / 2 ^ 56)] ++ [UInt8.ofNat (x.toNat / 2 ^ 48)])) (xs := u8s (X ++ [UInt8.ofNat (x.toNat / 2 ^ 56)])) (rs := rs_4_7) ts67 H rfl (k := 2) rfl rfl rfl rfl (Rd.ownA H (k := 0) (xs := [_]) (rs := []) rfl rfl rfl) (onesI) (u8s_snoc _ _) (by simp only [u8s_length, List.length_append, List.length_cons, List.length_nil]; omega) ?_; clear H; intro w13 bb_4_7 rs_4_7 H
 refine p_as (v := (.slice _ _ _)) rfl ?_
 refine wpList_nil ?_
 refine b_norm ?_
 refine xn hK11 ?_; try clear hK11 K11
 refine wp_region_lit ?_
 refine p_mv (v := (.int _ _)) rfl ?_
 refine p_val (r_sub (r := 5) rfl rfl rfl) ?_
 refine p_as (v := (.int _ _)) rfl ?_
 refine wpList_nil ?_
 refine x_norm ?_
 rw [rounds_succ]
 refine wp_seq_k ?_; intro K14 hK14
 refine sr ?_; intro K15 hK15
 refine p_mv (v := (.int _ _)) rfl ?_
 refine p_val (r_geq (t := true) rfl rfl (by decide)) ?_
 refine xk hK15 ?_; try clear hK15 K15
 refine c_true rfl rfl ?_
 refine wp_skip ?_
 refine xn hK14 ?_; try clear hK14 K14
 refine wp_seq_k ?_; intro K16 hK16
 refine wp_block ?_
 refine wp_region_lit ?_
 refine p_mv (v := (.slice _ _ _)) rfl ?_
 refine p_mv (v := (.int .u64 x)) rfl ?_
 refine p_mv (v := (.int _ _)) rfl ?_
 refine p_val (r_mul (r := 40) rfl rfl rfl) ?_
 refine p_val (r_shr (r := ((x.toNat / 2 ^ 40 : Nat) : Int)) rfl rfl (by decide) (bshr hx 40 (by decide))) ?_
 refine p_val (r_conv (r := ((UInt8.ofNat (x.toNat / 2 ^ 40)).toNat : Int)) u22 u5 rfl (to8 _)) ?_
 refine p_bslice (N := 1) (vals := [(0, (.int _ _))]) (l := [_]) (ys := [_]) ts67 H rfl rfl rfl rfl (rfl) ?_; clear H; intro w17 bs_4_6 H
 refine p_append (ys := u8s (X ++ [UInt8.ofNat (x.toNat / 2 ^ 56)] ++ [UInt8.ofNat (x.toNat / 2 ^ 48)] ++ [UInt8.ofNat (x.toNat / 2 ^ 40)])) (xs := u8s (X ++ [UInt8.ofNat (x.toNat / 2 ^ 56)] ++ [UInt8.ofNat (x.toNat / 2 ^ 48)])) (rs := rs_4_7) ts67 H rfl (k := 3) rfl rfl rfl rfl (Rd.ownA H (k := 0) (xs := [_]) (rs := []) rfl rfl rfl) (onesI) (u8s_snoc _ _) (by simp only [u8s_length, List.length_append, List.length_cons, List.length_nil]; omega) ?_; clear H; intro w18 bb_4_7 rs_4_7 H
 refine p_as (v := (.slice _ _ _)) rfl ?_
 refine wpList_nil ?_
 refine b_norm ?_
 refine xn hK16 ?_; try clear hK16 K16
 refine wp_region_lit ?_
 refine p_mv (v := (.int _ _)) rfl ?_
 refine p_val (r_sub (r := 4) rfl rfl rfl) ?_
 refine p_as (v := (.int _ _)) rfl ?_
 refine wpList_nil ?_
 refine x_norm ?_
 rw [rounds_succ]
 refine wp_seq_k ?_; intro K19 hK19
 refine sr ?_; intro K20 hK20
 refine p_mv (v := (.int _ _)) rfl ?_
 refine p_val (r_geq (t := true) rfl rfl (by decide)) ?_
 refine xk hK20 ?_; try clear hK20 K20
 refine c_true rfl rfl ?_
 refine wp_skip ?_
 refine xn hK19 ?_; try clear hK19 K19
 refine wp_seq_k ?_; intro K21 hK21
 refine wp_block ?_
 refine wp_region_lit ?_
 refine p_mv (v := (.slice _ _ _)) rfl ?_
 refine p_mv (v := (.int .u64 x)) rfl ?_
 refine p_mv (v := (.int _ _)) rfl ?_
 refine p_val (r_mul (r := 32) rfl rfl rfl) ?_
 refine p_val (r_shr (r := ((x.toNat / 2 ^ 32 : Nat) : Int)) rfl rfl (by decide) (bshr hx 32 (by decide))) ?_
 refine p_val (r_conv (r := ((UInt8.ofNat (x.toNat / 2 ^ 32)).toNat : Int)) u22 u5 rfl (to8 _)) ?_
 refine p_bslice (N := 1) (vals := [(0, (.int _ _))]) (l := [_]) (ys := [_]) ts67 H rfl rfl rfl rfl (rfl) ?_; clear H; intro w22 bs_4_6 H
 refine p_append (ys := u8s (X ++ [UInt8.ofNat (x.toNat / 2 ^ 56)] ++ [UInt8.ofNat (x.toNat / 2 ^ 48)] ++ [UInt8.ofNat (x.toNat / 2 ^ 40)] ++ [UInt8.ofNat (x.toNat / 2 ^ 32)])) (xs := u8s (X ++ [UInt8.ofNat (x.toNat / 2 ^ 56)] ++ [UInt8.ofNat (x.toNat / 2 ^ 48)] ++ [UInt8.ofNat (x.toNat / 2 ^ 40)])) (rs := rs_4_7) ts67 H rfl (k := 4) rfl rfl rfl rfl (Rd.ownA H (k := 0) (xs := [_]) (rs := []) rfl rfl rfl) (onesI) (u8s_snoc _ _) (by simp only [u8s_length, List.length_append, List.length_cons, List.length_nil]; omega) ?_; clear H; intro w23 bb_4_7 rs_4_7 H
 refine p_as (v := (.slice _ _ _)) rfl ?_
 refine wpList_nil ?_
 refine b_norm ?_
 refine xn hK21 ?_; try clear hK21 K21
 refine wp_region_lit ?_
 refine p_mv (v := (.int _ _)) rfl ?_
 refine p_val (r_sub (r := 3) rfl rfl rfl) ?_
 refine p_as (v := (.int _ _)) rfl ?_
 refine wpList_nil ?_
 refine x_norm ?_
 rw [rounds_succ]
 refine wp_seq_k ?_; intro K24 hK24
 refine sr ?_; intro K25 hK25
 refine p_mv (v := (.int _ _)) rfl ?_
 refine p_val (r_geq (t := true) rfl rfl (by decide)) ?_
 refine xk hK25 ?_; try clear hK25 K25
 refine c_true rfl rfl ?_
 refine wp_skip ?_
 refine xn hK24 ?_; try clear hK24 K24
 refine wp_seq_k ?_; intro K26 hK26
 refine wp_block ?_
 refine wp_region_lit ?_
 refine p_mv (v := (.slice _ _ _)) rfl ?_
 refine p_mv (v := (.int .u64 x)) rfl ?_
 refine p_mv (v := (.int _ _)) rfl ?_
 refine p_val (r_mul (r := 24) rfl rfl rfl) ?_
 refine p_val (r_shr (r := ((x.toNat / 2 ^ 24 : Nat) : Int)) rfl rfl (by decide) (bshr hx 24 (by decide))) ?_
 refine p_val (r_conv (r := ((UInt8.ofNat (x.toNat / 2 ^ 24)).toNat : Int)) u22 u5 rfl (to8 _)) ?_
 refine p_bslice (N := 1) (vals := [(0, (.int _ _))]) (l := [_]) (ys := [_]) ts67 H rfl rfl rfl rfl (rfl) ?_; clear H; intro w27 bs_4_6 H
 refine p_append (ys := u8s (X ++ [UInt8.ofNat (x.toNat / 2 ^ 56)] ++ [UInt8.ofNat (x.toNat / 2 ^ 48)] ++ [UInt8.ofNat (x.toNat / 2 ^ 40)] ++ [UInt8.ofNat (x.toNat / 2 ^ 32)] ++ [UInt8.ofNat (x.toNat / 2 ^ 24)])) (xs := u8s (X ++ [UInt8.ofNat (x.toNat / 2 ^ 56)] ++ [UInt8.ofNat (x.toNat / 2 ^ 48)] ++ [UInt8.ofNat (x.toNat / 2 ^ 40)] ++ [UInt8.ofNat (x.toNat / 2 ^ 32)])) (rs := rs_4_7) ts67 H rfl (k := 5) rfl rfl rfl rfl (Rd.ownA H (k := 0) (xs := [_]) (rs := []) rfl rfl rfl) (onesI) (u8s_snoc _ _) (by simp only [u8s_length, List.length_append, List.length_cons, List.length_nil]; omega) ?_; clear H; intro w28 bb_4_7 rs_4_7 H
 refine p_as (v := (.slice _ _ _)) rfl ?_
 refine wpList_nil ?_
 refine b_norm ?_
 refine xn hK26 ?_; try clear hK26 K26
 refine wp_region_lit ?_
 refine p_mv (v := (.int _ _)) rfl ?_
 refine p_val (r_sub (r := 2) rfl rfl rfl) ?_
 refine p_as (v := (.int _ _)) rfl ?_
 refine wpList_nil ?_
 refine x_norm ?_
 rw [rounds_succ]
 refine wp_seq_k ?_; intro K29 hK29
 refine sr ?_; intro K30 hK30
 refine p_mv (v := (.int _ _)) rfl ?_
 refine p_val (r_geq (t := true) rfl rfl (by decide)) ?_
 refine xk hK30 ?_; try clear hK30 K30
 refine c_true rfl rfl ?_
 refine wp_skip ?_
 refine xn hK29 ?_; try clear hK29 K29
 refine wp_seq_k ?_; intro K31 hK31
 refine wp_block ?_
 refine wp_region_lit ?_
 refine p_mv (v := (.slice _ _ _)) rfl ?_
 refine p_mv (v := (.int .u64 x)) rfl ?_
 refine p_mv (v := (.int _ _)) rfl ?_
 refine p_val (r_mul (r := 16) rfl rfl rfl) ?_
 refine p_val (r_shr (r := ((x.toNat / 2 ^ 16 : Nat) : Int)) rfl rfl (by decide) (bshr hx 16 (by decide))) ?_
 refine p_val (r_conv (r := ((UInt8.ofNat (x.toNat / 2 ^ 16)).toNat : Int)) u22 u5 rfl (to8 _)) ?_
 refine p_bslice (N := 1) (vals := [(0, (.int _ _))]) (l := [_]) (ys := [_]) ts67 H rfl rfl rfl rfl (rfl) ?_; clear H; intro w32 bs_4_6 H
 refine p_append (ys := u8s (X ++ [UInt8.ofNat (x.toNat / 2 ^ 56)] ++ [UInt8.ofNat (x.toNat / 2 ^ 48)] ++ [UInt8.ofNat (x.toNat / 2 ^ 40)] ++ [UInt8.ofNat (x.toNat / 2 ^ 32)] ++ [UInt8.ofNat (x.toNat / 2 ^ 24)] ++ [UInt8.ofNat (x.toNat / 2 ^ 16)])) (xs := u8s (X ++ [UInt8.ofNat (x.toNat / 2 ^ 56)] ++ [UInt8.ofNat (x.toNat / 2 ^ 48)] ++ [UInt8.ofNat (x.toNat / 2 ^ 40)] ++ [UInt8.ofNat (x.toNat / 2 ^ 32)] ++ [UInt8.ofNat (x.toNat / 2 ^ 24)])) (rs := rs_4_7) ts67 H rfl (k := 6) rfl rfl rfl rfl (Rd.ownA H (k := 0) (xs := [_]) (rs := []) rfl rfl rfl) (onesI) (u8s_snoc _ _) (by simp only [u8s_length, List.length_append, List.length_cons, List.length_nil]; omega) ?_; clear H; intro w33 bb_4_7 rs_4_7 H
 refine p_as (v := (.slice _ _ _)) rfl ?_
 refine wpList_nil ?_
 refine b_norm ?_
 refine xn hK31 ?_; try clear hK31 K31
 refine wp_region_lit ?_
 refine p_mv (v := (.int _ _)) rfl ?_
 refine p_val (r_sub (r := 1) rfl rfl rfl) ?_
 refine p_as (v := (.int _ _)) rfl ?_
 refine wpList_nil ?_
 refine x_norm ?_
 rw [rounds_succ]
 refine wp_seq_k ?_; intro K34 hK34
 refine sr ?_; intro K35 hK35
 refine p_mv (v := (.int _ _)) rfl ?_
 refine p_val (r_geq (t := true) rfl rfl (by decide)) ?_
 refine xk hK35 ?_; try clear hK35 K35
 refine c_true rfl rfl ?_
 refine wp_skip ?_
 refine xn hK34 ?_; try clear hK34 K34
 refine wp_seq_k ?_; intro K36 hK36
 refine wp_block ?_
 refine wp_region_lit ?_
 refine p_mv (v := (.slice _ _ _)) rfl ?_
 refine p_mv (v := (.int .u64 x)) rfl ?_
 refine p_mv (v := (.int _ _)) rfl ?_
 refine p_val (r_mul (r := 8) rfl rfl rfl) ?_
 refine p_val (r_shr (r := ((x.toNat / 2 ^ 8 : Nat) : Int)) rfl rfl (by decide) (bshr hx 8 (by decide))) ?_
 refine p_val (r_conv (r := ((UInt8.ofNat (x.toNat / 2 ^ 8)).toNat : Int)) u22 u5 rfl (to8 _)) ?_
 refine p_bslice (N := 1) (vals := [(0, (.int _ _))]) (l := [_]) (ys := [_]) ts67 H rfl rfl rfl rfl (rfl) ?_; clear H; intro w37 bs_4_6 H
 refine p_append (ys := u8s (X ++ [UInt8.ofNat (x.toNat / 2 ^ 56)] ++ [UInt8.ofNat (x.toNat / 2 ^ 48)] ++ [UInt8.ofNat (x.toNat / 2 ^ 40)] ++ [UInt8.ofNat (x.toNat / 2 ^ 32)] ++ [UInt8.ofNat (x.toNat / 2 ^ 24)] ++ [UInt8.ofNat (x.toNat / 2 ^ 16)] ++ [UInt8.ofNat (x.toNat / 2 ^ 8)])) (xs := u8s (X ++ [UInt8.ofNat (x.toNat / 2 ^ 56)] ++ [UInt8.ofNat (x.toNat / 2 ^ 48)] ++ [UInt8.ofNat (x.toNat / 2 ^ 40)] ++ [UInt8.ofNat (x.toNat / 2 ^ 32)] ++ [UInt8.ofNat (x.toNat / 2 ^ 24)] ++ [UInt8.ofNat (x.toNat / 2 ^ 16)])) (rs := rs_4_7) ts67 H rfl (k := 7) rfl rfl rfl rfl (Rd.ownA H (k := 0) (xs := [_]) (rs := []) rfl rfl rfl) (onesI) (u8s_snoc _ _) (by simp only [u8s_length, List.length_append, List.length_cons, List.length_nil]; omega) ?_; clear H; intro w38 bb_4_7 rs_4_7 H
 refine p_as (v := (.slice _ _ _)) rfl ?_
 refine wpList_nil ?_
 refine b_norm ?_
 refine xn hK36 ?_; try clear hK36 K36
 refine wp_region_lit ?_
 refine p_mv (v := (.int _ _)) rfl ?_
 refine p_val (r_sub (r := 0) rfl rfl rfl) ?_
 refine p_as (v := (.int _ _)) rfl ?_
 refine wpList_nil ?_
 refine x_norm ?_
 rw [rounds_succ]
 refine wp_seq_k ?_; intro K39 hK39
 refine sr ?_; intro K40 hK40
 refine p_mv (v := (.int _ _)) rfl ?_
 refine p_val (r_geq (t := true) rfl rfl (by decide)) ?_
 refine xk hK40 ?_; try clear hK40 K40
 refine c_true rfl rfl ?_
 refine wp_skip ?_
 refine xn hK39 ?_; try clear hK39 K39
 refine wp_seq_k ?_; intro K41 hK41
 refine wp_block ?_
 refine wp_region_lit ?_
 refine p_mv (v := (.slice _ _ _)) rfl ?_
 refine p_mv (v := (.int .u64 x)) rfl ?_
 refine p_mv (v := (.int _ _)) rfl ?_
 refine p_val (r_mul (r := 0) rfl rfl rfl) ?_
 refine p_val (r_shr (r := ((x.toNat / 2 ^ 0 : Nat) : Int)) rfl rfl (by decide) (bshr hx 0 (by decide))) ?_
 refine p_val (r_conv (r := ((UInt8.ofNat (x.toNat / 2 ^ 0)).toNat : Int)) u22 u5 rfl (to8 _)) ?_
 refine p_bslice (N := 1) (vals := [(0, (.int _ _))]) (l := [_]) (ys := [_]) ts67 H rfl rfl rfl rfl (rfl) ?_; clear H; intro w42 bs_4_6 H
 refine p_append (ys := u8s (X ++ [UInt8.ofNat (x.toNat / 2 ^ 56)] ++ [UInt8.ofNat (x.toNat / 2 ^ 48)] ++ [UInt8.ofNat (x.toNat / 2 ^ 40)] ++ [UInt8.ofNat (x.toNat / 2 ^ 32)] ++ [UInt8.ofNat (x.toNat / 2 ^ 24)] ++ [UInt8.ofNat (x.toNat / 2 ^ 16)] ++ [UInt8.ofNat (x.toNat / 2 ^ 8)] ++ [UInt8.ofNat (x.toNat / 2 ^ 0)])) (xs := u8s (X ++ [UInt8.ofNat (x.toNat / 2 ^ 56)] ++ [UInt8.ofNat (x.toNat / 2 ^ 48)] ++ [UInt8.ofNat (x.toNat / 2 ^ 40)] ++ [UInt8.ofNat (x.toNat / 2 ^ 32)] ++ [UInt8.ofNat (x.toNat / 2 ^ 24)] ++ [UInt8.ofNat (x.toNat / 2 ^ 16)] ++ [UInt8.ofNat (x.toNat / 2 ^ 8)])) (rs := rs_4_7) ts67 H rfl (k := 8) rfl rfl rfl rfl (Rd.ownA H (k := 0) (xs := [_]) (rs := []) rfl rfl rfl) (onesI) (u8s_snoc _ _) (by simp only [u8s_length, List.length_append, List.length_cons, List.length_nil]; omega) ?_; clear H; intro w43 bb_4_7 rs_4_7 H
 refine p_as (v := (.slice _ _ _)) rfl ?_
 refine wpList_nil ?_
 refine b_norm ?_
 refine xn hK41 ?_; try clear hK41 K41
 refine wp_region_lit ?_
 refine p_mv (v := (.int _ _)) rfl ?_
 refine p_val (r_sub (r := -1) rfl rfl rfl) ?_
 refine p_as (v := (.int _ _)) rfl ?_
 refine wpList_nil ?_
 refine x_norm ?_
 rw [rounds_succ]
 refine wp_seq_k ?_; intro K44 hK44
 refine sr ?_; intro K45 hK45
 refine p_mv (v := (.int _ _)) rfl ?_
 refine p_val (r_geq (t := false) rfl rfl (by decide)) ?_
 refine xk hK45 ?_; try clear hK45 K45
 refine c_false rfl rfl ?_
 refine wp_exit ?_
 refine x_exit ?_
 refine x_exit ?_
 refine b_hit ?_
 refine xn hK2 ?_; try clear hK2 K2
 refine sr ?_; intro K46 hK46
 refine p_mv (v := (.slice _ _ _)) rfl ?_
 refine p_as (v := (.slice _ _ _)) rfl ?_
 refine xk hK46 ?_; try clear hK46 K46
 refine wp_ret ?_
 refine e_1 rfl (q_tmp (v := (.slice _ _ _)) rfl) ?_
 rw [big_fin]
 replace H := H.tail
 replace H := H.tail
 replace H := H.tail
 replace H := H.tail
 replace H := H.tail
 replace H := H.tail
 replace H := H.tail
 replace H := H.tail
 exact ⟨_, _, rfl, H⟩

set_option maxRecDepth 4000 in
theorem big_cN (w0 : World) (L : List Ent) (x : Int) (hx : U x) (w : World) (H : HP w0 w L) :
    Calls Try.prog 35 #[.slice none 0 0, .int .u64 x, .int .i64 8] w fun e w' => ∃ b' rs', e = .returned (sl b' 0 (u8s (be 8 x.toNat)).length (u8s (be 8 x.toNat) ++ rs').length) ∧ HP w0 w' ((b', u8s (be 8 x.toNat) ++ rs', 5) :: L) := by
 refine enter (n := 23) Try.func35 rfl rfl rfl ?_
 refine sr ?_; intro K1 hK1
 refine p_as (v := (.slice none 0 0)) rfl ?_
 refine xk hK1 ?_; try clear hK1 K1
 refine wp_seq_k ?_; intro K2 hK2
 refine sr ?_; intro K3 hK3
 refine p_mv (v := (.int _ _)) rfl ?_
 refine p_val (r_sub (r := 7) rfl rfl rfl) ?_
 refine p_as (v := (.int _ _)) rfl ?_
 refine xk hK3 ?_; try clear hK3 K3
 refine wp_block ?_
 refine wp_loop_rounds 9 ?_; rw [rounds_succ]
 refine wp_seq_k ?_; intro K4 hK4
 refine sr ?_; intro K5 hK5
 refine p_mv (v := (.int _ _)) rfl ?_
 refine p_val (r_geq (t := true) rfl rfl (by decide)) ?_
 refine xk hK5 ?_; try clear hK5 K5
 refine c_true rfl rfl ?_
 refine wp_skip ?_
 refine xn hK4 ?_; try clear hK4 K4
 refine wp_seq_k ?_; intro K6 hK6
 refine wp_block ?_
 refine wp_region_lit ?_
 refine p_mv (v := (.slice none 0 0)) rfl ?_
 refine p_mv (v := (.int .u64 x)) rfl ?_
 refine p_mv (v := (.int _ _)) rfl ?_
 refine p_val (r_mul (r := 56) rfl rfl rfl) ?_
 refine p_val (r_shr (r := ((x.toNat / 2 ^ 56 : Nat) : Int)) rfl rfl (by decide) (bshr hx 56 (by decide))) ?_
 refine p_val (r_conv (r := ((UInt8.ofNat (x.toNat / 2 ^ 56)).toNat : Int)) u22 u5 rfl (to8 _)) ?_
 refine p_bslice (N := 1) (vals := [(0, (.int _ _))]) (l := [_]) (ys := [_]) ts67 H rfl rfl rfl rfl (rfl) ?_; clear H; intro w7 bs_4_6 H
 refine p_appendN (ys := u8s ([UInt8.ofNat (x.toNat / 2 ^ 56)])) ts67 H rfl rfl (Rd.ownA H (k := 0) (xs := [_]) (rs := []) rfl rfl rfl) (rfl) (by rw [u8s_length]; exact Nat.succ_pos _) (by rw [u8s_length, List.length_singleton]; decide) ?_; clear H; intro w8 bb_4_7 rs_4_7 H
 refine p_as (v := (.slice _ _ _)) rfl ?_
 refine wpList_nil ?_
 refine b_norm ?_
 refine xn hK6 ?_; try clear hK6 K6
 refine wp_region_lit ?_
 refine p_mv (v := (.int _ _)) rfl ?_
 refine p_val (r_sub (r := 6) rfl rfl rfl) ?_
 refine p_as (v := (.int _ _)) rfl ?_
 refine wpList_nil ?_
 refine x_norm ?_
 rw [rounds_succ]
 refine wp_seq_k ?_; intro K9 hK9
 refine sr ?_; intro K10 hK10
 refine p_mv (v := (.int _ _)) rfl ?_
 refine p_val (r_geq (t := true) rfl rfl (by decide)) ?_
 refine xk hK10 ?_; try clear hK10 K10
 refine c_true rfl rfl ?_
 refine wp_skip ?_
 refine xn hK9 ?_; try clear hK9 K9
 refine wp_seq_k ?_; intro K11 hK11
 refine wp_block ?_
 refine wp_region_lit ?_
 refine p_mv (v := (.slice _ _ _)) rfl ?_
 refine p_mv (v := (.int .u64 x)) rfl ?_
 refine p_mv (v := (.int _ _)) rfl ?_
 refine p_val (r_mul (r := 48) rfl rfl rfl) ?_
 refine p_val (r_shr (r := ((x.toNat / 2 ^ 48 : Nat) : Int)) rfl rfl (by decide) (bshr hx 48 (by decide))) ?_
 refine p_val (r_conv (r := ((UInt8.ofNat (x.toNat / 2 ^ 48)).toNat : Int)) u22 u5 rfl (to8 _)) ?_
 refine p_bslice (N := 1) (vals := [(0, (.int _ _))]) (l := [_]) (ys := [_]) ts67 H rfl rfl rfl rfl (rfl) ?_; clear H; intro w12 bs_4_6 H
 refine p_append (ys := u8s ([UInt8.ofNat (x.toNat / 2 ^ 56)] ++ [UInt8.ofNat (x.toNat / 2 ^ 48)])) (xs := u8s ([UInt8.ofNat (x.toNat / 2 ^ 56)])) (rs := rs_4_7) ts67 H rfl (k := 1) rfl rfl rfl rfl (Rd.ownA H (k := 0) (xs := [_]) (rs := []) rfl rfl rfl) (onesI) (u8s_snoc _ _) (by simp only [u8s_length, List.length_append, List.length_cons, List.length_nil]; omega) ?_; clear H; intro w13 bb_4_7 rs_4_7 H
 refine p_as (v := (.slice _ _ _)) rfl ?_
 refine wpList_nil ?_
 refine b_norm ?_
 refine xn hK11 ?_; try clear hK11 K11
 refine wp_region_lit ?_
 refine p_mv (v := (.int _ _)) rfl ?_
 refine p_val (r_sub (r := 5) rfl rfl rfl) ?_
 refine p_as (v := (.int _ _)) rfl ?_
 refine wpList_nil ?_
 refine x_norm ?_
 rw [rounds_succ]
 refine wp_seq_k ?_; intro K14 hK14
 refine sr ?_; intro K15 hK15
 refine p_mv (v := (.int _ _)) rfl ?_
 refine p_val (r_geq (t := true) rfl rfl (by decide)) ?_
 refine xk hK15 ?_; try clear hK15 K15
 refine c_true rfl rfl ?_
 refine wp_skip ?_
 refine xn hK14 ?_; try clear hK14 K14
 refine wp_seq_k ?_; intro K16 hK16
 refine wp_block ?_
 refine wp_region_lit ?_
 refine p_mv (v := (.slice _ _ _)) rfl ?_
 refine p_mv (v := (.int .u64 x)) rfl ?_
 refine p_mv (v := (.int _ _)) rfl ?_
 refine p_val (r_mul (r := 40) rfl rfl rfl) ?_
 refine p_val (r_shr (r := ((x.toNat / 2 ^ 40 : Nat) : Int)) rfl rfl (by decide) (bshr hx 40 (by decide))) ?_
 refine p_val (r_conv (r := ((UInt8.ofNat (x.toNat / 2 ^ 40)).toNat : Int)) u22 u5 rfl (to8 _)) ?_
 refine p_bslice (N := 1) (vals := [(0, (.int _ _))]) (l := [_]) (ys := [_]) ts67 H rfl rfl rfl rfl (rfl) ?_; clear H; intro w17 bs_4_6 H
 refine p_append (ys := u8s ([UInt8.ofNat (x.toNat / 2 ^ 56)] ++ [UInt8.ofNat (x.toNat / 2 ^ 48)] ++ [UInt8.ofNat (x.toNat / 2 ^ 40)])) (xs := u8s ([UInt8.ofNat (x.toNat / 2 ^ 56)] ++ [UInt8.ofNat (x.toNat / 2 ^ 48)])) (rs := rs_4_7) ts67 H rfl (k := 2) rfl rfl rfl rfl (Rd.ownA H (k := 0) (xs := [_]) (rs := []) rfl rfl rfl) (onesI) (u8s_snoc _ _) (by simp only [u8s_length, List.length_append, List.length_cons, List.length_nil]; omega) ?_; clear H; intro w18 bb_4_7 rs_4_7 H
 refine p_as (v := (.slice _ _ _)) rfl ?_
 refine wpList_nil ?_
 refine b_norm ?_
 refine xn hK16 ?_; try clear hK16 K16
 refine wp_region_lit ?_
 refine p_mv (v := (.int _ _)) rfl ?_
 refine p_val (r_sub (r := 4) rfl rfl rfl) ?_
 refine p_as (v := (.int _ _)) rfl ?_
 refine wpList_nil ?_
 refine x_norm ?_
 rw [rounds_succ]
 refine wp_seq_k ?_; intro K19 hK19
 refine sr ?_; intro K20 hK20
 refine p_mv (v := (.int _ _)) rfl ?_
 refine p_val (r_geq (t := true) rfl rfl (by decide)) ?_
 refine xk hK20 ?_; try clear hK20 K20
 refine c_true rfl rfl ?_
 refine wp_skip ?_
 refine xn hK19 ?_; try clear hK19 K19
 refine wp_seq_k ?_; intro K21 hK21
 refine wp_block ?_
 refine wp_region_lit ?_
 refine p_mv (v := (.slice _ _ _)) rfl ?_
 refine p_mv (v := (.int .u64 x)) rfl ?_
 refine p_mv (v := (.int _ _)) rfl ?_
 refine p_val (r_mul (r := 32) rfl rfl rfl) ?_
 refine p_val (r_shr (r := ((x.toNat / 2 ^ 32 : Nat) : Int)) rfl rfl (by decide) (bshr hx 32 (by decide))) ?_
 refine p_val (r_conv (r := ((UInt8.ofNat (x.toNat / 2 ^ 32)).toNat : Int)) u22 u5 rfl (to8 _)) ?_
 refine p_bslice (N := 1) (vals := [(0, (.int _ _))]) (l := [_]) (ys := [_]) ts67 H rfl rfl rfl rfl (rfl) ?_; clear H; intro w22 bs_4_6 H
 refine p_append (ys := u8s ([UInt8.ofNat (x.toNat / 2 ^ 56)] ++ [UInt8.ofNat (x.toNat / 2 ^ 48)] ++ [UInt8.ofNat (x.toNat / 2 ^ 40)] ++ [UInt8.ofNat (x.toNat / 2 ^ 32)])) (xs := u8s ([UInt8.ofNat (x.toNat / 2 ^ 56)] ++ [UInt8.ofNat (x.toNat / 2 ^ 48)] ++ [UInt8.ofNat (x.toNat / 2 ^ 40)])) (rs := rs_4_7) ts67 H rfl (k := 3) rfl rfl rfl rfl (Rd.ownA H (k := 0) (xs := [_]) (rs := []) rfl rfl rfl) (onesI) (u8s_snoc _ _) (by simp only [u8s_length, List.length_append, List.length_cons, List.length_nil]; omega) ?_; clear H; intro w23 bb_4_7 rs_4_7 H
 refine p_as (v := (.slice _ _ _)) rfl ?_
 refine wpList_nil ?_
 refine b_norm ?_
 refine xn hK21 ?_; try clear hK21 K21
 refine wp_region_lit ?_
 refine p_mv (v := (.int _ _)) rfl ?_
 refine p_val (r_sub (r := 3) rfl rfl rfl) ?_
 refine p_as (v := (.int _ _)) rfl ?_
 refine wpList_nil ?_
 refine x_norm ?_
 rw [rounds_succ]
 refine wp_seq_k ?_; intro K24 hK24
 refine sr ?_; intro K25 hK25
 refine p_mv (v := (.int _ _)) rfl ?_
 refine p_val (r_geq (t := true) rfl rfl (by decide)) ?_
 refine xk hK25 ?_; try clear hK25 K25
 refine c_true rfl rfl ?_
 refine wp_skip ?_
 refine xn hK24 ?_; try clear hK24 K24
 refine wp_seq_k ?_; intro K26 hK26
 refine wp_block ?_
 refine wp_region_lit ?_
 refine p_mv (v := (.slice _ _ _)) rfl ?_
 refine p_mv (v := (.int .u64 x)) rfl ?_
 refine p_mv (v := (.int _ _)) rfl ?_
 refine p_val (r_mul (r := 24) rfl rfl rfl) ?_
 refine p_val (r_shr (r := ((x.toNat / 2 ^ 24 : Nat) : Int)) rfl rfl (by decide) (bshr hx 24 (by decide))) ?_
 refine p_val (r_conv (r := ((UInt8.ofNat (x.toNat / 2 ^ 24)).toNat : Int)) u22 u5 rfl (to8 _)) ?_
 refine p_bslice (N := 1) (vals := [(0, (.int _ _))]) (l := [_]) (ys := [_]) ts67 H rfl rfl rfl rfl (rfl) ?_; clear H; intro w27 bs_4_6 H
 refine p_append (ys := u8s ([UInt8.ofNat (x.toNat / 2 ^ 56)] ++ [UInt8.ofNat (x.toNat / 2 ^ 48)] ++ [UInt8.ofNat (x.toNat / 2 ^ 40)] ++ [UInt8.ofNat (x.toNat / 2 ^ 32)] ++ [UInt8.ofNat (x.toNat / 2 ^ 24)])) (xs := u8s ([UInt8.ofNat (x.toNat / 2 ^ 56)] ++ [UInt8.ofNat (x.toNat / 2 ^ 48)] ++ [UInt8.ofNat (x.toNat / 2 ^ 40)] ++ [UInt8.ofNat (x.toNat / 2 ^ 32)])) (rs := rs_4_7) ts67 H rfl (k := 4) rfl rfl rfl rfl (Rd.ownA H (k := 0) (xs := [_]) (rs := []) rfl rfl rfl) (onesI) (u8s_snoc _ _) (by simp only [u8s_length, List.length_append, List.length_cons, List.length_nil]; omega) ?_; clear H; intro w28 bb_4_7 rs_4_7 H
 refine p_as (v := (.slice _ _ _)) rfl ?_
 refine wpList_nil ?_
 refine b_norm ?_
 refine xn hK26 ?_; try clear hK26 K26
 refine wp_region_lit ?_
 refine p_mv (v := (.int _ _)) rfl ?_
 refine p_val (r_sub (r := 2) rfl rfl rfl) ?_
 refine p_as (v := (.int _ _)) rfl ?_
 refine wpList_nil ?_
 refine x_norm ?_
 rw [rounds_succ]
 refine wp_seq_k ?_; intro K29 hK29
 refine sr ?_; intro K30 hK30
 refine p_mv (v := (.int _ _)) rfl ?_
 refine p_val (r_geq (t := true) rfl rfl (by decide)) ?_
 refine xk hK30 ?_; try clear hK30 K30
 refine c_true rfl rfl ?_
 refine wp_skip ?_
 refine xn hK29 ?_; try clear hK29 K29
 refine wp_seq_k ?_; intro K31 hK31
 refine wp_block ?_
 refine wp_region_lit ?_
 refine p_mv (v := (.slice _ _ _)) rfl ?_
 refine p_mv (v := (.int .u64 x)) rfl ?_
 refine p_mv (v := (.int _ _)) rfl ?_
 refine p_val (r_mul (r := 16) rfl rfl rfl) ?_
 refine p_val (r_shr (r := ((x.toNat / 2 ^ 16 : Nat) : Int)) rfl rfl (by decide) (bshr hx 16 (by decide))) ?_
 refine p_val (r_conv (r := ((UInt8.ofNat (x.toNat / 2 ^ 16)).toNat : Int)) u22 u5 rfl (to8 _)) ?_
 refine p_bslice (N := 1) (vals := [(0, (.int _ _))]) (l := [_]) (ys := [_]) ts67 H rfl rfl rfl rfl (rfl) ?_; clear H; intro w32 bs_4_6 H
 refine p_append (ys := u8s ([UInt8.ofNat (x.toNat / 2 ^ 56)] ++ [UInt8.ofNat (x.toNat / 2 ^ 48)] ++ [UInt8.ofNat (x.toNat / 2 ^ 40)] ++ [UInt8.ofNat (x.toNat / 2 ^ 32)] ++ [UInt8.ofNat (x.toNat / 2 ^ 24)] ++ [UInt8.ofNat (x.toNat / 2 ^ 16)])) (xs := u8s ([UInt8.ofNat (x.toNat / 2 ^ 56)] ++ [UInt8.ofNat (x.toNat / 2 ^ 48)] ++ [UInt8.ofNat (x.toNat / 2 ^ 40)] ++ [UInt8.ofNat (x.toNat / 2 ^ 32)] ++ [UInt8.ofNat (x.toNat / 2 ^ 24)])) (rs := rs_4_7) ts67 H rfl (k := 5) rfl rfl rfl rfl (Rd.ownA H (k := 0) (xs := [_]) (rs := []) rfl rfl rfl) (onesI) (u8s_snoc _ _) (by simp only [u8s_length, List.length_append, List.length_cons, List.length_nil]; omega) ?_; clear H; intro w33 bb_4_7 rs_4_7 H
 refine p_as (v := (.slice _ _ _)) rfl ?_
 refine wpList_nil ?_
 refine b_norm ?_
 refine xn hK31 ?_; try clear hK31 K31
 refine wp_region_lit ?_
 refine p_mv (v := (.int _ _)) rfl ?_
 refine p_val (r_sub (r := 1) rfl rfl rfl) ?_
 refine p_as (v := (.int _ _)) rfl ?_
 refine wpList_nil ?_
 refine x_norm ?_
 rw [rounds_succ]
 refine wp_seq_k ?_; intro K34 hK34
 refine sr ?_; intro K35 hK35
 refine p_mv (v := (.int _ _)) rfl ?_
 refine p_val (r_geq (t := true) rfl rfl (by decide)) ?_
 refine xk hK35 ?_; try clear hK35 K35
 refine c_true rfl rfl ?_
 refine wp_skip ?_
 refine xn hK34 ?_; try clear hK34 K34
 refine wp_seq_k ?_; intro K36 hK36
 refine wp_block ?_
 refine wp_region_lit ?_
 refine p_mv (v := (.slice _ _ _)) rfl ?_
 refine p_mv (v := (.int .u64 x)) rfl ?_
 refine p_mv (v := (.int _ _)) rfl ?_
 refine p_val (r_mul (r := 8) rfl rfl rfl) ?_
 refine p_val (r_shr (r := ((x.toNat / 2 ^ 8 : Nat) : Int)) rfl rfl (by decide) (bshr hx 8 (by decide))) ?_
 refine p_val (r_conv (r := ((UInt8.ofNat (x.toNat / 2 ^ 8)).toNat : Int)) u22 u5 rfl (to8 _)) ?_
 refine p_bslice (N := 1) (vals := [(0, (.int _ _))]) (l := [_]) (ys := [_]) ts67 H rfl rfl rfl rfl (rfl) ?_; clear H; intro w37 bs_4_6 H
 refine p_append (ys := u8s ([UInt8.ofNat (x.toNat / 2 ^ 56)] ++ [UInt8.ofNat (x.toNat / 2 ^ 48)] ++ [UInt8.ofNat (x.toNat / 2 ^ 40)] ++ [UInt8.ofNat (x.toNat / 2 ^ 32)] ++ [UInt8.ofNat (x.toNat / 2 ^ 24)] ++ [UInt8.ofNat (x.toNat / 2 ^ 16)] ++ [UInt8.ofNat (x.toNat / 2 ^ 8)])) (xs := u8s ([UInt8.ofNat (x.toNat / 2 ^ 56)] ++ [UInt8.ofNat (x.toNat / 2 ^ 48)] ++ [UInt8.ofNat (x.toNat / 2 ^ 40)] ++ [UInt8.ofNat (x.toNat / 2 ^ 32)] ++ [UInt8.ofNat (x.toNat / 2 ^ 24)] ++ [UInt8.ofNat (x.toNat / 2 ^ 16)])) (rs := rs_4_7) ts67 H rfl (k := 6) rfl rfl rfl rfl (Rd.ownA H (k := 0) (xs := [_]) (rs := []) rfl rfl rfl) (onesI) (u8s_snoc _ _) (by simp only [u8s_length, List.length_append, List.length_cons, List.length_nil]; omega) ?_; clear H; intro w38 bb_4_7 rs_4_7 H
 refine p_as (v := (.slice _ _ _)) rfl ?_
 refine wpList_nil ?_
 refine b_norm ?_
 refine xn hK36 ?_; try clear hK36 K36
 refine wp_region_lit ?_
 refine p_mv (v := (.int _ _)) rfl ?_
 refine p_val (r_sub (r := 0) rfl rfl rfl) ?_
 refine p_as (v := (.int _ _)) rfl ?_
 refine wpList_nil ?_
 refine x_norm ?_
 rw [rounds_succ]
 refine wp_seq_k ?_; intro K39 hK39
 refine sr ?_; intro K40 hK40
 refine p_mv (v := (.int _ _)) rfl ?_
 refine p_val (r_geq (t := true) rfl rfl (by decide)) ?_
 refine xk hK40 ?_; try clear hK40 K40
 refine c_true rfl rfl ?_
 refine wp_skip ?_
 refine xn hK39 ?_; try clear hK39 K39
 refine wp_seq_k ?_; intro K41 hK41
 refine wp_block ?_
 refine wp_region_lit ?_
 refine p_mv (v := (.slice _ _ _)) rfl ?_
 refine p_mv (v := (.int .u64 x)) rfl ?_
 refine p_mv (v := (.int _ _)) rfl ?_
 refine p_val (r_mul (r := 0) rfl rfl rfl) ?_
 refine p_val (r_shr (r := ((x.toNat / 2 ^ 0 : Nat) : Int)) rfl rfl (by decide) (bshr hx 0 (by decide))) ?_
 refine p_val (r_conv (r := ((UInt8.ofNat (x.toNat / 2 ^ 0)).toNat : Int)) u22 u5 rfl (to8 _)) ?_
 refine p_bslice (N := 1) (vals := [(0, (.int _ _))]) (l := [_]) (ys := [_]) ts67 H rfl rfl rfl rfl (rfl) ?_; clear H; intro w42 bs_4_6 H
 refine p_append (ys := u8s ([UInt8.ofNat (x.toNat / 2 ^ 56)] ++ [UInt8.ofNat (x.toNat / 2 ^ 48)] ++ [UInt8.ofNat (x.toNat / 2 ^ 40)] ++ [UInt8.ofNat (x.toNat / 2 ^ 32)] ++ [UInt8.ofNat (x.toNat / 2 ^ 24)] ++ [UInt8.ofNat (x.toNat / 2 ^ 16)] ++ [UInt8.ofNat (x.toNat / 2 ^ 8)] ++ [UInt8.ofNat (x.toNat / 2 ^ 0)])) (xs := u8s ([UInt8.ofNat (x.toNat / 2 ^ 56)] ++ [UInt8.ofNat (x.toNat / 2 ^ 48)] ++ [UInt8.ofNat (x.toNat / 2 ^ 40)] ++ [UInt8.ofNat (x.toNat / 2 ^ 32)] ++ [UInt8.ofNat (x.toNat / 2 ^ 24)] ++ [UInt8.ofNat (x.toNat / 2 ^ 16)] ++ [UInt8.ofNat (x.toNat / 2 ^ 8)])) (rs := rs_4_7) ts67 H rfl (k := 7) rfl rfl rfl rfl (Rd.ownA H (k := 0) (xs := [_]) (rs := []) rfl rfl rfl) (onesI) (u8s_snoc _ _) (by simp only [u8s_length, List.length_append, List.length_cons, List.length_nil]; omega) ?_; clear H; intro w43 bb_4_7 rs_4_7 H
 refine p_as (v := (.slice _ _ _)) rfl ?_
 refine wpList_nil ?_
 refine b_norm ?_
 refine xn hK41 ?_; try clear hK41 K41
 refine wp_region_lit ?_
 refine p_mv (v := (.int _ _)) rfl ?_
 refine p_val (r_sub (r := -1) rfl rfl rfl) ?_
 refine p_as (v := (.int _ _)) rfl ?_
 refine wpList_nil ?_
 refine x_norm ?_
 rw [rounds_succ]
 refine wp_seq_k ?_; intro K44 hK44
 refine sr ?_; intro K45 hK45
 refine p_mv (v := (.int _ _)) rfl ?_
 refine p_val (r_geq (t := false) rfl rfl (by decide)) ?_
 refine xk hK45 ?_; try clear hK45 K45
 refine c_false rfl rfl ?_
 refine wp_exit ?_
 refine x_exit ?_
 refine x_exit ?_
 refine b_hit ?_
 refine xn hK2 ?_; try clear hK2 K2
 refine sr ?_; intro K46 hK46
 refine p_mv (v := (.slice _ _ _)) rfl ?_
 refine p_as (v := (.slice _ _ _)) rfl ?_
 refine xk hK46 ?_; try clear hK46 K46
 refine wp_ret ?_
 refine e_1 rfl (q_tmp (v := (.slice _ _ _)) rfl) ?_
 rw [big_finN]
 replace H := H.tail
 replace H := H.tail
 replace H := H.tail
 replace H := H.tail
 replace H := H.tail
 replace H := H.tail
 replace H := H.tail
 exact ⟨_, _, rfl, H.skip⟩

theorem bytes_c (A : Nat) (w : World) :
    Calls Try.prog 10 #[numV A] w fun e w' => e = .returned (str (be 32 A)) ∧ Ext w w' := by
 refine enter (n := 17) Try.func10 rfl rfl rfl ?_
 have H := HP.start w
 refine sr ?_; intro K1 hK1
 refine p_box (l := numL A) H rfl ?_; clear H; intro w2 b3 H
 refine p_as (v := (str _)) rfl ?_
 refine xk hK1 ?_; try clear hK1 K1
 refine sr ?_; intro K4 hK4
 refine p_as (v := (.slice none 0 0)) rfl ?_
 refine xk hK4 ?_; try clear hK4 K4
 refine wp_seq_k ?_; intro K5 hK5
 refine sr ?_; intro K6 hK6
 refine p_mv (v := (.int _ _)) rfl ?_
 refine xk hK6 ?_; try clear hK6 K6
 refine wp_block ?_
 refine wp_loop_rounds 5 ?_; rw [rounds_succ]
 refine sr ?_; intro K7 hK7
 refine p_val (r_lss (t := true) rfl rfl (by decide)) ?_
 refine xk hK7 ?_; try clear hK7 K7
 refine wp_seq_k ?_; intro K8 hK8
 refine c_true rfl rfl ?_
 refine wp_skip ?_
 refine xn hK8 ?_; try clear hK8 K8
 refine wp_seq_k ?_; intro K9 hK9
 refine wp_block ?_
 refine sr ?_; intro K10 hK10
 refine p_mv (v := (.int _ _)) rfl ?_
 refine p_as (v := (.int _ _)) rfl ?_
 refine xk hK10 ?_; try clear hK10 K10
 refine wp_region_lit ?_
 refine p_mv (v := (.slice none 0 0)) rfl ?_
 refine p_mv (v := (.int _ _)) rfl ?_
 refine p_val (r_sub (r := 3) rfl rfl rfl) ?_
 refine p_val (r_addrA u24 sz22 rfl (k := .i64) (i := 3) rfl rfl (by decide) (by decide)) ?_
 refine p_val (r_load1 (v := (.int _ _)) to22 H rfl (k := 0) rfl rfl) ?_
 refine p_call (l := [(.slice none 0 0), (.int _ _), (.int _ _)]) is35 rfl ?_
 refine (big_cN _ _ _ (U_lm _ _) _ H).mono ?_; rintro _ w11 ⟨bo_5_5o12, rsbo_5_5o12, rfl, H'⟩; clear H; have H := H'; clear H'
 refine p_as (v := (sl bo_5_5o12 0 (u8s (be 8 (lm A 3).toNat)).length (u8s (be 8 (lm A 3).toNat) ++ rsbo_5_5o12).length)) rfl ?_
 refine wpList_nil ?_
 refine b_norm ?_
 refine xn hK9 ?_; try clear hK9 K9
 refine wp_region_lit ?_
 refine p_val (r_add (r := 1) rfl rfl rfl) ?_
 refine p_mv (v := (.int _ _)) rfl ?_
 refine wpList_nil ?_
 refine x_norm ?_
 rw [rounds_succ]
 refine sr ?_; intro K13 hK13
 refine p_val (r_lss (t := true) rfl rfl (by decide)) ?_
 refine xk hK13 ?_; try clear hK13 K13
 refine wp_seq_k ?_; intro K14 hK14
 refine c_true rfl rfl ?_
 refine wp_skip ?_
 refine xn hK14 ?_; try clear hK14 K14
 refine wp_seq_k ?_; intro K15 hK15
 refine wp_block ?_
 refine sr ?_; intro K16 hK16
 refine p_mv (v := (.int _ _)) rfl ?_
 refine p_as (v := (.int _ _)) rfl ?_
 refine xk hK16 ?_; try clear hK16 K16
 refine wp_region_lit ?_
 refine p_mv (v := (sl bo_5_5o12 0 (u8s (be 8 (lm A 3).toNat)).length (u8s (be 8 (lm A 3).toNat) ++ rsbo_5_5o12).length)) rfl ?_
 refine p_mv (v := (.int _ _)) rfl ?_
 refine p_val (r_sub (r := 2) rfl rfl rfl) ?_
 refine p_val (r_addrA u24 sz22 rfl (k := .i64) (i := 2) rfl rfl (by decide) (by decide)) ?_
 refine p_val (r_load1 (v := (.int _ _)) to22 H rfl (k := 1) rfl rfl) ?_
 refine p_call (l := [(sl bo_5_5o12 0 (u8s (be 8 (lm A 3).toNat)).length (u8s (be 8 (lm A 3).toNat) ++ rsbo_5_5o12).length), (.int _ _), (.int _ _)]) is35 rfl ?_
 refine (big_c _ _ _ _ _ _ (U_lm _ _) (by simp [be_length]) _ H).mono ?_; rintro _ w17 ⟨bo_5_5o18, rsbo_5_5o18, rfl, H'⟩; clear H; have H := H'; clear H'
 refine p_as (v := (sl bo_5_5o18 0 (u8s (be 8 (lm A 3).toNat ++ be 8 (lm A 2).toNat)).length (u8s (be 8 (lm A 3).toNat ++ be 8 (lm A 2).toNat) ++ rsbo_5_5o18).length)) rfl ?_
 refine wpList_nil ?_
 refine b_norm ?_
 refine xn hK15 ?_; try clear hK15 K15
 refine wp_region_lit ?_
 refine p_val (r_add (r := 2) rfl rfl rfl) ?_
 refine p_mv (v := (.int _ _)) rfl ?_
 refine wpList_nil ?_
 refine x_norm ?_
 rw [rounds_succ]
 refine sr ?_; intro K19 hK19
 refine p_val (r_lss (t := true) rfl rfl (by decide)) ?_
 refine xk hK19 ?_; try clear hK19 K19
 refine wp_seq_k ?_; intro K20 hK20
 refine c_true rfl rfl ?_
 refine wp_skip ?_
 refine xn hK20 ?_; try clear hK20 K20
 refine wp_seq_k ?_; intro K21 hK21
 refine wp_block ?_
 refine sr ?_; intro K22 hK22
 refine p_mv (v := (.int _ _)) rfl ?_
 refine p_as (v := (.int _ _)) rfl ?_
 refine xk hK22 ?_; try clear hK22 K22
 refine wp_region_lit ?_
 refine p_mv (v := (sl bo_5_5o18 0 (u8s (be 8 (lm A 3).toNat ++ be 8 (lm A 2).toNat)).length (u8s (be 8 (lm A 3).toNat ++ be 8 (lm A 2).toNat) ++ rsbo_5_5o18).length)) rfl ?_
 refine p_mv (v := (.int _ _)) rfl ?_
 refine p_val (r_sub (r := 1) rfl rfl rfl) ?_
 refine p_val (r_addrA u24 sz22 rfl (k := .i64) (i := 1) rfl rfl (by decide) (by decide)) ?_
 refine p_val (r_load1 (v := (.int _ _)) to22 H rfl (k := 1) rfl rfl) ?_
 refine p_call (l := [(sl bo_5_5o18 0 (u8s (be 8 (lm A 3).toNat ++ be 8 (lm A 2).toNat)).length (u8s (be 8 (lm A 3).toNat ++ be 8 (lm A 2).toNat) ++ rsbo_5_5o18).length), (.int _ _), (.int _ _)]) is35 rfl ?_
 refine (big_c _ _ _ _ _ _ (U_lm _ _) (by simp [be_length]) _ H).mono ?_; rintro _ w23 ⟨bo_5_5o24, rsbo_5_5o24, rfl, H'⟩; clear H; have H := H'; clear H'
 refine p_as (v := (sl bo_5_5o24 0 (u8s (be 8 (lm A 3).toNat ++ be 8 (lm A 2).toNat ++ be 8 (lm A 1).toNat)).length (u8s (be 8 (lm A 3).toNat ++ be 8 (lm A 2).toNat ++ be 8 (lm A 1).toNat) ++ rsbo_5_5o24).length)) rfl ?_
 refine wpList_nil ?_
 refine b_norm ?_
 refine xn hK21 ?_; try clear hK21 K21
 refine wp_region_lit ?_
 refine p_val (r_add (r := 3) rfl rfl rfl) ?_
 refine p_mv (v := (.int _ _)) rfl ?_
 refine wpList_nil ?_
 refine x_norm ?_
 rw [rounds_succ]
 refine sr ?_; intro K25 hK25
 refine p_val (r_lss (t := true) rfl rfl (by decide)) ?_
 refine xk hK25 ?_; try clear hK25 K25
 refine wp_seq_k ?_; intro K26 hK26
 refine c_true rfl rfl ?_
 refine wp_skip ?_
 refine xn hK26 ?_; try clear hK26 K26
 refine wp_seq_k ?_; intro K27 hK27
 refine wp_block ?_
 refine sr ?_; intro K28 hK28
 refine p_mv (v := (.int _ _)) rfl ?_
 refine p_as (v := (.int _ _)) rfl ?_
 refine xk hK28 ?_; try clear hK28 K28
 refine wp_region_lit ?_
 refine p_mv (v := (sl bo_5_5o24 0 (u8s (be 8 (lm A 3).toNat ++ be 8 (lm A 2).toNat ++ be 8 (lm A 1).toNat)).length (u8s (be 8 (lm A 3).toNat ++ be 8 (lm A 2).toNat ++ be 8 (lm A 1).toNat) ++ rsbo_5_5o24).length)) rfl ?_
 refine p_mv (v := (.int _ _)) rfl ?_
 refine p_val (r_sub (r := 0) rfl rfl rfl) ?_
 refine p_val (r_addrA u24 sz22 rfl (k := .i64) (i := 0) rfl rfl (by decide) (by decide)) ?_
 refine p_val (r_load1 (v := (.int _ _)) to22 H rfl (k := 1) rfl rfl) ?_
 refine p_call (l := [(sl bo_5_5o24 0 (u8s (be 8 (lm A 3).toNat ++ be 8 (lm A 2).toNat ++ be 8 (lm A 1).toNat)).length (u8s (be 8 (lm A 3).toNat ++ be 8 (lm A 2).toNat ++ be 8 (lm A 1).toNat) ++ rsbo_5_5o24).length), (.int _ _), (.int _ _)]) is35 rfl ?_
 refine (big_c _ _ _ _ _ _ (U_lm _ _) (by simp [be_length]) _ H).mono ?_; rintro _ w29 ⟨bo_5_5o30, rsbo_5_5o30, rfl, H'⟩; clear H; have H := H'; clear H'
 refine p_as (v := (sl bo_5_5o30 0 (u8s (be 8 (lm A 3).toNat ++ be 8 (lm A 2).toNat ++ be 8 (lm A 1).toNat ++ be 8 (lm A 0).toNat)).length (u8s (be 8 (lm A 3).toNat ++ be 8 (lm A 2).toNat ++ be 8 (lm A 1).toNat ++ be 8 (lm A 0).toNat) ++ rsbo_5_5o30).length)) rfl ?_
 refine wpList_nil ?_
 refine b_norm ?_
 refine xn hK27 ?_; try clear hK27 K27
 refine wp_region_lit ?_
 refine p_val (r_add (r := 4) rfl rfl rfl) ?_
 refine p_mv (v := (.int _ _)) rfl ?_
 refine wpList_nil ?_
 refine x_norm ?_
 rw [rounds_succ]
 refine sr ?_; intro K31 hK31
 refine p_val (r_lss (t := false) rfl rfl (by decide)) ?_
 refine xk hK31 ?_; try clear hK31 K31
 refine wp_seq_k ?_; intro K32 hK32
 refine c_false rfl rfl ?_
 refine wp_exit ?_
 refine x_exit ?_
 refine x_exit ?_
 refine b_hit ?_
 refine xn hK5 ?_; try clear hK5 K5
 refine sr ?_; intro K33 hK33
 refine p_mv (v := (sl bo_5_5o30 0 (u8s (be 8 (lm A 3).toNat ++ be 8 (lm A 2).toNat ++ be 8 (lm A 1).toNat ++ be 8 (lm A 0).toNat)).length (u8s (be 8 (lm A 3).toNat ++ be 8 (lm A 2).toNat ++ be 8 (lm A 1).toNat ++ be 8 (lm A 0).toNat) ++ rsbo_5_5o30).length)) rfl ?_
 refine p_val (r_ofBytes (l := _) u67 u5 u9 rfl ((Rd.ownA H (k := 0) (xs := u8s (be 8 (lm A 3).toNat ++ be 8 (lm A 2).toNat ++ be 8 (lm A 1).toNat ++ be 8 (lm A 0).toNat)) (rs := rsbo_5_5o30) rfl rfl rfl))) ?_
 refine p_as (v := (str _)) rfl ?_
 refine xk hK33 ?_; try clear hK33 K33
 refine wp_ret ?_
 refine e_1 rfl (q_tmp (v := (str _)) rfl) ?_
 exact ⟨by rw [be_32], H.below⟩

end Go.Proofs.Ytmbcolbbekbccaa
