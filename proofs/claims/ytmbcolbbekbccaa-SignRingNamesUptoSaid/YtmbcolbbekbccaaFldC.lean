/- The walks of some functions. Conditions: as each theorem says. -/
import Derived.Test.YtmbcolbbekbccaaFldB
import Derived.Test.YtmbcolbbekbccaaByt
namespace Go.Proofs.Ytmbcolbbekbccaa
open Go Go.RowKit
attribute [local irreducible] wpList wpT Code.wp Calls Code.rounds lm sd sb ad ac modN bval be
theorem u5 : Try.prog.underlying 5 = some (.int .u8) := by kernel_rfl
theorem u9 : Try.prog.underlying 9 = some .string := by kernel_rfl
theorem is25 : IsFn Try.prog 25 := isFn Try.func25 (by kernel_rfl) (by kernel_rfl)
theorem is33 : IsFn Try.prog 33 := isFn Try.func33 (by kernel_rfl) (by kernel_rfl)
theorem is50 : IsFn Try.prog 50 := isFn Try.func50 (by kernel_rfl) (by kernel_rfl)
theorem is63 : IsFn Try.prog 63 := isFn Try.func63 (by kernel_rfl) (by kernel_rfl)

theorem pow_c (m : Int) (A X : Nat) (hA : A < two256) (hX : X < two256) (w : World) :
    Calls Try.prog 50 #[.int .i64 m, numV A, numV X] w fun e w' => e = .returned (numV (A ^ X % modN m)) ∧ Ext w w' := by
 refine enter (n := 32) Try.func50 rfl rfl rfl ?_
 have H := HP.start w
 have hpl := (mod_modN m).lt
 have hl : ∀ Y, Y % modN m < two256 := fun Y => Nat.lt_trans (Nat.mod_lt _ (mod_modN m).pos) hpl
 refine sr ?_; intro K1 hK1
 refine p_box (l := numL A) H rfl ?_; clear H; intro w2 b3 H
 refine p_box (l := numL X) H rfl ?_; clear H; intro w4 b5 H
 refine p_alloc (l := [.int .u64 0, .int .u64 0, .int .u64 0, .int .u64 0]) H tz24 rfl ?_; clear H; intro w7 b6 H
 refine xk hK1 ?_; try clear hK1 K1
 refine sr ?_; intro K8 hK8
 refine p_val (r_as (l' := numL 1) (r_build (vals := [(0, (.int _ _))]) (l := [_, _, _, _]) tb24 rfl rfl) (num_lit 1 (by decide))) ?_
 refine p_alloc (l := [.int .u64 0, .int .u64 0, .int .u64 0, .int .u64 0]) H tz24 rfl ?_; clear H; intro w10 b9 H
 refine p_storeW tg24 H rfl (k := 0) rfl rfl rfl rfl rfl ?_; clear H; intro w11 H
 refine xk hK8 ?_; try clear hK8 K8
 refine wp_seq_k ?_; intro K12 hK12
 refine sr ?_; intro K13 hK13
 replace H := HP.recast H (k := 0) (cs' := numL (A ^ (X / 2 ^ 256) % modN m)) rfl (congrArg numL (pow_init0 m hX).symm)
 refine p_as (v := (.int _ _)) rfl ?_
 refine xk hK13 ?_; try clear hK13 K13
 refine wp_block ?_
 refine loopF [8, 10, 11, 12, 13, 14, 15, 16, 17, 18, 19, 20, 21, 22, 23, 24, 25, 26, 27, 28, 29, 30] (fun γ μ w' => ∃ (k : Nat), k = γ ∧ look μ 8 = .int .i64 ((k : Int) - 1) ∧ HP w w' [(b9, numL (A ^ (X / 2 ^ k) % modN m), 24), (b6, [.int .u64 0, .int .u64 0, .int .u64 0, .int .u64 0], 24), (b5, numL X, 24), (b3, numL A, 24)] ∧ (k ≤ 256)) (256) ⟨256, rfl, rfl, H, Nat.le_refl _⟩ ?_
 clear H
 intro g17 m14 w15 hk16 hI; obtain ⟨k, rfl, hl18, H, hk⟩ := hI
 refine wp_seq_k ?_; intro K19 hK19
 refine sr ?_; intro K20 hK20
 refine p_mv (v := (.int _ _)) hl18 ?_
 refine p_val (r_geq rfl rfl rfl) ?_
 refine xk hK20 ?_; try clear hK20 K20
 refine c_split (t := _) rfl (fun hc_3 => ?_) (fun hc_3 => ?_)
 ·skip
  have hk0 : 0 < k := by have := of_decide_eq_true hc_3; omega
  refine wp_skip ?_
  refine xn hK19 ?_; try clear hK19 K19
  refine wp_seq_k ?_; intro K22 hK22
  refine wp_block ?_
  refine sr ?_; intro K23 hK23
  refine p_mv (v := (.int _ _)) (hk16 0 rfl) ?_
  refine p_val (r_loadW tg24 H (hk16 7 rfl) (k := 0) rfl rfl) ?_
  refine p_val (r_loadW tg24 H (hk16 7 rfl) (k := 0) rfl rfl) ?_
  refine p_call (l := [(.int _ _), (.agg (List.toArray _)), (.agg (List.toArray _))]) is25 rfl ?_
  refine (mul_c _ _ _ (by first | exact hl _ | assumption) (by first | exact hl _ | assumption) _).mono ?_; rintro _ w24 ⟨rfl, hx⟩; replace H := H.ext hx; clear hx
  refine p_storeW tg24 H (hk16 7 rfl) (k := 0) rfl rfl rfl rfl rfl ?_; clear H; intro w25 H
  refine xk hK23 ?_; try clear hK23 K23
  refine sr ?_; intro K26 hK26
  refine p_mv (v := (.int _ _)) hl18 ?_
  refine p_val (r_quo (r := (((k - 1) / 64 : Nat) : Int)) rfl rfl (by decide) (pow_quo hk0 hk)) ?_
  refine p_val (r_addrA (i := (k - 1) / 64) u24 sz22 (hk16 5 rfl) rfl (rfl) (by omega) (by omega)) ?_
  refine p_val (r_load1 (v := .int .u64 (lm X ((k - 1) / 64))) to22 H rfl (k := 2) rfl ((by rw [Nat.zero_add, Nat.mul_one]; exact numL_piece _ _ (by omega)))) ?_
  refine p_mv (v := (.int _ _)) hl18 ?_
  refine p_val (r_rem (r := (((k - 1) % 64 : Nat) : Int)) rfl rfl (by decide) (pow_rem hk0)) ?_
  refine p_val (r_shr (r := ((X / 2 ^ (64 * ((k - 1) / 64)) % 2 ^ 64 / 2 ^ ((k - 1) % 64) : Nat) : Int)) rfl rfl (by omega) (pow_shr X _ _ (by omega))) ?_
  refine p_val (r_bits (bo := .and) (by simp) (r := ((X / 2 ^ (k - 1) % 2 : Nat) : Int)) rfl rfl (pow_and X (k - 1))) ?_
  refine p_val (r_eql rfl rfl rfl) ?_
  refine xk hK26 ?_; try clear hK26 K26
  refine c_split (t := _) rfl (fun hc_6 => ?_) (fun hc_6 => ?_)
  ·skip
   have hbit := bit_t hc_6
   refine wp_region_lit ?_
   refine p_mv (v := (.int _ _)) (hk16 0 rfl) ?_
   refine p_val (r_loadW tg24 H (hk16 7 rfl) (k := 0) rfl rfl) ?_
   refine p_val (r_loadW tg24 H (hk16 4 rfl) (k := 3) rfl rfl) ?_
   refine p_call (l := [(.int _ _), (.agg (List.toArray _)), (.agg (List.toArray _))]) is25 rfl ?_
   refine (mul_c _ _ _ (by first | exact hl _ | assumption) (by first | exact hl _ | assumption) _).mono ?_; rintro _ w28 ⟨rfl, hx⟩; replace H := H.ext hx; clear hx
   refine p_storeW tg24 H (hk16 7 rfl) (k := 0) rfl rfl rfl rfl rfl ?_; clear H; intro w29 H
   refine wpList_nil ?_
   refine b_norm ?_
   refine xn hK22 ?_; try clear hK22 K22
   refine wp_region_lit ?_
   refine p_mv (v := (.int _ _)) hl18 ?_
   refine p_val (r_sub rfl rfl (wr64 (by omega) (by omega))) ?_
   refine p_as (v := (.int _ _)) rfl ?_
   refine wpList_nil ?_
   refine x_norm ?_
   exact ⟨_, _, (by omega), rfl, (by repeat (first | exact hk16 | refine keep_cons rfl ?_)), k - 1, rfl, congrArg (Value.int .i64) (by omega), (HP.recast H (k := 0) rfl (congrArg numL (pow_b1 hk0 hbit))), by omega⟩
  ·skip
   have hbit := bit_f hc_6
   refine wp_skip ?_
   refine b_norm ?_
   refine xn hK22 ?_; try clear hK22 K22
   refine wp_region_lit ?_
   refine p_mv (v := (.int _ _)) hl18 ?_
   refine p_val (r_sub rfl rfl (wr64 (by omega) (by omega))) ?_
   refine p_as (v := (.int _ _)) rfl ?_
   refine wpList_nil ?_
   refine x_norm ?_
   exact ⟨_, _, (by omega), rfl, (by repeat (first | exact hk16 | refine keep_cons rfl ?_)), k - 1, rfl, congrArg (Value.int .i64) (by omega), (HP.recast H (k := 0) rfl (congrArg numL (pow_b0 hk0 hbit))), by omega⟩
 ·skip
  have hk0 : k = 0 := by have := of_decide_eq_false hc_3; omega
  refine wp_exit ?_
  refine x_exit ?_
  refine x_exit ?_
  refine b_hit ?_
  refine xn hK12 ?_; try clear hK12 K12
  refine sr ?_; intro K30 hK30
  refine p_val (r_loadW tg24 H (hk16 7 rfl) (k := 0) rfl rfl) ?_
  refine p_storeW tg24 H (hk16 6 rfl) (k := 1) rfl rfl rfl rfl rfl ?_; clear H; intro w31 H
  refine xk hK30 ?_; try clear hK30 K30
  refine wp_ret ?_
  refine e_1 rfl (q_cellW tg24 H (hk16 6 rfl) (k := 1) rfl rfl) ?_
  subst hk0
  exact ⟨by rw [Nat.pow_zero, Nat.div_one], H.below⟩

theorem inv_c (m : Int) (A : Nat) (hA : A < two256) (w : World) :
    Calls Try.prog 24 #[.int .i64 m, numV A] w fun e w' => e = .returned (.tuple #[numV (invV m A), .int .i64 (invE m A)]) ∧ Ext w w' := by
 refine enter (n := 23) Try.func24 rfl rfl rfl ?_
 have H := HP.start w
 have hpl := (mod_modN m).lt
 refine sr ?_; intro K1 hK1
 refine p_box (l := numL A) H rfl ?_; clear H; intro w2 b3 H
 refine p_alloc (l := [.int .u64 0, .int .u64 0, .int .u64 0, .int .u64 0]) H tz24 rfl ?_; clear H; intro w5 b4 H
 refine p_as (v := (.int _ _)) rfl ?_
 refine xk hK1 ?_; try clear hK1 K1
 refine sr ?_; intro K6 hK6
 refine p_mv (v := (.int _ _)) rfl ?_
 refine p_call (l := [(.int _ _)]) is26 rfl ?_
 refine (modulus_c _ _).mono ?_; rintro _ w7 ⟨rfl, hx⟩; replace H := H.ext hx; clear hx
 refine p_alloc (l := [.int .u64 0, .int .u64 0, .int .u64 0, .int .u64 0]) H tz24 rfl ?_; clear H; intro w9 b8 H
 refine p_storeW tg24 H rfl (k := 0) rfl rfl rfl rfl rfl ?_; clear H; intro w10 H
 refine xk hK6 ?_; try clear hK6 K6
 refine wp_seq_k ?_; intro K11 hK11
 refine sr ?_; intro K12 hK12
 refine p_val (r_loadW tg24 H rfl (k := 2) rfl rfl) ?_
 refine p_val (r_loadW tg24 H rfl (k := 0) rfl rfl) ?_
 refine p_call (l := [(.agg (List.toArray _)), (.agg (List.toArray _))]) is34 rfl ?_
 refine (below_c _ _ (by first | exact Nat.mod_lt _ two256_pos | exact Mod.lt (mod_modN _) | assumption | exact onceN_lt (by assumption) | exact Nat.lt_trans (Nat.mod_lt _ (mod_modN _).pos) (mod_modN _).lt | exact ofV_lt2 _ _ | exact invV_lt2 _ _ | exact fm_lt2 _ _ | exact fa_lt2 _ _ | exact fs_lt2 _ _ | exact fn_lt2 _ | exact PP_lt | exact AL_GG.1 | exact AL_GG.2 | exact (AL_cadd _ _).1 | exact (AL_cadd _ _).2 | exact (AL_cmul _ _).1 | exact (AL_cmul _ _).2 | exact (AL_cofV _).1 | exact (AL_cofV _).2 | exact (AL_cneg (by assumption)).1 | exact (AL_cneg (by assumption)).2 | exact lt_lit (by decide)) (by first | assumption | exact mod_modN _) _).mono ?_; rintro _ w13 ⟨rfl, hx⟩; replace H := H.ext hx; clear hx
 refine p_val (r_as (l' := numL 0) (r_build (vals := []) (l := [_, _, _, _]) tb24 rfl rfl) (num_0)) ?_
 refine p_val (r_eqnum u24 u22 sz22 ag22 eg24 rfl rfl (by first | exact Nat.mod_lt _ two256_pos | exact Mod.lt (mod_modN _) | assumption | exact onceN_lt (by assumption) | exact Nat.lt_trans (Nat.mod_lt _ (mod_modN _).pos) (mod_modN _).lt | exact ofV_lt2 _ _ | exact invV_lt2 _ _ | exact fm_lt2 _ _ | exact fa_lt2 _ _ | exact fs_lt2 _ _ | exact fn_lt2 _ | exact PP_lt | exact AL_GG.1 | exact AL_GG.2 | exact (AL_cadd _ _).1 | exact (AL_cadd _ _).2 | exact (AL_cmul _ _).1 | exact (AL_cmul _ _).2 | exact (AL_cofV _).1 | exact (AL_cofV _).2 | exact (AL_cneg (by assumption)).1 | exact (AL_cneg (by assumption)).2 | exact lt_lit (by decide)) (by first | exact Nat.mod_lt _ two256_pos | exact Mod.lt (mod_modN _) | assumption | exact onceN_lt (by assumption) | exact Nat.lt_trans (Nat.mod_lt _ (mod_modN _).pos) (mod_modN _).lt | exact ofV_lt2 _ _ | exact invV_lt2 _ _ | exact fm_lt2 _ _ | exact fa_lt2 _ _ | exact fs_lt2 _ _ | exact fn_lt2 _ | exact PP_lt | exact AL_GG.1 | exact AL_GG.2 | exact (AL_cadd _ _).1 | exact (AL_cadd _ _).2 | exact (AL_cmul _ _).1 | exact (AL_cmul _ _).2 | exact (AL_cofV _).1 | exact (AL_cofV _).2 | exact (AL_cneg (by assumption)).1 | exact (AL_cneg (by assumption)).2 | exact lt_lit (by decide)) rfl) ?_
 refine xk hK12 ?_; try clear hK12 K12
 refine c_split (t := _) rfl (fun hc_2 => ?_) (fun hc_2 => ?_)
 ·skip
  refine sr ?_; intro K15 hK15
  refine p_val (r_as (l' := numL 0) (r_build (vals := []) (l := [_, _, _, _]) tb24 rfl rfl) (num_0)) ?_
  refine p_storeW tg24 H rfl (k := 1) rfl rfl rfl rfl rfl ?_; clear H; intro w16 H
  refine p_as (v := (.int _ _)) rfl ?_
  refine xk hK15 ?_; try clear hK15 K15
  refine wp_ret ?_
  refine x_ret ?_
  refine e_2 rfl (q_cellW tg24 H rfl (k := 1) rfl rfl) (q_tmp (v := (.int _ _)) rfl) ?_
  have e0 := beqN hc_2
  exact ⟨by simp only [invV, invE, e0, if_true], H.below⟩
 ·skip
  refine wp_skip ?_
  refine xn hK11 ?_; try clear hK11 K11
  refine sr ?_; intro K17 hK17
  refine p_val (r_addrA u24 sz22 rfl (k := .i64) (i := 0) rfl rfl (by decide) (by decide)) ?_
  refine p_val (r_load1 (v := (.int _ _)) to22 H rfl (k := 0) rfl rfl) ?_
  refine p_val (r_sub rfl rfl rfl) ?_
  refine p_val (r_addrA u24 sz22 rfl (k := .i64) (i := 0) rfl rfl (by decide) (by decide)) ?_
  refine p_store1 (cs := _) (v := (.int _ _)) to22 H rfl (k := 0) rfl rfl rfl (rfl) ?_; clear H; intro w18 H
  rw [low_sub m] at H
  refine xk hK17 ?_; try clear hK17 K17
  refine sr ?_; intro K19 hK19
  refine p_mv (v := (.int _ _)) rfl ?_
  refine p_val (r_loadW tg24 H rfl (k := 2) rfl rfl) ?_
  refine p_val (r_loadW tg24 H rfl (k := 0) rfl rfl) ?_
  refine p_call (l := [(.int _ _), (.agg (List.toArray _)), (.agg (List.toArray _))]) is50 rfl ?_
  refine (pow_c _ _ _ hA (low_lt m) _).mono ?_; rintro _ w20 ⟨rfl, hx⟩; replace H := H.ext hx; clear hx
  refine p_storeW tg24 H rfl (k := 1) rfl rfl rfl rfl rfl ?_; clear H; intro w21 H
  refine p_as (v := (.int _ _)) rfl ?_
  refine xk hK19 ?_; try clear hK19 K19
  refine wp_ret ?_
  refine e_2 rfl (q_cellW tg24 H rfl (k := 1) rfl rfl) (q_tmp (v := (.int _ _)) rfl) ?_
  have e0 := bneN hc_2
  exact ⟨by simp only [invV, invE, e0, if_false], H.below⟩

theorem value_c (l : List UInt8) (hl : l.length ≤ 8) (w : World) :
    Calls Try.prog 63 #[str l] w fun e w' => e = .returned (.int .u64 (bval l : Int)) ∧ Ext w w' := by
 refine enter (n := 19) Try.func63 rfl rfl rfl ?_
 have H := HP.start w
 refine sr ?_; intro K1 hK1
 refine p_as (v := (.int _ _)) rfl ?_
 refine xk hK1 ?_; try clear hK1 K1
 refine sr ?_; intro K2 hK2
 refine p_as (v := (.int _ _)) rfl ?_
 refine xk hK2 ?_; try clear hK2 K2
 refine wp_seq_k ?_; intro K3 hK3
 refine sr ?_; intro K4 hK4
 refine p_mv (v := (str l)) rfl ?_
 refine p_val (r_lenT (N := _) u9 rfl (rfl)) ?_
 refine p_mv (v := (.int _ _)) rfl ?_
 refine xk hK4 ?_; try clear hK4 K4
 refine wp_block ?_
 refine loopF [3, 4, 7, 8, 9, 10, 11, 12, 13, 14, 15, 16, 17] (fun γ μ w' => ∃ (i : Nat), l.length - i = γ ∧ look μ 7 = .int .i64 (i : Int) ∧ look μ 3 = .int .u64 (bval (l.take i) : Int) ∧ HP w w' [] ∧ (i ≤ l.length)) (l.length) ⟨0, rfl, rfl, (by rw [List.take_zero, bval_nil]; rfl), H, Nat.zero_le _⟩ ?_
 clear H
 intro g8 m5 w6 hk7 hI; obtain ⟨i, rfl, hl9, hl10, H, hi⟩ := hI
 refine sr ?_; intro K11 hK11
 refine p_val (r_lss hl9 (hk7 6 rfl) rfl) ?_
 refine xk hK11 ?_; try clear hK11 K11
 refine wp_seq_k ?_; intro K13 hK13
 refine c_split (t := _) rfl (fun hc_3 => ?_) (fun hc_3 => ?_)
 ·skip
  have hi1 : i < l.length := by have := of_decide_eq_true hc_3; omega
  obtain ⟨b, hb⟩ : ∃ b, l[i]? = some b := ⟨_, List.getElem?_eq_getElem hi1⟩
  have hv7 := value_lt7 hi1 hl
  refine wp_skip ?_
  refine xn hK13 ?_; try clear hK13 K13
  refine wp_seq_k ?_; intro K14 hK14
  refine wp_block ?_
  refine sr ?_; intro K15 hK15
  refine p_mv (v := (.int _ _)) hl9 ?_
  refine p_as (v := (.int _ _)) rfl ?_
  refine xk hK15 ?_; try clear hK15 K15
  refine wp_region_lit ?_
  refine p_mv (v := (.int _ _)) hl10 ?_
  refine p_val (r_shl (r := ((bval (l.take i) * 256 : Nat) : Int)) rfl rfl (by decide) (value_shl hv7)) ?_
  refine p_mv (v := (str l)) (hk7 0 rfl) ?_
  refine p_mv (v := (.int _ _)) rfl ?_
  refine p_val (r_idxT (i := i) (u := b) u9 rfl rfl (rfl) (hb)) ?_
  refine p_val (r_conv (r := (b.toNat : Int)) u5 u22 rfl (u8_64 b)) ?_
  refine p_val (r_bits (bo := .or) (by simp) (r := ((bval (l.take i) * 256 + b.toNat : Nat) : Int)) rfl rfl (value_or hv7)) ?_
  refine p_as (v := (.int _ _)) rfl ?_
  refine wpList_nil ?_
  refine b_norm ?_
  refine xn hK14 ?_; try clear hK14 K14
  refine wp_region_lit ?_
  refine p_val (r_add (r := ((i + 1 : Nat) : Int)) hl9 rfl ((wr64 (by omega) (by omega)).trans (by omega))) ?_
  refine p_mv (v := (.int _ _)) rfl ?_
  refine wpList_nil ?_
  refine x_norm ?_
  exact ⟨_, _, (by omega), rfl, (by repeat (first | exact hk7 | refine keep_cons rfl ?_)), i + 1, rfl, rfl, congrArg (fun z : Nat => Value.int .u64 (z : Int)) (bval_take hb).symm, H, by omega⟩
 ·skip
  have hi1 : i = l.length := by have := of_decide_eq_false hc_3; omega
  refine wp_exit ?_
  refine x_exit ?_
  refine x_exit ?_
  refine b_hit ?_
  refine xn hK3 ?_; try clear hK3 K3
  refine sr ?_; intro K16 hK16
  refine p_mv (v := (.int _ _)) hl10 ?_
  refine p_as (v := (.int _ _)) rfl ?_
  refine xk hK16 ?_; try clear hK16 K16
  refine wp_ret ?_
  refine e_1 rfl (q_tmp (v := (.int _ _)) rfl) ?_
  subst hi1
  exact ⟨by rw [List.take_length], H.below⟩

theorem number_c (l : List UInt8) (hl : l.length = 32) (w : World) :
    Calls Try.prog 33 #[str l] w fun e w' => e = .returned (numV (bval l)) ∧ Ext w w' := by
 refine enter (n := 21) Try.func33 rfl rfl rfl ?_
 have H := HP.start w
 refine sr ?_; intro K1 hK1
 refine p_alloc (l := [.int .u64 0, .int .u64 0, .int .u64 0, .int .u64 0]) H tz24 rfl ?_; clear H; intro w3 b2 H
 refine xk hK1 ?_; try clear hK1 K1
 refine sr ?_; intro K4 hK4
 refine p_alloc (l := [.int .u64 0, .int .u64 0, .int .u64 0, .int .u64 0]) H tz24 rfl ?_; clear H; intro w6 b5 H
 refine xk hK4 ?_; try clear hK4 K4
 refine wp_seq_k ?_; intro K7 hK7
 refine sr ?_; intro K8 hK8
 refine p_mv (v := (.int _ _)) rfl ?_
 refine xk hK8 ?_; try clear hK8 K8
 refine wp_block ?_
 refine wp_loop_rounds 5 ?_; rw [rounds_succ]
 refine sr ?_; intro K9 hK9
 refine p_val (r_lss (t := true) rfl rfl (by decide)) ?_
 refine xk hK9 ?_; try clear hK9 K9
 refine wp_seq_k ?_; intro K10 hK10
 refine c_true rfl rfl ?_
 refine wp_skip ?_
 refine xn hK10 ?_; try clear hK10 K10
 refine wp_seq_k ?_; intro K11 hK11
 refine wp_block ?_
 refine sr ?_; intro K12 hK12
 refine p_mv (v := (.int _ _)) rfl ?_
 refine p_as (v := (.int _ _)) rfl ?_
 refine xk hK12 ?_; try clear hK12 K12
 refine wp_region_lit ?_
 refine p_mv (v := (.int _ _)) rfl ?_
 refine p_val (r_sub (r := 3) rfl rfl rfl) ?_
 refine p_mv (v := (str l)) rfl ?_
 refine p_mv (v := (.int _ _)) rfl ?_
 refine p_val (r_mul (r := 0) rfl rfl rfl) ?_
 refine p_mv (v := (.int _ _)) rfl ?_
 refine p_val (r_mul (r := 0) rfl rfl rfl) ?_
 refine p_val (r_add (r := 8) rfl rfl rfl) ?_
 refine p_val (r_sliceT (p := 0) (h := 8) (r := _) u9 rfl rfl rfl (rfl) (rfl) (by omega) (by omega) (rfl)) ?_
 refine p_call (l := [(str _)]) is63 rfl ?_
 refine (value_c _ (by first | (simp; done) | (simp; omega)) _).mono ?_; rintro _ w13 ⟨rfl, hx⟩; replace H := H.ext hx; clear hx
 refine p_val (r_addrA u24 sz22 rfl (k := .i64) (i := 3) rfl rfl (by decide) (by decide)) ?_
 refine p_store1 (v := (.int _ _)) to22 H rfl (k := 0) rfl rfl rfl rfl ?_; clear H; intro w14 H
 refine wpList_nil ?_
 refine b_norm ?_
 refine xn hK11 ?_; try clear hK11 K11
 refine wp_region_lit ?_
 refine p_val (r_add (r := 1) rfl rfl rfl) ?_
 refine p_mv (v := (.int _ _)) rfl ?_
 refine wpList_nil ?_
 refine x_norm ?_
 rw [rounds_succ]
 refine sr ?_; intro K15 hK15
 refine p_val (r_lss (t := true) rfl rfl (by decide)) ?_
 refine xk hK15 ?_; try clear hK15 K15
 refine wp_seq_k ?_; intro K16 hK16
 refine c_true rfl rfl ?_
 refine wp_skip ?_
 refine xn hK16 ?_; try clear hK16 K16
 refine wp_seq_k ?_; intro K17 hK17
 refine wp_block ?_
 refine sr ?_; intro K18 hK18
 refine p_mv (v := (.int _ _)) rfl ?_
 refine p_as (v := (.int _ _)) rfl ?_
 refine xk hK18 ?_; try clear hK18 K18
 refine wp_region_lit ?_
 refine p_mv (v := (.int _ _)) rfl ?_
 refine p_val (r_sub (r := 2) rfl rfl rfl) ?_
 refine p_mv (v := (str l)) rfl ?_
 refine p_mv (v := (.int _ _)) rfl ?_
 refine p_val (r_mul (r := 8) rfl rfl rfl) ?_
 refine p_mv (v := (.int _ _)) rfl ?_
 refine p_val (r_mul (r := 8) rfl rfl rfl) ?_
 refine p_val (r_add (r := 16) rfl rfl rfl) ?_
 refine p_val (r_sliceT (p := 8) (h := 16) (r := _) u9 rfl rfl rfl (rfl) (rfl) (by omega) (by omega) (rfl)) ?_
 refine p_call (l := [(str _)]) is63 rfl ?_
 refine (value_c _ (by first | (simp; done) | (simp; omega)) _).mono ?_; rintro _ w19 ⟨rfl, hx⟩; replace H := H.ext hx; clear hx
 refine p_val (r_addrA u24 sz22 rfl (k := .i64) (i := 2) rfl rfl (by decide) (by decide)) ?_
 refine p_store1 (v := (.int _ _)) to22 H rfl (k := 0) rfl rfl rfl rfl ?_; clear H; intro w20 H
 refine wpList_nil ?_
 refine b_norm ?_
 refine xn hK17 ?_; try clear hK17 K17
 refine wp_region_lit ?_
 refine p_val (r_add (r := 2) rfl rfl rfl) ?_
 refine p_mv (v := (.int _ _)) rfl ?_
 refine wpList_nil ?_
 refine x_norm ?_
 rw [rounds_succ]
 refine sr ?_; intro K21 hK21
 refine p_val (r_lss (t := true) rfl rfl (by decide)) ?_
 refine xk hK21 ?_; try clear hK21 K21
 refine wp_seq_k ?_; intro K22 hK22
 refine c_true rfl rfl ?_
 refine wp_skip ?_
 refine xn hK22 ?_; try clear hK22 K22
 refine wp_seq_k ?_; intro K23 hK23
 refine wp_block ?_
 refine sr ?_; intro K24 hK24
 refine p_mv (v := (.int _ _)) rfl ?_
 refine p_as (v := (.int _ _)) rfl ?_
 refine xk hK24 ?_; try clear hK24 K24
 refine wp_region_lit ?_
 refine p_mv (v := (.int _ _)) rfl ?_
 refine p_val (r_sub (r := 1) rfl rfl rfl) ?_
 refine p_mv (v := (str l)) rfl ?_
 refine p_mv (v := (.int _ _)) rfl ?_
 refine p_val (r_mul (r := 16) rfl rfl rfl) ?_
 refine p_mv (v := (.int _ _)) rfl ?_
 refine p_val (r_mul (r := 16) rfl rfl rfl) ?_
 refine p_val (r_add (r := 24) rfl rfl rfl) ?_
 refine p_val (r_sliceT (p := 16) (h := 24) (r := _) u9 rfl rfl rfl (rfl) (rfl) (by omega) (by omega) (rfl)) ?_
 refine p_call (l := [(str _)]) is63 rfl ?_
 refine (value_c _ (by first | (simp; done) | (simp; omega)) _).mono ?_; rintro _ w25 ⟨rfl, hx⟩; replace H := H.ext hx; clear hx
 refine p_val (r_addrA u24 sz22 rfl (k := .i64) (i := 1) rfl rfl (by decide) (by decide)) ?_
 refine p_store1 (v := (.int _ _)) to22 H rfl (k := 0) rfl rfl rfl rfl ?_; clear H; intro w26 H
 refine wpList_nil ?_
 refine b_norm ?_
 refine xn hK23 ?_; try clear hK23 K23
 refine wp_region_lit ?_
 refine p_val (r_add (r := 3) rfl rfl rfl) ?_
 refine p_mv (v := (.int _ _)) rfl ?_
 refine wpList_nil ?_
 refine x_norm ?_
 rw [rounds_succ]
 refine sr ?_; intro K27 hK27
 refine p_val (r_lss (t := true) rfl rfl (by decide)) ?_
 refine xk hK27 ?_; try clear hK27 K27
 refine wp_seq_k ?_; intro K28 hK28
 refine c_true rfl rfl ?_
 refine wp_skip ?_
 refine xn hK28 ?_; try clear hK28 K28
 refine wp_seq_k ?_; intro K29 hK29
 refine wp_block ?_
 refine sr ?_; intro K30 hK30
 refine p_mv (v := (.int _ _)) rfl ?_
 refine p_as (v := (.int _ _)) rfl ?_
 refine xk hK30 ?_; try clear hK30 K30
 refine wp_region_lit ?_
 refine p_mv (v := (.int _ _)) rfl ?_
 refine p_val (r_sub (r := 0) rfl rfl rfl) ?_
 refine p_mv (v := (str l)) rfl ?_
 refine p_mv (v := (.int _ _)) rfl ?_
 refine p_val (r_mul (r := 24) rfl rfl rfl) ?_
 refine p_mv (v := (.int _ _)) rfl ?_
 refine p_val (r_mul (r := 24) rfl rfl rfl) ?_
 refine p_val (r_add (r := 32) rfl rfl rfl) ?_
 refine p_val (r_sliceT (p := 24) (h := 32) (r := _) u9 rfl rfl rfl (rfl) (rfl) (by omega) (by omega) (rfl)) ?_
 refine p_call (l := [(str _)]) is63 rfl ?_
 refine (value_c _ (by first | (simp; done) | (simp; omega)) _).mono ?_; rintro _ w31 ⟨rfl, hx⟩; replace H := H.ext hx; clear hx
 refine p_val (r_addrA u24 sz22 rfl (k := .i64) (i := 0) rfl rfl (by decide) (by decide)) ?_
 refine p_store1 (v := (.int _ _)) to22 H rfl (k := 0) rfl rfl rfl rfl ?_; clear H; intro w32 H
 refine wpList_nil ?_
 refine b_norm ?_
 refine xn hK29 ?_; try clear hK29 K29
 refine wp_region_lit ?_
 refine p_val (r_add (r := 4) rfl rfl rfl) ?_
 refine p_mv (v := (.int _ _)) rfl ?_
 refine wpList_nil ?_
 refine x_norm ?_
 rw [rounds_succ]
 refine sr ?_; intro K33 hK33
 refine p_val (r_lss (t := false) rfl rfl (by decide)) ?_
 refine xk hK33 ?_; try clear hK33 K33
 refine wp_seq_k ?_; intro K34 hK34
 refine c_false rfl rfl ?_
 refine wp_exit ?_
 refine x_exit ?_
 refine x_exit ?_
 refine b_hit ?_
 refine xn hK7 ?_; try clear hK7 K7
 refine sr ?_; intro K35 hK35
 refine p_val (r_loadW tg24 H rfl (k := 0) rfl rfl) ?_
 refine p_storeW tg24 H rfl (k := 1) rfl rfl rfl rfl rfl ?_; clear H; intro w36 H
 refine xk hK35 ?_; try clear hK35 K35
 refine wp_ret ?_
 refine e_1 rfl (q_cellW tg24 H rfl (k := 1) rfl rfl) ?_
 exact ⟨congrArg (fun z : List Value => Ending.returned (.agg z.toArray)) (number_fin hl), H.below⟩

theorem of_c (m : Int) (l : List UInt8) (hl : l.length < 4611686018427387904) (w : World) :
    Calls Try.prog 9 #[.int .i64 m, str l] w fun e w' => e = .returned (.tuple #[numV (ofV m l), .int .i64 (ofE m l)]) ∧ Ext w w' := by
 refine enter (n := 21) Try.func9 rfl rfl rfl ?_
 have H := HP.start w
 have hpl := (mod_modN m).lt
 refine sr ?_; intro K1 hK1
 refine p_alloc (l := [.int .u64 0, .int .u64 0, .int .u64 0, .int .u64 0]) H tz24 rfl ?_; clear H; intro w3 b2 H
 refine p_as (v := (.int _ _)) rfl ?_
 refine xk hK1 ?_; try clear hK1 K1
 refine wp_seq_k ?_; intro K4 hK4
 refine sr ?_; intro K5 hK5
 refine p_mv (v := (str l)) rfl ?_
 refine p_val (r_lenT (N := _) u9 rfl (rfl)) ?_
 refine p_val (r_neq rfl rfl rfl) ?_
 refine xk hK5 ?_; try clear hK5 K5
 refine c_split (t := _) rfl (fun hc_1 => ?_) (fun hc_1 => ?_)
 ·skip
  refine sr ?_; intro K7 hK7
  refine p_val (r_as (l' := numL 0) (r_build (vals := []) (l := [_, _, _, _]) tb24 rfl rfl) (num_0)) ?_
  refine p_storeW tg24 H rfl (k := 0) rfl rfl rfl rfl rfl ?_; clear H; intro w8 H
  refine p_as (v := (.int _ _)) rfl ?_
  refine xk hK7 ?_; try clear hK7 K7
  refine wp_ret ?_
  refine x_ret ?_
  refine e_2 rfl (q_cellW tg24 H rfl (k := 0) rfl rfl) (q_tmp (v := (.int _ _)) rfl) ?_
  have h0 := of_f (of_len (m := m) (l := l) (fun h => by rw [h] at hc_1; simp at hc_1))
  exact ⟨by rw [h0.1, h0.2], H.below⟩
 ·skip
  have h32 : l.length = 32 := by have := hc_1; simp at this; omega
  refine wp_skip ?_
  refine xn hK4 ?_; try clear hK4 K4
  refine sr ?_; intro K9 hK9
  refine p_mv (v := (str l)) rfl ?_
  refine p_call (l := [(str l)]) is33 rfl ?_
  refine (number_c _ h32 _).mono ?_; rintro _ w10 ⟨rfl, hx⟩; replace H := H.ext hx; clear hx
  refine p_alloc (l := [.int .u64 0, .int .u64 0, .int .u64 0, .int .u64 0]) H tz24 rfl ?_; clear H; intro w12 b11 H
  refine p_storeW tg24 H rfl (k := 0) rfl rfl rfl rfl rfl ?_; clear H; intro w13 H
  refine xk hK9 ?_; try clear hK9 K9
  refine wp_seq_k ?_; intro K14 hK14
  refine wp_seq_k ?_; intro K15 hK15
  apply wp_region_ext 6 (kinds [(2, .inl _), (3, .inl _)]) rfl rfl (by kernel_rfl); intro vs17
  simp only [List.take_succ_cons, List.take_zero, List.drop_succ_cons, List.drop_zero]
  replace H := H.drew
  refine t_v (fun w hx => r_loadW tg24 (H.ext hx) rfl (k := 0) rfl rfl) ?_
  refine t_v (fun w hx => r_move (v := (.int _ _)) rfl) ?_
  refine t_call (l := [(.int _ _)]) rfl rfl is26 rfl (fun w hx hF => (modulus_c _ _).mono (fun _ _ ⟨he, hx⟩ => ⟨he, hx⟩)) ?_
  refine t_call (l := [(.agg (List.toArray _)), (.agg (List.toArray _))]) rfl rfl is34 rfl (fun w hx hF => (below_c _ _ (bval_two256 h32) (mod_modN m) _).mono (fun _ _ ⟨he, hx⟩ => ⟨he, hx⟩)) ?_
  refine t_v (fun w hx => r_loadW tg24 (H.ext hx) rfl (k := 0) rfl rfl) ?_
  refine t_v (fun w hx => (r_nenum (t := bval l % modN m != bval l) u24 u22 sz22 ag22 eg24 rfl rfl (Nat.lt_trans (Nat.mod_lt _ (mod_modN m).pos) hpl) (bval_two256 h32) rfl)) ?_
  refine t_nil (fun w18 hx hF hA => ?_)
  replace H := H.ext hx
  clear hx hF hA
  refine wpList_nil ?_; refine on_norm ?_
  refine xn hK15 ?_; try clear hK15 K15
  refine c_split (t := _) rfl (fun hc_4 => ?_) (fun hc_4 => ?_)
  ·skip
   refine sr ?_; intro K20 hK20
   refine p_val (r_as (l' := numL 0) (r_build (vals := []) (l := [_, _, _, _]) tb24 rfl rfl) (num_0)) ?_
   refine p_storeW tg24 H rfl (k := 1) rfl rfl rfl rfl rfl ?_; clear H; intro w21 H
   refine p_as (v := (.int _ _)) rfl ?_
   refine xk hK20 ?_; try clear hK20 K20
   refine wp_ret ?_
   refine x_ret ?_
   refine e_2 rfl (q_cellW tg24 H rfl (k := 1) rfl rfl) (q_tmp (v := (.int _ _)) rfl) ?_
   have h0 := of_f (of_ne hc_4)
   exact ⟨by rw [h0.1, h0.2], H.below⟩
  ·skip
   refine wp_skip ?_
   refine xn hK14 ?_; try clear hK14 K14
   refine sr ?_; intro K22 hK22
   refine p_val (r_loadW tg24 H rfl (k := 0) rfl rfl) ?_
   refine p_storeW tg24 H rfl (k := 1) rfl rfl rfl rfl rfl ?_; clear H; intro w23 H
   refine p_as (v := (.int _ _)) rfl ?_
   refine xk hK22 ?_; try clear hK22 K22
   refine wp_ret ?_
   refine e_2 rfl (q_cellW tg24 H rfl (k := 1) rfl rfl) (q_tmp (v := (.int _ _)) rfl) ?_
   have h0 := of_t (of_eq h32 hc_4)
   exact ⟨by rw [h0.1, h0.2], H.below⟩

end Go.Proofs.Ytmbcolbbekbccaa
