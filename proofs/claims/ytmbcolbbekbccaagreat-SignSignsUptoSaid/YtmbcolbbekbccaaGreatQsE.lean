/- The walks of some functions. Pointers into memory that is only read, and what stands for them; cells whose content does not matter. What some functions compute, and that they do. What the calls of packages field and curve compute, over numbers in words: from the walks of the first kind. Conditions: as each theorem says. -/
import Derived.Test.YtmbcolbbekbccaaGreatQsD
namespace Go.Proofs.YtmbcolbbekbccaaGreat
open Go Go.RowKit
section
theorem lt2_FldC {x : Nat} (h : x < zaE := by first | exact Nat.mod_lt _ zcL | exact Mod.lt (zbF _) | assumption | exact onceN_lt (by assumption) | exact Nat.lt_trans (Nat.mod_lt _ (zbF _).pos) (zbF _).lt | exact ofV_lt2 _ _ | exact invV_lt2 _ _ | exact zeT _ _ | exact zgK _ _ | exact zeR _ _ | exact zfV _ | exact PP_lt | exact AL_GG.1 | exact AL_GG.2 | exact (zkM _ _).1 | exact (zkM _ _).2 | exact (ziP _ _).1 | exact (ziP _ _).2 | exact (zkP _).1 | exact (zkP _).2 | exact (zkL (by assumption)).1 | exact (zkL (by assumption)).2 | exact lt_lit (by decide)) : x < zaE := h
attribute [local irreducible] wpList wpT Code.wp Calls Code.rounds lm sd sb ad ac modN bval be
theorem u5 : Tryz.prog.underlying 5 = some (.int .u8) := by kernel_rfl
theorem u9 : Tryz.prog.underlying 9 = some .string := by kernel_rfl
theorem is51 : IsFn Tryz.prog 51 := isFn Tryz.func51
theorem is96 : IsFn Tryz.prog 96 := isFn Tryz.func96
theorem is99 : IsFn Tryz.prog 99 := isFn Tryz.func99
theorem is134 : IsFn Tryz.prog 134 := isFn Tryz.func134
theorem pow_c (m : Int) (A X : Nat) (hA : A < zaE) (hX : X < zaE) (w : World) :
    Calls Tryz.prog 99 #[.int .i64 m, numV A, numV X] w fun e w' => e = .returned (numV (A ^ X % modN m)) ∧ Ext w w' := by
 refine enter (n := 32) Tryz.func99 rfl rfl rfl ?_
 have H := HP.start w
 have hpl := (zbF m).lt
 have hl : ∀ Y, Y % modN m < zaE := fun Y => Nat.lt_trans (Nat.mod_lt _ (zbF m).pos) hpl
 refine sr fun K1 hK1 => zfM (l := numL A) H rfl fun w2 b3 H => zfM (l := numL X) H rfl fun w4 b5 H => zbW (l := [uz, uz, uz, uz]) H tz24 rfl fun w7 b6 H => xk hK1 <| sr fun K8 hK8 => zaA (r_as (l' := numL 1) (zbC (vals := [(0, (.int _ _))]) (l := [_, _, _, _]) tb24 rfl rfl) (num_lit 1 (by decide))) <| zbW (l := [uz, uz, uz, uz]) H tz24 rfl fun w10 b9 H => ?_
 refine zaO tg24 H rfl (k := 0) rfl rfl rfl rfl rfl fun w11 H => xk hK8 <| wp_seq_k fun K12 hK12 => sr fun K13 hK13 => ?_
 replace H := HP.recast H (k := 0) (cs' := numL (A ^ (X / 2 ^ 256) % modN m)) rfl (congrArg numL (pow_init0 m hX).symm)
 refine asI rfl <| xk hK13 <| wp_block <| loopF [8, 10, 11, 12, 13, 14, 15, 16, 17, 18, 19, 20, 21, 22, 23, 24, 25, 26, 27, 28, 29, 30] (fun γ μ w' => ∃ (k : Nat), k = γ ∧ look μ 8 = .int .i64 ((k : Int) - 1) ∧ HP w w' [(b9, numL (A ^ (X / 2 ^ k) % modN m), 24), (b6, [uz, uz, uz, uz], 24), (b5, numL X, 24), (b3, numL A, 24)] ∧ (k ≤ 256)) (256) ⟨256, rfl, rfl, H, Nat.le_refl _⟩ ?_
 clear H
 intro g17 m14 w15 hk16 hI; obtain ⟨k, rfl, hl18, H, hk⟩ := hI
 refine wp_seq_k fun K19 hK19 => sr fun K20 hK20 => mvI hl18 <| zaA (r_geq rfl rfl rfl) <| xk hK20 ?_
 refine zcG rfl (fun hc_3 => ?_) fun hc_3 => ?_
 ·have hk0 : 0 < k := by have := of_decide_eq_true hc_3; omega
  refine wp_skip <| xn hK19 <| wp_seq_k fun K22 hK22 => wp_block <| sr fun K23 hK23 => mvI (hk16 0 rfl) <| zaA (zaK tg24 H (hk16 7 rfl) (k := 0) rfl rfl) <| zaA (zaK tg24 H (hk16 7 rfl) (k := 0) rfl rfl) <| zaF is51 rfl ?_
  refine (mul_c _ _ _ (by first | exact hl _ | assumption) (by first | exact hl _ | assumption) _).mono <| H.xe fun w24 H => zaO tg24 H (hk16 7 rfl) (k := 0) rfl rfl rfl rfl rfl fun w25 H => xk hK23 <| sr fun K26 hK26 => mvI hl18 <| zaA (r_quo (r := (((k - 1) / 64 : Nat) : Int)) rfl rfl (by decide) (pow_quo hk0 hk)) ?_
  refine zaA (zaQ (i := (k - 1) / 64) u24 sz22 (hk16 5 rfl) rfl (rfl) (by omega) (by omega)) <| zaA (zbU (v := .int .u64 (lm X ((k - 1) / 64))) to22 H rfl (k := 2) rfl ((by rw [Nat.zero_add, Nat.mul_one]; exact numL_piece _ _ (by omega)))) ?_
  refine mvI hl18 <| zaA (r_rem (r := (((k - 1) % 64 : Nat) : Int)) rfl rfl (by decide) (pow_rem hk0)) <| zaA (zeM (r := ((X / 2 ^ (64 * ((k - 1) / 64)) % 2 ^ 64 / 2 ^ ((k - 1) % 64) : Nat) : Int)) rfl rfl (by omega) (pow_shr X _ _ (by omega))) <| zaA (zbJ (bo := .and) (by simp) (r := ((X / 2 ^ (k - 1) % 2 : Nat) : Int)) rfl rfl (pow_and X (k - 1))) <| zaA (r_eql rfl rfl rfl) <| xk hK26 ?_
  refine zcG rfl (fun hc_6 => ?_) fun hc_6 => ?_
  ·have hbit := bit_t hc_6
   refine wp_region_lit <| mvI (hk16 0 rfl) <| zaA (zaK tg24 H (hk16 7 rfl) (k := 0) rfl rfl) <| zaA (zaK tg24 H (hk16 4 rfl) (k := 3) rfl rfl) <| zaF is51 rfl <| (mul_c _ _ _ (by first | exact hl _ | assumption) (by first | exact hl _ | assumption) _).mono <| H.xe fun w28 H => zaO tg24 H (hk16 7 rfl) (k := 0) rfl rfl rfl rfl rfl fun w29 H => wpList_nil <| zaS ?_
   refine xn hK22 <| wp_region_lit <| mvI hl18 <| zaA (zgE rfl rfl (wr64 (by omega) (by omega))) <| asI rfl <| wpList_nil <| zaG ?_
   exact ⟨_, _, (by omega), rfl, kas, k - 1, rfl, congrArg (Value.int .i64) (by omega), (HP.recast H (k := 0) rfl (congrArg numL (pow_b1 hk0 hbit))), by omega⟩
  ·have hbit := bit_f hc_6
   refine wp_skip <| zaS <| xn hK22 <| wp_region_lit <| mvI hl18 <| zaA (zgE rfl rfl (wr64 (by omega) (by omega))) <| asI rfl <| wpList_nil <| zaG ?_
   exact ⟨_, _, (by omega), rfl, kas, k - 1, rfl, congrArg (Value.int .i64) (by omega), (HP.recast H (k := 0) rfl (congrArg numL (pow_b0 hk0 hbit))), by omega⟩
 ·have hk0 : k = 0 := by have := of_decide_eq_false hc_3; omega
  refine wp_exit <| zaN <| zaN <| zcK <| xn hK12 <| sr fun K30 hK30 => zaA (zaK tg24 H (hk16 7 rfl) (k := 0) rfl rfl) <| zaO tg24 H (hk16 6 rfl) (k := 1) rfl rfl rfl rfl rfl fun w31 H => xk hK30 ?_
  refine wp_ret <| e_1 rfl (zcA tg24 H (hk16 6 rfl) (k := 1) rfl rfl) ?_
  subst hk0
  exact ⟨by rw [Nat.pow_zero, Nat.div_one], H.below⟩
theorem inv_c (m : Int) (A : Nat) (hA : A < zaE) (w : World) :
    Calls Tryz.prog 50 #[.int .i64 m, numV A] w fun e w' => e = .returned (.tuple #[numV (invV m A), .int .i64 (invE m A)]) ∧ Ext w w' := by
 refine enter (n := 23) Tryz.func50 rfl rfl rfl ?_
 have H := HP.start w
 have hpl := (zbF m).lt
 refine sr fun K1 hK1 => zfM (l := numL A) H rfl fun w2 b3 H => zbW (l := [uz, uz, uz, uz]) H tz24 rfl fun w5 b4 H => asI rfl <| xk hK1 <| sr fun K6 hK6 => mvI rfl <| zaF is40 rfl <| (modulus_c _ _).mono <| H.xe fun w7 H => ?_
 refine zbW (l := [uz, uz, uz, uz]) H tz24 rfl fun w9 b8 H => zaO tg24 H rfl (k := 0) rfl rfl rfl rfl rfl fun w10 H => xk hK6 <| wp_seq_k fun K11 hK11 => sr fun K12 hK12 => zaA (zaK tg24 H rfl (k := 2) rfl rfl) <| zaA (zaK tg24 H rfl (k := 0) rfl rfl) <| zaF is97 rfl <| (below_c _ _ lt2_FldC (by first | assumption | exact zbF _) _).mono <| H.xe fun w13 H => ?_
 refine zaA (r_as (l' := numL 0) (zbC (vals := []) (l := [_, _, _, _]) tb24 rfl rfl) (num_0)) <| zaA (r_eqnum u24 u22 sz22 ag22 eg24 rfl rfl lt2_FldC lt2_FldC rfl) <| xk hK12 ?_
 refine zcG rfl (fun hc_2 => ?_) fun hc_2 => ?_
 ·refine sr fun K15 hK15 => ?_
  refine zaA (r_as (l' := numL 0) (zbC (vals := []) (l := [_, _, _, _]) tb24 rfl rfl) (num_0)) <| zaO tg24 H rfl (k := 1) rfl rfl rfl rfl rfl fun w16 H => asI rfl <| xk hK15 <| wp_ret <| zdC <| e_2 rfl (zcA tg24 H rfl (k := 1) rfl rfl) (zbD (v := (.int _ _)) rfl) ?_
  have e0 := beqN hc_2
  exact ⟨by simp only [invV, invE, e0, if_true], H.below⟩
 ·refine wp_skip ?_
  refine xn hK11 <| sr fun K17 hK17 => zaA (zaQ u24 sz22 rfl (k := .i64) (i := 0) rfl rfl (by decide) (by decide)) <| zaA (zbU (v := (.int _ _)) to22 H rfl (k := 0) rfl rfl) <| zaA (zgE rfl rfl rfl) <| zaA (zaQ u24 sz22 rfl (k := .i64) (i := 0) rfl rfl (by decide) (by decide)) <| zdK (cs := _) (v := (.int _ _)) to22 H rfl (k := 0) rfl rfl rfl (rfl) fun w18 H => ?_
  rw [low_sub m] at H
  refine xk hK17 <| sr fun K19 hK19 => mvI rfl <| zaA (zaK tg24 H rfl (k := 2) rfl rfl) <| zaA (zaK tg24 H rfl (k := 0) rfl rfl) <| zaF is99 rfl <| (pow_c _ _ _ hA (low_lt m) _).mono <| H.xe fun w20 H => zaO tg24 H rfl (k := 1) rfl rfl rfl rfl rfl fun w21 H => asI rfl ?_
  refine xk hK19 <| wp_ret <| e_2 rfl (zcA tg24 H rfl (k := 1) rfl rfl) (zbD (v := (.int _ _)) rfl) ?_
  have e0 := bneN hc_2
  exact ⟨by simp only [invV, invE, e0, if_false], H.below⟩
theorem value_c (l : List UInt8) (hl : l.length ≤ 8) (w : World) :
    Calls Tryz.prog 134 #[str l] w fun e w' => e = .returned (.int .u64 (bval l : Int)) ∧ Ext w w' := by
 refine enter (n := 19) Tryz.func134 rfl rfl rfl ?_
 have H := HP.start w
 refine sr fun K1 hK1 => asI rfl <| xk hK1 <| sr fun K2 hK2 => asI rfl <| xk hK2 <| wp_seq_k fun K3 hK3 => sr fun K4 hK4 => p_mv (v := (str l)) rfl ?_
 refine zaA (zkQ (N := _) u9 rfl (rfl)) <| mvI rfl <| xk hK4 <| wp_block <| loopF [3, 4, 7, 8, 9, 10, 11, 12, 13, 14, 15, 16, 17] (fun γ μ w' => ∃ (i : Nat), l.length - i = γ ∧ look μ 7 = .int .i64 (i : Int) ∧ look μ 3 = .int .u64 (bval (l.take i) : Int) ∧ HP w w' [] ∧ (i ≤ l.length)) (l.length) ⟨0, rfl, rfl, (by rw [List.take_zero, bval_nil]; rfl), H, Nat.zero_le _⟩ ?_
 clear H
 intro g8 m5 w6 hk7 hI; obtain ⟨i, rfl, hl9, hl10, H, hi⟩ := hI
 refine sr fun K11 hK11 => zaA (zfN hl9 (hk7 6 rfl) rfl) <| xk hK11 <| wp_seq_k fun K13 hK13 => ?_
 refine zcG rfl (fun hc_3 => ?_) fun hc_3 => ?_
 ·have hi1 : i < l.length := by have := of_decide_eq_true hc_3; omega
  obtain ⟨b, hb⟩ : ∃ b, l[i]? = some b := ⟨_, List.getElem?_eq_getElem hi1⟩
  have hv7 := value_lt7 hi1 hl
  refine wp_skip <| xn hK13 <| wp_seq_k fun K14 hK14 => wp_block <| sr fun K15 hK15 => mvI hl9 <| asI rfl <| xk hK15 <| wp_region_lit ?_
  refine mvI hl10 <| zaA (r_shl (r := ((bval (l.take i) * 256 : Nat) : Int)) rfl rfl (by decide) (value_shl hv7)) <| p_mv (v := (str l)) (hk7 0 rfl) <| mvI rfl <| zaA (r_idxT (i := i) (u := b) u9 rfl rfl (rfl) (hb)) <| zaA (zcE (r := (b.toNat : Int)) u5 u22 rfl (u8_64 b)) <| zaA (zbJ (bo := .or) (by simp) (r := ((bval (l.take i) * 256 + b.toNat : Nat) : Int)) rfl rfl (value_or hv7)) <| asI rfl ?_
  refine wpList_nil <| zaS <| xn hK14 <| wp_region_lit <| zaA (zcM (r := ((i + 1 : Nat) : Int)) hl9 rfl ((wr64 (by omega) (by omega)).trans (by omega))) <| mvI rfl <| wpList_nil <| zaG ?_
  exact ⟨_, _, (by omega), rfl, kas, i + 1, rfl, rfl, congrArg (fun z : Nat => Value.int .u64 (z : Int)) (bval_take hb).symm, H, by omega⟩
 ·have hi1 : i = l.length := by have := of_decide_eq_false hc_3; omega
  refine wp_exit <| zaN <| zaN <| zcK <| xn hK3 <| sr fun K16 hK16 => mvI hl10 <| asI rfl <| xk hK16 ?_
  refine wp_ret <| e_1 rfl (zbD (v := (.int _ _)) rfl) ?_
  subst hi1
  exact ⟨by rw [List.take_length], H.below⟩
theorem number_c (l : List UInt8) (hl : l.length = 32) (w : World) :
    Calls Tryz.prog 96 #[str l] w fun e w' => e = .returned (numV (bval l)) ∧ Ext w w' := by
 refine enter (n := 21) Tryz.func96 rfl rfl rfl ?_
 have H := HP.start w
 refine sr fun K1 hK1 => zbW (l := [uz, uz, uz, uz]) H tz24 rfl fun w3 b2 H => xk hK1 <| sr fun K4 hK4 => zbW (l := [uz, uz, uz, uz]) H tz24 rfl fun w6 b5 H => xk hK4 <| wp_seq_k fun K7 hK7 => sr fun K8 hK8 => mvI rfl ?_
 refine xk hK8 <| wp_block <| wp_loop_rounds 5 ?_; rw [rounds_succ]
 refine sr fun K9 hK9 => zaA (zfN (t := true) rfl rfl (by decide)) <| xk hK9 <| wp_seq_k fun K10 hK10 => zcQ rfl rfl <| wp_skip <| xn hK10 <| wp_seq_k fun K11 hK11 => wp_block ?_
 refine sr fun K12 hK12 => mvI rfl <| asI rfl <| xk hK12 <| wp_region_lit <| mvI rfl <| zaA (zgE (r := 3) rfl rfl rfl) <| p_mv (v := (str l)) rfl <| mvI rfl ?_
 refine zaA (zgW (r := 0) rfl rfl rfl) <| mvI rfl <| zaA (zgW (r := 0) rfl rfl rfl) <| zaA (zcM (r := 8) rfl rfl rfl) <| zaA (r_sliceT (p := 0) (h := 8) (r := _) u9 rfl rfl rfl (rfl) (rfl) (by omega) (by omega) (rfl)) <| zaF is134 rfl <| (value_c _ (by first | (simp; done) | (simp; omega)) _).mono <| H.xe fun w13 H => ?_
 refine zaA (zaQ u24 sz22 rfl (k := .i64) (i := 3) rfl rfl (by decide) (by decide)) <| zdK (v := (.int _ _)) to22 H rfl (k := 0) rfl rfl rfl rfl fun w14 H => wpList_nil <| zaS <| xn hK11 <| wp_region_lit <| zaA (zcM (r := 1) rfl rfl rfl) <| mvI rfl <| wpList_nil ?_
 refine zaG ?_
 rw [rounds_succ]
 refine sr fun K15 hK15 => zaA (zfN (t := true) rfl rfl (by decide)) <| xk hK15 <| wp_seq_k fun K16 hK16 => zcQ rfl rfl <| wp_skip <| xn hK16 <| wp_seq_k fun K17 hK17 => wp_block ?_
 refine sr fun K18 hK18 => mvI rfl <| asI rfl <| xk hK18 <| wp_region_lit <| mvI rfl <| zaA (zgE (r := 2) rfl rfl rfl) <| p_mv (v := (str l)) rfl <| mvI rfl ?_
 refine zaA (zgW (r := 8) rfl rfl rfl) <| mvI rfl <| zaA (zgW (r := 8) rfl rfl rfl) <| zaA (zcM (r := 16) rfl rfl rfl) <| zaA (r_sliceT (p := 8) (h := 16) (r := _) u9 rfl rfl rfl (rfl) (rfl) (by omega) (by omega) (rfl)) <| zaF is134 rfl <| (value_c _ (by first | (simp; done) | (simp; omega)) _).mono <| H.xe fun w19 H => ?_
 refine zaA (zaQ u24 sz22 rfl (k := .i64) (i := 2) rfl rfl (by decide) (by decide)) <| zdK (v := (.int _ _)) to22 H rfl (k := 0) rfl rfl rfl rfl fun w20 H => wpList_nil <| zaS <| xn hK17 <| wp_region_lit <| zaA (zcM (r := 2) rfl rfl rfl) <| mvI rfl <| wpList_nil ?_
 refine zaG ?_
 rw [rounds_succ]
 refine sr fun K21 hK21 => zaA (zfN (t := true) rfl rfl (by decide)) <| xk hK21 <| wp_seq_k fun K22 hK22 => zcQ rfl rfl <| wp_skip <| xn hK22 <| wp_seq_k fun K23 hK23 => wp_block ?_
 refine sr fun K24 hK24 => mvI rfl <| asI rfl <| xk hK24 <| wp_region_lit <| mvI rfl <| zaA (zgE (r := 1) rfl rfl rfl) <| p_mv (v := (str l)) rfl <| mvI rfl ?_
 refine zaA (zgW (r := 16) rfl rfl rfl) <| mvI rfl <| zaA (zgW (r := 16) rfl rfl rfl) <| zaA (zcM (r := 24) rfl rfl rfl) <| zaA (r_sliceT (p := 16) (h := 24) (r := _) u9 rfl rfl rfl (rfl) (rfl) (by omega) (by omega) (rfl)) <| zaF is134 rfl <| (value_c _ (by first | (simp; done) | (simp; omega)) _).mono <| H.xe fun w25 H => ?_
 refine zaA (zaQ u24 sz22 rfl (k := .i64) (i := 1) rfl rfl (by decide) (by decide)) <| zdK (v := (.int _ _)) to22 H rfl (k := 0) rfl rfl rfl rfl fun w26 H => wpList_nil <| zaS <| xn hK23 <| wp_region_lit <| zaA (zcM (r := 3) rfl rfl rfl) <| mvI rfl <| wpList_nil ?_
 refine zaG ?_
 rw [rounds_succ]
 refine sr fun K27 hK27 => zaA (zfN (t := true) rfl rfl (by decide)) <| xk hK27 <| wp_seq_k fun K28 hK28 => zcQ rfl rfl <| wp_skip <| xn hK28 <| wp_seq_k fun K29 hK29 => wp_block ?_
 refine sr fun K30 hK30 => mvI rfl <| asI rfl <| xk hK30 <| wp_region_lit <| mvI rfl <| zaA (zgE (r := 0) rfl rfl rfl) <| p_mv (v := (str l)) rfl <| mvI rfl ?_
 refine zaA (zgW (r := 24) rfl rfl rfl) <| mvI rfl <| zaA (zgW (r := 24) rfl rfl rfl) <| zaA (zcM (r := 32) rfl rfl rfl) <| zaA (r_sliceT (p := 24) (h := 32) (r := _) u9 rfl rfl rfl (rfl) (rfl) (by omega) (by omega) (rfl)) <| zaF is134 rfl <| (value_c _ (by first | (simp; done) | (simp; omega)) _).mono <| H.xe fun w31 H => ?_
 refine zaA (zaQ u24 sz22 rfl (k := .i64) (i := 0) rfl rfl (by decide) (by decide)) <| zdK (v := (.int _ _)) to22 H rfl (k := 0) rfl rfl rfl rfl fun w32 H => wpList_nil <| zaS <| xn hK29 <| wp_region_lit <| zaA (zcM (r := 4) rfl rfl rfl) <| mvI rfl <| wpList_nil ?_
 refine zaG ?_
 rw [rounds_succ]
 refine sr fun K33 hK33 => zaA (zfN (t := false) rfl rfl (by decide)) <| xk hK33 <| wp_seq_k fun K34 hK34 => ziX rfl rfl <| wp_exit <| zaN <| zaN <| zcK ?_
 refine xn hK7 <| sr fun K35 hK35 => zaA (zaK tg24 H rfl (k := 0) rfl rfl) <| zaO tg24 H rfl (k := 1) rfl rfl rfl rfl rfl fun w36 H => xk hK35 <| wp_ret <| e_1 rfl (zcA tg24 H rfl (k := 1) rfl rfl) ?_
 exact ⟨congrArg (fun z : List Value => Ending.returned (.agg z.toArray)) (number_fin hl), H.below⟩
theorem of_c (m : Int) (l : List UInt8) (hl : l.length < 4611686018427387904) (w : World) :
    Calls Tryz.prog 47 #[.int .i64 m, str l] w fun e w' => e = .returned (.tuple #[numV (ofV m l), .int .i64 (ofE m l)]) ∧ Ext w w' := by
 refine enter (n := 21) Tryz.func47 rfl rfl rfl ?_
 have H := HP.start w
 have hpl := (zbF m).lt
 refine sr fun K1 hK1 => zbW (l := [uz, uz, uz, uz]) H tz24 rfl fun w3 b2 H => asI rfl <| xk hK1 <| wp_seq_k fun K4 hK4 => sr fun K5 hK5 => p_mv (v := (str l)) rfl <| zaA (zkQ (N := _) u9 rfl (rfl)) <| zaA (r_neq rfl rfl rfl) ?_
 refine xk hK5 ?_
 refine zcG rfl (fun hc_1 => ?_) fun hc_1 => ?_
 ·refine sr fun K7 hK7 => ?_
  refine zaA (r_as (l' := numL 0) (zbC (vals := []) (l := [_, _, _, _]) tb24 rfl rfl) (num_0)) <| zaO tg24 H rfl (k := 0) rfl rfl rfl rfl rfl fun w8 H => asI rfl <| xk hK7 <| wp_ret <| zdC <| e_2 rfl (zcA tg24 H rfl (k := 0) rfl rfl) (zbD (v := (.int _ _)) rfl) ?_
  have h0 := of_f (of_len (m := m) (l := l) (fun h => by rw [h] at hc_1; simp at hc_1))
  exact ⟨by rw [h0.1, h0.2], H.below⟩
 ·have h32 : l.length = 32 := by have := hc_1; simp at this; omega
  refine wp_skip <| xn hK4 <| sr fun K9 hK9 => p_mv (v := (str l)) rfl <| zaF is96 rfl <| (number_c _ h32 _).mono <| H.xe fun w10 H => zbW (l := [uz, uz, uz, uz]) H tz24 rfl fun w12 b11 H => zaO tg24 H rfl (k := 0) rfl rfl rfl rfl rfl fun w13 H => xk hK9 ?_
  refine wp_seq_k fun K14 hK14 => wp_seq_k fun K15 hK15 => ?_
  apply wrH H 6 [(2, .inl _), (3, .inl _)]; intro vs17 H
  refine t_v (fun w hx => zaK tg24 (H.ext hx) rfl (k := 0) rfl rfl) <| tp (zaC (v := (.int _ _)) rfl) <| tcl is40 (modulus_c _) <| tcl is97 (below_c _ _ (bval_two256 h32) (zbF m)) <| t_v (fun w hx => zaK tg24 (H.ext hx) rfl (k := 0) rfl rfl) <| tp ((r_nenum (t := bval l % modN m != bval l) u24 u22 sz22 ag22 eg24 rfl rfl (Nat.lt_trans (Nat.mod_lt _ (zbF m).pos) hpl) (bval_two256 h32) rfl)) ?_
  refine zbP <| H.tn fun w18 H => wpList_nil <| zaP <| xn hK15 ?_
  refine zcG rfl (fun hc_4 => ?_) fun hc_4 => ?_
  ·refine sr fun K20 hK20 => ?_
   refine zaA (r_as (l' := numL 0) (zbC (vals := []) (l := [_, _, _, _]) tb24 rfl rfl) (num_0)) <| zaO tg24 H rfl (k := 1) rfl rfl rfl rfl rfl fun w21 H => asI rfl <| xk hK20 <| wp_ret <| zdC <| e_2 rfl (zcA tg24 H rfl (k := 1) rfl rfl) (zbD (v := (.int _ _)) rfl) ?_
   have h0 := of_f (of_ne hc_4)
   exact ⟨by rw [h0.1, h0.2], H.below⟩
  ·refine wp_skip ?_
   refine xn hK14 <| sr fun K22 hK22 => zaA (zaK tg24 H rfl (k := 0) rfl rfl) <| zaO tg24 H rfl (k := 1) rfl rfl rfl rfl rfl fun w23 H => asI rfl <| xk hK22 <| wp_ret <| e_2 rfl (zcA tg24 H rfl (k := 1) rfl rfl) (zbD (v := (.int _ _)) rfl) ?_
   have h0 := of_t (of_eq h32 hc_4)
   exact ⟨by rw [h0.1, h0.2], H.below⟩
end
section
attribute [local irreducible] wpList wpT Code.wp Calls Code.rounds lm sd sb ad ac modN bval be
theorem u127 : Tryz.prog.underlying 127 = some (.slice 5) := by kernel_rfl
theorem is88 : IsFn Tryz.prog 88 := isFn Tryz.func88
theorem is133 : IsFn Tryz.prog 133 := isFn Tryz.func133
theorem zhQ : TSl Tryz.prog 127 5 (.int .u8 0) 1 := tslMk (by kernel_rfl) (by kernel_rfl) rfl
set_option maxRecDepth 4000 in
theorem word_c (A N p : Nat) (hp : Mod p) (h2 : 2 < p) (hA : A < p) (hN : N < 18446744073709551616) (w : World) :
    Calls Tryz.prog 133 #[numV A, .int .u64 (N : Int), numV p] w fun e w' => e = .returned (numV ((A * 2 ^ 64 + N) % p)) ∧ Ext w w' := by
 refine enter (n := 25) Tryz.func133 rfl rfl rfl ?_
 have H := HP.start w
 refine sr fun K1 hK1 => zfM (l := numL A) H rfl fun w2 b3 H => zfM (l := numL p) H rfl fun w4 b5 H => zbW (l := [uz, uz, uz, uz]) H tz24 rfl fun w7 b6 H => xk hK1 <| wp_seq_k fun K8 hK8 => sr fun K9 hK9 => ?_
 replace H := HP.recast H (k := 2) (cs' := numL ((A * 2 ^ (64 - 64) + N / 2 ^ 64) % p)) rfl (congrArg numL (word_0 hA hN).symm)
 refine asI rfl <| xk hK9 <| wp_block <| loopF [7, 8, 9, 10, 11, 12, 13, 14, 15, 16, 17, 18, 19, 20, 21, 22, 23] (fun γ μ w' => ∃ (k : Nat), k = γ ∧ look μ 7 = .int .i64 ((k : Int) - 1) ∧ HP w w' [(b6, [uz, uz, uz, uz], 24), (b5, numL p, 24), (b3, numL ((A * 2 ^ (64 - k) + N / 2 ^ k) % p), 24)] ∧ (k ≤ 64)) (64) ⟨64, rfl, rfl, H, Nat.le_refl _⟩ ?_
 clear H
 intro g13 m10 w11 hk12 hI; obtain ⟨k, rfl, hl14, H, hk⟩ := hI
 refine wp_seq_k fun K15 hK15 => sr fun K16 hK16 => mvI hl14 <| zaA (r_geq rfl rfl rfl) <| xk hK16 ?_
 refine zcG rfl (fun hc_2 => ?_) fun hc_2 => ?_
 ·have hk0 : 0 < k := by have := of_decide_eq_true hc_2; omega
  have hX := Nat.mod_lt (A * 2 ^ (64 - k) + N / 2 ^ k) hp.pos
  have hXX := Nat.mod_lt ((A * 2 ^ (64 - k) + N / 2 ^ k) % p + (A * 2 ^ (64 - k) + N / 2 ^ k) % p) hp.pos
  have hb : N / 2 ^ (k - 1) % 2 < p := Nat.lt_trans (Nat.mod_lt _ (by decide)) h2
  refine wp_skip <| xn hK15 <| wp_seq_k fun K18 hK18 => wp_block <| sr fun K19 hK19 => zaA (zaK tg24 H (hk12 3 rfl) (k := 2) rfl rfl) <| zaA (zaK tg24 H (hk12 3 rfl) (k := 2) rfl rfl) <| zaA (zaK tg24 H (hk12 5 rfl) (k := 1) rfl rfl) <| zaF is98 rfl ?_
  refine (sum_c _ _ _ hp (by assumption) (by assumption) _).mono <| H.xe fun w20 H => zaO tg24 H (hk12 3 rfl) (k := 2) rfl rfl rfl rfl rfl fun w21 H => xk hK19 ?_
  apply wrH H 8 [(7, .inl _)]; intro vs23 H
  refine t_v (fun w hx => zaK tg24 (H.ext hx) (hk12 3 rfl) (k := 2) rfl rfl) <| tp (zaC (v := (.int .u64 (N : Int))) (hk12 1 rfl)) <| tp (zaC (v := (.int _ _)) hl14) <| tp (zeM (r := ((N / 2 ^ (k - 1) : Nat) : Int)) rfl rfl (by omega) (word_bit N k hk0 hk)) ?_
  refine tp (zbJ (bo := .and) (by simp) (r := ((N / 2 ^ (k - 1) % 2 : Nat) : Int)) rfl rfl (and64_1 (Nat.lt_of_le_of_lt (Nat.div_le_self _ _) hN))) <| tp (r_as (l' := numL (N / 2 ^ (k - 1) % 2)) (zbC (vals := [(0, (.int _ _))]) (l := [_, _, _, _]) tb24 rfl rfl) (num_lit (N / 2 ^ (k - 1) % 2) (Nat.lt_trans (Nat.mod_lt _ (by decide)) (by decide)))) ?_
  refine t_v (fun w hx => zaK tg24 (H.ext hx) (hk12 5 rfl) (k := 1) rfl rfl) <| tcl is98 (sum_c _ _ _ hp (by assumption) (by assumption)) <| zbP <| H.tn fun w24 H => zaO tg24 H (hk12 3 rfl) (k := 2) rfl rfl rfl rfl rfl fun w25 H => wpList_nil <| zaP <| zaS <| xn hK18 <| wp_region_lit <| mvI hl14 ?_
  refine zaA (zgE rfl rfl (wr64 (by omega) (by omega))) <| asI rfl <| wpList_nil <| zaG ?_
  exact ⟨_, _, (by omega), rfl, kas, k - 1, rfl, congrArg (Value.int .i64) (by omega), (HP.recast H (k := 2) rfl (congrArg numL (word_step hk0 hk))), by omega⟩
 ·have hk0 : k = 0 := by have := of_decide_eq_false hc_2; omega
  refine wp_exit <| zaN <| zaN <| zcK <| xn hK8 <| sr fun K26 hK26 => zaA (zaK tg24 H (hk12 3 rfl) (k := 2) rfl rfl) <| zaO tg24 H (hk12 6 rfl) (k := 0) rfl rfl rfl rfl rfl fun w27 H => xk hK26 ?_
  refine wp_ret <| e_1 rfl (zcA tg24 H (hk12 6 rfl) (k := 0) rfl rfl) ?_
  subst hk0
  exact ⟨by rw [Nat.pow_zero, Nat.div_one, Nat.sub_zero], H.below⟩
set_option maxRecDepth 4000 in
theorem reduce_c (m : Int) (l : List UInt8) (hl : l.length < 4611686018427387904) (w : World) :
    Calls Tryz.prog 86 #[.int .i64 m, str l] w fun e w' => e = .returned (numV (bval l % modN m)) ∧ Ext w w' := by
 refine enter (n := 26) Tryz.func86 rfl rfl rfl ?_
 have H := HP.start w
 have hp := zbF m
 have h2 := two_lt_modN m
 refine sr fun K1 hK1 => zbW (l := [uz, uz, uz, uz]) H tz24 rfl fun w3 b2 H => xk hK1 <| sr fun K4 hK4 => mvI rfl <| zaF is40 rfl <| (modulus_c _ _).mono <| H.xe fun w5 H => zbW (l := [uz, uz, uz, uz]) H tz24 rfl fun w7 b6 H => zaO tg24 H rfl (k := 0) rfl rfl rfl rfl rfl fun w8 H => ?_
 refine xk hK4 <| sr fun K9 hK9 => zbW (l := [uz, uz, uz, uz]) H tz24 rfl fun w11 b10 H => xk hK9 <| wp_seq_k fun K12 hK12 => wp_block ?_
 replace H := HP.recast H (k := 0) rfl num_0
 refine loopF [1, 9, 10, 11, 12, 13, 14] (fun γ μ w' => ∃ (j : Nat), (8 - (l.length + j) % 8) % 8 = γ ∧ look μ 1 = str (List.replicate j 0 ++ l) ∧ HP w w' [(b10, numL 0, 24), (b6, numL (modN m), 24), (b2, [uz, uz, uz, uz], 24)] ∧ (j + (8 - (l.length + j) % 8) % 8 ≤ 7)) ((8 - (l.length + 0) % 8) % 8) ⟨0, rfl, rfl, H, by omega⟩ ?_
 clear H
 intro g16 m13 w14 hk15 hI; obtain ⟨j, rfl, hl17, H, hj⟩ := hI
 refine wp_seq_k fun K18 hK18 => sr fun K19 hK19 => p_mv hl17 <| zaA (zkQ (N := (l.length + j)) u9 rfl (by simp; omega)) ?_
 refine zaA (r_rem (r := (((l.length + j) % 8 : Nat) : Int)) rfl rfl (by decide) (rem8 _)) <| zaA (r_neq rfl rfl rfl) <| xk hK19 ?_
 refine zcG rfl (fun hc_3 => ?_) fun hc_3 => ?_
 ·have h8 : (l.length + j) % 8 ≠ 0 := by have := hc_3; simp at this; omega
  refine wp_skip <| xn hK18 <| wp_block <| wp_region_lit <| p_mv hl17 <| zaA (r_cat (r := List.replicate (j + 1) 0 ++ l) rfl rfl (by simp; omega) (red_cons _ _)) ?_
  refine p_as (v := (str _)) rfl <| wpList_nil <| zaS <| zaG ?_
  exact ⟨_, _, (by omega), rfl, kas, j + 1, rfl, rfl, H, by omega⟩
 ·have h8 : (l.length + j) % 8 = 0 := by have := hc_3; simp at this; omega
  have hsl : (List.replicate j 0 ++ l : List UInt8).length = l.length + j := by simp; omega
  refine wp_exit <| zaN <| zaN <| zcK <| xn hK12 <| wp_seq_k fun K21 hK21 => wp_block ?_
  replace H := HP.recast H (k := 0) (cs' := numL (bval ((List.replicate j 0 ++ l : List UInt8).take (8 * 0)) % modN m)) rfl (congrArg numL (by rw [Nat.mul_zero, List.take_zero, bval_nil, Nat.zero_mod]))
  refine loopF [1, 15, 16, 17, 18, 19, 20, 21, 22, 23, 24] (fun γ μ w' => ∃ (n : Nat), (List.replicate j 0 ++ l : List UInt8).length - 8 * n = γ ∧ look μ 1 = str ((List.replicate j 0 ++ l : List UInt8).drop (8 * n)) ∧ HP w w' [(b10, numL (bval ((List.replicate j 0 ++ l : List UInt8).take (8 * n)) % modN m), 24), (b6, numL (modN m), 24), (b2, [uz, uz, uz, uz], 24)] ∧ (8 * n ≤ (List.replicate j 0 ++ l : List UInt8).length)) ((List.replicate j 0 ++ l : List UInt8).length - 8 * 0) ⟨0, rfl, hl17, H, Nat.zero_le _⟩ ?_
  clear H
  intro g25 m22 w23 hk24 hI; obtain ⟨n, rfl, hl26, H, hn⟩ := hI
  refine wp_seq_k fun K27 hK27 => sr fun K28 hK28 => p_mv hl26 <| zaA (r_neT rfl rfl rfl) <| xk hK28 ?_
  refine zcG rfl (fun hc_5 => ?_) fun hc_5 => ?_
  ·have hn8 := red_t (q := (l.length + j) / 8) (by omega) hc_5
   refine wp_skip <| xn hK27 <| wp_seq_k fun K30 hK30 => wp_block ?_
   apply wrH H 6 [(3, .inl _), (5, .inl _)]; intro vs32 H
   refine t_v (fun w hx => zaK tg24 (H.ext hx) ((hk24 6 rfl).trans (hk15 6 rfl)) (k := 0) rfl rfl) <| tp (zaC (v := _) hl26) <| tp (r_sliceTH (h := 8) (r := _) u9 rfl rfl (rfl) (by rw [List.length_drop]; omega) (rfl)) ?_
   refine tcl is134 (value_c _ (by first | (simp; done) | (simp; omega))) ?_
   refine t_v (fun w hx => zaK tg24 (H.ext hx) ((hk24 5 rfl).trans (hk15 5 rfl)) (k := 1) rfl rfl) <| tcl is133 (word_c _ _ _ hp h2 (Nat.mod_lt _ hp.pos) (bval_lt8 (by rw [List.length_take]; omega))) ?_
   refine zbP <| H.tn fun w33 H => zaO tg24 H ((hk24 6 rfl).trans (hk15 6 rfl)) (k := 0) rfl rfl rfl rfl rfl fun w34 H => wpList_nil <| zaP <| zaS <| xn hK30 <| wp_region_lit <| p_mv hl26 <| zaA (r_sliceTL (p := 8) (r := (List.replicate j 0 ++ l : List UInt8).drop (8 * (n + 1))) u9 rfl rfl (rfl) (by rw [List.length_drop]; omega) (by simp [List.drop_drop, Nat.mul_add])) ?_
   refine p_as (v := (str _)) rfl <| wpList_nil <| zaG ?_
   exact ⟨_, _, (by omega), rfl, kas, n + 1, rfl, rfl, (HP.recast H (k := 0) rfl (congrArg numL (red_step hn8))), by omega⟩
  ·refine wp_exit ?_
   refine zaN <| zaN <| zcK <| xn hK21 <| sr fun K35 hK35 => zaA (zaK tg24 H ((hk24 6 rfl).trans (hk15 6 rfl)) (k := 0) rfl rfl) <| zaO tg24 H ((hk24 4 rfl).trans (hk15 4 rfl)) (k := 2) rfl rfl rfl rfl rfl fun w36 H => xk hK35 <| wp_ret ?_
   refine e_1 rfl (zcA tg24 H ((hk24 4 rfl).trans (hk15 4 rfl)) (k := 2) rfl rfl) ?_
   exact ⟨by rw [red_f hc_5, bval_zeros], H.below⟩
set_option maxRecDepth 4000 in
theorem big_c (w0 : World) (L : List Ent) (b : Nat) (X : List UInt8) (rs : List Value) (x : Int) (hx : U x) (hX : X.length ≤ 1000) (w : World) (H : HP w0 w ((b, u8s (X) ++ rs, 5) :: L)) :
    Calls Tryz.prog 88 #[sl b 0 (u8s (X)).length (u8s (X) ++ rs).length, .int .u64 x, .int .i64 8] w fun e w' => ∃ b' rs', e = .returned (sl b' 0 (u8s (X ++ be 8 x.toNat)).length (u8s (X ++ be 8 x.toNat) ++ rs').length) ∧ HP w0 w' ((b', u8s (X ++ be 8 x.toNat) ++ rs', 5) :: L) := by
 refine enter (n := 23) Tryz.func88 rfl rfl rfl <| sr fun K1 hK1 => p_as (v := (.slice none 0 0)) rfl <| xk hK1 <| wp_seq_k fun K2 hK2 => sr fun K3 hK3 => mvI rfl <| zaA (zgE (r := 7) rfl rfl rfl) <| asI rfl ?_
 refine xk hK3 <| wp_block <| wp_loop_rounds 9 ?_; rw [rounds_succ]
 refine wp_seq_k fun K4 hK4 => sr fun K5 hK5 => mvI rfl <| zaA (r_geq (t := true) rfl rfl (by decide)) <| xk hK5 <| zcQ rfl rfl <| wp_skip <| xn hK4 <| wp_seq_k fun K6 hK6 => ?_
 refine wp_block <| wp_region_lit <| p_mv (v := (.slice _ _ _)) rfl <| p_mv (v := (.int .u64 x)) rfl <| mvI rfl <| zaA (zgW (r := 56) rfl rfl rfl) <| zaA (zeM (r := ((x.toNat / 2 ^ 56 : Nat) : Int)) rfl rfl (by decide) (bshr hx 56 (by decide))) <| zaA (zcE (r := ((UInt8.ofNat (x.toNat / 2 ^ 56)).toNat : Int)) u22 u5 rfl (to8 _)) ?_
 refine zfH (N := 1) (vals := [(0, (.int _ _))]) (l := [_]) (ys := [_]) zhQ H rfl rfl rfl rfl (rfl) fun w7 bs_4_6 H => ?_
 refine zgD (ys := u8s (X ++ [UInt8.ofNat (x.toNat / 2 ^ 56)])) (xs := u8s (X)) (rs := rs) zhQ H rfl (k := 1) rfl rfl rfl rfl (Rd.ownA H (k := 0) (xs := [_]) (rs := []) rfl rfl rfl) (onesI) (zgG _ _) (by simp only [zcV, List.length_append, List.length_cons, List.length_nil]; omega) fun w8 bb_4_7 rs_4_7 H => ?_
 refine p_as (v := (.slice _ _ _)) rfl <| wpList_nil <| zaS <| xn hK6 <| wp_region_lit <| mvI rfl <| zaA (zgE (r := 6) rfl rfl rfl) <| asI rfl <| wpList_nil ?_
 refine zaG ?_
 rw [rounds_succ]
 refine wp_seq_k fun K9 hK9 => sr fun K10 hK10 => mvI rfl <| zaA (r_geq (t := true) rfl rfl (by decide)) <| xk hK10 <| zcQ rfl rfl <| wp_skip <| xn hK9 <| wp_seq_k fun K11 hK11 => ?_
 refine wp_block <| wp_region_lit <| p_mv (v := (.slice _ _ _)) rfl <| p_mv (v := (.int .u64 x)) rfl <| mvI rfl <| zaA (zgW (r := 48) rfl rfl rfl) <| zaA (zeM (r := ((x.toNat / 2 ^ 48 : Nat) : Int)) rfl rfl (by decide) (bshr hx 48 (by decide))) <| zaA (zcE (r := ((UInt8.ofNat (x.toNat / 2 ^ 48)).toNat : Int)) u22 u5 rfl (to8 _)) ?_
 refine zfH (N := 1) (vals := [(0, (.int _ _))]) (l := [_]) (ys := [_]) zhQ H rfl rfl rfl rfl (rfl) fun w12 bs_4_6 H => ?_
 refine zgD (ys := u8s (X ++ [UInt8.ofNat (x.toNat / 2 ^ 56)] ++ [UInt8.ofNat (x.toNat / 2 ^ 48)])) (xs := u8s (X ++ [UInt8.ofNat (x.toNat / 2 ^ 56)])) (rs := rs_4_7) zhQ H rfl (k := 2) rfl rfl rfl rfl (Rd.ownA H (k := 0) (xs := [_]) (rs := []) rfl rfl rfl) (onesI) (zgG _ _) (by simp only [zcV, List.length_append, List.length_cons, List.length_nil]; omega) fun w13 bb_4_7 rs_4_7 H => ?_
 refine p_as (v := (.slice _ _ _)) rfl <| wpList_nil <| zaS <| xn hK11 <| wp_region_lit <| mvI rfl <| zaA (zgE (r := 5) rfl rfl rfl) <| asI rfl <| wpList_nil ?_
 refine zaG ?_
 rw [rounds_succ]
 refine wp_seq_k fun K14 hK14 => sr fun K15 hK15 => mvI rfl <| zaA (r_geq (t := true) rfl rfl (by decide)) <| xk hK15 <| zcQ rfl rfl <| wp_skip <| xn hK14 <| wp_seq_k fun K16 hK16 => ?_
 refine wp_block <| wp_region_lit <| p_mv (v := (.slice _ _ _)) rfl <| p_mv (v := (.int .u64 x)) rfl <| mvI rfl <| zaA (zgW (r := 40) rfl rfl rfl) <| zaA (zeM (r := ((x.toNat / 2 ^ 40 : Nat) : Int)) rfl rfl (by decide) (bshr hx 40 (by decide))) <| zaA (zcE (r := ((UInt8.ofNat (x.toNat / 2 ^ 40)).toNat : Int)) u22 u5 rfl (to8 _)) ?_
 refine zfH (N := 1) (vals := [(0, (.int _ _))]) (l := [_]) (ys := [_]) zhQ H rfl rfl rfl rfl (rfl) fun w17 bs_4_6 H => ?_
 refine zgD (ys := u8s (X ++ [UInt8.ofNat (x.toNat / 2 ^ 56)] ++ [UInt8.ofNat (x.toNat / 2 ^ 48)] ++ [UInt8.ofNat (x.toNat / 2 ^ 40)])) (xs := u8s (X ++ [UInt8.ofNat (x.toNat / 2 ^ 56)] ++ [UInt8.ofNat (x.toNat / 2 ^ 48)])) (rs := rs_4_7) zhQ H rfl (k := 3) rfl rfl rfl rfl (Rd.ownA H (k := 0) (xs := [_]) (rs := []) rfl rfl rfl) (onesI) (zgG _ _) (by simp only [zcV, List.length_append, List.length_cons, List.length_nil]; omega) fun w18 bb_4_7 rs_4_7 H => ?_
 refine p_as (v := (.slice _ _ _)) rfl <| wpList_nil <| zaS <| xn hK16 <| wp_region_lit <| mvI rfl <| zaA (zgE (r := 4) rfl rfl rfl) <| asI rfl <| wpList_nil ?_
 refine zaG ?_
 rw [rounds_succ]
 refine wp_seq_k fun K19 hK19 => sr fun K20 hK20 => mvI rfl <| zaA (r_geq (t := true) rfl rfl (by decide)) <| xk hK20 <| zcQ rfl rfl <| wp_skip <| xn hK19 <| wp_seq_k fun K21 hK21 => ?_
 refine wp_block <| wp_region_lit <| p_mv (v := (.slice _ _ _)) rfl <| p_mv (v := (.int .u64 x)) rfl <| mvI rfl <| zaA (zgW (r := 32) rfl rfl rfl) <| zaA (zeM (r := ((x.toNat / 2 ^ 32 : Nat) : Int)) rfl rfl (by decide) (bshr hx 32 (by decide))) <| zaA (zcE (r := ((UInt8.ofNat (x.toNat / 2 ^ 32)).toNat : Int)) u22 u5 rfl (to8 _)) ?_
 refine zfH (N := 1) (vals := [(0, (.int _ _))]) (l := [_]) (ys := [_]) zhQ H rfl rfl rfl rfl (rfl) fun w22 bs_4_6 H => ?_
 refine zgD (ys := u8s (X ++ [UInt8.ofNat (x.toNat / 2 ^ 56)] ++ [UInt8.ofNat (x.toNat / 2 ^ 48)] ++ [UInt8.ofNat (x.toNat / 2 ^ 40)] ++ [UInt8.ofNat (x.toNat / 2 ^ 32)])) (xs := u8s (X ++ [UInt8.ofNat (x.toNat / 2 ^ 56)] ++ [UInt8.ofNat (x.toNat / 2 ^ 48)] ++ [UInt8.ofNat (x.toNat / 2 ^ 40)])) (rs := rs_4_7) zhQ H rfl (k := 4) rfl rfl rfl rfl (Rd.ownA H (k := 0) (xs := [_]) (rs := []) rfl rfl rfl) (onesI) (zgG _ _) (by simp only [zcV, List.length_append, List.length_cons, List.length_nil]; omega) fun w23 bb_4_7 rs_4_7 H => ?_
 refine p_as (v := (.slice _ _ _)) rfl <| wpList_nil <| zaS <| xn hK21 <| wp_region_lit <| mvI rfl <| zaA (zgE (r := 3) rfl rfl rfl) <| asI rfl <| wpList_nil ?_
 refine zaG ?_
 rw [rounds_succ]
 refine wp_seq_k fun K24 hK24 => sr fun K25 hK25 => mvI rfl <| zaA (r_geq (t := true) rfl rfl (by decide)) <| xk hK25 <| zcQ rfl rfl <| wp_skip <| xn hK24 <| wp_seq_k fun K26 hK26 => ?_
 refine wp_block <| wp_region_lit <| p_mv (v := (.slice _ _ _)) rfl <| p_mv (v := (.int .u64 x)) rfl <| mvI rfl <| zaA (zgW (r := 24) rfl rfl rfl) <| zaA (zeM (r := ((x.toNat / 2 ^ 24 : Nat) : Int)) rfl rfl (by decide) (bshr hx 24 (by decide))) <| zaA (zcE (r := ((UInt8.ofNat (x.toNat / 2 ^ 24)).toNat : Int)) u22 u5 rfl (to8 _)) ?_
 refine zfH (N := 1) (vals := [(0, (.int _ _))]) (l := [_]) (ys := [_]) zhQ H rfl rfl rfl rfl (rfl) fun w27 bs_4_6 H => ?_
 refine zgD (ys := u8s (X ++ [UInt8.ofNat (x.toNat / 2 ^ 56)] ++ [UInt8.ofNat (x.toNat / 2 ^ 48)] ++ [UInt8.ofNat (x.toNat / 2 ^ 40)] ++ [UInt8.ofNat (x.toNat / 2 ^ 32)] ++ [UInt8.ofNat (x.toNat / 2 ^ 24)])) (xs := u8s (X ++ [UInt8.ofNat (x.toNat / 2 ^ 56)] ++ [UInt8.ofNat (x.toNat / 2 ^ 48)] ++ [UInt8.ofNat (x.toNat / 2 ^ 40)] ++ [UInt8.ofNat (x.toNat / 2 ^ 32)])) (rs := rs_4_7) zhQ H rfl (k := 5) rfl rfl rfl rfl (Rd.ownA H (k := 0) (xs := [_]) (rs := []) rfl rfl rfl) (onesI) (zgG _ _) (by simp only [zcV, List.length_append, List.length_cons, List.length_nil]; omega) fun w28 bb_4_7 rs_4_7 H => ?_
 refine p_as (v := (.slice _ _ _)) rfl <| wpList_nil <| zaS <| xn hK26 <| wp_region_lit <| mvI rfl <| zaA (zgE (r := 2) rfl rfl rfl) <| asI rfl <| wpList_nil ?_
 refine zaG ?_
 rw [rounds_succ]
 refine wp_seq_k fun K29 hK29 => sr fun K30 hK30 => mvI rfl <| zaA (r_geq (t := true) rfl rfl (by decide)) <| xk hK30 <| zcQ rfl rfl <| wp_skip <| xn hK29 <| wp_seq_k fun K31 hK31 => ?_
 refine wp_block <| wp_region_lit <| p_mv (v := (.slice _ _ _)) rfl <| p_mv (v := (.int .u64 x)) rfl <| mvI rfl <| zaA (zgW (r := 16) rfl rfl rfl) <| zaA (zeM (r := ((x.toNat / 2 ^ 16 : Nat) : Int)) rfl rfl (by decide) (bshr hx 16 (by decide))) <| zaA (zcE (r := ((UInt8.ofNat (x.toNat / 2 ^ 16)).toNat : Int)) u22 u5 rfl (to8 _)) ?_
 refine zfH (N := 1) (vals := [(0, (.int _ _))]) (l := [_]) (ys := [_]) zhQ H rfl rfl rfl rfl (rfl) fun w32 bs_4_6 H => ?_
 refine zgD (ys := u8s (X ++ [UInt8.ofNat (x.toNat / 2 ^ 56)] ++ [UInt8.ofNat (x.toNat / 2 ^ 48)] ++ [UInt8.ofNat (x.toNat / 2 ^ 40)] ++ [UInt8.ofNat (x.toNat / 2 ^ 32)] ++ [UInt8.ofNat (x.toNat / 2 ^ 24)] ++ [UInt8.ofNat (x.toNat / 2 ^ 16)])) (xs := u8s (X ++ [UInt8.ofNat (x.toNat / 2 ^ 56)] ++ [UInt8.ofNat (x.toNat / 2 ^ 48)] ++ [UInt8.ofNat (x.toNat / 2 ^ 40)] ++ [UInt8.ofNat (x.toNat / 2 ^ 32)] ++ [UInt8.ofNat (x.toNat / 2 ^ 24)])) (rs := rs_4_7) zhQ H rfl (k := 6) rfl rfl rfl rfl (Rd.ownA H (k := 0) (xs := [_]) (rs := []) rfl rfl rfl) (onesI) (zgG _ _) (by simp only [zcV, List.length_append, List.length_cons, List.length_nil]; omega) fun w33 bb_4_7 rs_4_7 H => ?_
 refine p_as (v := (.slice _ _ _)) rfl <| wpList_nil <| zaS <| xn hK31 <| wp_region_lit <| mvI rfl <| zaA (zgE (r := 1) rfl rfl rfl) <| asI rfl <| wpList_nil ?_
 refine zaG ?_
 rw [rounds_succ]
 refine wp_seq_k fun K34 hK34 => sr fun K35 hK35 => mvI rfl <| zaA (r_geq (t := true) rfl rfl (by decide)) <| xk hK35 <| zcQ rfl rfl <| wp_skip <| xn hK34 <| wp_seq_k fun K36 hK36 => ?_
 refine wp_block <| wp_region_lit <| p_mv (v := (.slice _ _ _)) rfl <| p_mv (v := (.int .u64 x)) rfl <| mvI rfl <| zaA (zgW (r := 8) rfl rfl rfl) <| zaA (zeM (r := ((x.toNat / 2 ^ 8 : Nat) : Int)) rfl rfl (by decide) (bshr hx 8 (by decide))) <| zaA (zcE (r := ((UInt8.ofNat (x.toNat / 2 ^ 8)).toNat : Int)) u22 u5 rfl (to8 _)) ?_
 refine zfH (N := 1) (vals := [(0, (.int _ _))]) (l := [_]) (ys := [_]) zhQ H rfl rfl rfl rfl (rfl) fun w37 bs_4_6 H => ?_
 refine zgD (ys := u8s (X ++ [UInt8.ofNat (x.toNat / 2 ^ 56)] ++ [UInt8.ofNat (x.toNat / 2 ^ 48)] ++ [UInt8.ofNat (x.toNat / 2 ^ 40)] ++ [UInt8.ofNat (x.toNat / 2 ^ 32)] ++ [UInt8.ofNat (x.toNat / 2 ^ 24)] ++ [UInt8.ofNat (x.toNat / 2 ^ 16)] ++ [UInt8.ofNat (x.toNat / 2 ^ 8)])) (xs := u8s (X ++ [UInt8.ofNat (x.toNat / 2 ^ 56)] ++ [UInt8.ofNat (x.toNat / 2 ^ 48)] ++ [UInt8.ofNat (x.toNat / 2 ^ 40)] ++ [UInt8.ofNat (x.toNat / 2 ^ 32)] ++ [UInt8.ofNat (x.toNat / 2 ^ 24)] ++ [UInt8.ofNat (x.toNat / 2 ^ 16)])) (rs := rs_4_7) zhQ H rfl (k := 7) rfl rfl rfl rfl (Rd.ownA H (k := 0) (xs := [_]) (rs := []) rfl rfl rfl) (onesI) (zgG _ _) (by simp only [zcV, List.length_append, List.length_cons, List.length_nil]; omega) fun w38 bb_4_7 rs_4_7 H => ?_
 refine p_as (v := (.slice _ _ _)) rfl <| wpList_nil <| zaS <| xn hK36 <| wp_region_lit <| mvI rfl <| zaA (zgE (r := 0) rfl rfl rfl) <| asI rfl <| wpList_nil ?_
 refine zaG ?_
 rw [rounds_succ]
 refine wp_seq_k fun K39 hK39 => sr fun K40 hK40 => mvI rfl <| zaA (r_geq (t := true) rfl rfl (by decide)) <| xk hK40 <| zcQ rfl rfl <| wp_skip <| xn hK39 <| wp_seq_k fun K41 hK41 => ?_
 refine wp_block <| wp_region_lit <| p_mv (v := (.slice _ _ _)) rfl <| p_mv (v := (.int .u64 x)) rfl <| mvI rfl <| zaA (zgW (r := 0) rfl rfl rfl) <| zaA (zeM (r := ((x.toNat / 2 ^ 0 : Nat) : Int)) rfl rfl (by decide) (bshr hx 0 (by decide))) <| zaA (zcE (r := ((UInt8.ofNat (x.toNat / 2 ^ 0)).toNat : Int)) u22 u5 rfl (to8 _)) ?_
 refine zfH (N := 1) (vals := [(0, (.int _ _))]) (l := [_]) (ys := [_]) zhQ H rfl rfl rfl rfl (rfl) fun w42 bs_4_6 H => ?_
 refine zgD (ys := u8s (X ++ [UInt8.ofNat (x.toNat / 2 ^ 56)] ++ [UInt8.ofNat (x.toNat / 2 ^ 48)] ++ [UInt8.ofNat (x.toNat / 2 ^ 40)] ++ [UInt8.ofNat (x.toNat / 2 ^ 32)] ++ [UInt8.ofNat (x.toNat / 2 ^ 24)] ++ [UInt8.ofNat (x.toNat / 2 ^ 16)] ++ [UInt8.ofNat (x.toNat / 2 ^ 8)] ++ [UInt8.ofNat (x.toNat / 2 ^ 0)])) (xs := u8s (X ++ [UInt8.ofNat (x.toNat / 2 ^ 56)] ++ [UInt8.ofNat (x.toNat / 2 ^ 48)] ++ [UInt8.ofNat (x.toNat / 2 ^ 40)] ++ [UInt8.ofNat (x.toNat / 2 ^ 32)] ++ [UInt8.ofNat (x.toNat / 2 ^ 24)] ++ [UInt8.ofNat (x.toNat / 2 ^ 16)] ++ [UInt8.ofNat (x.toNat / 2 ^ 8)])) (rs := rs_4_7) zhQ H rfl (k := 8) rfl rfl rfl rfl (Rd.ownA H (k := 0) (xs := [_]) (rs := []) rfl rfl rfl) (onesI) (zgG _ _) (by simp only [zcV, List.length_append, List.length_cons, List.length_nil]; omega) fun w43 bb_4_7 rs_4_7 H => ?_
 refine p_as (v := (.slice _ _ _)) rfl <| wpList_nil <| zaS <| xn hK41 <| wp_region_lit <| mvI rfl <| zaA (zgE (r := -1) rfl rfl rfl) <| asI rfl <| wpList_nil ?_
 refine zaG ?_
 rw [rounds_succ]
 refine wp_seq_k fun K44 hK44 => sr fun K45 hK45 => mvI rfl <| zaA (r_geq (t := false) rfl rfl (by decide)) <| xk hK45 <| ziX rfl rfl <| wp_exit <| zaN <| zaN ?_
 refine zcK <| xn hK2 <| sr fun K46 hK46 => p_mv (v := (.slice _ _ _)) rfl <| p_as (v := (.slice _ _ _)) rfl <| xk hK46 <| wp_ret <| e_1 rfl (zbD (v := (.slice _ _ _)) rfl) ?_
 rw [big_fin]
 replace H := H.tail
 replace H := H.tail
 replace H := H.tail
 replace H := H.tail
 replace H := H.tail
 replace H := H.tail
 replace H := H.tail
 replace H := H.tail
 exact ⟨_, _, rfl, H⟩
set_option maxRecDepth 4000 in
theorem big_cN (w0 : World) (L : List Ent) (x : Int) (hx : U x) (w : World) (H : HP w0 w L) :
    Calls Tryz.prog 88 #[.slice none 0 0, .int .u64 x, .int .i64 8] w fun e w' => ∃ b' rs', e = .returned (sl b' 0 (u8s (be 8 x.toNat)).length (u8s (be 8 x.toNat) ++ rs').length) ∧ HP w0 w' ((b', u8s (be 8 x.toNat) ++ rs', 5) :: L) := by
 refine enter (n := 23) Tryz.func88 rfl rfl rfl <| sr fun K1 hK1 => p_as (v := (.slice none 0 0)) rfl <| xk hK1 <| wp_seq_k fun K2 hK2 => sr fun K3 hK3 => mvI rfl <| zaA (zgE (r := 7) rfl rfl rfl) <| asI rfl ?_
 refine xk hK3 <| wp_block <| wp_loop_rounds 9 ?_; rw [rounds_succ]
 refine wp_seq_k fun K4 hK4 => sr fun K5 hK5 => mvI rfl <| zaA (r_geq (t := true) rfl rfl (by decide)) <| xk hK5 <| zcQ rfl rfl <| wp_skip <| xn hK4 <| wp_seq_k fun K6 hK6 => ?_
 refine wp_block <| wp_region_lit <| p_mv (v := (.slice none 0 0)) rfl <| p_mv (v := (.int .u64 x)) rfl <| mvI rfl <| zaA (zgW (r := 56) rfl rfl rfl) <| zaA (zeM (r := ((x.toNat / 2 ^ 56 : Nat) : Int)) rfl rfl (by decide) (bshr hx 56 (by decide))) <| zaA (zcE (r := ((UInt8.ofNat (x.toNat / 2 ^ 56)).toNat : Int)) u22 u5 rfl (to8 _)) ?_
 refine zfH (N := 1) (vals := [(0, (.int _ _))]) (l := [_]) (ys := [_]) zhQ H rfl rfl rfl rfl (rfl) fun w7 bs_4_6 H => p_appendN (ys := u8s ([UInt8.ofNat (x.toNat / 2 ^ 56)])) zhQ H rfl rfl (Rd.ownA H (k := 0) (xs := [_]) (rs := []) rfl rfl rfl) (rfl) (by rw [zcV]; exact Nat.succ_pos _) (by rw [zcV, List.length_singleton]; decide) fun w8 bb_4_7 rs_4_7 H => ?_
 refine p_as (v := (.slice _ _ _)) rfl <| wpList_nil <| zaS <| xn hK6 <| wp_region_lit <| mvI rfl <| zaA (zgE (r := 6) rfl rfl rfl) <| asI rfl <| wpList_nil ?_
 refine zaG ?_
 rw [rounds_succ]
 refine wp_seq_k fun K9 hK9 => sr fun K10 hK10 => mvI rfl <| zaA (r_geq (t := true) rfl rfl (by decide)) <| xk hK10 <| zcQ rfl rfl <| wp_skip <| xn hK9 <| wp_seq_k fun K11 hK11 => ?_
 refine wp_block <| wp_region_lit <| p_mv (v := (.slice _ _ _)) rfl <| p_mv (v := (.int .u64 x)) rfl <| mvI rfl <| zaA (zgW (r := 48) rfl rfl rfl) <| zaA (zeM (r := ((x.toNat / 2 ^ 48 : Nat) : Int)) rfl rfl (by decide) (bshr hx 48 (by decide))) <| zaA (zcE (r := ((UInt8.ofNat (x.toNat / 2 ^ 48)).toNat : Int)) u22 u5 rfl (to8 _)) ?_
 refine zfH (N := 1) (vals := [(0, (.int _ _))]) (l := [_]) (ys := [_]) zhQ H rfl rfl rfl rfl (rfl) fun w12 bs_4_6 H => ?_
 refine zgD (ys := u8s ([UInt8.ofNat (x.toNat / 2 ^ 56)] ++ [UInt8.ofNat (x.toNat / 2 ^ 48)])) (xs := u8s ([UInt8.ofNat (x.toNat / 2 ^ 56)])) (rs := rs_4_7) zhQ H rfl (k := 1) rfl rfl rfl rfl (Rd.ownA H (k := 0) (xs := [_]) (rs := []) rfl rfl rfl) (onesI) (zgG _ _) (by simp only [zcV, List.length_append, List.length_cons, List.length_nil]; omega) fun w13 bb_4_7 rs_4_7 H => ?_
 refine p_as (v := (.slice _ _ _)) rfl <| wpList_nil <| zaS <| xn hK11 <| wp_region_lit <| mvI rfl <| zaA (zgE (r := 5) rfl rfl rfl) <| asI rfl <| wpList_nil ?_
 refine zaG ?_
 rw [rounds_succ]
 refine wp_seq_k fun K14 hK14 => sr fun K15 hK15 => mvI rfl <| zaA (r_geq (t := true) rfl rfl (by decide)) <| xk hK15 <| zcQ rfl rfl <| wp_skip <| xn hK14 <| wp_seq_k fun K16 hK16 => ?_
 refine wp_block <| wp_region_lit <| p_mv (v := (.slice _ _ _)) rfl <| p_mv (v := (.int .u64 x)) rfl <| mvI rfl <| zaA (zgW (r := 40) rfl rfl rfl) <| zaA (zeM (r := ((x.toNat / 2 ^ 40 : Nat) : Int)) rfl rfl (by decide) (bshr hx 40 (by decide))) <| zaA (zcE (r := ((UInt8.ofNat (x.toNat / 2 ^ 40)).toNat : Int)) u22 u5 rfl (to8 _)) ?_
 refine zfH (N := 1) (vals := [(0, (.int _ _))]) (l := [_]) (ys := [_]) zhQ H rfl rfl rfl rfl (rfl) fun w17 bs_4_6 H => ?_
 refine zgD (ys := u8s ([UInt8.ofNat (x.toNat / 2 ^ 56)] ++ [UInt8.ofNat (x.toNat / 2 ^ 48)] ++ [UInt8.ofNat (x.toNat / 2 ^ 40)])) (xs := u8s ([UInt8.ofNat (x.toNat / 2 ^ 56)] ++ [UInt8.ofNat (x.toNat / 2 ^ 48)])) (rs := rs_4_7) zhQ H rfl (k := 2) rfl rfl rfl rfl (Rd.ownA H (k := 0) (xs := [_]) (rs := []) rfl rfl rfl) (onesI) (zgG _ _) (by simp only [zcV, List.length_append, List.length_cons, List.length_nil]; omega) fun w18 bb_4_7 rs_4_7 H => ?_
 refine p_as (v := (.slice _ _ _)) rfl <| wpList_nil <| zaS <| xn hK16 <| wp_region_lit <| mvI rfl <| zaA (zgE (r := 4) rfl rfl rfl) <| asI rfl <| wpList_nil ?_
 refine zaG ?_
 rw [rounds_succ]
 refine wp_seq_k fun K19 hK19 => sr fun K20 hK20 => mvI rfl <| zaA (r_geq (t := true) rfl rfl (by decide)) <| xk hK20 <| zcQ rfl rfl <| wp_skip <| xn hK19 <| wp_seq_k fun K21 hK21 => ?_
 refine wp_block <| wp_region_lit <| p_mv (v := (.slice _ _ _)) rfl <| p_mv (v := (.int .u64 x)) rfl <| mvI rfl <| zaA (zgW (r := 32) rfl rfl rfl) <| zaA (zeM (r := ((x.toNat / 2 ^ 32 : Nat) : Int)) rfl rfl (by decide) (bshr hx 32 (by decide))) <| zaA (zcE (r := ((UInt8.ofNat (x.toNat / 2 ^ 32)).toNat : Int)) u22 u5 rfl (to8 _)) ?_
 refine zfH (N := 1) (vals := [(0, (.int _ _))]) (l := [_]) (ys := [_]) zhQ H rfl rfl rfl rfl (rfl) fun w22 bs_4_6 H => ?_
 refine zgD (ys := u8s ([UInt8.ofNat (x.toNat / 2 ^ 56)] ++ [UInt8.ofNat (x.toNat / 2 ^ 48)] ++ [UInt8.ofNat (x.toNat / 2 ^ 40)] ++ [UInt8.ofNat (x.toNat / 2 ^ 32)])) (xs := u8s ([UInt8.ofNat (x.toNat / 2 ^ 56)] ++ [UInt8.ofNat (x.toNat / 2 ^ 48)] ++ [UInt8.ofNat (x.toNat / 2 ^ 40)])) (rs := rs_4_7) zhQ H rfl (k := 3) rfl rfl rfl rfl (Rd.ownA H (k := 0) (xs := [_]) (rs := []) rfl rfl rfl) (onesI) (zgG _ _) (by simp only [zcV, List.length_append, List.length_cons, List.length_nil]; omega) fun w23 bb_4_7 rs_4_7 H => ?_
 refine p_as (v := (.slice _ _ _)) rfl <| wpList_nil <| zaS <| xn hK21 <| wp_region_lit <| mvI rfl <| zaA (zgE (r := 3) rfl rfl rfl) <| asI rfl <| wpList_nil ?_
 refine zaG ?_
 rw [rounds_succ]
 refine wp_seq_k fun K24 hK24 => sr fun K25 hK25 => mvI rfl <| zaA (r_geq (t := true) rfl rfl (by decide)) <| xk hK25 <| zcQ rfl rfl <| wp_skip <| xn hK24 <| wp_seq_k fun K26 hK26 => ?_
 refine wp_block <| wp_region_lit <| p_mv (v := (.slice _ _ _)) rfl <| p_mv (v := (.int .u64 x)) rfl <| mvI rfl <| zaA (zgW (r := 24) rfl rfl rfl) <| zaA (zeM (r := ((x.toNat / 2 ^ 24 : Nat) : Int)) rfl rfl (by decide) (bshr hx 24 (by decide))) <| zaA (zcE (r := ((UInt8.ofNat (x.toNat / 2 ^ 24)).toNat : Int)) u22 u5 rfl (to8 _)) ?_
 refine zfH (N := 1) (vals := [(0, (.int _ _))]) (l := [_]) (ys := [_]) zhQ H rfl rfl rfl rfl (rfl) fun w27 bs_4_6 H => ?_
 refine zgD (ys := u8s ([UInt8.ofNat (x.toNat / 2 ^ 56)] ++ [UInt8.ofNat (x.toNat / 2 ^ 48)] ++ [UInt8.ofNat (x.toNat / 2 ^ 40)] ++ [UInt8.ofNat (x.toNat / 2 ^ 32)] ++ [UInt8.ofNat (x.toNat / 2 ^ 24)])) (xs := u8s ([UInt8.ofNat (x.toNat / 2 ^ 56)] ++ [UInt8.ofNat (x.toNat / 2 ^ 48)] ++ [UInt8.ofNat (x.toNat / 2 ^ 40)] ++ [UInt8.ofNat (x.toNat / 2 ^ 32)])) (rs := rs_4_7) zhQ H rfl (k := 4) rfl rfl rfl rfl (Rd.ownA H (k := 0) (xs := [_]) (rs := []) rfl rfl rfl) (onesI) (zgG _ _) (by simp only [zcV, List.length_append, List.length_cons, List.length_nil]; omega) fun w28 bb_4_7 rs_4_7 H => ?_
 refine p_as (v := (.slice _ _ _)) rfl <| wpList_nil <| zaS <| xn hK26 <| wp_region_lit <| mvI rfl <| zaA (zgE (r := 2) rfl rfl rfl) <| asI rfl <| wpList_nil ?_
 refine zaG ?_
 rw [rounds_succ]
 refine wp_seq_k fun K29 hK29 => sr fun K30 hK30 => mvI rfl <| zaA (r_geq (t := true) rfl rfl (by decide)) <| xk hK30 <| zcQ rfl rfl <| wp_skip <| xn hK29 <| wp_seq_k fun K31 hK31 => ?_
 refine wp_block <| wp_region_lit <| p_mv (v := (.slice _ _ _)) rfl <| p_mv (v := (.int .u64 x)) rfl <| mvI rfl <| zaA (zgW (r := 16) rfl rfl rfl) <| zaA (zeM (r := ((x.toNat / 2 ^ 16 : Nat) : Int)) rfl rfl (by decide) (bshr hx 16 (by decide))) <| zaA (zcE (r := ((UInt8.ofNat (x.toNat / 2 ^ 16)).toNat : Int)) u22 u5 rfl (to8 _)) ?_
 refine zfH (N := 1) (vals := [(0, (.int _ _))]) (l := [_]) (ys := [_]) zhQ H rfl rfl rfl rfl (rfl) fun w32 bs_4_6 H => ?_
 refine zgD (ys := u8s ([UInt8.ofNat (x.toNat / 2 ^ 56)] ++ [UInt8.ofNat (x.toNat / 2 ^ 48)] ++ [UInt8.ofNat (x.toNat / 2 ^ 40)] ++ [UInt8.ofNat (x.toNat / 2 ^ 32)] ++ [UInt8.ofNat (x.toNat / 2 ^ 24)] ++ [UInt8.ofNat (x.toNat / 2 ^ 16)])) (xs := u8s ([UInt8.ofNat (x.toNat / 2 ^ 56)] ++ [UInt8.ofNat (x.toNat / 2 ^ 48)] ++ [UInt8.ofNat (x.toNat / 2 ^ 40)] ++ [UInt8.ofNat (x.toNat / 2 ^ 32)] ++ [UInt8.ofNat (x.toNat / 2 ^ 24)])) (rs := rs_4_7) zhQ H rfl (k := 5) rfl rfl rfl rfl (Rd.ownA H (k := 0) (xs := [_]) (rs := []) rfl rfl rfl) (onesI) (zgG _ _) (by simp only [zcV, List.length_append, List.length_cons, List.length_nil]; omega) fun w33 bb_4_7 rs_4_7 H => ?_
 refine p_as (v := (.slice _ _ _)) rfl <| wpList_nil <| zaS <| xn hK31 <| wp_region_lit <| mvI rfl <| zaA (zgE (r := 1) rfl rfl rfl) <| asI rfl <| wpList_nil ?_
 refine zaG ?_
 rw [rounds_succ]
 refine wp_seq_k fun K34 hK34 => sr fun K35 hK35 => mvI rfl <| zaA (r_geq (t := true) rfl rfl (by decide)) <| xk hK35 <| zcQ rfl rfl <| wp_skip <| xn hK34 <| wp_seq_k fun K36 hK36 => ?_
 refine wp_block <| wp_region_lit <| p_mv (v := (.slice _ _ _)) rfl <| p_mv (v := (.int .u64 x)) rfl <| mvI rfl <| zaA (zgW (r := 8) rfl rfl rfl) <| zaA (zeM (r := ((x.toNat / 2 ^ 8 : Nat) : Int)) rfl rfl (by decide) (bshr hx 8 (by decide))) <| zaA (zcE (r := ((UInt8.ofNat (x.toNat / 2 ^ 8)).toNat : Int)) u22 u5 rfl (to8 _)) ?_
 refine zfH (N := 1) (vals := [(0, (.int _ _))]) (l := [_]) (ys := [_]) zhQ H rfl rfl rfl rfl (rfl) fun w37 bs_4_6 H => ?_
 refine zgD (ys := u8s ([UInt8.ofNat (x.toNat / 2 ^ 56)] ++ [UInt8.ofNat (x.toNat / 2 ^ 48)] ++ [UInt8.ofNat (x.toNat / 2 ^ 40)] ++ [UInt8.ofNat (x.toNat / 2 ^ 32)] ++ [UInt8.ofNat (x.toNat / 2 ^ 24)] ++ [UInt8.ofNat (x.toNat / 2 ^ 16)] ++ [UInt8.ofNat (x.toNat / 2 ^ 8)])) (xs := u8s ([UInt8.ofNat (x.toNat / 2 ^ 56)] ++ [UInt8.ofNat (x.toNat / 2 ^ 48)] ++ [UInt8.ofNat (x.toNat / 2 ^ 40)] ++ [UInt8.ofNat (x.toNat / 2 ^ 32)] ++ [UInt8.ofNat (x.toNat / 2 ^ 24)] ++ [UInt8.ofNat (x.toNat / 2 ^ 16)])) (rs := rs_4_7) zhQ H rfl (k := 6) rfl rfl rfl rfl (Rd.ownA H (k := 0) (xs := [_]) (rs := []) rfl rfl rfl) (onesI) (zgG _ _) (by simp only [zcV, List.length_append, List.length_cons, List.length_nil]; omega) fun w38 bb_4_7 rs_4_7 H => ?_
 refine p_as (v := (.slice _ _ _)) rfl <| wpList_nil <| zaS <| xn hK36 <| wp_region_lit <| mvI rfl <| zaA (zgE (r := 0) rfl rfl rfl) <| asI rfl <| wpList_nil ?_
 refine zaG ?_
 rw [rounds_succ]
 refine wp_seq_k fun K39 hK39 => sr fun K40 hK40 => mvI rfl <| zaA (r_geq (t := true) rfl rfl (by decide)) <| xk hK40 <| zcQ rfl rfl <| wp_skip <| xn hK39 <| wp_seq_k fun K41 hK41 => ?_
 refine wp_block <| wp_region_lit <| p_mv (v := (.slice _ _ _)) rfl <| p_mv (v := (.int .u64 x)) rfl <| mvI rfl <| zaA (zgW (r := 0) rfl rfl rfl) <| zaA (zeM (r := ((x.toNat / 2 ^ 0 : Nat) : Int)) rfl rfl (by decide) (bshr hx 0 (by decide))) <| zaA (zcE (r := ((UInt8.ofNat (x.toNat / 2 ^ 0)).toNat : Int)) u22 u5 rfl (to8 _)) ?_
 refine zfH (N := 1) (vals := [(0, (.int _ _))]) (l := [_]) (ys := [_]) zhQ H rfl rfl rfl rfl (rfl) fun w42 bs_4_6 H => ?_
 refine zgD (ys := u8s ([UInt8.ofNat (x.toNat / 2 ^ 56)] ++ [UInt8.ofNat (x.toNat / 2 ^ 48)] ++ [UInt8.ofNat (x.toNat / 2 ^ 40)] ++ [UInt8.ofNat (x.toNat / 2 ^ 32)] ++ [UInt8.ofNat (x.toNat / 2 ^ 24)] ++ [UInt8.ofNat (x.toNat / 2 ^ 16)] ++ [UInt8.ofNat (x.toNat / 2 ^ 8)] ++ [UInt8.ofNat (x.toNat / 2 ^ 0)])) (xs := u8s ([UInt8.ofNat (x.toNat / 2 ^ 56)] ++ [UInt8.ofNat (x.toNat / 2 ^ 48)] ++ [UInt8.ofNat (x.toNat / 2 ^ 40)] ++ [UInt8.ofNat (x.toNat / 2 ^ 32)] ++ [UInt8.ofNat (x.toNat / 2 ^ 24)] ++ [UInt8.ofNat (x.toNat / 2 ^ 16)] ++ [UInt8.ofNat (x.toNat / 2 ^ 8)])) (rs := rs_4_7) zhQ H rfl (k := 7) rfl rfl rfl rfl (Rd.ownA H (k := 0) (xs := [_]) (rs := []) rfl rfl rfl) (onesI) (zgG _ _) (by simp only [zcV, List.length_append, List.length_cons, List.length_nil]; omega) fun w43 bb_4_7 rs_4_7 H => ?_
 refine p_as (v := (.slice _ _ _)) rfl <| wpList_nil <| zaS <| xn hK41 <| wp_region_lit <| mvI rfl <| zaA (zgE (r := -1) rfl rfl rfl) <| asI rfl <| wpList_nil ?_
 refine zaG ?_
 rw [rounds_succ]
 refine wp_seq_k fun K44 hK44 => sr fun K45 hK45 => mvI rfl <| zaA (r_geq (t := false) rfl rfl (by decide)) <| xk hK45 <| ziX rfl rfl <| wp_exit <| zaN <| zaN ?_
 refine zcK <| xn hK2 <| sr fun K46 hK46 => p_mv (v := (.slice _ _ _)) rfl <| p_as (v := (.slice _ _ _)) rfl <| xk hK46 <| wp_ret <| e_1 rfl (zbD (v := (.slice _ _ _)) rfl) ?_
 rw [big_finN]
 replace H := H.tail
 replace H := H.tail
 replace H := H.tail
 replace H := H.tail
 replace H := H.tail
 replace H := H.tail
 replace H := H.tail
 exact ⟨_, _, rfl, H.skip⟩
theorem bytes_c (A : Nat) (w : World) :
    Calls Tryz.prog 43 #[numV A] w fun e w' => e = .returned (str (be 32 A)) ∧ Ext w w' := by
 refine enter (n := 17) Tryz.func43 rfl rfl rfl ?_
 have H := HP.start w
 refine sr fun K1 hK1 => zfM (l := numL A) H rfl fun w2 b3 H => p_as (v := (str _)) rfl <| xk hK1 <| sr fun K4 hK4 => p_as (v := (.slice none 0 0)) rfl <| xk hK4 <| wp_seq_k fun K5 hK5 => sr fun K6 hK6 => ?_
 refine mvI rfl <| xk hK6 <| wp_block <| wp_loop_rounds 5 ?_; rw [rounds_succ]
 refine sr fun K7 hK7 => zaA (zfN (t := true) rfl rfl (by decide)) <| xk hK7 <| wp_seq_k fun K8 hK8 => zcQ rfl rfl <| wp_skip <| xn hK8 <| wp_seq_k fun K9 hK9 => wp_block ?_
 refine sr fun K10 hK10 => mvI rfl <| asI rfl <| xk hK10 <| wp_region_lit <| p_mv (v := (.slice none 0 0)) rfl <| mvI rfl <| zaA (zgE (r := 3) rfl rfl rfl) <| zaA (zaQ u24 sz22 rfl (k := .i64) (i := 3) rfl rfl (by decide) (by decide)) ?_
 refine zaA (zbU (v := (.int _ _)) to22 H rfl (k := 0) rfl rfl) <| zaF is88 rfl <| (big_cN _ _ _ (U_lm _ _) _ H).mono ?_; rintro _ w11 ⟨bo_5_5o12, rsbo_5_5o12, rfl, H'⟩; clear H; have H := H'; clear H'
 refine p_as (v := (sl bo_5_5o12 0 (u8s (be 8 (lm A 3).toNat)).length (u8s (be 8 (lm A 3).toNat) ++ rsbo_5_5o12).length)) rfl <| wpList_nil <| zaS <| xn hK9 <| wp_region_lit <| zaA (zcM (r := 1) rfl rfl rfl) <| mvI rfl <| wpList_nil <| zaG ?_
 rw [rounds_succ]
 refine sr fun K13 hK13 => zaA (zfN (t := true) rfl rfl (by decide)) <| xk hK13 <| wp_seq_k fun K14 hK14 => zcQ rfl rfl <| wp_skip <| xn hK14 <| wp_seq_k fun K15 hK15 => wp_block ?_
 refine sr fun K16 hK16 => mvI rfl <| asI rfl <| xk hK16 <| wp_region_lit <| p_mv (v := (sl bo_5_5o12 0 (u8s (be 8 (lm A 3).toNat)).length (u8s (be 8 (lm A 3).toNat) ++ rsbo_5_5o12).length)) rfl <| mvI rfl <| zaA (zgE (r := 2) rfl rfl rfl) <| zaA (zaQ u24 sz22 rfl (k := .i64) (i := 2) rfl rfl (by decide) (by decide)) ?_
 refine zaA (zbU (v := (.int _ _)) to22 H rfl (k := 1) rfl rfl) <| zaF is88 rfl <| (big_c _ _ _ _ _ _ (U_lm _ _) (by simp [zgY]) _ H).mono ?_; rintro _ w17 ⟨bo_5_5o18, rsbo_5_5o18, rfl, H'⟩; clear H; have H := H'; clear H'
 refine p_as (v := (sl bo_5_5o18 0 (u8s (be 8 (lm A 3).toNat ++ be 8 (lm A 2).toNat)).length (u8s (be 8 (lm A 3).toNat ++ be 8 (lm A 2).toNat) ++ rsbo_5_5o18).length)) rfl <| wpList_nil <| zaS <| xn hK15 <| wp_region_lit <| zaA (zcM (r := 2) rfl rfl rfl) <| mvI rfl <| wpList_nil <| zaG ?_
 rw [rounds_succ]
 refine sr fun K19 hK19 => zaA (zfN (t := true) rfl rfl (by decide)) <| xk hK19 <| wp_seq_k fun K20 hK20 => zcQ rfl rfl <| wp_skip <| xn hK20 <| wp_seq_k fun K21 hK21 => wp_block ?_
 refine sr fun K22 hK22 => mvI rfl <| asI rfl <| xk hK22 <| wp_region_lit <| p_mv (v := (sl bo_5_5o18 0 (u8s (be 8 (lm A 3).toNat ++ be 8 (lm A 2).toNat)).length (u8s (be 8 (lm A 3).toNat ++ be 8 (lm A 2).toNat) ++ rsbo_5_5o18).length)) rfl <| mvI rfl <| zaA (zgE (r := 1) rfl rfl rfl) <| zaA (zaQ u24 sz22 rfl (k := .i64) (i := 1) rfl rfl (by decide) (by decide)) ?_
 refine zaA (zbU (v := (.int _ _)) to22 H rfl (k := 1) rfl rfl) <| zaF is88 rfl <| (big_c _ _ _ _ _ _ (U_lm _ _) (by simp [zgY]) _ H).mono ?_; rintro _ w23 ⟨bo_5_5o24, rsbo_5_5o24, rfl, H'⟩; clear H; have H := H'; clear H'
 refine p_as (v := (sl bo_5_5o24 0 (u8s (be 8 (lm A 3).toNat ++ be 8 (lm A 2).toNat ++ be 8 (lm A 1).toNat)).length (u8s (be 8 (lm A 3).toNat ++ be 8 (lm A 2).toNat ++ be 8 (lm A 1).toNat) ++ rsbo_5_5o24).length)) rfl <| wpList_nil <| zaS <| xn hK21 <| wp_region_lit <| zaA (zcM (r := 3) rfl rfl rfl) <| mvI rfl <| wpList_nil <| zaG ?_
 rw [rounds_succ]
 refine sr fun K25 hK25 => zaA (zfN (t := true) rfl rfl (by decide)) <| xk hK25 <| wp_seq_k fun K26 hK26 => zcQ rfl rfl <| wp_skip <| xn hK26 <| wp_seq_k fun K27 hK27 => wp_block ?_
 refine sr fun K28 hK28 => mvI rfl <| asI rfl <| xk hK28 <| wp_region_lit <| p_mv (v := (sl bo_5_5o24 0 (u8s (be 8 (lm A 3).toNat ++ be 8 (lm A 2).toNat ++ be 8 (lm A 1).toNat)).length (u8s (be 8 (lm A 3).toNat ++ be 8 (lm A 2).toNat ++ be 8 (lm A 1).toNat) ++ rsbo_5_5o24).length)) rfl <| mvI rfl <| zaA (zgE (r := 0) rfl rfl rfl) ?_
 refine zaA (zaQ u24 sz22 rfl (k := .i64) (i := 0) rfl rfl (by decide) (by decide)) <| zaA (zbU (v := (.int _ _)) to22 H rfl (k := 1) rfl rfl) <| zaF is88 rfl <| (big_c _ _ _ _ _ _ (U_lm _ _) (by simp [zgY]) _ H).mono ?_; rintro _ w29 ⟨bo_5_5o30, rsbo_5_5o30, rfl, H'⟩; clear H; have H := H'; clear H'
 refine p_as (v := (sl bo_5_5o30 0 (u8s (be 8 (lm A 3).toNat ++ be 8 (lm A 2).toNat ++ be 8 (lm A 1).toNat ++ be 8 (lm A 0).toNat)).length (u8s (be 8 (lm A 3).toNat ++ be 8 (lm A 2).toNat ++ be 8 (lm A 1).toNat ++ be 8 (lm A 0).toNat) ++ rsbo_5_5o30).length)) rfl <| wpList_nil <| zaS <| xn hK27 <| wp_region_lit <| zaA (zcM (r := 4) rfl rfl rfl) <| mvI rfl <| wpList_nil <| zaG ?_
 rw [rounds_succ]
 refine sr fun K31 hK31 => zaA (zfN (t := false) rfl rfl (by decide)) <| xk hK31 <| wp_seq_k fun K32 hK32 => ziX rfl rfl <| wp_exit <| zaN <| zaN <| zcK ?_
 refine xn hK5 <| sr fun K33 hK33 => p_mv (v := (sl bo_5_5o30 0 (u8s (be 8 (lm A 3).toNat ++ be 8 (lm A 2).toNat ++ be 8 (lm A 1).toNat ++ be 8 (lm A 0).toNat)).length (u8s (be 8 (lm A 3).toNat ++ be 8 (lm A 2).toNat ++ be 8 (lm A 1).toNat ++ be 8 (lm A 0).toNat) ++ rsbo_5_5o30).length)) rfl ?_
 refine zaA (r_ofBytes (l := _) u127 u5 u9 rfl ((Rd.ownA H (k := 0) (xs := u8s (be 8 (lm A 3).toNat ++ be 8 (lm A 2).toNat ++ be 8 (lm A 1).toNat ++ be 8 (lm A 0).toNat)) (rs := rsbo_5_5o30) rfl rfl rfl))) <| p_as (v := (str _)) rfl <| xk hK33 <| wp_ret <| e_1 rfl (zbD (v := (str _)) rfl) ?_
 exact ⟨by rw [be_32], H.below⟩
end
section
theorem zbY {x : Nat} (h : x < zaE := by first | exact Nat.mod_lt _ zcL | exact Mod.lt (zbF _) | assumption | exact onceN_lt (by assumption) | exact Nat.lt_trans (Nat.mod_lt _ (zbF _).pos) (zbF _).lt | exact ofV_lt2 _ _ | exact invV_lt2 _ _ | exact zeT _ _ | exact zgK _ _ | exact zeR _ _ | exact zfV _ | exact PP_lt | exact AL_GG.1 | exact AL_GG.2 | exact (zkM _ _).1 | exact (zkM _ _).2 | exact (ziP _ _).1 | exact (ziP _ _).2 | exact (zkP _).1 | exact (zkP _).2 | exact (zkL (by assumption)).1 | exact (zkL (by assumption)).2 | exact lt_lit (by decide)) : x < zaE := h
attribute [local irreducible] wpList wpT Code.wp Calls Code.rounds lm sd sb ad ac modN bval be fm fa fs fn jtwX jtwY jtwZ onB invV invE
theorem tg26 : TAgg Tryz.prog 26 9 := ⟨fun _ => by kernel_rfl, fun _ => by kernel_rfl⟩
theorem to4 : TOne Tryz.prog 4 := ⟨fun _ => by kernel_rfl, fun _ => by kernel_rfl⟩
theorem tz26 : TZero Tryz.prog 26 (.agg #[uz, uz, uz, uz, uz, uz, uz, uz, .bool false]) := fun _ => by kernel_rfl
theorem u4 : Tryz.prog.underlying 4 = some .bool := by kernel_rfl
theorem eg26 : Tryz.prog.eqGuardType Tryz.prog.depth 26 = false := by kernel_rfl
theorem is107 : IsFn Tryz.prog 107 := isFn Tryz.func107
theorem zgT : IsFn Tryz.prog 108 := isFn Tryz.func108
theorem is109 : IsFn Tryz.prog 109 := isFn Tryz.func109
theorem is151 : IsFn Tryz.prog 151 := isFn Tryz.func151
theorem tb26 : TBuild Tryz.prog 26 (.agg #[uz, uz, uz, uz, uz, uz, uz, uz, .bool false]) [(0, 4), (4, 4), (8, 1)] := tbuildS (fs := fieldsOf Tryz.prog 26) (by kernel_rfl) tz26 (fun _ => by kernel_rfl)
theorem agt4 : ∀ w : World, (isAgg 4).run Tryz.prog w = .ok false w := fun _ => by kernel_rfl
theorem agt24 : ∀ w : World, (isAgg 24).run Tryz.prog w = .ok true w := fun _ => by kernel_rfl
theorem szt24 : ∀ w : World, (sizeOf 24).run Tryz.prog w = .ok 4 w := fun _ => by kernel_rfl
theorem pt26 : Tryz.prog.underlying 26 = some (.struct (fieldsOf Tryz.prog 26)) := by kernel_rfl
theorem ptf26 : (fieldsOf Tryz.prog 26).toList.map (fun f => (f.name, f.type, f.offset)) = [("X", 24, 0), ("Y", 24, 4), ("Inf", 4, 8)] := by kernel_rfl
theorem pts26 : Tryz.prog.stoodInHeld 26 = false := by kernel_rfl
theorem fa26_0 : zgZ Tryz.prog 26 0 0 := fun _ _ _ => by kernel_rfl
theorem fa26_1 : zgZ Tryz.prog 26 1 4 := fun _ _ _ => by kernel_rfl
theorem fa26_2 : zgZ Tryz.prog 26 2 8 := fun _ _ _ => by kernel_rfl
theorem zcN (A B : Nat) (hA : A < zaE) (hB : B < zaE) (w : World) :
    Calls Tryz.prog 108 #[numV A, numV B] w fun e w' => e = .returned (numV (fm A B)) ∧ Ext w w' := by
 refine enter (n := 8) Tryz.func108 rfl rfl rfl ?_
 have H := HP.start w
 refine sr fun K1 hK1 => zfM (l := _) H rfl fun w2 b3 H => zfM (l := _) H rfl fun w4 b5 H => zbW (l := [uz, uz, uz, uz]) H tz24 rfl fun w7 b6 H => xk hK1 <| sr fun K8 hK8 => zaA (zaK tg24 H rfl (k := 2) rfl rfl) <| zaA (zaK tg24 H rfl (k := 1) rfl rfl) <| zaF is51 rfl ?_
 refine (mul_c _ _ _ zbY zbY _).mono <| H.xe fun w9 H => zaO tg24 H rfl (k := 0) rfl rfl rfl rfl rfl fun w10 H => xk hK8 <| wp_ret <| e_1 rfl (zcA tg24 H rfl (k := 0) rfl rfl) ?_
 exact ⟨by rw [fm_def], H.below⟩
theorem plus_c (A B : Nat) (hA : A < zaE) (hB : B < zaE) (w : World) :
    Calls Tryz.prog 107 #[numV A, numV B] w fun e w' => e = .returned (numV (fa A B)) ∧ Ext w w' := by
 refine enter (n := 8) Tryz.func107 rfl rfl rfl ?_
 have H := HP.start w
 refine sr fun K1 hK1 => zfM (l := _) H rfl fun w2 b3 H => zfM (l := _) H rfl fun w4 b5 H => zbW (l := [uz, uz, uz, uz]) H tz24 rfl fun w7 b6 H => xk hK1 <| sr fun K8 hK8 => zaA (zaK tg24 H rfl (k := 2) rfl rfl) <| zaA (zaK tg24 H rfl (k := 1) rfl rfl) <| zaF is49 rfl ?_
 refine (add_c _ _ _ zbY zbY _).mono <| H.xe fun w9 H => zaO tg24 H rfl (k := 0) rfl rfl rfl rfl rfl fun w10 H => xk hK8 <| wp_ret <| e_1 rfl (zcA tg24 H rfl (k := 0) rfl rfl) ?_
 exact ⟨by rw [fa_def], H.below⟩
theorem minus_c (A B : Nat) (hA : A < zaE) (hB : B < zaE) (w : World) :
    Calls Tryz.prog 109 #[numV A, numV B] w fun e w' => e = .returned (numV (fs A B)) ∧ Ext w w' := by
 refine enter (n := 8) Tryz.func109 rfl rfl rfl ?_
 have H := HP.start w
 refine sr fun K1 hK1 => zfM (l := _) H rfl fun w2 b3 H => zfM (l := _) H rfl fun w4 b5 H => zbW (l := [uz, uz, uz, uz]) H tz24 rfl fun w7 b6 H => xk hK1 <| sr fun K8 hK8 => zaA (zaK tg24 H rfl (k := 2) rfl rfl) <| zaA (zaK tg24 H rfl (k := 1) rfl rfl) <| zaF is151 rfl ?_
 refine (sub_c _ _ _ zbY zbY _).mono <| H.xe fun w9 H => zaO tg24 H rfl (k := 0) rfl rfl rfl rfl rfl fun w10 H => xk hK8 <| wp_ret <| e_1 rfl (zcA tg24 H rfl (k := 0) rfl rfl) ?_
 exact ⟨by rw [fs_def], H.below⟩
set_option maxRecDepth 4000 in
theorem on_c (X Y : Nat) (I : Bool) (hX : X < zaE) (hY : Y < zaE) (w : World) :
    Calls Tryz.prog 60 #[ptV X Y I] w fun e w' => e = .returned (.bool (onB X Y I)) ∧ Ext w w' := by
 refine enter (n := 49) Tryz.func60 rfl rfl rfl ?_
 have H := HP.start w
 refine sr fun K1 hK1 => zfM (l := (numL X ++ (numL Y ++ [(.bool I : Value)]))) H rfl fun w2 b3 H => p_as (v := (.bool _)) rfl <| xk hK1 <| wp_seq_k fun K4 hK4 => sr fun K5 hK5 => zaA (zaJ fa26_2 rfl) <| zaA (zbU (v := .bool I) to4 H rfl (k := 0) rfl (rfl)) <| xk hK5 ?_
 refine zcG rfl (fun hc_1 => ?_) fun hc_1 => ?_
 ·refine sr fun K7 hK7 => ?_
  refine zaA (zaK tg26 H rfl (k := 0) rfl rfl) <| zaA (r_as (l' := (numL 0 ++ (numL 0 ++ [(.bool true : Value)]))) (zbC (vals := [(2, .bool true)]) (l := ([uz, uz, uz, uz] ++ ([uz, uz, uz, uz] ++ [(.bool true : Value)]))) tb26 rfl rfl) (by rw [num_0])) <| zaA (r_eqpt pt26 ptf26 pts26 u24 u22 sz22 ag22 agt24 szt24 u4 agt4 eg26 rfl rfl zbY zbY zbY zbY rfl) ?_
  refine p_as (v := (.bool _)) rfl <| xk hK7 <| wp_ret <| zdC <| e_1 rfl (zbD (v := (.bool _)) rfl) ?_
  exact ⟨by rw [hc_1, onB_inf]; simp, H.below⟩
 ·refine wp_skip ?_
  refine xn hK4 <| wp_seq_k fun K9 hK9 => wp_seq_k fun K10 hK10 => ?_
  rcases Bool.eq_false_or_eq_true (fa X 0 != X) with hcx | hcx
  ·apply wrH H 16 [(3, .inl _)]; intro vs12 H
   refine tp (zaJ fa26_0 rfl) <| t_v (fun w hx => zdG (l := numL X) tg24 (H.ext hx) rfl (k := 0) rfl rfl rfl) <| tp (r_as (l' := numL 0) (zbC (vals := []) (l := [_, _, _, _]) tb24 rfl rfl) (num_0)) <| tcl is107 (plus_c _ _ zbY zbY) <| tp (zaJ fa26_0 rfl) <| t_v (fun w hx => zdG (l := numL X) tg24 (H.ext hx) rfl (k := 0) rfl rfl rfl) ?_
   refine tp (r_nenum u24 u22 sz22 ag22 eg24 rfl rfl zbY zbY rfl) <| tp (zaC (v := (.bool _)) rfl) <| zbB rfl (hcx) rfl ?_
   rw [zaH]
   refine zbB rfl (hcx) rfl ?_
   rw [zaH]
   refine zbB rfl (hcx) rfl ?_
   rw [zaH]
   refine zbB rfl (hcx) rfl ?_
   rw [zaH]
   refine zbB rfl (hcx) rfl ?_
   rw [zaH]
   refine zbB rfl (hcx) rfl ?_
   rw [zaH]
   refine zbB rfl (hcx) rfl ?_
   rw [zaH]
   refine tp (zbQ (v := (.bool _)) rfl (hcx) rfl) <| zbP <| H.tn fun w14 H => wpList_nil <| zaP <| xn hK10 <| zcQ rfl rfl <| sr fun K15 hK15 => p_as (v := (.bool _)) rfl <| xk hK15 <| wp_ret ?_
   refine zdC <| e_1 rfl (zbD (v := (.bool _)) rfl) ?_
   exact ⟨by rw [hc_1, onB_out1 hcx], H.below⟩
  ·apply wrH H 16 [(3, .inl _), (11, .inl _)]; intro vs17 H
   refine tp (zaJ fa26_0 rfl) <| t_v (fun w hx => zdG (l := numL X) tg24 (H.ext hx) rfl (k := 0) rfl rfl rfl) <| tp (r_as (l' := numL 0) (zbC (vals := []) (l := [_, _, _, _]) tb24 rfl rfl) (num_0)) <| tcl is107 (plus_c _ _ zbY zbY) <| tp (zaJ fa26_0 rfl) <| t_v (fun w hx => zdG (l := numL X) tg24 (H.ext hx) rfl (k := 0) rfl rfl rfl) ?_
   refine tp (r_nenum u24 u22 sz22 ag22 eg24 rfl rfl zbY zbY rfl) <| tp (zaC (v := (.bool _)) rfl) <| zbX rfl (hcx) (fun w hx => zaJ fa26_1 rfl) rfl rfl <| zbX rfl (hcx) (fun w hx => zdG (l := numL Y) tg24 (H.ext hx) rfl (k := 0) rfl rfl rfl) rfl rfl <| zbX rfl (hcx) (fun w hx => r_as (l' := numL 0) (zbC (vals := []) (l := [_, _, _, _]) tb24 rfl rfl) (num_0)) rfl rfl ?_
   refine zjK rfl (hcx) (l := [(.agg (List.toArray _)), (.agg (List.toArray _))]) rfl rfl is107 rfl (fun w hx hF => (plus_c _ _ zbY zbY _).mono (fun _ _ h => h)) <| zbX rfl (hcx) (fun w hx => zaJ fa26_1 rfl) rfl rfl <| zbX rfl (hcx) (fun w hx => zdG (l := numL Y) tg24 (H.ext hx) rfl (k := 0) rfl rfl rfl) rfl rfl ?_
   refine zbX rfl (hcx) (fun w hx => r_nenum u24 u22 sz22 ag22 eg24 rfl rfl zbY zbY rfl) rfl rfl <| tp (zaX (v := (.bool _)) rfl (hcx) rfl) <| zbP <| H.tn fun w20 H => wpList_nil <| zaP <| xn hK10 ?_
   refine zcG rfl (fun hc_3 => ?_) fun hc_3 => ?_
   ·refine sr fun K21 hK21 => ?_
    refine p_as (v := (.bool _)) rfl <| xk hK21 <| wp_ret <| zdC <| e_1 rfl (zbD (v := (.bool _)) rfl) ?_
    exact ⟨by rw [hc_1, onB_out2 hc_3], H.below⟩
   ·refine wp_skip ?_
    refine xn hK9 <| sr fun K22 hK22 => ?_
    refine zaA (r_as (l' := numL 41058363725152142129326129780047268409114441015993725554835256314039467401291) (zbC (vals := [(0, (.int _ _)), (1, (.int _ _)), (2, (.int _ _)), (3, (.int _ _))]) (l := [_, _, _, _]) tb24 rfl rfl) (zjA (a := 4309448131093880907) (b := 7285987128567378166) (c := 12964664127075681980) (d := 6540974713487397863) _ (by decide) (by decide) (by decide) (by decide) (by decide))) ?_
    refine zbW (l := [uz, uz, uz, uz]) H tz24 rfl fun w24 b23 H => zaO tg24 H rfl (k := 0) rfl rfl rfl rfl rfl fun w25 H => xk hK22 <| wp_seq_k fun K26 hK26 => ?_
    apply wrH H 9 [(6, .inl _), (7, .inl _), (8, .inr (NewAt _ [uz, uz, uz, uz] 24))]; intro vs28 H
    refine tp (zaJ fa26_0 rfl) <| t_v (fun w hx => zdG (l := numL X) tg24 (H.ext hx) rfl (k := 1) rfl rfl rfl) <| tp (zaJ fa26_0 rfl) <| t_v (fun w hx => zdG (l := numL X) tg24 (H.ext hx) rfl (k := 1) rfl rfl rfl) <| tp (zaJ fa26_0 rfl) <| t_v (fun w hx => zdG (l := numL X) tg24 (H.ext hx) rfl (k := 1) rfl rfl rfl) <| tcl zgT (zcN _ _ zbY zbY) ?_
    refine tcl zgT (zcN _ _ zbY zbY) <| zeA rfl rfl tz24 rfl ?_
    refine zbP (fun w30 hx hF hA => ?_)
    obtain ⟨b29, eb29, hbb29, hhb29⟩ := zdV hF 8 rfl rfl; have hnb29 := HP.neL H hbb29; replace hbb29 := Nat.le_trans H.below.size hbb29
    replace H := H.ext hx
    replace H := HP.push1 H hbb29 hnb29 hhb29
    clear hbb29 hnb29 hhb29
    clear hx hF hA
    refine zaO tg24 H eb29 (k := 0) rfl rfl rfl rfl rfl fun w31 H => wpList_nil <| zaP <| xn hK26 <| wp_seq_k fun K32 hK32 => ?_
    apply wrH H 15 [(4, .inl _), (9, .inl _), (10, .inl _), (12, .inl _)]; intro vs34 H
    refine tp (zaJ fa26_1 rfl) <| t_v (fun w hx => zdG (l := numL Y) tg24 (H.ext hx) rfl (k := 2) rfl rfl rfl) <| tp (zaJ fa26_1 rfl) <| t_v (fun w hx => zdG (l := numL Y) tg24 (H.ext hx) rfl (k := 2) rfl rfl rfl) <| tcl zgT (zcN _ _ zbY zbY) <| t_v (fun w hx => zaK tg24 (H.ext hx) eb29 (k := 0) rfl rfl) ?_
    refine tp (r_as (l' := numL 3) (zbC (vals := [(0, (.int _ _))]) (l := [_, _, _, _]) tb24 rfl rfl) (num_lit 3 (by decide))) <| tp (zaJ fa26_0 rfl) <| t_v (fun w hx => zdG (l := numL X) tg24 (H.ext hx) rfl (k := 2) rfl rfl rfl) <| tcl zgT (zcN _ _ zbY zbY) <| tcl is109 (minus_c _ _ zbY zbY) <| t_v (fun w hx => zaK tg24 (H.ext hx) rfl (k := 1) rfl rfl) ?_
    refine tcl is107 (plus_c _ _ zbY zbY) <| tp (r_eqnum u24 u22 sz22 ag22 eg24 rfl rfl zbY zbY rfl) <| tp (zhY (v := (.bool _)) rfl) <| zbP <| H.tn fun w36 H => wpList_nil <| zaP <| xn hK32 <| wp_ret <| e_1 rfl (zbD (v := (.bool _)) rfl) ?_
    exact ⟨by rw [hc_1, onB_in hcx hc_3]; rfl, H.below⟩
end
section
theorem zaL {x : Nat} (h : x < zaE := by first | exact Nat.mod_lt _ zcL | exact Mod.lt (zbF _) | assumption | exact onceN_lt (by assumption) | exact Nat.lt_trans (Nat.mod_lt _ (zbF _).pos) (zbF _).lt | exact ofV_lt2 _ _ | exact invV_lt2 _ _ | exact zeT _ _ | exact zgK _ _ | exact zeR _ _ | exact zfV _ | exact PP_lt | exact AL_GG.1 | exact AL_GG.2 | exact (zkM _ _).1 | exact (zkM _ _).2 | exact (ziP _ _).1 | exact (ziP _ _).2 | exact (zkP _).1 | exact (zkP _).2 | exact (zkL (by assumption)).1 | exact (zkL (by assumption)).2 | exact lt_lit (by decide)) : x < zaE := h
attribute [local irreducible] wpList wpT Code.wp Calls Code.rounds lm sd sb ad ac modN bval be fm fa fs fn jtwX jtwY jtwZ onB invV invE
theorem zkG : TAgg Tryz.prog 152 12 := ⟨fun _ => by kernel_rfl, fun _ => by kernel_rfl⟩
theorem tz152 : TZero Tryz.prog 152 (.agg #[uz, uz, uz, uz, uz, uz, uz, uz, uz, uz, uz, uz]) := fun _ => by kernel_rfl
theorem is50 : IsFn Tryz.prog 50 := isFn Tryz.func50
theorem is111 : IsFn Tryz.prog 111 := isFn Tryz.func111
theorem tb152 : TBuild Tryz.prog 152 (.agg #[uz, uz, uz, uz, uz, uz, uz, uz, uz, uz, uz, uz]) [(0, 4), (4, 4), (8, 4)] := tbuildS (fs := fieldsOf Tryz.prog 152) (by kernel_rfl) tz152 (fun _ => by kernel_rfl)
theorem fa152_0 : zgZ Tryz.prog 152 0 0 := fun _ _ _ => by kernel_rfl
theorem fa152_1 : zgZ Tryz.prog 152 1 4 := fun _ _ _ => by kernel_rfl
theorem ziZ : zgZ Tryz.prog 152 2 8 := fun _ _ _ => by kernel_rfl
theorem base_c  (w : World) :
    Calls Tryz.prog 41 #[] w fun e w' => e = .returned (ptV GX GY false) ∧ Ext w w' := by
 refine enter (n := 4) Tryz.func41 rfl rfl rfl ?_
 have H := HP.start w
 refine sr fun K1 hK1 => zbW (l := [uz, uz, uz, uz, uz, uz, uz, uz, .bool false]) H tz26 rfl fun w3 b2 H => xk hK1 <| sr fun K4 hK4 => ?_
 refine zaA (r_as (l' := numL 48439561293906451759052585252797914202762949526041747995844080717082404635286) (zbC (vals := [(0, (.int _ _)), (1, (.int _ _)), (2, (.int _ _)), (3, (.int _ _))]) (l := [_, _, _, _]) tb24 rfl rfl) (zjA (a := 17627433388654248598) (b := 8575836109218198432) (c := 17923454489921339634) (d := 7716867327612699207) _ (by decide) (by decide) (by decide) (by decide) (by decide))) ?_
 refine zaA (r_as (l' := numL 36134250956749795798585127919587881956611106672985015071877198253568414405109) (zbC (vals := [(0, (.int _ _)), (1, (.int _ _)), (2, (.int _ _)), (3, (.int _ _))]) (l := [_, _, _, _]) tb24 rfl rfl) (zjA (a := 14678990851816772085) (b := 3156516839386865358) (c := 10297457778147434006) (d := 5756518291402817435) _ (by decide) (by decide) (by decide) (by decide) (by decide))) ?_
 refine zaA (zbC (vals := [(0, .agg (numL 48439561293906451759052585252797914202762949526041747995844080717082404635286).toArray), (1, .agg (numL 36134250956749795798585127919587881956611106672985015071877198253568414405109).toArray)]) (l := (numL 48439561293906451759052585252797914202762949526041747995844080717082404635286 ++ (numL 36134250956749795798585127919587881956611106672985015071877198253568414405109 ++ [(.bool false : Value)]))) tb26 rfl rfl) ?_
 refine zaO tg26 H rfl (k := 0) rfl rfl rfl rfl rfl fun w5 H => xk hK4 <| wp_ret <| e_1 rfl (zcA tg26 H rfl (k := 0) rfl rfl) ?_
 exact ⟨by rw [GX, GY], H.below⟩
theorem cof_c (X Y : Nat) (I : Bool) (hX : X < zaE) (hY : Y < zaE) (w : World) :
    Calls Tryz.prog 110 #[ptV X Y I] w fun e w' => e = .returned (.agg (jcT (jof X Y I)).toArray) ∧ Ext w w' := by
 refine enter (n := 12) Tryz.func110 rfl rfl rfl ?_
 have H := HP.start w
 refine sr fun K1 hK1 => zfM (l := (numL X ++ (numL Y ++ [(.bool I : Value)]))) H rfl fun w2 b3 H => zbW (l := [uz, uz, uz, uz, uz, uz, uz, uz, uz, uz, uz, uz]) H tz152 rfl fun w5 b4 H => xk hK1 <| wp_seq_k fun K6 hK6 => sr fun K7 hK7 => zaA (zaJ fa26_2 rfl) <| zaA (zbU (v := .bool I) to4 H rfl (k := 1) rfl (rfl)) <| xk hK7 ?_
 refine zcG rfl (fun hc_1 => ?_) fun hc_1 => ?_
 ·refine sr fun K9 hK9 => ?_
  refine zaA (r_as (l' := (numL 0 ++ (numL 0 ++ numL 0))) (zbC (vals := []) (l := ([uz, uz, uz, uz] ++ ([uz, uz, uz, uz] ++ [uz, uz, uz, uz]))) tb152 rfl rfl) (by rw [num_0])) <| zaO zkG H rfl (k := 0) rfl rfl rfl rfl rfl fun w10 H => xk hK9 <| wp_ret <| zdC <| e_1 rfl (zcA zkG H rfl (k := 0) rfl rfl) ?_
  rw [hc_1]; exact ⟨rfl, H.below⟩
 ·refine wp_skip ?_
  refine xn hK6 <| sr fun K11 hK11 => zaA (zaJ fa26_0 rfl) <| zaA (zdG (l := numL X) tg24 H rfl (k := 1) rfl rfl rfl) <| zaA (zaJ fa26_1 rfl) <| zaA (zdG (l := numL Y) tg24 H rfl (k := 1) rfl rfl rfl) <| zaA (r_as (l' := numL 1) (zbC (vals := [(0, (.int _ _))]) (l := [_, _, _, _]) tb24 rfl rfl) (num_lit 1 (by decide))) ?_
  refine zaA (zbC (vals := [(0, .agg (numL X).toArray), (1, .agg (numL Y).toArray), (2, .agg (numL 1).toArray)]) (l := (numL X ++ (numL Y ++ numL 1))) tb152 rfl rfl) <| zaO zkG H rfl (k := 0) rfl rfl rfl rfl rfl fun w12 H => xk hK11 <| wp_ret <| e_1 rfl (zcA zkG H rfl (k := 0) rfl rfl) ?_
  rw [hc_1]; exact ⟨rfl, H.below⟩
theorem cend_v (X Y Z : Nat) (hX : X < zaE) (hY : Y < zaE) (hZ : Z < zaE) (w : World) :
    Calls Tryz.prog 113 #[jcV X Y Z] w fun e w' => e = .returned (.agg (ptT (jend (X, Y, Z))).toArray) ∧ Ext w w' := by
 refine enter (n := 29) Tryz.func113 rfl rfl rfl ?_
 have H := HP.start w
 refine sr fun K1 hK1 => zfM (l := (numL X ++ (numL Y ++ numL Z))) H rfl fun w2 b3 H => zbW (l := [uz, uz, uz, uz, uz, uz, uz, uz, .bool false]) H tz26 rfl fun w5 b4 H => xk hK1 <| sr fun K6 hK6 => zaA (zaJ ziZ rfl) <| zaA (zdG (l := numL Z) tg24 H rfl (k := 1) rfl rfl rfl) <| zaF is50 rfl <| (inv_c _ _ zaL _).mono <| H.xe fun w7 H => ?_
 refine p_mv (v := (.tuple _)) rfl <| zaA (zaM (v := (.agg (List.toArray _))) rfl rfl) <| zaA (zaM (v := (.int _ _)) rfl rfl) <| zbW (l := [uz, uz, uz, uz]) H tz24 rfl fun w9 b8 H => zaO tg24 H rfl (k := 0) rfl rfl rfl rfl rfl fun w10 H => asI rfl <| xk hK6 <| wp_seq_k fun K11 hK11 => sr fun K12 hK12 => ?_
 refine mvI rfl <| zaA (r_neq rfl rfl rfl) <| xk hK12 ?_
 refine zcG rfl (fun hc_2 => ?_) fun hc_2 => ?_
 ·refine sr fun K14 hK14 => ?_
  refine zaA (r_as (l' := (numL 0 ++ (numL 0 ++ [(.bool true : Value)]))) (zbC (vals := [(2, .bool true)]) (l := ([uz, uz, uz, uz] ++ ([uz, uz, uz, uz] ++ [(.bool true : Value)]))) tb26 rfl rfl) (by rw [num_0])) <| zaO tg26 H rfl (k := 1) rfl rfl rfl rfl rfl fun w15 H => xk hK14 <| wp_ret <| zdC <| e_1 rfl (zcA tg26 H rfl (k := 1) rfl rfl) ?_
  exact ⟨by rw [jend_t hc_2], H.below⟩
 ·refine wp_skip ?_
  refine xn hK11 <| sr fun K16 hK16 => zaA (zaK tg24 H rfl (k := 0) rfl rfl) <| zaA (zaK tg24 H rfl (k := 0) rfl rfl) <| zaF zgT rfl <| (zcN _ _ zaL zaL _).mono <| H.xe fun w17 H => zbW (l := [uz, uz, uz, uz]) H tz24 rfl fun w19 b18 H => zaO tg24 H rfl (k := 0) rfl rfl rfl rfl rfl fun w20 H => xk hK16 ?_
  refine wp_seq_k fun K21 hK21 => ?_
  apply wrH H 11 [(3, .inl _), (8, .inl _), (9, .inl _)]; intro vs23 H
  refine tp (zaJ fa152_0 rfl) <| t_v (fun w hx => zdG (l := numL X) tg24 (H.ext hx) rfl (k := 3) rfl rfl rfl) <| t_v (fun w hx => zaK tg24 (H.ext hx) rfl (k := 0) rfl rfl) <| tcl zgT (zcN _ _ zaL zaL) <| tp (zaJ fa152_1 rfl) <| t_v (fun w hx => zdG (l := numL Y) tg24 (H.ext hx) rfl (k := 3) rfl rfl rfl) <| t_v (fun w hx => zaK tg24 (H.ext hx) rfl (k := 0) rfl rfl) ?_
  refine t_v (fun w hx => zaK tg24 (H.ext hx) rfl (k := 1) rfl rfl) <| tcl zgT (zcN _ _ zaL zaL) <| tcl zgT (zcN _ _ zaL zaL) ?_
  refine tp (zbC (vals := [(0, .agg (numL (fm X (fm (invV 0 Z) (invV 0 Z)))).toArray), (1, .agg (numL (fm Y (fm (fm (invV 0 Z) (invV 0 Z)) (invV 0 Z)))).toArray)]) (l := (numL (fm X (fm (invV 0 Z) (invV 0 Z))) ++ (numL (fm Y (fm (fm (invV 0 Z) (invV 0 Z)) (invV 0 Z))) ++ [(.bool false : Value)]))) tb26 rfl rfl) <| zbP <| H.tn fun w24 H => zaO tg26 H rfl (k := 2) rfl rfl rfl rfl rfl fun w25 H => ?_
  refine wpList_nil <| zaP <| xn hK21 <| wp_ret <| e_1 rfl (zcA tg26 H rfl (k := 2) rfl rfl) ?_
  exact ⟨by rw [jend_f hc_2], H.below⟩
theorem cend_c (t : Tr) (h : TL t) (w : World) : Calls Tryz.prog 113 #[.agg (jcT t).toArray] w fun e w' => e = .returned (.agg (ptT (jend t)).toArray) ∧ Ext w w' := cend_v t.1 t.2.1 t.2.2 h.1 h.2.1 h.2.2 w
set_option maxRecDepth 4000 in
theorem ctwice_v (X Y Z : Nat) (hX : X < zaE) (hY : Y < zaE) (hZ : Z < zaE) (w : World) :
    Calls Tryz.prog 111 #[jcV X Y Z] w fun e w' => e = .returned (.agg (jcT (jtw (X, Y, Z))).toArray) ∧ Ext w w' := by
 refine enter (n := 64) Tryz.func111 rfl rfl rfl ?_
 have H := HP.start w
 refine sr fun K1 hK1 => zfM (l := (numL X ++ (numL Y ++ numL Z))) H rfl fun w2 b3 H => zbW (l := [uz, uz, uz, uz, uz, uz, uz, uz, uz, uz, uz, uz]) H tz152 rfl fun w5 b4 H => xk hK1 <| wp_seq_k fun K6 hK6 => ?_
 apply wrH H 12 [(4, .inl _), (9, .inl _), (10, .inr (NewAt _ [uz, uz, uz, uz] 24)), (11, .inr (NewAt _ [uz, uz, uz, uz] 24))]; intro vs8 H
 refine tp (zaJ ziZ rfl) <| t_v (fun w hx => zdG (l := numL Z) tg24 (H.ext hx) rfl (k := 1) rfl rfl rfl) <| tp (zaJ ziZ rfl) <| t_v (fun w hx => zdG (l := numL Z) tg24 (H.ext hx) rfl (k := 1) rfl rfl rfl) <| tcl zgT (zcN _ _ zaL zaL) <| tp (zaJ fa152_1 rfl) <| t_v (fun w hx => zdG (l := numL Y) tg24 (H.ext hx) rfl (k := 1) rfl rfl rfl) <| tp (zaJ fa152_1 rfl) ?_
 refine t_v (fun w hx => zdG (l := numL Y) tg24 (H.ext hx) rfl (k := 1) rfl rfl rfl) <| tcl zgT (zcN _ _ zaL zaL) <| zeA rfl rfl tz24 rfl <| zeA rfl rfl tz24 rfl ?_
 refine zbP (fun w11 hx hF hA => ?_)
 obtain ⟨b9, eb9, hbb9, hhb9⟩ := zdV hF 10 rfl rfl; have hnb9 := HP.neL H hbb9; replace hbb9 := Nat.le_trans H.below.size hbb9
 obtain ⟨b10, eb10, hbb10, hhb10⟩ := zdV hF 11 rfl rfl; have hnb10 := HP.neL H hbb10; replace hbb10 := Nat.le_trans H.below.size hbb10
 replace H := H.ext hx
 replace H := HP.push1 H hbb9 hnb9 hhb9
 replace H := HP.push1 H hbb10 ⟨fun e => (hA 10 11 (by decide) (by decide) (by decide)).1 rfl rfl (by rw [eb9, eb10]; exact congrArg (fun z => Value.pointer (some ⟨z, 0, none⟩)) e), hnb10⟩ hhb10
 clear hbb9 hnb9 hhb9 hbb10 hnb10 hhb10
 clear hx hF hA
 refine zaO tg24 H eb9 (k := 1) rfl rfl rfl rfl rfl fun w12 H => HP.name H (k := 1) rfl ?_; clear H; intro zz hzz H; have lzz : zz < zaE := by (rw [hzz]; first | exact zeT _ _ | exact zgK _ _ | exact zeR _ _ | exact zfV _)
 refine zaO tg24 H eb10 (k := 0) rfl rfl rfl rfl rfl fun w13 H => HP.name H (k := 0) rfl ?_; clear H; intro yy hyy H; have lyy : yy < zaE := by (rw [hyy]; first | exact zeT _ _ | exact zgK _ _ | exact zeR _ _ | exact zfV _)
 refine wpList_nil <| zaP <| xn hK6 <| wp_seq_k fun K14 hK14 => ?_
 apply wrH H 12 [(4, .inl _), (8, .inl _), (9, .inl _), (10, .inl _), (11, .inr (NewAt _ [uz, uz, uz, uz] 24))]; intro vs16 H
 refine tp (r_as (l' := numL 3) (zbC (vals := [(0, (.int _ _))]) (l := [_, _, _, _]) tb24 rfl rfl) (num_lit 3 (by decide))) <| tp (zaJ fa152_0 rfl) <| t_v (fun w hx => zdG (l := numL X) tg24 (H.ext hx) rfl (k := 3) rfl rfl rfl) <| t_v (fun w hx => zaK tg24 (H.ext hx) eb9 (k := 1) rfl rfl) <| tcl is109 (minus_c _ _ zaL zaL) <| tp (zaJ fa152_0 rfl) ?_
 refine t_v (fun w hx => zdG (l := numL X) tg24 (H.ext hx) rfl (k := 3) rfl rfl rfl) <| t_v (fun w hx => zaK tg24 (H.ext hx) eb9 (k := 1) rfl rfl) <| tcl is107 (plus_c _ _ zaL zaL) <| tcl zgT (zcN _ _ zaL zaL) <| tcl zgT (zcN _ _ zaL zaL) <| zeA rfl rfl tz24 rfl ?_
 refine zbP (fun w18 hx hF hA => ?_)
 obtain ⟨b17, eb17, hbb17, hhb17⟩ := zdV hF 11 rfl rfl; have hnb17 := HP.neL H hbb17; replace hbb17 := Nat.le_trans H.below.size hbb17
 replace H := H.ext hx
 replace H := HP.push1 H hbb17 hnb17 hhb17
 clear hbb17 hnb17 hhb17
 clear hx hF hA
 refine zaO tg24 H eb17 (k := 0) rfl rfl rfl rfl rfl fun w19 H => HP.name H (k := 0) rfl ?_; clear H; intro m1 hm1 H; have lm1 : m1 < zaE := by (rw [hm1]; first | exact zeT _ _ | exact zgK _ _ | exact zeR _ _ | exact zfV _)
 refine wpList_nil <| zaP <| xn hK14 <| sr fun K20 hK20 => zaA (r_as (l' := numL 4) (zbC (vals := [(0, (.int _ _))]) (l := [_, _, _, _]) tb24 rfl rfl) (num_lit 4 (by decide))) <| zaA (zaJ fa152_0 rfl) <| zaA (zdG (l := numL X) tg24 H rfl (k := 4) rfl rfl rfl) <| zaA (zaK tg24 H eb10 (k := 1) rfl rfl) <| zaF zgT rfl <| (zcN _ _ zaL zaL _).mono <| H.xe fun w21 H => ?_
 refine zaF zgT rfl <| (zcN _ _ zaL zaL _).mono <| H.xe fun w22 H => zbW (l := [uz, uz, uz, uz]) H tz24 rfl fun w24 b23 H => zaO tg24 H rfl (k := 0) rfl rfl rfl rfl rfl fun w25 H => HP.name H (k := 0) rfl ?_; clear H; intro s1 hs1 H; have ls1 : s1 < zaE := by (rw [hs1]; first | exact zeT _ _ | exact zgK _ _ | exact zeR _ _ | exact zfV _)
 refine xk hK20 <| wp_seq_k fun K26 hK26 => ?_
 apply wrH H 8 [(2, .inl _), (5, .inl _), (6, .inl _), (7, .inr (NewAt _ [uz, uz, uz, uz] 24))]; intro vs28 H
 refine t_v (fun w hx => zaK tg24 (H.ext hx) eb17 (k := 1) rfl rfl) <| t_v (fun w hx => zaK tg24 (H.ext hx) eb17 (k := 1) rfl rfl) <| tcl zgT (zcN _ _ zaL zaL) <| t_v (fun w hx => zaK tg24 (H.ext hx) rfl (k := 0) rfl rfl) <| t_v (fun w hx => zaK tg24 (H.ext hx) rfl (k := 0) rfl rfl) <| tcl is107 (plus_c _ _ zaL zaL) <| tcl is109 (minus_c _ _ zaL zaL) ?_
 refine zeA rfl rfl tz24 rfl ?_
 refine zbP (fun w30 hx hF hA => ?_)
 obtain ⟨b29, eb29, hbb29, hhb29⟩ := zdV hF 7 rfl rfl; have hnb29 := HP.neL H hbb29; replace hbb29 := Nat.le_trans H.below.size hbb29
 replace H := H.ext hx
 replace H := HP.push1 H hbb29 hnb29 hhb29
 clear hbb29 hnb29 hhb29
 clear hx hF hA
 refine zaO tg24 H eb29 (k := 0) rfl rfl rfl rfl rfl fun w31 H => HP.name H (k := 0) rfl ?_; clear H; intro x3 hx3 H; have lx3 : x3 < zaE := by (rw [hx3]; first | exact zeT _ _ | exact zgK _ _ | exact zeR _ _ | exact zfV _)
 refine wpList_nil <| zaP <| xn hK26 <| wp_seq_k fun K32 hK32 => ?_
 apply wrH H 12 [(3, .inl _), (4, .inl _), (8, .inl _), (9, .inl _), (10, .inl _), (11, .inr (NewAt _ [uz, uz, uz, uz] 24))]; intro vs34 H
 refine t_v (fun w hx => zaK tg24 (H.ext hx) eb17 (k := 2) rfl rfl) <| t_v (fun w hx => zaK tg24 (H.ext hx) rfl (k := 1) rfl rfl) <| t_v (fun w hx => zaK tg24 (H.ext hx) eb29 (k := 0) rfl rfl) <| tcl is109 (minus_c _ _ zaL zaL) <| tcl zgT (zcN _ _ zaL zaL) ?_
 refine tp (r_as (l' := numL 8) (zbC (vals := [(0, (.int _ _))]) (l := [_, _, _, _]) tb24 rfl rfl) (num_lit 8 (by decide))) <| t_v (fun w hx => zaK tg24 (H.ext hx) eb10 (k := 3) rfl rfl) <| t_v (fun w hx => zaK tg24 (H.ext hx) eb10 (k := 3) rfl rfl) <| tcl zgT (zcN _ _ zaL zaL) <| tcl zgT (zcN _ _ zaL zaL) <| tcl is109 (minus_c _ _ zaL zaL) ?_
 refine zeA rfl rfl tz24 rfl ?_
 refine zbP (fun w36 hx hF hA => ?_)
 obtain ⟨b35, eb35, hbb35, hhb35⟩ := zdV hF 11 rfl rfl; have hnb35 := HP.neL H hbb35; replace hbb35 := Nat.le_trans H.below.size hbb35
 replace H := H.ext hx
 replace H := HP.push1 H hbb35 hnb35 hhb35
 clear hbb35 hnb35 hhb35
 clear hx hF hA
 refine zaO tg24 H eb35 (k := 0) rfl rfl rfl rfl rfl fun w37 H => HP.name H (k := 0) rfl ?_; clear H; intro y3 hy3 H; have ly3 : y3 < zaE := by (rw [hy3]; first | exact zeT _ _ | exact zgK _ _ | exact zeR _ _ | exact zfV _)
 refine wpList_nil <| zaP <| xn hK32 <| wp_seq_k fun K38 hK38 => ?_
 apply wrH H 10 [(7, .inl _), (8, .inl _)]; intro vs40 H
 refine t_v (fun w hx => zaK tg24 (H.ext hx) eb29 (k := 1) rfl rfl) <| t_v (fun w hx => zaK tg24 (H.ext hx) eb35 (k := 0) rfl rfl) <| tp (r_as (l' := numL 2) (zbC (vals := [(0, (.int _ _))]) (l := [_, _, _, _]) tb24 rfl rfl) (num_lit 2 (by decide))) <| tp (zaJ fa152_1 rfl) <| t_v (fun w hx => zdG (l := numL Y) tg24 (H.ext hx) rfl (k := 7) rfl rfl rfl) <| tp (zaJ ziZ rfl) ?_
 refine t_v (fun w hx => zdG (l := numL Z) tg24 (H.ext hx) rfl (k := 7) rfl rfl rfl) <| tcl zgT (zcN _ _ zaL zaL) <| tcl zgT (zcN _ _ zaL zaL) <| tp (zbC (vals := [(0, .agg (numL x3).toArray), (1, .agg (numL y3).toArray), (2, .agg (numL (fm 2 (fm Y Z))).toArray)]) (l := (numL x3 ++ (numL y3 ++ numL (fm 2 (fm Y Z))))) tb152 rfl rfl) <| zbP <| H.tn fun w41 H => ?_
 refine zaO zkG H rfl (k := 6) rfl rfl rfl rfl rfl fun w42 H => wpList_nil <| zaP <| xn hK38 <| wp_ret <| e_1 rfl (zcA zkG H rfl (k := 6) rfl rfl) ?_
 exact ⟨by rw [jtw_of hzz hyy hm1 hs1 hx3 hy3], H.below⟩
theorem ctwice_c (t : Tr) (h : TL t) (w : World) : Calls Tryz.prog 111 #[.agg (jcT t).toArray] w fun e w' => e = .returned (.agg (jcT (jtw t)).toArray) ∧ Ext w w' := ctwice_v t.1 t.2.1 t.2.2 h.1 h.2.1 h.2.2 w
set_option maxRecDepth 8000 in
set_option maxHeartbeats 800000 in
theorem cadd_v (X Y Z : Nat) (hX : X < zaE) (hY : Y < zaE) (hZ : Z < zaE) (A B C : Nat) (hA : A < zaE) (hB : B < zaE) (hC : C < zaE) (w : World) :
    Calls Tryz.prog 112 #[jcV X Y Z, jcV A B C] w fun e w' => e = .returned (.agg (jcT (jad (X, Y, Z) (A, B, C))).toArray) ∧ Ext w w' := by
 refine enter (n := 112) Tryz.func112 rfl rfl rfl ?_
 have H := HP.start w
 refine sr fun K1 hK1 => zfM (l := (numL X ++ (numL Y ++ numL Z))) H rfl fun w2 b3 H => zfM (l := (numL A ++ (numL B ++ numL C))) H rfl fun w4 b5 H => zbW (l := [uz, uz, uz, uz, uz, uz, uz, uz, uz, uz, uz, uz]) H tz152 rfl fun w7 b6 H => xk hK1 <| wp_seq_k fun K8 hK8 => sr fun K9 hK9 => zaA (zaJ ziZ rfl) <| zaA (zdG (l := numL Z) tg24 H rfl (k := 2) rfl rfl rfl) ?_
 refine zaA (r_as (l' := numL 0) (zbC (vals := []) (l := [_, _, _, _]) tb24 rfl rfl) (num_0)) <| zaA (r_eqnum u24 u22 sz22 ag22 eg24 rfl rfl zaL zaL rfl) <| xk hK9 ?_
 refine zcG rfl (fun hc_1 => ?_) fun hc_1 => ?_
 ·refine sr fun K11 hK11 => ?_
  refine zaA (zaK zkG H rfl (k := 1) rfl rfl) <| zaO zkG H rfl (k := 0) rfl rfl rfl rfl rfl fun w12 H => xk hK11 <| wp_ret <| zdC <| e_1 rfl (zcA zkG H rfl (k := 0) rfl rfl) ?_
  exact ⟨by rw [jad_z1 (p := (X, Y, Z)) hc_1], H.below⟩
 ·refine wp_skip ?_
  refine xn hK8 <| wp_seq_k fun K13 hK13 => sr fun K14 hK14 => zaA (zaJ ziZ rfl) <| zaA (zdG (l := numL C) tg24 H rfl (k := 1) rfl rfl rfl) <| zaA (r_as (l' := numL 0) (zbC (vals := []) (l := [_, _, _, _]) tb24 rfl rfl) (num_0)) <| zaA (r_eqnum u24 u22 sz22 ag22 eg24 rfl rfl zaL zaL rfl) <| xk hK14 ?_
  refine zcG rfl (fun hc_3 => ?_) fun hc_3 => ?_
  ·refine sr fun K16 hK16 => ?_
   refine zaA (zaK zkG H rfl (k := 2) rfl rfl) <| zaO zkG H rfl (k := 0) rfl rfl rfl rfl rfl fun w17 H => xk hK16 <| wp_ret <| zdC <| e_1 rfl (zcA zkG H rfl (k := 0) rfl rfl) ?_
   exact ⟨by rw [jad_z2 (p := (X, Y, Z)) (q := (A, B, C)) hc_1 hc_3], H.below⟩
  ·refine wp_skip ?_
   refine xn hK13 <| wp_seq_k fun K18 hK18 => ?_
   apply wrH H 12 [(4, .inl _), (9, .inl _), (10, .inr (NewAt _ [uz, uz, uz, uz] 24)), (11, .inr (NewAt _ [uz, uz, uz, uz] 24))]; intro vs20 H
   refine tp (zaJ ziZ rfl) <| t_v (fun w hx => zdG (l := numL Z) tg24 (H.ext hx) rfl (k := 2) rfl rfl rfl) <| tp (zaJ ziZ rfl) <| t_v (fun w hx => zdG (l := numL Z) tg24 (H.ext hx) rfl (k := 2) rfl rfl rfl) <| tcl zgT (zcN _ _ zaL zaL) <| tp (zaJ ziZ rfl) <| t_v (fun w hx => zdG (l := numL C) tg24 (H.ext hx) rfl (k := 1) rfl rfl rfl) <| tp (zaJ ziZ rfl) ?_
   refine t_v (fun w hx => zdG (l := numL C) tg24 (H.ext hx) rfl (k := 1) rfl rfl rfl) <| tcl zgT (zcN _ _ zaL zaL) <| zeA rfl rfl tz24 rfl <| zeA rfl rfl tz24 rfl ?_
   refine zbP (fun w23 hx hF hA => ?_)
   obtain ⟨b21, eb21, hbb21, hhb21⟩ := zdV hF 10 rfl rfl; have hnb21 := HP.neL H hbb21; replace hbb21 := Nat.le_trans H.below.size hbb21
   obtain ⟨b22, eb22, hbb22, hhb22⟩ := zdV hF 11 rfl rfl; have hnb22 := HP.neL H hbb22; replace hbb22 := Nat.le_trans H.below.size hbb22
   replace H := H.ext hx
   replace H := HP.push1 H hbb21 hnb21 hhb21
   replace H := HP.push1 H hbb22 ⟨fun e => (hA 10 11 (by decide) (by decide) (by decide)).1 rfl rfl (by rw [eb21, eb22]; exact congrArg (fun z => Value.pointer (some ⟨z, 0, none⟩)) e), hnb22⟩ hhb22
   clear hbb21 hnb21 hhb21 hbb22 hnb22 hhb22
   clear hx hF hA
   refine zaO tg24 H eb21 (k := 1) rfl rfl rfl rfl rfl fun w24 H => HP.name H (k := 1) rfl ?_; clear H; intro pz hpz H; have lpz : pz < zaE := by (rw [hpz]; first | exact zeT _ _ | exact zgK _ _ | exact zeR _ _ | exact zfV _)
   refine zaO tg24 H eb22 (k := 0) rfl rfl rfl rfl rfl fun w25 H => HP.name H (k := 0) rfl ?_; clear H; intro qz hqz H; have lqz : qz < zaE := by (rw [hqz]; first | exact zeT _ _ | exact zgK _ _ | exact zeR _ _ | exact zfV _)
   refine wpList_nil <| zaP <| xn hK18 <| wp_seq_k fun K26 hK26 => ?_
   apply wrH H 10 [(3, .inl _), (7, .inl _), (8, .inr (NewAt _ [uz, uz, uz, uz] 24)), (9, .inr (NewAt _ [uz, uz, uz, uz] 24))]; intro vs28 H
   refine tp (zaJ fa152_0 rfl) <| t_v (fun w hx => zdG (l := numL X) tg24 (H.ext hx) rfl (k := 4) rfl rfl rfl) <| t_v (fun w hx => zaK tg24 (H.ext hx) eb22 (k := 0) rfl rfl) <| tcl zgT (zcN _ _ zaL zaL) <| tp (zaJ fa152_0 rfl) <| t_v (fun w hx => zdG (l := numL A) tg24 (H.ext hx) rfl (k := 3) rfl rfl rfl) <| t_v (fun w hx => zaK tg24 (H.ext hx) eb21 (k := 1) rfl rfl) ?_
   refine tcl zgT (zcN _ _ zaL zaL) <| zeA rfl rfl tz24 rfl <| zeA rfl rfl tz24 rfl ?_
   refine zbP (fun w31 hx hF hA => ?_)
   obtain ⟨b29, eb29, hbb29, hhb29⟩ := zdV hF 8 rfl rfl; have hnb29 := HP.neL H hbb29; replace hbb29 := Nat.le_trans H.below.size hbb29
   obtain ⟨b30, eb30, hbb30, hhb30⟩ := zdV hF 9 rfl rfl; have hnb30 := HP.neL H hbb30; replace hbb30 := Nat.le_trans H.below.size hbb30
   replace H := H.ext hx
   replace H := HP.push1 H hbb29 hnb29 hhb29
   replace H := HP.push1 H hbb30 ⟨fun e => (hA 8 9 (by decide) (by decide) (by decide)).1 rfl rfl (by rw [eb29, eb30]; exact congrArg (fun z => Value.pointer (some ⟨z, 0, none⟩)) e), hnb30⟩ hhb30
   clear hbb29 hnb29 hhb29 hbb30 hnb30 hhb30
   clear hx hF hA
   refine zaO tg24 H eb29 (k := 1) rfl rfl rfl rfl rfl fun w32 H => HP.name H (k := 1) rfl ?_; clear H; intro u hu H; have lu : u < zaE := by (rw [hu]; first | exact zeT _ _ | exact zgK _ _ | exact zeR _ _ | exact zfV _)
   refine zaO tg24 H eb30 (k := 0) rfl rfl rfl rfl rfl fun w33 H => HP.name H (k := 0) rfl ?_; clear H; intro v hv H; have lv : v < zaE := by (rw [hv]; first | exact zeT _ _ | exact zgK _ _ | exact zeR _ _ | exact zfV _)
   refine wpList_nil <| zaP <| xn hK26 <| wp_seq_k fun K34 hK34 => ?_
   apply wrH H 16 [(5, .inl _), (6, .inl _), (12, .inl _), (13, .inl _), (14, .inr (NewAt _ [uz, uz, uz, uz] 24)), (15, .inr (NewAt _ [uz, uz, uz, uz] 24))]; intro vs36 H
   refine tp (zaJ fa152_1 rfl) <| t_v (fun w hx => zdG (l := numL Y) tg24 (H.ext hx) rfl (k := 6) rfl rfl rfl) <| t_v (fun w hx => zaK tg24 (H.ext hx) eb22 (k := 2) rfl rfl) <| tp (zaJ ziZ rfl) <| t_v (fun w hx => zdG (l := numL C) tg24 (H.ext hx) rfl (k := 5) rfl rfl rfl) <| tcl zgT (zcN _ _ zaL zaL) <| tcl zgT (zcN _ _ zaL zaL) <| tp (zaJ fa152_1 rfl) ?_
   refine t_v (fun w hx => zdG (l := numL B) tg24 (H.ext hx) rfl (k := 5) rfl rfl rfl) <| t_v (fun w hx => zaK tg24 (H.ext hx) eb21 (k := 3) rfl rfl) <| tp (zaJ ziZ rfl) <| t_v (fun w hx => zdG (l := numL Z) tg24 (H.ext hx) rfl (k := 6) rfl rfl rfl) <| tcl zgT (zcN _ _ zaL zaL) <| tcl zgT (zcN _ _ zaL zaL) <| zeA rfl rfl tz24 rfl <| zeA rfl rfl tz24 rfl ?_
   refine zbP (fun w39 hx hF hA => ?_)
   obtain ⟨b37, eb37, hbb37, hhb37⟩ := zdV hF 14 rfl rfl; have hnb37 := HP.neL H hbb37; replace hbb37 := Nat.le_trans H.below.size hbb37
   obtain ⟨b38, eb38, hbb38, hhb38⟩ := zdV hF 15 rfl rfl; have hnb38 := HP.neL H hbb38; replace hbb38 := Nat.le_trans H.below.size hbb38
   replace H := H.ext hx
   replace H := HP.push1 H hbb37 hnb37 hhb37
   replace H := HP.push1 H hbb38 ⟨fun e => (hA 14 15 (by decide) (by decide) (by decide)).1 rfl rfl (by rw [eb37, eb38]; exact congrArg (fun z => Value.pointer (some ⟨z, 0, none⟩)) e), hnb38⟩ hhb38
   clear hbb37 hnb37 hhb37 hbb38 hnb38 hhb38
   clear hx hF hA
   refine zaO tg24 H eb37 (k := 1) rfl rfl rfl rfl rfl fun w40 H => HP.name H (k := 1) rfl ?_; clear H; intro s1 hs1 H; have ls1 : s1 < zaE := by (rw [hs1]; first | exact zeT _ _ | exact zgK _ _ | exact zeR _ _ | exact zfV _)
   refine zaO tg24 H eb38 (k := 0) rfl rfl rfl rfl rfl fun w41 H => HP.name H (k := 0) rfl ?_; clear H; intro t1 ht1 H; have lt1 : t1 < zaE := by (rw [ht1]; first | exact zeT _ _ | exact zgK _ _ | exact zeR _ _ | exact zfV _)
   refine wpList_nil <| zaP <| xn hK34 <| wp_seq_k fun K42 hK42 => ?_
   apply wrH H 8 [(2, .inl _), (5, .inl _), (6, .inr (NewAt _ [uz, uz, uz, uz] 24)), (7, .inr (NewAt _ [uz, uz, uz, uz] 24))]; intro vs44 H
   refine t_v (fun w hx => zaK tg24 (H.ext hx) eb30 (k := 2) rfl rfl) <| t_v (fun w hx => zaK tg24 (H.ext hx) eb29 (k := 3) rfl rfl) <| tcl is109 (minus_c _ _ zaL zaL) <| t_v (fun w hx => zaK tg24 (H.ext hx) eb38 (k := 0) rfl rfl) <| t_v (fun w hx => zaK tg24 (H.ext hx) eb37 (k := 1) rfl rfl) <| tcl is109 (minus_c _ _ zaL zaL) <| zeA rfl rfl tz24 rfl ?_
   refine zeA rfl rfl tz24 rfl ?_
   refine zbP (fun w47 hx hF hA => ?_)
   obtain ⟨b45, eb45, hbb45, hhb45⟩ := zdV hF 6 rfl rfl; have hnb45 := HP.neL H hbb45; replace hbb45 := Nat.le_trans H.below.size hbb45
   obtain ⟨b46, eb46, hbb46, hhb46⟩ := zdV hF 7 rfl rfl; have hnb46 := HP.neL H hbb46; replace hbb46 := Nat.le_trans H.below.size hbb46
   replace H := H.ext hx
   replace H := HP.push1 H hbb45 hnb45 hhb45
   replace H := HP.push1 H hbb46 ⟨fun e => (hA 6 7 (by decide) (by decide) (by decide)).1 rfl rfl (by rw [eb45, eb46]; exact congrArg (fun z => Value.pointer (some ⟨z, 0, none⟩)) e), hnb46⟩ hhb46
   clear hbb45 hnb45 hhb45 hbb46 hnb46 hhb46
   clear hx hF hA
   refine zaO tg24 H eb45 (k := 1) rfl rfl rfl rfl rfl fun w48 H => HP.name H (k := 1) rfl ?_; clear H; intro hd hhd H; have lhd : hd < zaE := by (rw [hhd]; first | exact zeT _ _ | exact zgK _ _ | exact zeR _ _ | exact zfV _)
   refine zaO tg24 H eb46 (k := 0) rfl rfl rfl rfl rfl fun w49 H => HP.name H (k := 0) rfl ?_; clear H; intro rd hrd H; have lrd : rd < zaE := by (rw [hrd]; first | exact zeT _ _ | exact zgK _ _ | exact zeR _ _ | exact zfV _)
   refine wpList_nil <| zaP <| xn hK42 <| wp_seq_k fun K50 hK50 => sr fun K51 hK51 => zaA (zaK tg24 H eb45 (k := 1) rfl rfl) <| zaA (r_as (l' := numL 0) (zbC (vals := []) (l := [_, _, _, _]) tb24 rfl rfl) (num_0)) <| zaA (r_eqnum u24 u22 sz22 ag22 eg24 rfl rfl zaL zaL rfl) <| xk hK51 ?_
   refine zcG rfl (fun hc_9 => ?_) fun hc_9 => ?_
   ·refine wp_seq_k fun K53 hK53 => ?_
    refine sr fun K54 hK54 => zaA (zaK tg24 H eb46 (k := 0) rfl rfl) <| zaA (r_as (l' := numL 0) (zbC (vals := []) (l := [_, _, _, _]) tb24 rfl rfl) (num_0)) <| zaA (r_eqnum u24 u22 sz22 ag22 eg24 rfl rfl zaL zaL rfl) <| xk hK54 ?_
    refine zcG rfl (fun hc_10 => ?_) fun hc_10 => ?_
    ·refine sr fun K56 hK56 => ?_
     refine zaA (zaK zkG H rfl (k := 10) rfl rfl) <| zaF is111 rfl ?_
     refine (ctwice_c (X, Y, Z) (by repeat (first | assumption | exact TL_0 | exact TL_jtw _ | exact TL_jof (by assumption) (by assumption) | exact ⟨by assumption, by assumption, by assumption⟩ | refine TL_jad ?_ ?_ | refine TL_jmul ?_ _)) _).mono <| H.xe fun w57 H => ?_
     refine zaO zkG H rfl (k := 8) rfl rfl rfl rfl rfl fun w58 H => xk hK56 <| wp_ret <| zdC <| zdC <| e_1 rfl (zcA zkG H rfl (k := 8) rfl rfl) ?_
     exact ⟨by rw [jad_of hc_1 hc_3 hpz hqz hu hv hs1 ht1 hhd hrd, jad2_t hc_9 hc_10], H.below⟩
    ·refine wp_skip ?_
     refine xn hK53 <| sr fun K59 hK59 => zaA (r_as (l' := (numL 0 ++ (numL 0 ++ numL 0))) (zbC (vals := []) (l := ([uz, uz, uz, uz] ++ ([uz, uz, uz, uz] ++ [uz, uz, uz, uz]))) tb152 rfl rfl) (by rw [num_0])) <| zaO zkG H rfl (k := 8) rfl rfl rfl rfl rfl fun w60 H => xk hK59 <| wp_ret <| zdC <| e_1 rfl (zcA zkG H rfl (k := 8) rfl rfl) ?_
     exact ⟨by rw [jad_of hc_1 hc_3 hpz hqz hu hv hs1 ht1 hhd hrd, jad2_0 hc_9 hc_10], H.below⟩
   ·refine wp_skip ?_
    refine xn hK50 <| sr fun K61 hK61 => zaA (zaK tg24 H eb45 (k := 1) rfl rfl) <| zaA (zaK tg24 H eb45 (k := 1) rfl rfl) <| zaF zgT rfl <| (zcN _ _ zaL zaL _).mono <| H.xe fun w62 H => zbW (l := [uz, uz, uz, uz]) H tz24 rfl fun w64 b63 H => zaO tg24 H rfl (k := 0) rfl rfl rfl rfl rfl fun w65 H => ?_
    refine HP.name H (k := 0) rfl ?_; clear H; intro h2 hh2 H; have lh2 : h2 < zaE := by (rw [hh2]; first | exact zeT _ _ | exact zgK _ _ | exact zeR _ _ | exact zfV _)
    refine xk hK61 <| wp_seq_k fun K66 hK66 => ?_
    apply wrH H 8 [(2, .inl _), (5, .inl _), (6, .inr (NewAt _ [uz, uz, uz, uz] 24)), (7, .inr (NewAt _ [uz, uz, uz, uz] 24))]; intro vs68 H
    refine t_v (fun w hx => zaK tg24 (H.ext hx) eb45 (k := 2) rfl rfl) <| t_v (fun w hx => zaK tg24 (H.ext hx) rfl (k := 0) rfl rfl) <| tcl zgT (zcN _ _ zaL zaL) <| t_v (fun w hx => zaK tg24 (H.ext hx) eb29 (k := 6) rfl rfl) <| t_v (fun w hx => zaK tg24 (H.ext hx) rfl (k := 0) rfl rfl) <| tcl zgT (zcN _ _ zaL zaL) <| zeA rfl rfl tz24 rfl ?_
    refine zeA rfl rfl tz24 rfl ?_
    refine zbP (fun w71 hx hF hA => ?_)
    obtain ⟨b69, eb69, hbb69, hhb69⟩ := zdV hF 6 rfl rfl; have hnb69 := HP.neL H hbb69; replace hbb69 := Nat.le_trans H.below.size hbb69
    obtain ⟨b70, eb70, hbb70, hhb70⟩ := zdV hF 7 rfl rfl; have hnb70 := HP.neL H hbb70; replace hbb70 := Nat.le_trans H.below.size hbb70
    replace H := H.ext hx
    replace H := HP.push1 H hbb69 hnb69 hhb69
    replace H := HP.push1 H hbb70 ⟨fun e => (hA 6 7 (by decide) (by decide) (by decide)).1 rfl rfl (by rw [eb69, eb70]; exact congrArg (fun z => Value.pointer (some ⟨z, 0, none⟩)) e), hnb70⟩ hhb70
    clear hbb69 hnb69 hhb69 hbb70 hnb70 hhb70
    clear hx hF hA
    refine zaO tg24 H eb69 (k := 1) rfl rfl rfl rfl rfl fun w72 H => HP.name H (k := 1) rfl ?_; clear H; intro h3 hh3 H; have lh3 : h3 < zaE := by (rw [hh3]; first | exact zeT _ _ | exact zgK _ _ | exact zeR _ _ | exact zfV _)
    refine zaO tg24 H eb70 (k := 0) rfl rfl rfl rfl rfl fun w73 H => HP.name H (k := 0) rfl ?_; clear H; intro uh huh H; have luh : uh < zaE := by (rw [huh]; first | exact zeT _ _ | exact zgK _ _ | exact zeR _ _ | exact zfV _)
    refine wpList_nil <| zaP <| xn hK66 <| wp_seq_k fun K74 hK74 => ?_
    apply wrH H 10 [(2, .inl _), (4, .inl _), (7, .inl _), (8, .inl _), (9, .inr (NewAt _ [uz, uz, uz, uz] 24))]; intro vs76 H
    refine t_v (fun w hx => zaK tg24 (H.ext hx) eb46 (k := 3) rfl rfl) <| t_v (fun w hx => zaK tg24 (H.ext hx) eb46 (k := 3) rfl rfl) <| tcl zgT (zcN _ _ zaL zaL) <| t_v (fun w hx => zaK tg24 (H.ext hx) eb69 (k := 1) rfl rfl) <| tcl is109 (minus_c _ _ zaL zaL) <| t_v (fun w hx => zaK tg24 (H.ext hx) eb70 (k := 0) rfl rfl) ?_
    refine t_v (fun w hx => zaK tg24 (H.ext hx) eb70 (k := 0) rfl rfl) <| tcl is107 (plus_c _ _ zaL zaL) <| tcl is109 (minus_c _ _ zaL zaL) <| zeA rfl rfl tz24 rfl ?_
    refine zbP (fun w78 hx hF hA => ?_)
    obtain ⟨b77, eb77, hbb77, hhb77⟩ := zdV hF 9 rfl rfl; have hnb77 := HP.neL H hbb77; replace hbb77 := Nat.le_trans H.below.size hbb77
    replace H := H.ext hx
    replace H := HP.push1 H hbb77 hnb77 hhb77
    clear hbb77 hnb77 hhb77
    clear hx hF hA
    refine zaO tg24 H eb77 (k := 0) rfl rfl rfl rfl rfl fun w79 H => HP.name H (k := 0) rfl ?_; clear H; intro x3 hx3 H; have lx3 : x3 < zaE := by (rw [hx3]; first | exact zeT _ _ | exact zgK _ _ | exact zeR _ _ | exact zfV _)
    refine wpList_nil <| zaP <| xn hK74 <| wp_seq_k fun K80 hK80 => ?_
    apply wrH H 10 [(3, .inl _), (4, .inl _), (7, .inl _), (8, .inl _), (9, .inr (NewAt _ [uz, uz, uz, uz] 24))]; intro vs82 H
    refine t_v (fun w hx => zaK tg24 (H.ext hx) eb46 (k := 4) rfl rfl) <| t_v (fun w hx => zaK tg24 (H.ext hx) eb70 (k := 1) rfl rfl) <| t_v (fun w hx => zaK tg24 (H.ext hx) eb77 (k := 0) rfl rfl) <| tcl is109 (minus_c _ _ zaL zaL) <| tcl zgT (zcN _ _ zaL zaL) <| t_v (fun w hx => zaK tg24 (H.ext hx) eb37 (k := 7) rfl rfl) ?_
    refine t_v (fun w hx => zaK tg24 (H.ext hx) eb69 (k := 2) rfl rfl) <| tcl zgT (zcN _ _ zaL zaL) <| tcl is109 (minus_c _ _ zaL zaL) <| zeA rfl rfl tz24 rfl ?_
    refine zbP (fun w84 hx hF hA => ?_)
    obtain ⟨b83, eb83, hbb83, hhb83⟩ := zdV hF 9 rfl rfl; have hnb83 := HP.neL H hbb83; replace hbb83 := Nat.le_trans H.below.size hbb83
    replace H := H.ext hx
    replace H := HP.push1 H hbb83 hnb83 hhb83
    clear hbb83 hnb83 hhb83
    clear hx hF hA
    refine zaO tg24 H eb83 (k := 0) rfl rfl rfl rfl rfl fun w85 H => HP.name H (k := 0) rfl ?_; clear H; intro y3 hy3 H; have ly3 : y3 < zaE := by (rw [hy3]; first | exact zeT _ _ | exact zgK _ _ | exact zeR _ _ | exact zfV _)
    refine wpList_nil <| zaP <| xn hK80 <| wp_seq_k fun K86 hK86 => ?_
    apply wrH H 10 [(7, .inl _), (8, .inl _)]; intro vs88 H
    refine t_v (fun w hx => zaK tg24 (H.ext hx) eb77 (k := 1) rfl rfl) <| t_v (fun w hx => zaK tg24 (H.ext hx) eb83 (k := 0) rfl rfl) <| t_v (fun w hx => zaK tg24 (H.ext hx) eb45 (k := 6) rfl rfl) <| tp (zaJ ziZ rfl) <| t_v (fun w hx => zdG (l := numL Z) tg24 (H.ext hx) rfl (k := 15) rfl rfl rfl) <| tp (zaJ ziZ rfl) ?_
    refine t_v (fun w hx => zdG (l := numL C) tg24 (H.ext hx) rfl (k := 14) rfl rfl rfl) <| tcl zgT (zcN _ _ zaL zaL) <| tcl zgT (zcN _ _ zaL zaL) <| tp (zbC (vals := [(0, .agg (numL x3).toArray), (1, .agg (numL y3).toArray), (2, .agg (numL (fm hd (fm Z C))).toArray)]) (l := (numL x3 ++ (numL y3 ++ numL (fm hd (fm Z C))))) tb152 rfl rfl) <| zbP <| H.tn fun w89 H => ?_
    refine zaO zkG H rfl (k := 13) rfl rfl rfl rfl rfl fun w90 H => wpList_nil <| zaP <| xn hK86 <| wp_ret <| e_1 rfl (zcA zkG H rfl (k := 13) rfl rfl) ?_
    exact ⟨by rw [jad_of hc_1 hc_3 hpz hqz hu hv hs1 ht1 hhd hrd, jad2_of hc_9 hh2 hh3 huh hx3 hy3], H.below⟩
theorem cadd_j (t s : Tr) (h : TL t) (h' : TL s) (w : World) : Calls Tryz.prog 112 #[.agg (jcT t).toArray, .agg (jcT s).toArray] w fun e w' => e = .returned (.agg (jcT (jad t s)).toArray) ∧ Ext w w' := cadd_v t.1 t.2.1 t.2.2 h.1 h.2.1 h.2.2 s.1 s.2.1 s.2.2 h'.1 h'.2.1 h'.2.2 w
end
section
theorem zhX {x : Nat} (h : x < zaE := by first | exact Nat.mod_lt _ zcL | exact Mod.lt (zbF _) | assumption | exact onceN_lt (by assumption) | exact Nat.lt_trans (Nat.mod_lt _ (zbF _).pos) (zbF _).lt | exact ofV_lt2 _ _ | exact invV_lt2 _ _ | exact zeT _ _ | exact zgK _ _ | exact zeR _ _ | exact zfV _ | exact PP_lt | exact AL_GG.1 | exact AL_GG.2 | exact (zkM _ _).1 | exact (zkM _ _).2 | exact (ziP _ _).1 | exact (ziP _ _).2 | exact (zkP _).1 | exact (zkP _).2 | exact (zkL (by assumption)).1 | exact (zkL (by assumption)).2 | exact lt_lit (by decide)) : x < zaE := h
attribute [local irreducible] wpList wpT Code.wp Calls Code.rounds lm sd sb ad ac modN bval be fm fa fs fn jtwX jtwY jtwZ onB invV invE
theorem is60 : IsFn Tryz.prog 60 := isFn Tryz.func60
theorem is110 : IsFn Tryz.prog 110 := isFn Tryz.func110
theorem is112 : IsFn Tryz.prog 112 := isFn Tryz.func112
theorem is113 : IsFn Tryz.prog 113 := isFn Tryz.func113
set_option maxRecDepth 4000 in
theorem cadd_c (X Y : Nat) (I : Bool) (hX : X < zaE) (hY : Y < zaE) (A B : Nat) (J : Bool) (hA : A < zaE) (hB : B < zaE) (w : World) :
    Calls Tryz.prog 62 #[ptV X Y I, ptV A B J] w fun e w' => e = .returned (.tuple #[.agg (ptT (cadd (X, Y, I) (A, B, J))).toArray, .int .i64 (cadde (X, Y, I) (A, B, J))]) ∧ Ext w w' := by
 refine enter (n := 21) Tryz.func62 rfl rfl rfl ?_
 have H := HP.start w
 refine sr fun K1 hK1 => zfM (l := (numL X ++ (numL Y ++ [(.bool I : Value)]))) H rfl fun w2 b3 H => zfM (l := (numL A ++ (numL B ++ [(.bool J : Value)]))) H rfl fun w4 b5 H => zbW (l := [uz, uz, uz, uz, uz, uz, uz, uz, .bool false]) H tz26 rfl fun w7 b6 H => asI rfl <| xk hK1 <| wp_seq_k fun K8 hK8 => sr fun K9 hK9 => zaA (zaK tg26 H rfl (k := 2) rfl rfl) ?_
 refine zaF is60 rfl <| (on_c _ _ _ zhX zhX _).mono <| H.xe fun w10 H => zaA (zlK (t := _) rfl rfl) <| p_mv (v := (.bool _)) rfl ?_
 refine p_gs (j := 3) rfl (fun hb_1_3 => ?_) (fun hb_1_3 => ?_)
 ·refine zaW rfl hb_1_3 ?_
  rw [zaH]
  refine zaW rfl hb_1_3 ?_
  rw [zaH]
  refine zaW rfl hb_1_3 ?_
  rw [zaH]
  refine zaA (zbQ (v := (.bool _)) rfl hb_1_3 rfl) <| xk hK9 <| zcQ rfl rfl <| sr fun K12 hK12 => zaA (r_as (l' := (numL 0 ++ (numL 0 ++ [(.bool false : Value)]))) (zbC (vals := []) (l := ([uz, uz, uz, uz] ++ ([uz, uz, uz, uz] ++ [(.bool false : Value)]))) tb26 rfl rfl) (by rw [num_0])) <| zaO tg26 H rfl (k := 0) rfl rfl rfl rfl rfl fun w13 H => asI rfl <| xk hK12 <| wp_ret ?_
  refine zdC <| e_2 rfl (zcA tg26 H rfl (k := 0) rfl rfl) (zbD (v := (.int _ _)) rfl) ?_
  have h0 := cadd_f1 (p := (X, Y, I)) (q := (A, B, J)) (by simpa [onT] using hb_1_3)
  exact ⟨by rw [h0.1, h0.2], H.below⟩
 ·refine zaT rfl hb_1_3 ?_
  refine zaA (zaK tg26 H rfl (k := 1) rfl rfl) <| zaT rfl hb_1_3 <| zaF is60 rfl <| (on_c _ _ _ zhX zhX _).mono <| H.xe fun w14 H => zaT rfl hb_1_3 <| zaA (zlK (t := _) rfl rfl) <| zaA (zaX (v := (.bool _)) rfl hb_1_3 rfl) <| xk hK9 ?_
  refine zcG rfl (fun hc_1 => ?_) fun hc_1 => ?_
  ·refine sr fun K16 hK16 => ?_
   refine zaA (r_as (l' := (numL 0 ++ (numL 0 ++ [(.bool false : Value)]))) (zbC (vals := []) (l := ([uz, uz, uz, uz] ++ ([uz, uz, uz, uz] ++ [(.bool false : Value)]))) tb26 rfl rfl) (by rw [num_0])) <| zaO tg26 H rfl (k := 0) rfl rfl rfl rfl rfl fun w17 H => asI rfl <| xk hK16 <| wp_ret <| zdC <| e_2 rfl (zcA tg26 H rfl (k := 0) rfl rfl) (zbD (v := (.int _ _)) rfl) ?_
   have h0 := cadd_f2 (p := (X, Y, I)) (q := (A, B, J)) (by simpa [onT] using hc_1)
   exact ⟨by rw [h0.1, h0.2], H.below⟩
  ·refine wp_skip ?_
   refine xn hK8 <| wp_seq_k fun K18 hK18 => ?_
   apply wrH H 6 [(1, .inl _), (3, .inl _), (4, .inl _), (5, .inl _)]; intro vs20 H
   refine t_v (fun w hx => zaK tg26 (H.ext hx) rfl (k := 2) rfl rfl) <| tcl is110 (cof_c _ _ _ zhX zhX) <| t_v (fun w hx => zaK tg26 (H.ext hx) rfl (k := 1) rfl rfl) <| tcl is110 (cof_c _ _ _ zhX zhX) ?_
   refine tcl is112 (cadd_j (jof X Y I) (jof A B J) (by repeat (first | assumption | exact TL_0 | exact TL_jtw _ | exact TL_jof (by assumption) (by assumption) | exact ⟨by assumption, by assumption, by assumption⟩ | refine TL_jad ?_ ?_ | refine TL_jmul ?_ _)) (by repeat (first | assumption | exact TL_0 | exact TL_jtw _ | exact TL_jof (by assumption) (by assumption) | exact ⟨by assumption, by assumption, by assumption⟩ | refine TL_jad ?_ ?_ | refine TL_jmul ?_ _))) ?_
   refine tcl is113 (cend_c (jad (jof X Y I) (jof A B J)) (by repeat (first | assumption | exact TL_0 | exact TL_jtw _ | exact TL_jof (by assumption) (by assumption) | exact ⟨by assumption, by assumption, by assumption⟩ | refine TL_jad ?_ ?_ | refine TL_jmul ?_ _))) ?_
   refine zbP <| H.tn fun w21 H => zaO tg26 H rfl (k := 0) rfl rfl rfl rfl rfl fun w22 H => asI rfl <| wpList_nil <| zaP <| xn hK18 <| wp_ret <| e_2 rfl (zcA tg26 H rfl (k := 0) rfl rfl) (zbD (v := (.int _ _)) rfl) ?_
   have h0 := cadd_t (p := (X, Y, I)) (q := (A, B, J)) (by simpa [onT] using hb_1_3) (by simpa [onT] using hc_1)
   exact ⟨by rw [h0.1, h0.2], H.below⟩
set_option maxRecDepth 4000 in
theorem cmul_c (K : Nat) (hK : K < zaE) (X Y : Nat) (I : Bool) (hX : X < zaE) (hY : Y < zaE) (w : World) :
    Calls Tryz.prog 61 #[numV K, ptV X Y I] w fun e w' => e = .returned (.tuple #[.agg (ptT (cmul K (X, Y, I))).toArray, .int .i64 (cerr (X, Y, I))]) ∧ Ext w w' := by
 refine enter (n := 38) Tryz.func61 rfl rfl rfl ?_
 have H := HP.start w
 refine sr fun K1 hK1 => zfM (l := numL K) H rfl fun w2 b3 H => zfM (l := (numL X ++ (numL Y ++ [(.bool I : Value)]))) H rfl fun w4 b5 H => zbW (l := [uz, uz, uz, uz, uz, uz, uz, uz, .bool false]) H tz26 rfl fun w7 b6 H => asI rfl <| xk hK1 <| wp_seq_k fun K8 hK8 => sr fun K9 hK9 => zaA (zaK tg26 H rfl (k := 1) rfl rfl) ?_
 refine zaF is60 rfl <| (on_c _ _ _ zhX zhX _).mono <| H.xe fun w10 H => zaA (zlK (t := _) rfl rfl) <| xk hK9 ?_
 refine zcG rfl (fun hc_1 => ?_) fun hc_1 => ?_
 ·refine sr fun K12 hK12 => ?_
  refine zaA (r_as (l' := (numL 0 ++ (numL 0 ++ [(.bool false : Value)]))) (zbC (vals := []) (l := ([uz, uz, uz, uz] ++ ([uz, uz, uz, uz] ++ [(.bool false : Value)]))) tb26 rfl rfl) (by rw [num_0])) <| zaO tg26 H rfl (k := 0) rfl rfl rfl rfl rfl fun w13 H => asI rfl <| xk hK12 <| wp_ret <| zdC <| e_2 rfl (zcA tg26 H rfl (k := 0) rfl rfl) (zbD (v := (.int _ _)) rfl) ?_
  have h0 := cmul_f (k := K) (p := (X, Y, I)) (by simpa [onT] using hc_1)
  exact ⟨by rw [h0.1, h0.2], H.below⟩
 ·refine wp_skip ?_
  refine xn hK8 <| sr fun K14 hK14 => zbW (l := [uz, uz, uz, uz, uz, uz, uz, uz, uz, uz, uz, uz]) H tz152 rfl fun w16 b15 H => xk hK14 <| sr fun K17 hK17 => zaA (zaK tg26 H rfl (k := 2) rfl rfl) <| zaF is110 rfl <| (cof_c _ _ _ zhX zhX _).mono <| H.xe fun w18 H => zbW (l := [uz, uz, uz, uz, uz, uz, uz, uz, uz, uz, uz, uz]) H tz152 rfl fun w20 b19 H => ?_
  refine zaO zkG H rfl (k := 0) rfl rfl rfl rfl rfl fun w21 H => xk hK17 <| wp_seq_k fun K22 hK22 => sr fun K23 hK23 => ?_
  replace H := HP.recast H (k := 1) (cs' := jcT (jmul (jof X Y I) (K / 2 ^ 256))) rfl (zero_jc.trans (congrArg jcT (jmul_top hK).symm))
  refine asI rfl <| xk hK23 <| wp_block ?_
  refine loopF [8, 9, 16, 17, 18, 19, 20, 21, 22, 23, 24, 25, 26, 27, 28, 29, 30, 31, 32, 33, 34, 35] (fun γ μ w' => ∃ (k : Nat), k = γ ∧ look μ 8 = .int .i64 ((k : Int) - 1) ∧ HP w w' [(b19, jcT (jof X Y I), 152), (b15, jcT (jmul (jof X Y I) (K / 2 ^ k)), 152), (b6, [uz, uz, uz, uz, uz, uz, uz, uz, .bool false], 26), (b5, (numL X ++ (numL Y ++ [(.bool I : Value)])), 26), (b3, numL K, 24)] ∧ (k ≤ 256)) (256) ⟨256, rfl, rfl, H, Nat.le_refl _⟩ ?_
  clear H
  intro g27 m24 w25 hk26 hI; obtain ⟨k, rfl, hl28, H, hk⟩ := hI
  refine wp_seq_k fun K29 hK29 => sr fun K30 hK30 => mvI hl28 <| zaA (r_geq rfl rfl rfl) <| xk hK30 ?_
  refine zcG rfl (fun hc_6 => ?_) fun hc_6 => ?_
  ·have hk0 : 0 < k := by have := of_decide_eq_true hc_6; omega
   refine wp_skip <| xn hK29 <| wp_seq_k fun K32 hK32 => wp_block <| sr fun K33 hK33 => zaA (zaK zkG H (hk26 6 rfl) (k := 1) rfl rfl) <| zaF is111 rfl ?_
   refine (ctwice_c (jmul (jof X Y I) (K / 2 ^ k)) (by repeat (first | assumption | exact TL_0 | exact TL_jtw _ | exact TL_jof (by assumption) (by assumption) | exact ⟨by assumption, by assumption, by assumption⟩ | refine TL_jad ?_ ?_ | refine TL_jmul ?_ _)) _).mono <| H.xe fun w34 H => ?_
   refine zaO zkG H (hk26 6 rfl) (k := 1) rfl rfl rfl rfl rfl fun w35 H => xk hK33 <| sr fun K36 hK36 => mvI hl28 <| zaA (r_quo (r := (((k - 1) / 64 : Nat) : Int)) rfl rfl (by decide) (pow_quo hk0 hk)) <| zaA (zaQ (i := (k - 1) / 64) u24 sz22 (hk26 2 rfl) rfl (rfl) (by omega) (by omega)) ?_
   refine zaA (zbU (v := .int .u64 (lm K ((k - 1) / 64))) to22 H rfl (k := 4) rfl ((by rw [Nat.zero_add, Nat.mul_one]; exact numL_piece _ _ (by omega)))) ?_
   refine mvI hl28 <| zaA (r_rem (r := (((k - 1) % 64 : Nat) : Int)) rfl rfl (by decide) (pow_rem hk0)) <| zaA (zeM (r := ((K / 2 ^ (64 * ((k - 1) / 64)) % 2 ^ 64 / 2 ^ ((k - 1) % 64) : Nat) : Int)) rfl rfl (by omega) (pow_shr K _ _ (by omega))) <| zaA (zbJ (bo := .and) (by simp) (r := ((K / 2 ^ (k - 1) % 2 : Nat) : Int)) rfl rfl (pow_and K (k - 1))) <| zaA (r_eql rfl rfl rfl) <| xk hK36 ?_
   refine zcG rfl (fun hc_9 => ?_) fun hc_9 => ?_
   ·have hbit := bit_t hc_9
    refine sr fun K38 hK38 => zaA (zaK zkG H (hk26 6 rfl) (k := 1) rfl rfl) <| zaA (r_makeFunc (first := [(.agg (jcT (jtw (jmul (jof X Y I) (K / 2 ^ k)))).toArray)]) rfl) <| p_as (v := (.func (.func 112) #[.agg (jcT (jtw (jmul (jof X Y I) (K / 2 ^ k)))).toArray] #[])) rfl <| xk hK38 <| wp_region_lit <| p_mv (v := (.func (.func 112) #[.agg (jcT (jtw (jmul (jof X Y I) (K / 2 ^ k)))).toArray] #[])) rfl ?_
    refine zaA (zaK zkG H (hk26 7 rfl) (k := 0) rfl rfl) <| p_callf (first := #[.agg (jcT (jtw (jmul (jof X Y I) (K / 2 ^ k)))).toArray]) (cap := #[]) (l := [.agg (jcT (jtw (jmul (jof X Y I) (K / 2 ^ k)))).toArray, .agg (jcT (jof X Y I)).toArray]) is112 rfl (by first | rfl | simp [ev, look]) ?_
    refine (cadd_j (jtw (jmul (jof X Y I) (K / 2 ^ k))) (jof X Y I) (by repeat (first | assumption | exact TL_0 | exact TL_jtw _ | exact TL_jof (by assumption) (by assumption) | exact ⟨by assumption, by assumption, by assumption⟩ | refine TL_jad ?_ ?_ | refine TL_jmul ?_ _)) (by repeat (first | assumption | exact TL_0 | exact TL_jtw _ | exact TL_jof (by assumption) (by assumption) | exact ⟨by assumption, by assumption, by assumption⟩ | refine TL_jad ?_ ?_ | refine TL_jmul ?_ _)) _).mono <| H.xe fun w39 H => ?_
    refine zaO zkG H (hk26 6 rfl) (k := 1) rfl rfl rfl rfl rfl fun w40 H => wpList_nil <| zaS <| xn hK32 <| wp_region_lit <| mvI hl28 <| zaA (zgE rfl rfl (wr64 (by omega) (by omega))) <| asI rfl <| wpList_nil ?_
    refine zaG ?_
    exact ⟨_, _, (by omega), rfl, kas, k - 1, rfl, congrArg (Value.int .i64) (by omega), (HP.recast H (k := 1) rfl (congrArg jcT (jmul_b1 hk0 hbit))), (by omega)⟩
   ·have hbit := bit_f hc_9
    refine wp_skip <| zaS <| xn hK32 <| wp_region_lit <| mvI hl28 <| zaA (zgE rfl rfl (wr64 (by omega) (by omega))) <| asI rfl <| wpList_nil <| zaG ?_
    exact ⟨_, _, (by omega), rfl, kas, k - 1, rfl, congrArg (Value.int .i64) (by omega), (HP.recast H (k := 1) rfl (congrArg jcT (jmul_b0 hk0 (by omega)))), (by omega)⟩
  ·have hk0 : k = 0 := by have := of_decide_eq_false hc_6; omega
   refine wp_exit <| zaN <| zaN <| zcK <| xn hK22 <| sr fun K41 hK41 => zaA (zaK zkG H (hk26 6 rfl) (k := 1) rfl rfl) <| zaF is113 rfl ?_
   refine (cend_c (jmul (jof X Y I) (K / 2 ^ k)) (by repeat (first | assumption | exact TL_0 | exact TL_jtw _ | exact TL_jof (by assumption) (by assumption) | exact ⟨by assumption, by assumption, by assumption⟩ | refine TL_jad ?_ ?_ | refine TL_jmul ?_ _)) _).mono <| H.xe fun w42 H => ?_
   refine zaO tg26 H (hk26 4 rfl) (k := 2) rfl rfl rfl rfl rfl fun w43 H => asI rfl <| xk hK41 <| wp_ret <| e_2 rfl (zcA tg26 H (hk26 4 rfl) (k := 2) rfl rfl) (zbD (v := (.int _ _)) rfl) ?_
   subst hk0
   have h0 := cmul_t (k := K) (p := (X, Y, I)) (by simpa [onT] using hc_1)
   exact ⟨by rw [h0.1, h0.2]; rw [Nat.pow_zero, Nat.div_one], H.below⟩
end
section
variable {α : Type} [Rp α] {S T : Mem}
instance instRpOpt : Rp (Option α) where
 sz := 1
 rep S c x := match x with
  | none => c = [.pointer none]
  | some a => ∃ b cs, c = [.pointer (some ⟨b, 0, none⟩)] ∧ CellAt S b 0 cs ∧ Rp.rep S cs a
 len {_ _ x} h := by cases x with
  | none => rw [show _ = _ from h]; rfl
  | some a => obtain ⟨b, cs, e, _⟩ := h; rw [e]; rfl
 mono {_ _ _ x} h hl := by cases x with
  | none => exact h
  | some a => obtain ⟨b, cs, e, h1, h2⟩ := h; exact ⟨b, cs, e, h1.mono hl, Rp.mono h2 hl⟩
 one {_ _ x} h u hu := by cases x with
  | none => rw [show _ = _ from h, List.mem_singleton] at hu; rw [hu]; rfl
  | some a => obtain ⟨b, cs, e, _⟩ := h; rw [e, List.mem_singleton] at hu; rw [hu]; rfl
theorem Rp.rep.mono {β : Type} [Rp β] {c : List Value} {x : β} (h : Rp.rep S c x) (hl : Mem.le S T) : Rp.rep T c x := Rp.mono h hl
theorem rpK0 : Rp.rep S [.pointer none] (none : Option α) := rfl
theorem rpK {b : Nat} {cs : List Value} {a : α} (hc : CellAt S b 0 cs) (h : Rp.rep S cs a) : Rp.rep S [.pointer (some ⟨b, 0, none⟩)] (some a) := ⟨b, cs, rfl, hc, h⟩
theorem elK {c : List Value} {x : Option α} (h : Rp.rep S c x) : ∃ v, c = [v] ∧ Rp.rep S [v] x := by
 cases x with
 | none => exact ⟨_, h, rfl⟩
 | some a => obtain ⟨b, cs, e, h1, h2⟩ := h; exact ⟨_, e, b, cs, rfl, h1, h2⟩
theorem opK {v : Value} {x : Option α} {a : α} (h : Rp.rep S [v] x) (e : x = some a) : ∃ b cs, v = .pointer (some ⟨b, 0, none⟩) ∧ CellAt S b 0 cs ∧ Rp.rep S cs a := by
 subst e
 obtain ⟨b, cs, e, h1, h2⟩ := h
 exact ⟨b, cs, (List.cons.inj e).1, h1, h2⟩
theorem opK' {b : Nat} {x : Option α} {a : α} (h : Rp.rep S [.pointer (some ⟨b, 0, none⟩)] x) (e : x = some a) : ∃ cs, CellAt S b 0 cs ∧ Rp.rep S cs a := by
 obtain ⟨b', cs, e, h1, h2⟩ := opK h e
 cases e
 exact ⟨cs, h1, h2⟩
theorem cellsK {v : Value} {x : Option α} (h : Rp.rep S [v] x) : v.cells.toList = [v] := by
 cases x with
 | none => rw [(List.cons.inj (show [v] = [_] from h)).1]; rfl
 | some a => obtain ⟨b, cs, e, _⟩ := h; rw [(List.cons.inj e).1]; rfl
theorem CellAt.whole {b : Nat} {cs : List Value} {E : TypeId} {fz : Nat × Nat} (h : S b = some (.cells cs.toArray E fz)) : CellAt S b 0 cs := ⟨cs, E, fz, h, by omega, by rw [zbV]; simp⟩
end
section
variable {P : Program} {w : World} {e : Operand → Value} {dst : Option Nat} {ty : TypeId} {pos : String} {aft : Array Edge} {g : Option (Nat × Bool)} {T T' E : TypeId} {x y : Operand}
theorem run_eqK0 {a : Option Addr} (hu : P.underlying T = some (.pointer E)) : (Op.equal T (.pointer a) (.pointer none)).run P w = .ok a.isNone w := by
 have key : ∀ d, (Op.equalIn (d + 1) T (.pointer a) (.pointer none)).run P w = .ok a.isNone w := fun d => by
  cases a <;> simp [Op.equalIn, Go.underlying, hu]
 exact key 9999
theorem r_eqPn {a : Option Addr} (hu : P.underlying T = some (.pointer E)) (hg : P.eqGuardType P.depth T = false) (h1 : e x = .pointer a) (h2 : e y = .pointer none) : (execOp e ⟨dst, .binOp .eql T x y T', ty, pos, aft, g⟩).run P w = .ok (.value (.bool a.isNone)) w := by
 have key := run_eqK0 (w := w) (a := a) hu
 simp only [execOp, h1, h2, eqGuard, binOp, Sem.run_bind, run_program, Result.andThen_ok, hg]
 simp [hg, key]
theorem r_nePn {a : Option Addr} (hu : P.underlying T = some (.pointer E)) (hg : P.eqGuardType P.depth T = false) (h1 : e x = .pointer a) (h2 : e y = .pointer none) : (execOp e ⟨dst, .binOp .neq T x y T', ty, pos, aft, g⟩).run P w = .ok (.value (.bool (!a.isNone))) w := by
 have key := run_eqK0 (w := w) (a := a) hu
 simp only [execOp, h1, h2, eqGuard, binOp, Sem.run_bind, run_program, Result.andThen_ok, hg]
 simp [hg, key]
theorem r_fldA {fs : Array Field} {f : Field} {i o sz : Nat} {l l' : List Value} (hu : P.underlying T = some (.struct fs)) (hf : fs[i]? = some f) (ho : f.offset = o) (tg : TAgg P f.type sz) (hx : e x = .agg l.toArray) (h : piece l o sz = l') : (execOp e ⟨dst, .field T x i, ty, pos, aft, g⟩).run P w = .ok (.value (.agg l'.toArray)) w := by
 subst ho
 have key := partA (P := P) tg h w
 simp [execOp, Instr.field, Go.underlying, hu, hf, hx, asAgg, key]
variable {α : Type} [Rp α] {S : Mem} {v : Value} {X : Option α}
theorem ptrK (h : Rp.rep S [v] X) : ∃ a, v = .pointer a ∧ a.isNone = X.isNone := by
 cases X with
 | none => exact ⟨none, (List.cons.inj (show [v] = [_] from h)).1, rfl⟩
 | some a => obtain ⟨b, cs, e, _⟩ := h; exact ⟨_, (List.cons.inj e).1, rfl⟩
theorem r_neK (hu : P.underlying T = some (.pointer E)) (hg : P.eqGuardType P.depth T = false) (h1 : e x = v) (h : Rp.rep S [v] X) (h2 : e y = .pointer none) : (execOp e ⟨dst, .binOp .neq T x y T', ty, pos, aft, g⟩).run P w = .ok (.value (.bool (!X.isNone))) w := by
 obtain ⟨a, rfl, e⟩ := ptrK h
 rw [← e]; exact r_nePn hu hg h1 h2
end
section
variable {B : Bas} {S T : Mem} {w w' : World} {L N : List Res}
theorem HS.ownCells (H : HS B S w L) {k : Nat} {v : Value} {n sz : Nat} {cs rs : List Value} {E : TypeId} (hk : lkR L k = some (.osl v n sz cs rs E)) : v.cells.toList = [v] := by
 rcases H.own k _ hk with ⟨rfl, _⟩ | ⟨b, c, fz, rfl, _⟩ <;> rfl
theorem HS.blkAt (H : HS B S w L) {k b : Nat} {cs : List Value} {E : TypeId} (hk : lkR L k = some (.blk b cs E)) : CellAt (memOf w) b 0 cs := CellAt.whole (H.own k _ hk)
theorem HS.joinNew {S2 : Mem} (H : HS B S w L) (H2 : HS ⟨memOf w, [], w⟩ S2 w' N) : HS B S w' (N ++ L) := by
 have hx : Ext w w' := H2.fr.ext
 have H' := H.ext hx
 have hlk : ∀ k, lkR (N ++ L) k = if k < N.length then lkR N k else lkR L (k - N.length) := fun k => by
  rw [lkR_eq, lkR_eq, lkR_eq, List.getElem?_append]
 have hN : ∀ k r b, lkR N k = some r → r.key = some b → w.heap.size ≤ b := fun k r b hk hb => by
  rcases (H2.old k r b hk hb).1 with h | h
  ·exact h
  ·simp at h
 refine ⟨H'.fr, H'.sub, H'.keep, fun k r hk => ?_, fun k r b hk hb => ?_, fun i j r s b hi hj h1 h2 => ?_⟩
 ·rw [hlk] at hk; split at hk
  ·exact H2.own k r hk
  ·exact H'.own _ r hk
 ·rw [hlk] at hk; split at hk
  ·have := hN k r b hk hb; exact ⟨.inl (Nat.le_trans H.fr.size this), H.sub.none this⟩
  ·exact H'.old _ r b hk hb
 ·rw [hlk] at hi hj
  split at hi <;> split at hj
  ·exact H2.inj i j r s b hi hj h1 h2
  ·have := hN _ r b hi h1; have := H.res_lt hj h2; omega
  ·have := hN _ s b hj h2; have := H.res_lt hi h1; omega
  ·have := H'.inj _ _ r s b hi hj h1 h2; omega
theorem RL.strs : ∀ {xs : List (List UInt8)} {cs : List Value}, RL S cs xs → RL T cs xs
 | [], _, h => h
 | _ :: _, _, ⟨c, d, e, h1, h2⟩ => ⟨c, d, e, h1, RL.strs h2⟩
end
structure Onc where
 l : List Value
 h : l.length = 3
 one : l.all (·.oneCell') = true
instance instRpOnc : Rp Onc where
 sz := 3
 rep _ c x := c = x.l
 len {_ _ x} e := by rw [e]; exact x.h
 mono e _ := e
 one {_ _ x} e u hu := by rw [e] at hu; exact List.all_eq_true.1 x.one u hu
theorem rpOnc {S : Mem} (x : Onc) : Rp.rep S x.l x := rfl
theorem elOnc {S : Mem} {c : List Value} {x : Onc} (h : Rp.rep S c x) : c = x.l := h
def onc0 : Onc := ⟨[.int .u32 0, .int .i32 0, .int .u32 0], rfl, rfl⟩
section
attribute [local irreducible] wpList wpT Code.wp Calls Code.rounds
def cl24 (x : Qw) : List Value := [Value.int .u64 ((x.1.toNat : Int))] ++ ([Value.int .u64 ((x.2.1.toNat : Int))] ++ ([Value.int .u64 ((x.2.2.1.toNat : Int))] ++ ([Value.int .u64 ((x.2.2.2.toNat : Int))])))
theorem rp24c {S : Mem} (x : Qw) : Rp.rep S (cl24 x) x := rpP (rpU64) (rpP (rpU64) (rpP (rpU64) (rpU64)))
theorem el24c {S : Mem} {c : List Value} {x : Qw} (h : Rp.rep S c x) : c = cl24 x := by
 obtain ⟨c0, d0, rfl, h0, k1⟩ := elP h; obtain rfl := elU64 h0
 obtain ⟨c1, d1, rfl, h1, k2⟩ := elP k1; obtain rfl := elU64 h1
 obtain ⟨c2, d2, rfl, h2, k3⟩ := elP k2; obtain rfl := elU64 h2
 obtain rfl := elU64 k3; rfl
def cl26 (x : Qp) : List Value := cl24 x.1 ++ (cl24 x.2.1 ++ ([Value.bool (x.2.2)]))
theorem rp26c {S : Mem} (x : Qp) : Rp.rep S (cl26 x) x := rpP (rp24c _) (rpP (rp24c _) (rpB))
theorem el26c {S : Mem} {c : List Value} {x : Qp} (h : Rp.rep S c x) : c = cl26 x := by
 obtain ⟨c0, d0, rfl, h0, k1⟩ := elP h; obtain rfl := el24c h0
 obtain ⟨c1, d1, rfl, h1, k2⟩ := elP k1; obtain rfl := el24c h1
 obtain rfl := elB k2; rfl
end
theorem clN_nv (x : W4) : cl24 x = numL (nv x) := by
 unfold numL lm
 rw [nv_wd x (by decide), nv_wd x (by decide), nv_wd x (by decide), nv_wd x (by decide)]
 rfl
theorem clN_tv (A : Nat) : cl24 (tv A) = numL A := by
 have e : ∀ i : Nat, ((UInt64.ofNat (A / 2 ^ (64 * i))).toNat : Int) = lm A i := fun i => by
  rw [lm, UInt64.toNat_ofNat']
 unfold numL
 rw [← e 0, ← e 1, ← e 2, ← e 3]; rfl
theorem clP_ap (x : Pw) : cl26 x = ptT (apT x) := by
 show cl24 x.1 ++ (cl24 x.2.1 ++ [Value.bool x.2.2]) = _
 rw [clN_nv, clN_nv]; rfl
theorem clP_W (t : Ap) : cl26 (ptW t) = ptT t := by
 show cl24 (tv t.1) ++ (cl24 (tv t.2.1) ++ [Value.bool t.2.2]) = _
 rw [clN_tv, clN_tv]
theorem clN_v (A : Nat) : Value.agg (cl24 (tv A)).toArray = numV A := by rw [clN_tv]
theorem clN_w (x : W4) : Value.agg (cl24 x).toArray = numV (nv x) := by rw [clN_nv]
section
variable {S : Mem} {w : World}
def zlL (m : Int) : Option W4 := some (tv (modN m))
theorem field_Modulus_c (_ : Sub S w) {x0 : Int} {r : W4} (hF : zlL x0 = some r) : Calls Tryz.prog 40 #[.int .i64 x0] w fun e w' => e = .returned (.agg (cl24 r).toArray) ∧ Ext w w' := by
 obtain rfl := osi hF; rw [clN_v]; exact modulus_c x0 w
def zgA (m : Int) (a b : W4) : Option W4 := some (tv ((nv a + nv b) % modN m))
theorem field_Add_c (_ : Sub S w) {x0 : Int} {x1 x2 r : W4} (hF : zgA x0 x1 x2 = some r) : Calls Tryz.prog 49 #[.int .i64 x0, .agg (cl24 x1).toArray, .agg (cl24 x2).toArray] w fun e w' => e = .returned (.agg (cl24 r).toArray) ∧ Ext w w' := by
 obtain rfl := osi hF; rw [clN_v, clN_w, clN_w]; exact add_c x0 _ _ (nv_lt _) (nv_lt _) w
def zeZ (m : Int) (l : List UInt8) : Option W4 := Option.bind (chk (decide (l.length ≤ LIM))) fun _ => some (tv (bval l % modN m))
theorem field_Reduce_c (_ : Sub S w) {x0 : Int} {x1 : List UInt8} {r : W4} (hF : zeZ x0 x1 = some r) : Calls Tryz.prog 86 #[.int .i64 x0, str x1] w fun e w' => e = .returned (.agg (cl24 r).toArray) ∧ Ext w w' := by
 unfold zeZ at hF
 obtain ⟨y, e, hF⟩ := bnd hF
 have hl := of_decide_eq_true (zdT e)
 obtain rfl := osi hF; rw [clN_v]; exact reduce_c x0 x1 (by unfold LIM at hl; omega) w
def ziN : Option Pw := some (ptW (GX, GY, false))
theorem zfX (_ : Sub S w) {r : Pw} (hF : ziN = some r) : Calls Tryz.prog 41 #[] w fun e w' => e = .returned (.agg (cl26 r).toArray) ∧ Ext w w' := by
 obtain rfl := osi hF; rw [clP_W]; exact base_c w
def curve_Mul_p (x0 : W4) (x1 : Pw) : Option (Pw × Int) := some (ptW (cmul (nv x0) (apT x1)), cerr (apT x1))
theorem curve_Mul_c (_ : Sub S w) {x0 : W4} {x1 : Pw} {r : Pw × Int} (hF : curve_Mul_p x0 x1 = some r) : Calls Tryz.prog 61 #[.agg (cl24 x0).toArray, .agg (cl26 x1).toArray] w fun e w' => e = .returned (.tuple #[.agg (cl26 r.1).toArray, .int .i64 r.2]) ∧ Ext w w' := by
 obtain rfl := osi hF; rw [clP_ap, clP_W, clN_w]
 exact cmul_c (nv x0) (nv_lt x0) (nv x1.1) (nv x1.2.1) x1.2.2 (nv_lt _) (nv_lt _) w
def curve_On_p (x0 : Pw) : Option Bool := some (onT (apT x0))
theorem curve_On_c (_ : Sub S w) {x0 : Pw} {r : Bool} (hF : curve_On_p x0 = some r) : Calls Tryz.prog 60 #[.agg (cl26 x0).toArray] w fun e w' => e = .returned (.bool r) ∧ Ext w w' := by
 obtain rfl := osi hF; rw [clP_ap]; exact on_c (nv x0.1) (nv x0.2.1) x0.2.2 (nv_lt _) (nv_lt _) w
end
end Go.Proofs.YtmbcolbbekbccaaGreat
