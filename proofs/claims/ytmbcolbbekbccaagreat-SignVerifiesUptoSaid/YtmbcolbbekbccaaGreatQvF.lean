/- The walks of some functions. Pointers into memory that is only read, and what stands for them; cells whose content does not matter. What some functions compute, and that they do. What the calls of packages field and curve compute, over numbers in words: from the walks of the first kind. Steps of a walk: great arrays in blocks of their own, and calls of functions that stand in a slot. Steps of a walk: bytes copied into an own slice, a new row of whatever bytes, a slice's capacity cut. Conditions: as each theorem says. -/
import Derived.Test.YtmbcolbbekbccaaGreatRows
import Derived.Lib.MakeNoZero
import Derived.Test.YtmbcolbbekbccaaGreatQvE
namespace Go.Proofs.YtmbcolbbekbccaaGreat
open Go Go.RowKit
theorem lt2_CrvC {x : Nat} (h : x < two256 := by first | exact Nat.mod_lt _ two256_pos | exact Mod.lt (mod_modN _) | assumption | exact onceN_lt (by assumption) | exact Nat.lt_trans (Nat.mod_lt _ (mod_modN _).pos) (mod_modN _).lt | exact ofV_lt2 _ _ | exact invV_lt2 _ _ | exact fm_lt2 _ _ | exact fa_lt2 _ _ | exact fs_lt2 _ _ | exact fn_lt2 _ | exact PP_lt | exact AL_GG.1 | exact AL_GG.2 | exact (AL_cadd _ _).1 | exact (AL_cadd _ _).2 | exact (AL_cmul _ _).1 | exact (AL_cmul _ _).2 | exact (AL_cofV _).1 | exact (AL_cofV _).2 | exact (AL_cneg (by assumption)).1 | exact (AL_cneg (by assumption)).2 | exact lt_lit (by decide)) : x < two256 := h
attribute [local irreducible] wpList wpT Code.wp Calls Code.rounds lm sd sb ad ac modN bval be fm fa fs fn jtwX jtwY jtwZ onB invV invE
theorem is60 : IsFn Tryz.prog 60 := isFn Tryz.func60
theorem is110 : IsFn Tryz.prog 110 := isFn Tryz.func110
theorem is112 : IsFn Tryz.prog 112 := isFn Tryz.func112
theorem is113 : IsFn Tryz.prog 113 := isFn Tryz.func113
set_option maxRecDepth 4000 in
theorem cadd_c (X Y : Nat) (I : Bool) (hX : X < two256) (hY : Y < two256) (A B : Nat) (J : Bool) (hA : A < two256) (hB : B < two256) (w : World) :
    Calls Tryz.prog 62 #[ptV X Y I, ptV A B J] w fun e w' => e = .returned (.tuple #[.agg (ptT (cadd (X, Y, I) (A, B, J))).toArray, .int .i64 (cadde (X, Y, I) (A, B, J))]) ∧ Ext w w' := by
 refine enter (n := 21) Tryz.func62 rfl rfl rfl ?_
 have H := HP.start w
 refine sr fun K1 hK1 => p_box (l := (numL X ++ (numL Y ++ [(.bool I : Value)]))) H rfl ?_; clear H; intro w2 b3 H
 refine p_box (l := (numL A ++ (numL B ++ [(.bool J : Value)]))) H rfl ?_; clear H; intro w4 b5 H
 refine p_alloc (l := [uz, uz, uz, uz, uz, uz, uz, uz, .bool false]) H tz26 rfl ?_; clear H; intro w7 b6 H
 refine p_as (v := (.int _ _)) rfl <| xk hK1 ?_; try clear hK1 K1
 refine wp_seq_k fun K8 hK8 => sr fun K9 hK9 => p_val (r_loadW tg26 H rfl (k := 2) rfl rfl) <| p_call (l := [(.agg (List.toArray _))]) is60 rfl <| (on_c _ _ _ lt2_CrvC lt2_CrvC _).mono ?_; rintro _ w10 ⟨rfl, hx⟩; replace H := H.ext hx; clear hx
 refine p_val (r_not (t := _) rfl rfl) <| p_mv (v := (.bool _)) rfl ?_
 refine p_gs (j := 3) rfl (fun hb_1_3 => ?_) (fun hb_1_3 => ?_)
 ·skip
  refine p_skip rfl hb_1_3 ?_
  rw [put_fr]
  refine p_skip rfl hb_1_3 ?_
  rw [put_fr]
  refine p_skip rfl hb_1_3 ?_
  rw [put_fr]
  refine p_val (r_pickt (v := (.bool _)) rfl hb_1_3 rfl) <| xk hK9 ?_; try clear hK9 K9
  refine c_true rfl rfl <| sr fun K12 hK12 => p_val (r_as (l' := (numL 0 ++ (numL 0 ++ [(.bool false : Value)]))) (r_build (vals := []) (l := ([uz, uz, uz, uz] ++ ([uz, uz, uz, uz] ++ [(.bool false : Value)]))) tb26 rfl rfl) (by rw [num_0])) <| p_storeW tg26 H rfl (k := 0) rfl rfl rfl rfl rfl ?_; clear H; intro w13 H
  refine p_as (v := (.int _ _)) rfl <| xk hK12 ?_; try clear hK12 K12
  refine wp_ret <| x_ret <| e_2 rfl (q_cellW tg26 H rfl (k := 0) rfl rfl) (q_tmp (v := (.int _ _)) rfl) ?_
  have h0 := cadd_f1 (p := (X, Y, I)) (q := (A, B, J)) (by simpa [onT] using hb_1_3)
  exact ⟨by rw [h0.1, h0.2], H.below⟩
 ·skip
  refine p_want rfl hb_1_3 <| p_val (r_loadW tg26 H rfl (k := 1) rfl rfl) <| p_want rfl hb_1_3 <| p_call (l := [(.agg (List.toArray _))]) is60 rfl <| (on_c _ _ _ lt2_CrvC lt2_CrvC _).mono ?_; rintro _ w14 ⟨rfl, hx⟩; replace H := H.ext hx; clear hx
  refine p_want rfl hb_1_3 <| p_val (r_not (t := _) rfl rfl) <| p_val (r_pickf (v := (.bool _)) rfl hb_1_3 rfl) <| xk hK9 ?_; try clear hK9 K9
  refine c_split (t := _) rfl (fun hc_1 => ?_) (fun hc_1 => ?_)
  ·skip
   refine sr fun K16 hK16 => p_val (r_as (l' := (numL 0 ++ (numL 0 ++ [(.bool false : Value)]))) (r_build (vals := []) (l := ([uz, uz, uz, uz] ++ ([uz, uz, uz, uz] ++ [(.bool false : Value)]))) tb26 rfl rfl) (by rw [num_0])) <| p_storeW tg26 H rfl (k := 0) rfl rfl rfl rfl rfl ?_; clear H; intro w17 H
   refine p_as (v := (.int _ _)) rfl <| xk hK16 ?_; try clear hK16 K16
   refine wp_ret <| x_ret <| e_2 rfl (q_cellW tg26 H rfl (k := 0) rfl rfl) (q_tmp (v := (.int _ _)) rfl) ?_
   have h0 := cadd_f2 (p := (X, Y, I)) (q := (A, B, J)) (by simpa [onT] using hc_1)
   exact ⟨by rw [h0.1, h0.2], H.below⟩
  ·skip
   refine wp_skip <| xn hK8 ?_; try clear hK8 K8
   refine wp_seq_k fun K18 hK18 => ?_
   apply wp_region_ext 6 (kinds [(1, .inl _), (3, .inl _), (4, .inl _), (5, .inl _)]) rfl rfl (by kernel_rfl); intro vs20
   simp only [tkS, tkZ, drS, drZ]
   replace H := H.drew
   refine t_v (fun w hx => r_loadW tg26 (H.ext hx) rfl (k := 2) rfl rfl) <| t_call (l := [(.agg (List.toArray _))]) rfl rfl is110 rfl (fun w hx hF => (cof_c _ _ _ lt2_CrvC lt2_CrvC _).mono (fun _ _ h => h)) <| t_v (fun w hx => r_loadW tg26 (H.ext hx) rfl (k := 1) rfl rfl) <| t_call (l := [(.agg (List.toArray _))]) rfl rfl is110 rfl (fun w hx hF => (cof_c _ _ _ lt2_CrvC lt2_CrvC _).mono (fun _ _ h => h)) ?_
   refine t_call (l := [(.agg (List.toArray _)), (.agg (List.toArray _))]) rfl rfl is112 rfl (fun w hx hF => (cadd_j (jof X Y I) (jof A B J) (by repeat (first | assumption | exact TL_0 | exact TL_jtw _ | exact TL_jof (by assumption) (by assumption) | exact ⟨by assumption, by assumption, by assumption⟩ | refine TL_jad ?_ ?_ | refine TL_jmul ?_ _)) (by repeat (first | assumption | exact TL_0 | exact TL_jtw _ | exact TL_jof (by assumption) (by assumption) | exact ⟨by assumption, by assumption, by assumption⟩ | refine TL_jad ?_ ?_ | refine TL_jmul ?_ _)) _).mono (fun _ _ h => h)) ?_
   refine t_call (l := [(.agg (List.toArray _))]) rfl rfl is113 rfl (fun w hx hF => (cend_c (jad (jof X Y I) (jof A B J)) (by repeat (first | assumption | exact TL_0 | exact TL_jtw _ | exact TL_jof (by assumption) (by assumption) | exact ⟨by assumption, by assumption, by assumption⟩ | refine TL_jad ?_ ?_ | refine TL_jmul ?_ _)) _).mono (fun _ _ h => h)) ?_
   refine t_nil (fun w21 hx hF hA => ?_)
   replace H := H.ext hx
   clear hx hF hA
   refine p_storeW tg26 H rfl (k := 0) rfl rfl rfl rfl rfl ?_; clear H; intro w22 H
   refine p_as (v := (.int _ _)) rfl ?_
   refine wpList_nil ?_; refine on_norm ?_
   refine xn hK18 ?_; try clear hK18 K18
   refine wp_ret <| e_2 rfl (q_cellW tg26 H rfl (k := 0) rfl rfl) (q_tmp (v := (.int _ _)) rfl) ?_
   have h0 := cadd_t (p := (X, Y, I)) (q := (A, B, J)) (by simpa [onT] using hb_1_3) (by simpa [onT] using hc_1)
   exact ⟨by rw [h0.1, h0.2], H.below⟩
set_option maxRecDepth 4000 in
theorem cmul_c (K : Nat) (hK : K < two256) (X Y : Nat) (I : Bool) (hX : X < two256) (hY : Y < two256) (w : World) :
    Calls Tryz.prog 61 #[numV K, ptV X Y I] w fun e w' => e = .returned (.tuple #[.agg (ptT (cmul K (X, Y, I))).toArray, .int .i64 (cerr (X, Y, I))]) ∧ Ext w w' := by
 refine enter (n := 38) Tryz.func61 rfl rfl rfl ?_
 have H := HP.start w
 refine sr fun K1 hK1 => p_box (l := numL K) H rfl ?_; clear H; intro w2 b3 H
 refine p_box (l := (numL X ++ (numL Y ++ [(.bool I : Value)]))) H rfl ?_; clear H; intro w4 b5 H
 refine p_alloc (l := [uz, uz, uz, uz, uz, uz, uz, uz, .bool false]) H tz26 rfl ?_; clear H; intro w7 b6 H
 refine p_as (v := (.int _ _)) rfl <| xk hK1 ?_; try clear hK1 K1
 refine wp_seq_k fun K8 hK8 => sr fun K9 hK9 => p_val (r_loadW tg26 H rfl (k := 1) rfl rfl) <| p_call (l := [(.agg (List.toArray _))]) is60 rfl <| (on_c _ _ _ lt2_CrvC lt2_CrvC _).mono ?_; rintro _ w10 ⟨rfl, hx⟩; replace H := H.ext hx; clear hx
 refine p_val (r_not (t := _) rfl rfl) <| xk hK9 ?_; try clear hK9 K9
 refine c_split (t := _) rfl (fun hc_1 => ?_) (fun hc_1 => ?_)
 ·skip
  refine sr fun K12 hK12 => p_val (r_as (l' := (numL 0 ++ (numL 0 ++ [(.bool false : Value)]))) (r_build (vals := []) (l := ([uz, uz, uz, uz] ++ ([uz, uz, uz, uz] ++ [(.bool false : Value)]))) tb26 rfl rfl) (by rw [num_0])) <| p_storeW tg26 H rfl (k := 0) rfl rfl rfl rfl rfl ?_; clear H; intro w13 H
  refine p_as (v := (.int _ _)) rfl <| xk hK12 ?_; try clear hK12 K12
  refine wp_ret <| x_ret <| e_2 rfl (q_cellW tg26 H rfl (k := 0) rfl rfl) (q_tmp (v := (.int _ _)) rfl) ?_
  have h0 := cmul_f (k := K) (p := (X, Y, I)) (by simpa [onT] using hc_1)
  exact ⟨by rw [h0.1, h0.2], H.below⟩
 ·skip
  refine wp_skip <| xn hK8 ?_; try clear hK8 K8
  refine sr fun K14 hK14 => p_alloc (l := [uz, uz, uz, uz, uz, uz, uz, uz, uz, uz, uz, uz]) H tz152 rfl ?_; clear H; intro w16 b15 H
  refine xk hK14 ?_; try clear hK14 K14
  refine sr fun K17 hK17 => p_val (r_loadW tg26 H rfl (k := 2) rfl rfl) <| p_call (l := [(.agg (List.toArray _))]) is110 rfl <| (cof_c _ _ _ lt2_CrvC lt2_CrvC _).mono ?_; rintro _ w18 ⟨rfl, hx⟩; replace H := H.ext hx; clear hx
  refine p_alloc (l := [uz, uz, uz, uz, uz, uz, uz, uz, uz, uz, uz, uz]) H tz152 rfl ?_; clear H; intro w20 b19 H
  refine p_storeW tg152 H rfl (k := 0) rfl rfl rfl rfl rfl ?_; clear H; intro w21 H
  refine xk hK17 ?_; try clear hK17 K17
  refine wp_seq_k fun K22 hK22 => sr fun K23 hK23 => ?_
  replace H := HP.recast H (k := 1) (cs' := jcT (jmul (jof X Y I) (K / 2 ^ 256))) rfl (zero_jc.trans (congrArg jcT (jmul_top hK).symm))
  refine p_as (v := (.int _ _)) rfl <| xk hK23 ?_; try clear hK23 K23
  refine wp_block ?_
  refine loopF [8, 9, 16, 17, 18, 19, 20, 21, 22, 23, 24, 25, 26, 27, 28, 29, 30, 31, 32, 33, 34, 35] (fun γ μ w' => ∃ (k : Nat), k = γ ∧ look μ 8 = .int .i64 ((k : Int) - 1) ∧ HP w w' [(b19, jcT (jof X Y I), 152), (b15, jcT (jmul (jof X Y I) (K / 2 ^ k)), 152), (b6, [uz, uz, uz, uz, uz, uz, uz, uz, .bool false], 26), (b5, (numL X ++ (numL Y ++ [(.bool I : Value)])), 26), (b3, numL K, 24)] ∧ (k ≤ 256)) (256) ⟨256, rfl, rfl, H, Nat.le_refl _⟩ ?_
  clear H
  intro g27 m24 w25 hk26 hI; obtain ⟨k, rfl, hl28, H, hk⟩ := hI
  refine wp_seq_k fun K29 hK29 => sr fun K30 hK30 => p_mv (v := (.int _ _)) hl28 <| p_val (r_geq rfl rfl rfl) <| xk hK30 ?_; try clear hK30 K30
  refine c_split (t := _) rfl (fun hc_6 => ?_) (fun hc_6 => ?_)
  ·skip
   have hk0 : 0 < k := by have := of_decide_eq_true hc_6; omega
   refine wp_skip <| xn hK29 ?_; try clear hK29 K29
   refine wp_seq_k fun K32 hK32 => wp_block <| sr fun K33 hK33 => p_val (r_loadW tg152 H (hk26 6 rfl) (k := 1) rfl rfl) <| p_call (l := [(.agg (List.toArray _))]) is111 rfl ?_
   refine (ctwice_c (jmul (jof X Y I) (K / 2 ^ k)) (by repeat (first | assumption | exact TL_0 | exact TL_jtw _ | exact TL_jof (by assumption) (by assumption) | exact ⟨by assumption, by assumption, by assumption⟩ | refine TL_jad ?_ ?_ | refine TL_jmul ?_ _)) _).mono ?_; rintro _ w34 ⟨rfl, hx⟩; replace H := H.ext hx; clear hx
   refine p_storeW tg152 H (hk26 6 rfl) (k := 1) rfl rfl rfl rfl rfl ?_; clear H; intro w35 H
   refine xk hK33 ?_; try clear hK33 K33
   refine sr fun K36 hK36 => p_mv (v := (.int _ _)) hl28 <| p_val (r_quo (r := (((k - 1) / 64 : Nat) : Int)) rfl rfl (by decide) (pow_quo hk0 hk)) <| p_val (r_addrA (i := (k - 1) / 64) u24 sz22 (hk26 2 rfl) rfl (rfl) (by omega) (by omega)) <| p_val (r_load1 (v := .int .u64 (lm K ((k - 1) / 64))) to22 H rfl (k := 4) rfl ((by rw [Nat.zero_add, Nat.mul_one]; exact numL_piece _ _ (by omega)))) ?_
   refine p_mv (v := (.int _ _)) hl28 <| p_val (r_rem (r := (((k - 1) % 64 : Nat) : Int)) rfl rfl (by decide) (pow_rem hk0)) <| p_val (r_shr (r := ((K / 2 ^ (64 * ((k - 1) / 64)) % 2 ^ 64 / 2 ^ ((k - 1) % 64) : Nat) : Int)) rfl rfl (by omega) (pow_shr K _ _ (by omega))) <| p_val (r_bits (bo := .and) (by simp) (r := ((K / 2 ^ (k - 1) % 2 : Nat) : Int)) rfl rfl (pow_and K (k - 1))) <| p_val (r_eql rfl rfl rfl) ?_
   refine xk hK36 ?_; try clear hK36 K36
   refine c_split (t := _) rfl (fun hc_9 => ?_) (fun hc_9 => ?_)
   ·skip
    have hbit := bit_t hc_9
    refine sr fun K38 hK38 => p_val (r_loadW tg152 H (hk26 6 rfl) (k := 1) rfl rfl) <| p_val (r_makeFunc (first := [(.agg (jcT (jtw (jmul (jof X Y I) (K / 2 ^ k)))).toArray)]) rfl) <| p_as (v := (.func (.func 112) #[.agg (jcT (jtw (jmul (jof X Y I) (K / 2 ^ k)))).toArray] #[])) rfl <| xk hK38 ?_; try clear hK38 K38
    refine wp_region_lit <| p_mv (v := (.func (.func 112) #[.agg (jcT (jtw (jmul (jof X Y I) (K / 2 ^ k)))).toArray] #[])) rfl <| p_val (r_loadW tg152 H (hk26 7 rfl) (k := 0) rfl rfl) ?_
    refine p_callf (first := #[.agg (jcT (jtw (jmul (jof X Y I) (K / 2 ^ k)))).toArray]) (cap := #[]) (l := [.agg (jcT (jtw (jmul (jof X Y I) (K / 2 ^ k)))).toArray, .agg (jcT (jof X Y I)).toArray]) is112 rfl (by first | rfl | simp [ev, look]) ?_
    refine (cadd_j (jtw (jmul (jof X Y I) (K / 2 ^ k))) (jof X Y I) (by repeat (first | assumption | exact TL_0 | exact TL_jtw _ | exact TL_jof (by assumption) (by assumption) | exact ⟨by assumption, by assumption, by assumption⟩ | refine TL_jad ?_ ?_ | refine TL_jmul ?_ _)) (by repeat (first | assumption | exact TL_0 | exact TL_jtw _ | exact TL_jof (by assumption) (by assumption) | exact ⟨by assumption, by assumption, by assumption⟩ | refine TL_jad ?_ ?_ | refine TL_jmul ?_ _)) _).mono ?_; rintro _ w39 ⟨rfl, hx⟩; replace H := H.ext hx; clear hx
    refine p_storeW tg152 H (hk26 6 rfl) (k := 1) rfl rfl rfl rfl rfl ?_; clear H; intro w40 H
    refine wpList_nil <| b_norm <| xn hK32 ?_; try clear hK32 K32
    refine wp_region_lit <| p_mv (v := (.int _ _)) hl28 <| p_val (r_sub rfl rfl (wr64 (by omega) (by omega))) <| p_as (v := (.int _ _)) rfl <| wpList_nil <| x_norm ?_
    exact ⟨_, _, (by omega), rfl, (by repeat (first | exact hk26 | refine keep_cons rfl ?_)), k - 1, rfl, congrArg (Value.int .i64) (by omega), (HP.recast H (k := 1) rfl (congrArg jcT (jmul_b1 hk0 hbit))), (by omega)⟩
   ·skip
    have hbit := bit_f hc_9
    refine wp_skip <| b_norm <| xn hK32 ?_; try clear hK32 K32
    refine wp_region_lit <| p_mv (v := (.int _ _)) hl28 <| p_val (r_sub rfl rfl (wr64 (by omega) (by omega))) <| p_as (v := (.int _ _)) rfl <| wpList_nil <| x_norm ?_
    exact ⟨_, _, (by omega), rfl, (by repeat (first | exact hk26 | refine keep_cons rfl ?_)), k - 1, rfl, congrArg (Value.int .i64) (by omega), (HP.recast H (k := 1) rfl (congrArg jcT (jmul_b0 hk0 (by omega)))), (by omega)⟩
  ·skip
   have hk0 : k = 0 := by have := of_decide_eq_false hc_6; omega
   refine wp_exit <| x_exit <| x_exit <| b_hit <| xn hK22 ?_; try clear hK22 K22
   refine sr fun K41 hK41 => p_val (r_loadW tg152 H (hk26 6 rfl) (k := 1) rfl rfl) <| p_call (l := [(.agg (List.toArray _))]) is113 rfl ?_
   refine (cend_c (jmul (jof X Y I) (K / 2 ^ k)) (by repeat (first | assumption | exact TL_0 | exact TL_jtw _ | exact TL_jof (by assumption) (by assumption) | exact ⟨by assumption, by assumption, by assumption⟩ | refine TL_jad ?_ ?_ | refine TL_jmul ?_ _)) _).mono ?_; rintro _ w42 ⟨rfl, hx⟩; replace H := H.ext hx; clear hx
   refine p_storeW tg26 H (hk26 4 rfl) (k := 2) rfl rfl rfl rfl rfl ?_; clear H; intro w43 H
   refine p_as (v := (.int _ _)) rfl <| xk hK41 ?_; try clear hK41 K41
   refine wp_ret <| e_2 rfl (q_cellW tg26 H (hk26 4 rfl) (k := 2) rfl rfl) (q_tmp (v := (.int _ _)) rfl) ?_
   subst hk0
   have h0 := cmul_t (k := K) (p := (X, Y, I)) (by simpa [onT] using hc_1)
   exact ⟨by rw [h0.1, h0.2]; rw [Nat.pow_zero, Nat.div_one], H.below⟩
end Go.Proofs.YtmbcolbbekbccaaGreat
namespace Go.Proofs.YtmbcolbbekbccaaGreat
open Go Go.RowKit
section
variable {α : Type} [Rp α] {S T : Mem}
instance instRpOpt : Rp (Option α) where
 sz := 1
 rep S c x := match x with
  | none => c = [.pointer none]
  | some a => ∃ b cs, c = [.pointer (some ⟨b, 0, none⟩)] ∧ CellAt S b 0 cs ∧ Rp.rep S cs a
 len {_ _ x} h := by cases x with
  | none => rw [show _ = _ from h]; rfl
  | some a => obtain ⟨b, cs, e, _⟩ := h; rw [e]; rfl
 mono {_ _ _ x} h hl := by cases x with
  | none => exact h
  | some a => obtain ⟨b, cs, e, h1, h2⟩ := h; exact ⟨b, cs, e, h1.mono hl, Rp.mono h2 hl⟩
 one {_ _ x} h u hu := by cases x with
  | none => rw [show _ = _ from h, List.mem_singleton] at hu; rw [hu]; rfl
  | some a => obtain ⟨b, cs, e, _⟩ := h; rw [e, List.mem_singleton] at hu; rw [hu]; rfl
theorem Rp.rep.mono {β : Type} [Rp β] {c : List Value} {x : β} (h : Rp.rep S c x) (hl : Mem.le S T) : Rp.rep T c x := Rp.mono h hl
theorem rpK0 : Rp.rep S [.pointer none] (none : Option α) := rfl
theorem rpK {b : Nat} {cs : List Value} {a : α} (hc : CellAt S b 0 cs) (h : Rp.rep S cs a) : Rp.rep S [.pointer (some ⟨b, 0, none⟩)] (some a) := ⟨b, cs, rfl, hc, h⟩
theorem elK {c : List Value} {x : Option α} (h : Rp.rep S c x) : ∃ v, c = [v] ∧ Rp.rep S [v] x := by
 cases x with
 | none => exact ⟨_, h, rfl⟩
 | some a => obtain ⟨b, cs, e, h1, h2⟩ := h; exact ⟨_, e, b, cs, rfl, h1, h2⟩
theorem opK {v : Value} {x : Option α} {a : α} (h : Rp.rep S [v] x) (e : x = some a) : ∃ b cs, v = .pointer (some ⟨b, 0, none⟩) ∧ CellAt S b 0 cs ∧ Rp.rep S cs a := by
 subst e
 obtain ⟨b, cs, e, h1, h2⟩ := h
 exact ⟨b, cs, (List.cons.inj e).1, h1, h2⟩
theorem opK' {b : Nat} {x : Option α} {a : α} (h : Rp.rep S [.pointer (some ⟨b, 0, none⟩)] x) (e : x = some a) : ∃ cs, CellAt S b 0 cs ∧ Rp.rep S cs a := by
 obtain ⟨b', cs, e, h1, h2⟩ := opK h e
 cases e
 exact ⟨cs, h1, h2⟩
theorem cellsK {v : Value} {x : Option α} (h : Rp.rep S [v] x) : v.cells.toList = [v] := by
 cases x with
 | none => rw [(List.cons.inj (show [v] = [_] from h)).1]; rfl
 | some a => obtain ⟨b, cs, e, _⟩ := h; rw [(List.cons.inj e).1]; rfl
theorem CellAt.whole {b : Nat} {cs : List Value} {E : TypeId} {fz : Nat × Nat} (h : S b = some (.cells cs.toArray E fz)) : CellAt S b 0 cs := ⟨cs, E, fz, h, by omega, by rw [piece_eq]; simp⟩
end
section
variable {P : Program} {w : World} {e : Operand → Value} {dst : Option Nat} {ty : TypeId} {pos : String} {aft : Array Edge} {g : Option (Nat × Bool)} {T T' E : TypeId} {x y : Operand}
theorem run_eqK0 {a : Option Addr} (hu : P.underlying T = some (.pointer E)) : (Op.equal T (.pointer a) (.pointer none)).run P w = .ok a.isNone w := by
 have key : ∀ d, (Op.equalIn (d + 1) T (.pointer a) (.pointer none)).run P w = .ok a.isNone w := fun d => by
  cases a <;> simp [Op.equalIn, Go.underlying, hu]
 exact key 9999
theorem r_eqPn {a : Option Addr} (hu : P.underlying T = some (.pointer E)) (hg : P.eqGuardType P.depth T = false) (h1 : e x = .pointer a) (h2 : e y = .pointer none) : (execOp e ⟨dst, .binOp .eql T x y T', ty, pos, aft, g⟩).run P w = .ok (.value (.bool a.isNone)) w := by
 have key := run_eqK0 (w := w) (a := a) hu
 simp only [execOp, h1, h2, eqGuard, binOp, Sem.run_bind, run_program, Result.andThen_ok, hg]
 simp [hg, key]
theorem r_nePn {a : Option Addr} (hu : P.underlying T = some (.pointer E)) (hg : P.eqGuardType P.depth T = false) (h1 : e x = .pointer a) (h2 : e y = .pointer none) : (execOp e ⟨dst, .binOp .neq T x y T', ty, pos, aft, g⟩).run P w = .ok (.value (.bool (!a.isNone))) w := by
 have key := run_eqK0 (w := w) (a := a) hu
 simp only [execOp, h1, h2, eqGuard, binOp, Sem.run_bind, run_program, Result.andThen_ok, hg]
 simp [hg, key]
variable {α : Type} [Rp α] {S : Mem} {v : Value} {X : Option α}
theorem ptrK (h : Rp.rep S [v] X) : ∃ a, v = .pointer a ∧ a.isNone = X.isNone := by
 cases X with
 | none => exact ⟨none, (List.cons.inj (show [v] = [_] from h)).1, rfl⟩
 | some a => obtain ⟨b, cs, e, _⟩ := h; exact ⟨_, (List.cons.inj e).1, rfl⟩
theorem r_neK (hu : P.underlying T = some (.pointer E)) (hg : P.eqGuardType P.depth T = false) (h1 : e x = v) (h : Rp.rep S [v] X) (h2 : e y = .pointer none) : (execOp e ⟨dst, .binOp .neq T x y T', ty, pos, aft, g⟩).run P w = .ok (.value (.bool (!X.isNone))) w := by
 obtain ⟨a, rfl, e⟩ := ptrK h
 rw [← e]; exact r_nePn hu hg h1 h2
end
section
variable {B : Bas} {S T : Mem} {w w' : World} {L N : List Res}
theorem HS.ownCells (H : HS B S w L) {k : Nat} {v : Value} {n sz : Nat} {cs rs : List Value} {E : TypeId} (hk : lkR L k = some (.osl v n sz cs rs E)) : v.cells.toList = [v] := by
 rcases H.own k _ hk with ⟨rfl, _⟩ | ⟨b, c, fz, rfl, _⟩ <;> rfl
theorem HS.blkAt (H : HS B S w L) {k b : Nat} {cs : List Value} {E : TypeId} (hk : lkR L k = some (.blk b cs E)) : CellAt (memOf w) b 0 cs := CellAt.whole (H.own k _ hk)
theorem HS.joinNew {S2 : Mem} (H : HS B S w L) (H2 : HS ⟨memOf w, [], w⟩ S2 w' N) : HS B S w' (N ++ L) := by
 have hx : Ext w w' := H2.fr.ext
 have H' := H.ext hx
 have hlk : ∀ k, lkR (N ++ L) k = if k < N.length then lkR N k else lkR L (k - N.length) := fun k => by
  rw [lkR_eq, lkR_eq, lkR_eq, List.getElem?_append]
 have hN : ∀ k r b, lkR N k = some r → r.key = some b → w.heap.size ≤ b := fun k r b hk hb => by
  rcases (H2.old k r b hk hb).1 with h | h
  ·exact h
  ·simp at h
 refine ⟨H'.fr, H'.sub, H'.keep, fun k r hk => ?_, fun k r b hk hb => ?_, fun i j r s b hi hj h1 h2 => ?_⟩
 ·rw [hlk] at hk; split at hk
  ·exact H2.own k r hk
  ·exact H'.own _ r hk
 ·rw [hlk] at hk; split at hk
  ·have := hN k r b hk hb; exact ⟨.inl (Nat.le_trans H.fr.size this), H.sub.none this⟩
  ·exact H'.old _ r b hk hb
 ·rw [hlk] at hi hj
  split at hi <;> split at hj
  ·exact H2.inj i j r s b hi hj h1 h2
  ·have := hN _ r b hi h1; have := H.res_lt hj h2; omega
  ·have := hN _ s b hj h2; have := H.res_lt hi h1; omega
  ·have := H'.inj _ _ r s b hi hj h1 h2; omega
theorem RL.strs : ∀ {xs : List (List UInt8)} {cs : List Value}, RL S cs xs → RL T cs xs
 | [], _, h => h
 | _ :: _, _, ⟨c, d, e, h1, h2⟩ => ⟨c, d, e, h1, RL.strs h2⟩
end
structure Onc where
 l : List Value
 h : l.length = 3
 one : l.all (·.oneCell') = true
instance instRpOnc : Rp Onc where
 sz := 3
 rep _ c x := c = x.l
 len {_ _ x} e := by rw [e]; exact x.h
 mono e _ := e
 one {_ _ x} e u hu := by rw [e] at hu; exact List.all_eq_true.1 x.one u hu
theorem rpOnc {S : Mem} (x : Onc) : Rp.rep S x.l x := rfl
theorem elOnc {S : Mem} {c : List Value} {x : Onc} (h : Rp.rep S c x) : c = x.l := h
def onc0 : Onc := ⟨[.int .u32 0, .int .i32 0, .int .u32 0], rfl, rfl⟩
end Go.Proofs.YtmbcolbbekbccaaGreat
namespace Go.Proofs.YtmbcolbbekbccaaGreat
open Go Go.RowKit
attribute [local irreducible] wpList wpT Code.wp Calls Code.rounds
def cl24 (x : Qw) : List Value := [Value.int .u64 ((x.1.toNat : Int))] ++ ([Value.int .u64 ((x.2.1.toNat : Int))] ++ ([Value.int .u64 ((x.2.2.1.toNat : Int))] ++ ([Value.int .u64 ((x.2.2.2.toNat : Int))])))
theorem rp24c {S : Mem} (x : Qw) : Rp.rep S (cl24 x) x := rpP (rpU64) (rpP (rpU64) (rpP (rpU64) (rpU64)))
theorem el24c {S : Mem} {c : List Value} {x : Qw} (h : Rp.rep S c x) : c = cl24 x := by
 obtain ⟨c0, d0, rfl, h0, k1⟩ := elP h; obtain rfl := elU64 h0
 obtain ⟨c1, d1, rfl, h1, k2⟩ := elP k1; obtain rfl := elU64 h1
 obtain ⟨c2, d2, rfl, h2, k3⟩ := elP k2; obtain rfl := elU64 h2
 obtain rfl := elU64 k3; rfl
def cl26 (x : Qp) : List Value := cl24 x.1 ++ (cl24 x.2.1 ++ ([Value.bool (x.2.2)]))
theorem rp26c {S : Mem} (x : Qp) : Rp.rep S (cl26 x) x := rpP (rp24c _) (rpP (rp24c _) (rpB))
theorem el26c {S : Mem} {c : List Value} {x : Qp} (h : Rp.rep S c x) : c = cl26 x := by
 obtain ⟨c0, d0, rfl, h0, k1⟩ := elP h; obtain rfl := el24c h0
 obtain ⟨c1, d1, rfl, h1, k2⟩ := elP k1; obtain rfl := el24c h1
 obtain rfl := elB k2; rfl
end Go.Proofs.YtmbcolbbekbccaaGreat
namespace Go.Proofs.YtmbcolbbekbccaaGreat
open Go Go.RowKit
theorem clN_nv (x : W4) : cl24 x = numL (nv x) := by
 unfold numL lm
 rw [nv_wd x (by decide), nv_wd x (by decide), nv_wd x (by decide), nv_wd x (by decide)]
 rfl
theorem clN_tv (A : Nat) : cl24 (tv A) = numL A := by
 have e : ∀ i : Nat, ((UInt64.ofNat (A / 2 ^ (64 * i))).toNat : Int) = lm A i := fun i => by
  rw [lm, UInt64.toNat_ofNat']
 unfold numL
 rw [← e 0, ← e 1, ← e 2, ← e 3]; rfl
theorem clP_ap (x : Pw) : cl26 x = ptT (apT x) := by
 show cl24 x.1 ++ (cl24 x.2.1 ++ [Value.bool x.2.2]) = _
 rw [clN_nv, clN_nv]; rfl
theorem clP_W (t : Ap) : cl26 (ptW t) = ptT t := by
 show cl24 (tv t.1) ++ (cl24 (tv t.2.1) ++ [Value.bool t.2.2]) = _
 rw [clN_tv, clN_tv]
theorem clN_v (A : Nat) : Value.agg (cl24 (tv A)).toArray = numV A := by rw [clN_tv]
theorem clN_w (x : W4) : Value.agg (cl24 x).toArray = numV (nv x) := by rw [clN_nv]
section
variable {S : Mem} {w : World}
def field_Modulus_p (m : Int) : Option W4 := some (tv (modN m))
theorem field_Modulus_c (_ : Sub S w) {x0 : Int} {r : W4} (hF : field_Modulus_p x0 = some r) : Calls Tryz.prog 40 #[.int .i64 x0] w fun e w' => e = .returned (.agg (cl24 r).toArray) ∧ Ext w w' := by
 obtain rfl := osi hF; rw [clN_v]; exact modulus_c x0 w
def field_Add_p (m : Int) (a b : W4) : Option W4 := some (tv ((nv a + nv b) % modN m))
theorem field_Add_c (_ : Sub S w) {x0 : Int} {x1 x2 r : W4} (hF : field_Add_p x0 x1 x2 = some r) : Calls Tryz.prog 49 #[.int .i64 x0, .agg (cl24 x1).toArray, .agg (cl24 x2).toArray] w fun e w' => e = .returned (.agg (cl24 r).toArray) ∧ Ext w w' := by
 obtain rfl := osi hF; rw [clN_v, clN_w, clN_w]; exact add_c x0 _ _ (nv_lt _) (nv_lt _) w
def field_Reduce_p (m : Int) (l : List UInt8) : Option W4 := Option.bind (chk (decide (l.length ≤ LIM))) fun _ => some (tv (bval l % modN m))
theorem field_Reduce_c (_ : Sub S w) {x0 : Int} {x1 : List UInt8} {r : W4} (hF : field_Reduce_p x0 x1 = some r) : Calls Tryz.prog 86 #[.int .i64 x0, str x1] w fun e w' => e = .returned (.agg (cl24 r).toArray) ∧ Ext w w' := by
 unfold field_Reduce_p at hF
 obtain ⟨y, e, hF⟩ := bnd hF
 have hl := of_decide_eq_true (chk_some e)
 obtain rfl := osi hF; rw [clN_v]; exact reduce_c x0 x1 (by unfold LIM at hl; omega) w
def curve_Base_p : Option Pw := some (ptW (GX, GY, false))
theorem curve_Base_c (_ : Sub S w) {r : Pw} (hF : curve_Base_p = some r) : Calls Tryz.prog 41 #[] w fun e w' => e = .returned (.agg (cl26 r).toArray) ∧ Ext w w' := by
 obtain rfl := osi hF; rw [clP_W]; exact base_c w
def curve_Mul_p (x0 : W4) (x1 : Pw) : Option (Pw × Int) := some (ptW (cmul (nv x0) (apT x1)), cerr (apT x1))
theorem curve_Mul_c (_ : Sub S w) {x0 : W4} {x1 : Pw} {r : Pw × Int} (hF : curve_Mul_p x0 x1 = some r) : Calls Tryz.prog 61 #[.agg (cl24 x0).toArray, .agg (cl26 x1).toArray] w fun e w' => e = .returned (.tuple #[.agg (cl26 r.1).toArray, .int .i64 r.2]) ∧ Ext w w' := by
 obtain rfl := osi hF; rw [clP_ap, clP_W, clN_w]
 exact cmul_c (nv x0) (nv_lt x0) (nv x1.1) (nv x1.2.1) x1.2.2 (nv_lt _) (nv_lt _) w
def curve_On_p (x0 : Pw) : Option Bool := some (onT (apT x0))
theorem curve_On_c (_ : Sub S w) {x0 : Pw} {r : Bool} (hF : curve_On_p x0 = some r) : Calls Tryz.prog 60 #[.agg (cl26 x0).toArray] w fun e w' => e = .returned (.bool r) ∧ Ext w w' := by
 obtain rfl := osi hF; rw [clP_ap]; exact on_c (nv x0.1) (nv x0.2.1) x0.2.2 (nv_lt _) (nv_lt _) w
end
end Go.Proofs.YtmbcolbbekbccaaGreat
namespace Go.Proofs.YtmbcolbbekbccaaGreat
open Go Go.RowKit
structure Vec (α : Type) (n : Nat) where
 l : List α
 h : l.length = n
section
variable {α : Type} {n : Nat}
theorem Vec.eq {x y : Vec α n} (h : x.l = y.l) : x = y := by cases x; cases y; simp at h; subst h; rfl
def vcl (cf : α → Value) (x : Vec α n) : List Value := x.l.map cf
theorem vcl_len (cf : α → Value) (x : Vec α n) : (vcl cf x).length = n := by simp [vcl, x.h]
def vrep (n : Nat) (z : α) : Vec α n := ⟨List.replicate n z, by simp⟩
def setV (x : Vec α n) (i : Int) (u : α) : Option (Vec α n) := bif decide (0 ≤ i) && decide (i < (n : Int)) then some ⟨x.l.set i.toNat u, by simp [x.h]⟩ else none
theorem setV_some {x r : Vec α n} {i : Int} {u : α} (h : setV x i u = some r) : i = (i.toNat : Int) ∧ i.toNat < n ∧ r.l = x.l.set i.toNat u := by
 unfold setV at h
 cases hc : decide (0 ≤ i) && decide (i < (n : Int)) with
 | false => rw [hc] at h; cases h
 | true =>
  rw [hc] at h
  obtain rfl := osi h
  simp only [Bool.and_eq_true, decide_eq_true_eq] at hc
  exact ⟨by omega, by omega, rfl⟩
theorem idx_ltV {x : Vec α n} {i : Int} {u : α} (h : idx x.l i = some u) : i.toNat < n := by have := idx_lt h; rwa [x.h] at this
theorem vcl_piece (cf : α → Value) (x : Vec α n) : piece (vcl cf x) 0 x.l.length = x.l.map cf := by rw [piece_eq, vcl, List.drop_zero, List.take_of_length_le (by simp)]
theorem vcl_all (cf : α → Value) (x : Vec α n) : piece (vcl cf x) 0 n = vcl cf x := by
 have := vcl_piece cf x
 rw [x.h] at this; exact this
end
section
variable {P : Program} {w : World} {B : Bas} {S : Mem} {L : List Res} {T T' : TypeId} {e : Operand → Value} {x y : Operand} {v : Value} {dst : Option Tmp} {pos : String} {aft : Array Edge} {ty : TypeId} {g : Option (Nat × Bool)}
theorem h_loadV {α : Type} {n : Nat} {i : Int} {X : Vec α n} {u : α} {cf : α → Value} {b k : Nat} (tg : TOne P T) (H : HS B S w L) (hp : e x = .pointer (some ⟨b, 0 + i.toNat * 1, none⟩)) (hk : lkR L k = some (.blk b (vcl cf X) T')) (hi : idx X.l i = some u) :
  (execOp e ⟨dst, .load T x, ty, pos, aft, g⟩).run P w = .ok (.value (cf u)) w := h_loadA tg H hp hk hi (vcl_piece cf X)
theorem lay_set1 {α : Type} (cf : α → Value) (l : List α) (i : Nat) (u : α) (h : i < l.length) : lay (l.map cf) i [cf u] = (l.set i u).map cf := by
 apply List.ext_getElem?
 intro j
 rw [lay_get]
 by_cases hj : j = i
 ·subst hj
  rw [if_pos (by simp; omega)]
  simp [h]
 ·rw [if_neg (by simp; omega), List.getElem?_map, List.getElem?_map, List.getElem?_set_ne (by omega)]
theorem lay_all {l l' : List Value} (h : l.length = l'.length) : lay l 0 l' = l' := by
 apply List.ext_getElem?
 intro j
 rw [lay_get]
 by_cases hj : j < l'.length
 ·rw [if_pos (by omega)]; simp
 ·rw [if_neg (by omega), List.getElem?_eq_none (by omega), List.getElem?_eq_none (by omega)]
theorem a_storeV {α : Type} {n : Nat} {i : Int} {X R : Vec α n} {u : α} {cf : α → Value} {b k : Nat} (ts : TSz P T 1) (H : HS B S w L) (hp : e x = .pointer (some ⟨b, 0 + i.toNat * 1, none⟩)) (hk : lkR L k = some (.blk b (vcl cf X) T')) (hy : e y = cf u) (h1 : (cf u).oneCell' = true)
  (hs : setV X i u = some R) : ∃ w', (execOp e ⟨none, .store T x y, ty, pos, aft, g⟩).run P w = .ok .skip w' ∧ HS B S w' (stR L k (.blk b (vcl cf R) T')) := by
 obtain ⟨h2, h3, h4⟩ := setV_some hs
 have := a_store (k := k) (v := cf u) (l := [cf u]) (ty := ty) (pos := pos) (aft := aft) (g := g) ts H hp hk hy (cells_one h1) rfl (by simpa using h1) (by rw [vcl_len]; simp; omega)
 rw [Nat.mul_one, Nat.zero_add, vcl, lay_set1 cf X.l i.toNat u (by rw [X.h]; exact h3), ← h4] at this
 exact this
theorem a_storeVW {α : Type} {n : Nat} {X Y : Vec α n} {cf : α → Value} {b k : Nat} (ts : TSz P T n) (H : HS B S w L) (hp : e x = .pointer (some ⟨b, 0, none⟩)) (hk : lkR L k = some (.blk b (vcl cf X) T')) (hy : e y = .agg (vcl cf Y).toArray) (h1 : ∀ u, (cf u).oneCell' = true) :
  ∃ w', (execOp e ⟨none, .store T x y, ty, pos, aft, g⟩).run P w = .ok .skip w' ∧ HS B S w' (stR L k (.blk b (vcl cf Y) T')) := by
 have := a_store (k := k) (v := .agg (vcl cf Y).toArray) (l := vcl cf Y) (ty := ty) (pos := pos) (aft := aft) (g := g) ts H hp hk hy (cells_agg _) (vcl_len cf Y) (fun u hu => by
  simp only [vcl, List.mem_map] at hu
  obtain ⟨a, _, rfl⟩ := hu
  exact h1 a) (by rw [vcl_len]; simp)
 have e2 : lay (vcl cf X) 0 (vcl cf Y) = vcl cf Y := lay_all (by rw [vcl_len, vcl_len])
 rw [e2] at this
 exact this
end
theorem vcl_ble {α : Type} {n : Nat} (cf : α → Value) (x : Vec α n) : Nat.ble (0 + n) (vcl cf x).length = true := by rw [vcl_len]; simp
section
variable {P : Program} {e : Operand → Value} {dst : Option Tmp} {x : Operand} {ty : TypeId} {pos : String} {aft : Array Edge} {g : Option (Nat × Bool)} {w : World}
theorem r_com {T'} {k : IntKind} {a r : Int} (hk : k.signed = false) (hx : e x = .int k a) (h : bits .xor k k.max a = r) : (execOp e ⟨dst, .unOp .xor T' x, ty, pos, aft, g⟩).run P w = .ok (.value (.int k r)) w := by
 simp [execOp, hx, Op.unary, hk, Op.intBits, ← h, bits]
end
section
variable {P : Program} {w : World} {B : Bas} {S : Mem} {L : List Res} {T T' E dT sT : TypeId} {e : Operand → Value} {x y lo hi : Operand} {dst : Option Tmp} {pos : String} {aft : Array Edge} {ty : TypeId} {g : Option (Nat × Bool)} {k1 k2 : IntKind}
theorem r_sliceAL {n o b p : Nat} (hu : P.underlying T = some (.array n E)) (ts : TSz P E 1) (hx : e x = .pointer (some ⟨b, o, none⟩)) (hz : e lo = .int k1 (p : Int)) (hp : p < n) :
  (execOp e ⟨dst, .slice T x (some lo) none none, ty, pos, aft, g⟩).run P w = .ok (.value (.slice (some ⟨b, o + p, none⟩) (n - p) (n - p))) w := by
 have hne : ¬ n = p := by omega
 simp [execOp, Instr.sliceAt, Instr.sliceBounds, Instr.sureAddr, Go.underlying, hu, hx, hz, run_bound (P := P) (w := w) (rfl : (p : Int) = (p : Int)) (Nat.le_of_lt hp), ts w, hne, Addr.add]
theorem r_sliceAH {n o b h : Nat} (hu : P.underlying T = some (.array n E)) (ts : TSz P E 1) (hx : e x = .pointer (some ⟨b, o, none⟩)) (hy : e hi = .int k1 (h : Int)) (hh : h ≤ n) :
  (execOp e ⟨dst, .slice T x none (some hi) none, ty, pos, aft, g⟩).run P w = .ok (.value (.slice (some ⟨b, o, none⟩) h n)) w := by
 simp [execOp, Instr.sliceAt, Instr.sliceBounds, Instr.sureAddr, Go.underlying, hu, hx, hy, run_bound (P := P) (w := w) (rfl : (h : Int) = (h : Int)) hh, ts w, Addr.add]
theorem r_idxAV {α : Type} {n : Nat} {l : List α} {cf : α → Value} {cs : List Value} {i : Int} {u : α} (hu : P.underlying T = some (.array n E)) (tg : TOne P E) (hx : e x = .agg cs.toArray) (hy : e y = .int k1 i) (hc : cs = l.map cf) (hl : l.length = n) (h : idx l i = some u) :
  (execOp e ⟨dst, .index T x y, ty, pos, aft, g⟩).run P w = .ok (.value (cf u)) w := by
 obtain ⟨h1, h2⟩ := idx_some h
 have h3 := idx_lt h
 have hp := part1 (l := cs) (v := cf u) (o := i.toNat) tg (by rw [hc, List.getElem?_map, h2]; rfl) w
 have ha : 0 ≤ i := by omega
 have hb : i < (n : Int) := by omega
 simp [execOp, Instr.index, asIntOf, Go.underlying, hu, hx, hy, ha, hb, tg.2 w, hp]
theorem a_copyA {k b o1 o2 n1 c1 n2 c2 n : Nat} {cs l : List Value} (hu : P.underlying dT = some (.slice E)) (ts : TSz P E 1) (H : HS B S w L) (hx : e x = .slice (some ⟨b, o1, none⟩) n1 c1) (hy : e y = .slice (some ⟨b, o2, none⟩) n2 c2)
  (hk : lkR L k = some (.blk b cs T')) (hn : Nat.min n2 n1 = n) (hl : piece cs o2 n = l) (h1 : Nat.ble (o1 + n) cs.length = true) (h2 : Nat.ble (o2 + n) cs.length = true) (hone : ∀ u ∈ l, u.oneCell' = true) :
  ∃ w', (execOp e ⟨dst, .call ⟨.builtin .copy, #[x, y], #[dT, sT]⟩, ty, pos, aft, g⟩).run P w = .ok (.value (.int .i64 (n : Int))) w' ∧ HS B S w' (stR L k (.blk b (lay cs o1 l) T')) := by
 have hb := H.own k _ hk
 have hlen : l.length = n := by rw [← hl]; exact piece_len (Nat.le_of_ble_eq_true h2)
 obtain ⟨w', he, hb', hs, h4, h5, h6, h7⟩ := run_storeCellsF (P := P) (o := o1) l 0 w cs hone hb (.inl rfl) (by rw [hlen]; have := Nat.le_of_ble_eq_true h1; omega)
 have hld := run_loadCells_list (P := P) w ⟨b, o2, none⟩ l (fun j v hj => by
  rw [add_addr, cell_of_F hb, ← hj, ← hl, piece_eq]
  have : j < n := by rw [← hlen]; exact (List.getElem?_eq_some_iff.1 hj).1
  simp [List.getElem?_take, this])
 rw [hlen] at hld
 refine ⟨w', ?_, H.upd hk (by omega) h4 h5 h6 (fun i _ hne => h7 i fun e => hne (by rw [e]; rfl)) hb' fun b' hb' => .inl hb'⟩
 simp [execOp, resolve, invoke, builtin, hx, hy, Builtin.copy_, Go.underlying, hu, Builtin.lenOf, Builtin.firstCells, ts w, hn, hld, he, goInt]
end
section
variable {P : Program} {ops : Array Oper} {Q : Exit → Act → World → Prop} {rest : List Oper} {n : Nat} {m : FM} {w : World} {d : Nat} {ty : TypeId} {pos : String} {aft : Array Edge} {x : Operand}
variable {nh k : Nat} {Φ : Kinds} {W : World} {vs : Nat → Gv} {Fin : Act → Prop} {c : Value}
theorem t_callD {args : List Operand} {at_ : Array TypeId} {f : FuncId} {l : List Value} (hx : ev n m x = .func (.func f) #[] #[]) (hk : Φ k = some (.inl c)) (hf : floats ops nh k = false) (hfn : IsFn P f) (ha : args? n m args = l)
  (h : ∀ w, Ext W w → factsL Φ vs w (depsOf ⟨some d, .call ⟨.value x, args.toArray, at_⟩, ty, pos, aft, none⟩) → Calls P f l.toArray w fun e w' => e = .returned c ∧ Ext w w') (hr : wpT P ops nh Φ W vs Fin (k + 1) rest (fr n ((d, c) :: m))) :
  wpT P ops nh Φ W vs Fin k (⟨some d, .call ⟨.value x, args.toArray, at_⟩, ty, pos, aft, none⟩ :: rest) (fr n m) :=
 wpT_det rfl hk hf rfl (fun w hx' hF R hR => by
  rw [eval_fr]
  exact outcome_call (first := #[]) (cap := #[]) hfn hx (by simp [args_eq, ha]) ((h w hx' hF).mono fun e w' ⟨he, hx'⟩ => ⟨c, he, hR w' hx'⟩)) (by rw [put_fr]; exact hr)
end
end Go.Proofs.YtmbcolbbekbccaaGreat
namespace Go.Proofs.YtmbcolbbekbccaaGreat
open Go Go.RowKit
attribute [local irreducible] wpList wpT Code.wp Calls Code.rounds
abbrev kvec : Vec UInt32 64 := (⟨[(1116352408 : UInt32), (1899447441 : UInt32), (3049323471 : UInt32), (3921009573 : UInt32), (961987163 : UInt32), (1508970993 : UInt32), (2453635748 : UInt32), (2870763221 : UInt32), (3624381080 : UInt32), (310598401 : UInt32), (607225278 : UInt32), (1426881987 : UInt32), (1925078388 : UInt32), (2162078206 : UInt32), (2614888103 : UInt32), (3248222580 : UInt32), (3835390401 : UInt32), (4022224774 : UInt32), (264347078 : UInt32), (604807628 : UInt32), (770255983 : UInt32), (1249150122 : UInt32), (1555081692 : UInt32), (1996064986 : UInt32), (2554220882 : UInt32), (2821834349 : UInt32), (2952996808 : UInt32), (3210313671 : UInt32), (3336571891 : UInt32), (3584528711 : UInt32), (113926993 : UInt32), (338241895 : UInt32), (666307205 : UInt32), (773529912 : UInt32), (1294757372 : UInt32), (1396182291 : UInt32), (1695183700 : UInt32), (1986661051 : UInt32), (2177026350 : UInt32), (2456956037 : UInt32), (2730485921 : UInt32), (2820302411 : UInt32), (3259730800 : UInt32), (3345764771 : UInt32), (3516065817 : UInt32), (3600352804 : UInt32), (4094571909 : UInt32), (275423344 : UInt32), (430227734 : UInt32), (506948616 : UInt32), (659060556 : UInt32), (883997877 : UInt32), (958139571 : UInt32), (1322822218 : UInt32), (1537002063 : UInt32), (1747873779 : UInt32), (1955562222 : UInt32), (2024104815 : UInt32), (2227730452 : UInt32), (2361852424 : UInt32), (2428436474 : UInt32), (2756734187 : UInt32), (3204031479 : UInt32), (3329325298 : UInt32)], rfl⟩ : Vec UInt32 64)
theorem tg168 : TAgg Tryz.prog 168 64 := ⟨fun _ => by kernel_rfl, fun _ => by kernel_rfl⟩
theorem tg171 : TAgg Tryz.prog 171 8 := ⟨fun _ => by kernel_rfl, fun _ => by kernel_rfl⟩
theorem to107 : TOne Tryz.prog 107 := ⟨fun _ => by kernel_rfl, fun _ => by kernel_rfl⟩
theorem tz168 : TZero Tryz.prog 168 (.agg #[.int .u32 0, .int .u32 0, .int .u32 0, .int .u32 0, .int .u32 0, .int .u32 0, .int .u32 0, .int .u32 0, .int .u32 0, .int .u32 0, .int .u32 0, .int .u32 0, .int .u32 0, .int .u32 0, .int .u32 0, .int .u32 0, .int .u32 0, .int .u32 0, .int .u32 0, .int .u32 0, .int .u32 0, .int .u32 0, .int .u32 0, .int .u32 0, .int .u32 0, .int .u32 0, .int .u32 0, .int .u32 0, .int .u32 0, .int .u32 0, .int .u32 0, .int .u32 0, .int .u32 0, .int .u32 0, .int .u32 0, .int .u32 0, .int .u32 0, .int .u32 0, .int .u32 0, .int .u32 0, .int .u32 0, .int .u32 0, .int .u32 0, .int .u32 0, .int .u32 0, .int .u32 0, .int .u32 0, .int .u32 0, .int .u32 0, .int .u32 0, .int .u32 0, .int .u32 0, .int .u32 0, .int .u32 0, .int .u32 0, .int .u32 0, .int .u32 0, .int .u32 0, .int .u32 0, .int .u32 0, .int .u32 0, .int .u32 0, .int .u32 0, .int .u32 0]) := fun _ => by kernel_rfl
theorem tz171 : TZero Tryz.prog 171 (.agg #[.int .u32 0, .int .u32 0, .int .u32 0, .int .u32 0, .int .u32 0, .int .u32 0, .int .u32 0, .int .u32 0]) := fun _ => by kernel_rfl
theorem u3 : Tryz.prog.underlying 3 = some (.int .i64) := by kernel_rfl
theorem u62 : Tryz.prog.underlying 62 = some (.slice 107) := by kernel_rfl
theorem u107 : Tryz.prog.underlying 107 = some (.int .u32) := by kernel_rfl
theorem u129 : Tryz.prog.underlying 129 = some (.int .u64) := by kernel_rfl
theorem u168 : Tryz.prog.underlying 168 = some (.array 64 107) := by kernel_rfl
theorem u171 : Tryz.prog.underlying 171 = some (.array 8 107) := by kernel_rfl
theorem is135 : IsFn Tryz.prog 135 := isFn Tryz.func135
theorem is136 : IsFn Tryz.prog 136 := isFn Tryz.func136
theorem is137 : IsFn Tryz.prog 137 := isFn Tryz.func137
theorem is157 : IsFn Tryz.prog 157 := isFn Tryz.func157
theorem is158 : IsFn Tryz.prog 158 := isFn Tryz.func158
theorem is159 : IsFn Tryz.prog 159 := isFn Tryz.func159
theorem sz107 (w : World) : (sizeOf 107).run Tryz.prog w = .ok 1 w := by kernel_rfl
theorem tb168 : TBuild Tryz.prog 168 (.agg #[.int .u32 0, .int .u32 0, .int .u32 0, .int .u32 0, .int .u32 0, .int .u32 0, .int .u32 0, .int .u32 0, .int .u32 0, .int .u32 0, .int .u32 0, .int .u32 0, .int .u32 0, .int .u32 0, .int .u32 0, .int .u32 0, .int .u32 0, .int .u32 0, .int .u32 0, .int .u32 0, .int .u32 0, .int .u32 0, .int .u32 0, .int .u32 0, .int .u32 0, .int .u32 0, .int .u32 0, .int .u32 0, .int .u32 0, .int .u32 0, .int .u32 0, .int .u32 0, .int .u32 0, .int .u32 0, .int .u32 0, .int .u32 0, .int .u32 0, .int .u32 0, .int .u32 0, .int .u32 0, .int .u32 0, .int .u32 0, .int .u32 0, .int .u32 0, .int .u32 0, .int .u32 0, .int .u32 0, .int .u32 0, .int .u32 0, .int .u32 0, .int .u32 0, .int .u32 0, .int .u32 0, .int .u32 0, .int .u32 0, .int .u32 0, .int .u32 0, .int .u32 0, .int .u32 0, .int .u32 0, .int .u32 0, .int .u32 0, .int .u32 0, .int .u32 0]) [(0, 1), (1, 1), (2, 1), (3, 1), (4, 1), (5, 1), (6, 1), (7, 1), (8, 1), (9, 1), (10, 1), (11, 1), (12, 1), (13, 1), (14, 1), (15, 1), (16, 1), (17, 1), (18, 1), (19, 1), (20, 1), (21, 1), (22, 1), (23, 1), (24, 1), (25, 1), (26, 1), (27, 1), (28, 1), (29, 1), (30, 1), (31, 1), (32, 1), (33, 1), (34, 1), (35, 1), (36, 1), (37, 1), (38, 1), (39, 1), (40, 1), (41, 1), (42, 1), (43, 1), (44, 1), (45, 1), (46, 1), (47, 1), (48, 1), (49, 1), (50, 1), (51, 1), (52, 1), (53, 1), (54, 1), (55, 1), (56, 1), (57, 1), (58, 1), (59, 1), (60, 1), (61, 1), (62, 1), (63, 1)] := tbuildA u168 tz168 sz107 rfl
theorem tb171 : TBuild Tryz.prog 171 (.agg #[.int .u32 0, .int .u32 0, .int .u32 0, .int .u32 0, .int .u32 0, .int .u32 0, .int .u32 0, .int .u32 0]) [(0, 1), (1, 1), (2, 1), (3, 1), (4, 1), (5, 1), (6, 1), (7, 1)] := tbuildA u171 tz171 sz107 rfl
theorem tn127 : TSn Tryz.prog 127 5 (.int .u8 0) [.int .u8 0] 1 1 := TSn.mk' (by kernel_rfl) (by kernel_rfl) rfl rfl rfl rfl
def cl171 (x : Qs) : List Value := [Value.int .u32 ((x.1.toNat : Int))] ++ ([Value.int .u32 ((x.2.1.toNat : Int))] ++ ([Value.int .u32 ((x.2.2.1.toNat : Int))] ++ ([Value.int .u32 ((x.2.2.2.1.toNat : Int))] ++ ([Value.int .u32 ((x.2.2.2.2.1.toNat : Int))] ++ ([Value.int .u32 ((x.2.2.2.2.2.1.toNat : Int))] ++ ([Value.int .u32 ((x.2.2.2.2.2.2.1.toNat : Int))] ++ ([Value.int .u32 ((x.2.2.2.2.2.2.2.toNat : Int))])))))))
theorem tsz5 : TSz Tryz.prog 5 1 := fun _ => by kernel_rfl
theorem tsz107 : TSz Tryz.prog 107 1 := fun _ => by kernel_rfl
theorem tsz168 : TSz Tryz.prog 168 64 := fun _ => by kernel_rfl
theorem tsz171 : TSz Tryz.prog 171 8 := fun _ => by kernel_rfl
def math_bits_RotateLeft32_p (x0 : UInt32) (x1 : Int) : Option (UInt32) :=
  some (((i32 (shlI .u32 ((x0).toNat : Int) ((((i64 x1) &&& (31 : UInt64))).toNat : Int))) ||| (i32 (shrI .u32 ((x0).toNat : Int) (((i64 ((32 : Int) - ((((i64 x1) &&& (31 : UInt64))).toNat : Int)))).toNat : Int)))))
theorem math_bits_RotateLeft32_c {S : Mem} {w : World} (hS : Sub S w) {x0 : UInt32} {x1 : Int} {r : UInt32} (hF : math_bits_RotateLeft32_p x0 x1 = some r) :
    Calls Tryz.prog 159 #[.int .u32 (((x0).toNat : Int)), .int .i64 (x1)] w fun e w' => e = .returned (.int .u32 (((r).toNat : Int))) ∧ Ext w w' := by
 refine enter (n := 17) Tryz.func159 rfl rfl rfl ?_
 have H := HS.start hS
 unfold math_bits_RotateLeft32_p at hF
 refine sr fun K1 hK1 => asI rfl <| xk hK1 <| sr fun K2 hK2 => mvI rfl <| p_val (r_conv u3 u129 rfl (i64_wrap _)) <| p_val (r_bits (bo := .and) (by simp) rfl rfl (i64_and _ (31 : UInt64))) <| asI rfl <| xk hK2 ?_
 refine sr fun K3 hK3 => mvI rfl <| mvI rfl <| p_val (r_shl rfl rfl (by omega) (i32_shl _ _)) <| mvI rfl <| mvI rfl <| p_val (r_sub rfl rfl (i64_wrap _)) <| p_val (r_shr rfl rfl (by omega) (i32_shr _ _)) <| p_val (r_bits (bo := .or) (by simp) rfl rfl (i32_or _ _)) ?_
 refine asI rfl <| xk hK3 <| wp_ret ?_
 obtain rfl := osi hF
 refine e_1 rfl (q_tmp rfl) ?_
 exact ⟨rfl, H.toExt⟩
def hash_big_b0 (x1 : UInt64) (s1 : Int × (List UInt8)) : Option ((Int × (List UInt8)) ⊕ ((List UInt8))) :=
  bif decide ((0 : Int) ≤ s1.1) then (Option.bind (chk (decide (0 ≤ (w64 ((8 : Int) * s1.1))))) fun y1 => Option.bind (app s1.2 ([(i8 (((i64 (shrI .u64 ((x1).toNat : Int) (w64 ((8 : Int) * s1.1))))).toNat : Int))] : List UInt8)) fun y2 => some (.inl (((w64 (s1.1 - 1)), y2)))) else (some (.inr (s1.2)))
def hash_big_p (x0 : List UInt8) (x1 : UInt64) (x2 : Int) : Option ((List UInt8)) :=
  Option.bind (Option.bind (iter (hash_big_b0 x1) (((w64 (x2 - 1)), x0))) (fun e => some (e))) (fun t1 => some (t1))
theorem hash_big_c {S : Mem} {w : World} {x0 : List UInt8} {pv1 : Value} {pcs1 prs1 : List Value} (H : HS ⟨S, keysR [.osl (pv1) (x0).length 1 pcs1 prs1 5], w⟩ S w [.osl (pv1) (x0).length 1 pcs1 prs1 5]) (pg1 : RL S pcs1 x0) {x1 : UInt64} {x2 : Int} {r : (List UInt8)} (hF : hash_big_p x0 x1 x2 = some r) :
    Calls Tryz.prog 135 #[pv1, .int .u64 (((x1).toNat : Int)), .int .i64 (x2)] w fun e w' => ∃ (S2 : Mem) (pv3 : Value) (pcs3 prs3 : List Value), e = .returned (pv3) ∧ HS ⟨S, keysR [.osl (pv1) (x0).length 1 pcs1 prs1 5], w⟩ S2 w' [.osl (pv3) (r).length 1 pcs3 prs3 5] ∧ RL S2 pcs3 r := by
 refine enter (n := 23) Tryz.func135 rfl rfl rfl ?_
 unfold hash_big_p at hF
 refine sr fun K1 hK1 => asN rfl <| xk hK1 <| wp_seq_k fun K2 hK2 => nameF fun m1 k1 => bn hF fun t1 hE1 hF1 => ?_
 have J1 : ∀ (v4 : Value) (cs4 rs3 : List Value) (m4 : FM) (w4 : World), (∀ t, has (0 :: rg 7 15 []) t = false → look m4 t = look m1 t) → look m4 0 = v4 → HS ⟨S, keysR [.osl (pv1) (x0).length 1 pcs1 prs1 5], w⟩ S w4 [.osl (v4) (t1).length 1 cs4 rs3 5] → RL S cs4 t1 → K2 (fr 23 m4) w4 := by
  clear H; intro v4 cs4 rs3 m4 w4 k5 q4 H g4
  refine hK2 _ _ <| sr fun K7 hK7 => p_mv (v := v4) q4 <| p_as (v := v4) rfl <| xk hK7 <| wp_ret ?_
  obtain rfl := osi hF1
  refine e_1 rfl (q_tmp rfl) ?_
  replace H := hsn H
  exact ⟨_, _, _, _, rfl, H, g4⟩
 refine sr fun K3 hK3 => p_mv (k1 2) <| p_val (r_subI rfl rfl) <| asI rfl <| xk hK3 <| wp_block <| nameF fun m2 k2 => bn hE1 fun out1 hL1 hE2 => ?_
 replace H := hsn H
 refine loopI (0 :: 7 :: rg 10 12 []) (fun (s1 : Int × (List UInt8)) (m3 : FM) (w1 : World) => ∃ (v1 : Value) (cs1 rs1 : List Value), look m3 0 = v1 ∧ look m3 7 = .int .i64 (s1.1) ∧ HS ⟨S, keysR [.osl (pv1) (x0).length 1 pcs1 prs1 5], w⟩ S w1 [.osl (v1) (s1.2).length 1 cs1 rs1 5] ∧ RL S cs1 s1.2) hL1 ⟨_, _, _, (show _ = (pv1 : Value) from ((k2 0).trans (k1 0))), (k2 7), H, pg1⟩ ?_
 clear H; intro k4 s1 m3 w1 k3 hI1 o2 hb1 hh1; obtain ⟨v1, cs1, rs1, q1, q2, H, g1⟩ := hI1
 have q3 : look m3 1 = .int .u64 (((x1).toNat : Int)) := (k3 1 rfl).trans ((k2 1).trans (k1 1))
 unfold hash_big_b0 at hb1
 refine wp_seq_k fun K4 hK4 => sr fun K5 hK5 => p_mv q2 <| p_val (r_geqI rfl rfl) <| xk hK5 ?_
 refine c_split rfl (fun hc1 => ?_) (fun hc1 => ?_)
 ·replace hb1 := cnd_t hb1 hc1
  refine wp_skip <| xn hK4 <| wp_seq_k fun K6 hK6 => wp_block <| wp_region_lit <| p_mv (v := v1) q1 <| p_mv q3 <| p_mv q2 <| p_val (r_mulI rfl rfl) ?_
  refine bn hb1 fun y1 e1 hb1 => p_val (r_shr rfl rfl (Int.not_lt.2 (of_decide_eq_true (chk_some e1))) (i64_shr _ _)) <| p_val (r_conv u22 u5 rfl (i8_wrap _)) <| p_of2 (a_bsliceG (N := 1) (xs := ([(i8 (((i64 (shrI .u64 ((x1).toNat : Int) (w64 ((8 : Int) * s1.1))))).toNat : Int))] : List UInt8)) (RL.cons rpU8 RL.nil) tn127 H rfl rfl rfl) fun w2 v2 cs2 H g2 => ?_
  replace H := hsn H
  refine bn hb1 fun y2 e2 hb1 => p_of3 (a_appendX (k := 1) (v2 := v2) tn127 rfl H rfl rfl g1 rfl (H.slW (k := 0) rfl) g2 e2) fun w3 v3 cs3 rs2 H g3 => ?_
  replace H := hsn H
  replace H := H.sel [1] rfl
  replace H := hsn H
  refine p_as (v := v3) rfl <| wpList_nil <| b_norm <| xn hK6 <| wp_region_lit <| p_mv q2 <| p_val (r_subI rfl rfl) <| asI rfl <| wpList_nil ?_
  refine x_norm ?_
  replace H := hsn H
  obtain rfl := osi hb1
  exact ⟨((w64 (s1.1 - 1)), y2), _, rfl, (kS k3 rfl kcx), ⟨_, _, _, rfl, rfl, H, g3⟩, hh1⟩
 ·replace hb1 := cnd_f hb1 hc1
  refine wp_exit <| x_exit <| x_exit <| b_hit <| x_norm ?_
  replace H := hsn H
  obtain rfl := osi hb1
  obtain rfl := osi hh1
  obtain rfl := osi hE2
  exact J1 _ _ _ _ _ (kS k3 rfl (kN k2 kcx)) (show _ = (v1 : Value) from q1) H g1
def hash_value_b0 (x0 : List UInt8) (s1 : UInt64 × Int) : Option ((UInt64 × Int) ⊕ (UInt64)) :=
  bif decide (s1.2 < ((x0).length : Int)) then (Option.bind (idx x0 s1.2) fun y1 => some (.inl ((((i64 (shlI .u64 ((s1.1).toNat : Int) 8)) ||| (i64 ((y1).toNat : Int))), (w64 (s1.2 + 1)))))) else (some (.inr (s1.1)))
def hash_value_p (x0 : List UInt8) : Option (UInt64) :=
  Option.bind (Option.bind (iter (hash_value_b0 x0) (((0 : UInt64), 0))) (fun e => some (e))) (fun t1 => some (t1))
theorem hash_value_c {S : Mem} {w : World} (hS : Sub S w) {x0 : List UInt8} {r : UInt64} (hF : hash_value_p x0 = some r) :
    Calls Tryz.prog 157 #[str (x0)] w fun e w' => e = .returned (.int .u64 (((r).toNat : Int))) ∧ Ext w w' := by
 refine enter (n := 19) Tryz.func157 rfl rfl rfl ?_
 have H := HS.start hS
 unfold hash_value_p at hF
 refine sr fun K1 hK1 => asI rfl <| xk hK1 <| sr fun K2 hK2 => asI rfl <| xk hK2 <| wp_seq_k fun K3 hK3 => nameF fun m1 k1 => bn hF fun t1 hE1 hF1 => ?_
 have J1 : ∀ (m4 : FM) (w2 : World), (∀ t, has (rg 3 15 []) t = false → look m4 t = look m1 t) → look m4 3 = .int .u64 (((t1).toNat : Int)) → HS ⟨S, [], w⟩ S w2 [] → K3 (fr 19 m4) w2 := by
  clear H; intro m4 w2 k5 q5 H
  refine hK3 _ _ <| sr fun K9 hK9 => p_mv q5 <| asI rfl <| xk hK9 <| wp_ret ?_
  obtain rfl := osi hF1
  refine e_1 rfl (q_tmp rfl) ?_
  exact ⟨rfl, H.toExt⟩
 refine sr fun K4 hK4 => p_mv (k1 0) <| p_val (r_lenT (N := (x0).length) u9 rfl rfl) <| mvI rfl <| xk hK4 <| wp_block <| nameF fun m2 k2 => bn hE1 fun out1 hL1 hE2 => ?_
 replace H := hsn H
 refine loopI (3 :: 4 :: rg 7 11 []) (fun (s1 : UInt64 × Int) (m3 : FM) (w1 : World) => look m3 3 = .int .u64 (((s1.1).toNat : Int)) ∧ look m3 7 = .int .i64 (s1.2) ∧ HS ⟨S, [], w⟩ S w1 []) hL1 ⟨((k2 3).trans (k1 3)), (k2 7), H⟩ ?_
 clear H; intro k4 s1 m3 w1 k3 hI1 o2 hb1 hh1; obtain ⟨q1, q2, H⟩ := hI1
 have q3 : look m3 0 = str (x0) := (k3 0 rfl).trans ((k2 0).trans (k1 0))
 have q4 : look m3 6 = .int .i64 (((x0).length : Int)) := (k3 6 rfl).trans (k2 6)
 unfold hash_value_b0 at hb1
 refine sr fun K5 hK5 => p_val (r_lssI q2 q4) <| xk hK5 <| wp_seq_k fun K6 hK6 => ?_
 refine c_split rfl (fun hc1 => ?_) (fun hc1 => ?_)
 ·replace hb1 := cnd_t hb1 hc1
  refine wp_skip <| xn hK6 <| wp_seq_k fun K7 hK7 => wp_block <| sr fun K8 hK8 => p_mv q2 <| asI rfl <| xk hK8 <| wp_region_lit ?_
  refine p_mv q1 <| p_val (r_shl rfl rfl (by decide) (i64_shl _ _)) <| p_mv q3 <| mvI rfl <| bn hb1 fun y1 e1 hb1 => p_val (r_idxT (i := (s1.2 : Int).toNat) (u := y1) u9 rfl rfl (idx_some e1).1 (idx_some e1).2) <| p_val (r_conv u5 u22 rfl (i64_wrap _)) <| p_val (r_bits (bo := .or) (by simp) rfl rfl (i64_or _ _)) <| asI rfl ?_
  refine wpList_nil <| b_norm <| xn hK7 <| wp_region_lit <| p_val (r_addI q2 rfl) <| mvI rfl <| wpList_nil <| x_norm ?_
  replace H := hsn H
  obtain rfl := osi hb1
  exact ⟨(((i64 (shlI .u64 ((s1.1).toNat : Int) 8)) ||| (i64 ((y1).toNat : Int))), (w64 (s1.2 + 1))), _, rfl, (kS k3 rfl kcx), ⟨rfl, rfl, H⟩, hh1⟩
 ·replace hb1 := cnd_f hb1 hc1
  refine wp_exit <| x_exit <| x_exit <| b_hit <| x_norm ?_
  replace H := hsn H
  obtain rfl := osi hb1
  obtain rfl := osi hh1
  obtain rfl := osi hE2
  exact J1 _ _ (kS k3 rfl (kN k2 kcx)) q1 H
def hash_Same_b0 (x0 : List UInt8) (x1 : List UInt8) (s1 : Int × Int) : Option ((Int × Int) ⊕ (Int)) :=
  bif decide (s1.2 < ((x0).length : Int)) then (Option.bind (bif decide (s1.2 < ((x1).length : Int)) then (Option.bind (idx x1 s1.2) fun y1 => some (y1)) else (some ((0 : UInt8)))) (fun t2 => Option.bind (idx x0 s1.2) fun y2 => some (.inl (((bits .or .i64 s1.1 (((y2 ^^^ t2)).toNat : Int)), (w64 (s1.2 + 1))))))) else (some (.inr (s1.1)))
def hash_Same_p (x0 : List UInt8) (x1 : List UInt8) : Option (Bool) :=
  Option.bind (Option.bind (iter (hash_Same_b0 x0 x1) (((bits .xor .i64 ((x0).length : Int) ((x1).length : Int)), 0))) (fun e => some (e))) (fun t1 => some ((t1 == 0)))
theorem hash_Same_c {S : Mem} {w : World} (hS : Sub S w) {x0 : List UInt8} {x1 : List UInt8} {r : Bool} (hF : hash_Same_p x0 x1 = some r) :
    Calls Tryz.prog 79 #[str (x0), str (x1)] w fun e w' => e = .returned (.bool (r)) ∧ Ext w w' := by
 refine enter (n := 36) Tryz.func79 rfl rfl rfl ?_
 have H := HS.start hS
 unfold hash_Same_p at hF
 refine sr fun K1 hK1 => asB rfl <| xk hK1 <| sr fun K2 hK2 => mvT rfl <| p_val (r_lenT (N := (x0).length) u9 rfl rfl) <| mvT rfl <| p_val (r_lenT (N := (x1).length) u9 rfl rfl) <| p_val (r_bits (bo := .xor) (by simp) (r := (bits .xor .i64 ((x0).length : Int) ((x1).length : Int))) rfl rfl rfl) ?_
 refine asI rfl <| xk hK2 <| wp_seq_k fun K3 hK3 => nameF fun m1 k1 => bn hF fun t1 hE1 hF1 => ?_
 have J2 : ∀ (m6 : FM) (w3 : World), (∀ t, has (5 :: 6 :: 7 :: rg 13 21 []) t = false → look m6 t = look m1 t) → look m6 5 = .int .i64 (t1) → HS ⟨S, [], w⟩ S w3 [] → K3 (fr 36 m6) w3 := by
  clear H; intro m6 w3 k7 q13 H
  refine hK3 _ _ <| sr fun K12 hK12 => p_mv q13 <| p_val (r_eqlI rfl rfl) <| asB rfl <| xk hK12 <| wp_ret ?_
  obtain rfl := osi hF1
  refine e_1 rfl (q_tmp rfl) ?_
  exact ⟨rfl, H.toExt⟩
 refine sr fun K4 hK4 => p_mv (k1 0) <| p_val (r_lenT (N := (x0).length) u9 rfl rfl) <| mvI rfl <| xk hK4 <| wp_block <| nameF fun m2 k2 => bn hE1 fun out1 hL1 hE2 => ?_
 replace H := hsn H
 refine loopI (5 :: 6 :: 7 :: rg 15 19 []) (fun (s1 : Int × Int) (m3 : FM) (w1 : World) => look m3 5 = .int .i64 (s1.1) ∧ look m3 15 = .int .i64 (s1.2) ∧ HS ⟨S, [], w⟩ S w1 []) hL1 ⟨((k2 5).trans (k1 5)), (k2 15), H⟩ ?_
 clear H; intro k4 s1 m3 w1 k3 hI1 o2 hb1 hh1; obtain ⟨q1, q2, H⟩ := hI1
 have q3 : look m3 0 = str (x0) := (k3 0 rfl).trans ((k2 0).trans (k1 0))
 have q4 : look m3 1 = str (x1) := (k3 1 rfl).trans ((k2 1).trans (k1 1))
 have q5 : look m3 14 = .int .i64 (((x0).length : Int)) := (k3 14 rfl).trans (k2 14)
 unfold hash_Same_b0 at hb1
 refine sr fun K5 hK5 => p_val (r_lssI q2 q5) <| xk hK5 <| wp_seq_k fun K6 hK6 => ?_
 refine c_split rfl (fun hc1 => ?_) (fun hc1 => ?_)
 ·replace hb1 := cnd_t hb1 hc1
  refine wp_skip <| xn hK6 <| wp_seq_k fun K7 hK7 => wp_block <| sr fun K8 hK8 => p_mv q2 <| asI rfl <| xk hK8 <| sr fun K9 hK9 => ?_
  refine asI rfl <| xk hK9 <| wp_seq_k fun K10 hK10 => nameF fun m4 k5 => bn hb1 fun t2 hE3 hF2 => ?_
  have J1 : ∀ (m5 : FM) (w2 : World), (∀ t, has (7 :: rg 18 7 []) t = false → look m5 t = look m4 t) → look m5 7 = .int .u8 (((t2).toNat : Int)) → HS ⟨S, [], w⟩ S w2 [] → K10 (fr 36 m5) w2 := by
   clear H; intro m5 w2 k6 q6 H
   have q7 := (k6 0 rfl).trans ((k5 0).trans q3)
   have q8 := (k6 1 rfl).trans ((k5 1).trans q4)
   have q9 := (k6 14 rfl).trans ((k5 14).trans q5)
   have q10 := (k6 5 rfl).trans ((k5 5).trans q1)
   have q11 := (k6 15 rfl).trans ((k5 15).trans q2)
   have q12 : look m5 6 = .int .i64 (s1.2) := (k6 6 rfl).trans (k5 6)
   refine hK10 _ _ <| wp_region_lit <| p_mv q10 <| p_mv q7 <| p_mv q12 <| bn hF2 fun y2 e2 hF2 => p_val (r_idxT (i := (s1.2 : Int).toNat) (u := y2) u9 rfl rfl (idx_some e2).1 (idx_some e2).2) <| p_mv q6 <| p_val (r_bits (bo := .xor) (by simp) rfl rfl (i8_xor _ _)) ?_
   refine p_val (r_conv u5 u3 rfl (w64_u8 _)) <| p_val (r_bits (bo := .or) (by simp) (r := (bits .or .i64 s1.1 (((y2 ^^^ t2)).toNat : Int))) rfl rfl rfl) <| asI rfl <| wpList_nil <| b_norm <| xn hK7 <| wp_region_lit <| p_val (r_addI q11 rfl) <| mvI rfl ?_
   refine wpList_nil <| x_norm ?_
   replace H := hsn H
   obtain rfl := osi hF2
   exact ⟨((bits .or .i64 s1.1 (((y2 ^^^ t2)).toNat : Int)), (w64 (s1.2 + 1))), _, rfl, (kS k6 rfl (kN k5 (kS k3 rfl kcx))), ⟨rfl, rfl, H⟩, hh1⟩
  refine sr fun K11 hK11 => p_mv (k5 6) <| p_mv ((k5 1).trans q4) <| p_val (r_lenT (N := (x1).length) u9 rfl rfl) <| p_val (r_lssI rfl rfl) <| xk hK11 ?_
  refine c_split rfl (fun hc2 => ?_) (fun hc2 => ?_)
  ·replace hE3 := cnd_t hE3 hc2
   refine wp_region_lit <| p_mv ((k5 1).trans q4) <| p_mv (k5 6) <| bn hE3 fun y1 e1 hE3 => p_val (r_idxT (i := (s1.2 : Int).toNat) (u := y1) u9 rfl rfl (idx_some e1).1 (idx_some e1).2) <| asI rfl <| wpList_nil <| x_norm ?_
   replace H := hsn H
   obtain rfl := osi hE3
   exact J1 _ _ kcx rfl H
  ·replace hE3 := cnd_f hE3 hc2
   refine wp_skip <| x_norm ?_
   replace H := hsn H
   obtain rfl := osi hE3
   exact J1 _ _ kcx (k5 7) H
 ·replace hb1 := cnd_f hb1 hc1
  refine wp_exit <| x_exit <| x_exit <| b_hit <| x_norm ?_
  replace H := hsn H
  obtain rfl := osi hb1
  obtain rfl := osi hh1
  obtain rfl := osi hE2
  exact J2 _ _ (kS k3 rfl (kN k2 kcx)) q1 H
def hash_keys_p  : Option ((Vec UInt32 64)) :=
  some (kvec)
set_option maxRecDepth 20000 in
theorem hash_keys_c {S : Mem} {w : World} (hS : Sub S w)  {r : (Vec UInt32 64)} (hF : hash_keys_p = some r) :
    Calls Tryz.prog 136 #[] w fun e w' => e = .returned (.agg (vcl cU32 r).toArray) ∧ Ext w w' := by
 refine enter (n := 2) Tryz.func136 rfl rfl rfl ?_
 have H := HS.start hS
 unfold hash_keys_p at hF
 refine sr fun K1 hK1 => p_ofb (a_alloc (l := (vcl cU32 (vrep 64 (0 : UInt32)))) H tz168 rfl) fun w1 b1 H => xk hK1 <| sr fun K2 hK2 => ?_
 refine p_val (r_build (vals := [(0, .int .u32 (1116352408)), (1, .int .u32 (1899447441)), (2, .int .u32 (3049323471)), (3, .int .u32 (3921009573)), (4, .int .u32 (961987163)), (5, .int .u32 (1508970993)), (6, .int .u32 (2453635748)), (7, .int .u32 (2870763221)), (8, .int .u32 (3624381080)), (9, .int .u32 (310598401)), (10, .int .u32 (607225278)), (11, .int .u32 (1426881987)), (12, .int .u32 (1925078388)), (13, .int .u32 (2162078206)), (14, .int .u32 (2614888103)), (15, .int .u32 (3248222580)), (16, .int .u32 (3835390401)), (17, .int .u32 (4022224774)), (18, .int .u32 (264347078)), (19, .int .u32 (604807628)), (20, .int .u32 (770255983)), (21, .int .u32 (1249150122)), (22, .int .u32 (1555081692)), (23, .int .u32 (1996064986)), (24, .int .u32 (2554220882)), (25, .int .u32 (2821834349)), (26, .int .u32 (2952996808)), (27, .int .u32 (3210313671)), (28, .int .u32 (3336571891)), (29, .int .u32 (3584528711)), (30, .int .u32 (113926993)), (31, .int .u32 (338241895)), (32, .int .u32 (666307205)), (33, .int .u32 (773529912)), (34, .int .u32 (1294757372)), (35, .int .u32 (1396182291)), (36, .int .u32 (1695183700)), (37, .int .u32 (1986661051)), (38, .int .u32 (2177026350)), (39, .int .u32 (2456956037)), (40, .int .u32 (2730485921)), (41, .int .u32 (2820302411)), (42, .int .u32 (3259730800)), (43, .int .u32 (3345764771)), (44, .int .u32 (3516065817)), (45, .int .u32 (3600352804)), (46, .int .u32 (4094571909)), (47, .int .u32 (275423344)), (48, .int .u32 (430227734)), (49, .int .u32 (506948616)), (50, .int .u32 (659060556)), (51, .int .u32 (883997877)), (52, .int .u32 (958139571)), (53, .int .u32 (1322822218)), (54, .int .u32 (1537002063)), (55, .int .u32 (1747873779)), (56, .int .u32 (1955562222)), (57, .int .u32 (2024104815)), (58, .int .u32 (2227730452)), (59, .int .u32 (2361852424)), (60, .int .u32 (2428436474)), (61, .int .u32 (2756734187)), (62, .int .u32 (3204031479)), (63, .int .u32 (3329325298))]) (l := (vcl cU32 kvec)) tb168 rfl rfl) ?_
 refine p_ofs (a_storeVW (X := (vrep 64 (0 : UInt32))) (Y := kvec) (cf := fun a_ : UInt32 => Value.int .u32 (((a_).toNat : Int))) (k := 0) tsz168 H rfl rfl rfl (fun _ => rfl)) fun w2 H => ?_
 replace H := hsn H
 refine xk hK2 <| wp_ret ?_
 obtain rfl := osi hF
 refine e_1 rfl (qh_cell (l := (vcl cU32 kvec)) tg168 H rfl (k := 0) rfl (vcl_all _ _) (vcl_ble _ _)) ?_
 exact ⟨rfl, H.toExt⟩
def hash_state_next_1_p (x0 : UInt32) (x1 : Int) : Option (UInt32) :=
  Option.bind (math_bits_RotateLeft32_p x0 (w64 (0 - x1))) fun y1 => some (y1)
theorem hash_state_next_1_c {S : Mem} {w : World} (hS : Sub S w) {x0 : UInt32} {x1 : Int} {r : UInt32} (hF : hash_state_next_1_p x0 x1 = some r) :
    Calls Tryz.prog 158 #[.int .u32 (((x0).toNat : Int)), .int .i64 (x1)] w fun e w' => e = .returned (.int .u32 (((r).toNat : Int))) ∧ Ext w w' := by
 refine enter (n := 9) Tryz.func158 rfl rfl rfl ?_
 have H := HS.start hS
 unfold hash_state_next_1_p at hF
 refine sr fun K1 hK1 => asI rfl <| xk hK1 <| sr fun K2 hK2 => mvI rfl <| mvI rfl <| p_val (r_neg (r := (w64 (0 - x1))) rfl rfl) <| bn hF fun y1 e1 hF => p_call (l := [.int .u32 (((x0).toNat : Int)), .int .i64 ((w64 (0 - x1)))]) is159 rfl ?_
 refine (math_bits_RotateLeft32_c H.sub e1).mono <| H.xe fun w1 H => asI rfl <| xk hK2 <| wp_ret ?_
 obtain rfl := osi hF
 refine e_1 rfl (q_tmp rfl) ?_
 exact ⟨rfl, H.toExt⟩
def hash_state_next_b0 (x1 : List UInt8) (s1 : Int × (Vec UInt32 64)) : Option ((Int × (Vec UInt32 64)) ⊕ ((Vec UInt32 64))) :=
  bif decide (s1.1 < 16) then (Option.bind (sub3 x1 (w64 ((4 : Int) * s1.1)) (w64 ((w64 ((4 : Int) * s1.1)) + 4))) fun y1 => Option.bind (hash_value_p y1) fun y2 => Option.bind (idx s1.2.l s1.1) fun y3 => Option.bind (setV s1.2 (s1.1 : Int) (i32 ((y2).toNat : Int))) fun y4 => some (.inl (((w64 (s1.1 + 1)), y4)))) else (some (.inr (s1.2)))
def hash_state_next_b1 (s2 : Int × (Vec UInt32 64)) : Option ((Int × (Vec UInt32 64)) ⊕ ((Vec UInt32 64))) :=
  bif decide (s2.1 < 64) then (Option.bind (idx s2.2.l (w64 (s2.1 - 15))) fun y5 => Option.bind (idx s2.2.l (w64 (s2.1 - 2))) fun y6 => Option.bind (idx s2.2.l (w64 (s2.1 - 16))) fun y7 => Option.bind (hash_state_next_1_p y5 7) fun y8 => Option.bind (hash_state_next_1_p y5 18) fun y9 => Option.bind (idx s2.2.l (w64 (s2.1 - 7))) fun y10 => Option.bind (hash_state_next_1_p y6 17) fun y11 => Option.bind (hash_state_next_1_p y6 19) fun y12 => Option.bind (idx s2.2.l s2.1) fun y13 => Option.bind (setV s2.2 (s2.1 : Int) (i32 ((((i32 ((((i32 (((y7).toNat : Int) + ((((y8 ^^^ y9) ^^^ (i32 (shrI .u32 ((y5).toNat : Int) 3)))).toNat : Int)))).toNat : Int) + ((y10).toNat : Int)))).toNat : Int) + ((((y11 ^^^ y12) ^^^ (i32 (shrI .u32 ((y6).toNat : Int) 10)))).toNat : Int)))) fun y14 => some (.inl (((w64 (s2.1 + 1)), y14)))) else (some (.inr (s2.2)))
def hash_state_next_b2 (x2 : Vec UInt32 64) (t2 : (Vec UInt32 64)) (s3 : Int × Qs) : Option ((Int × Qs) ⊕ Qs) :=
  bif decide (s3.1 < 64) then (Option.bind (hash_state_next_1_p s3.2.2.2.2.2.1 6) fun y15 => Option.bind (hash_state_next_1_p s3.2.2.2.2.2.1 11) fun y16 => Option.bind (hash_state_next_1_p s3.2.2.2.2.2.1 25) fun y17 => Option.bind (idx x2.l s3.1) fun y18 => Option.bind (idx t2.l s3.1) fun y19 => Option.bind (hash_state_next_1_p s3.2.1 2) fun y20 => Option.bind (hash_state_next_1_p s3.2.1 13) fun y21 => Option.bind (hash_state_next_1_p s3.2.1 22) fun y22 => some (.inl (((w64 (s3.1 + 1)), (i32 ((((i32 ((((i32 ((((i32 ((((i32 (((s3.2.2.2.2.2.2.2.2).toNat : Int) + ((((y15 ^^^ y16) ^^^ y17)).toNat : Int)))).toNat : Int) + ((((s3.2.2.2.2.2.1 &&& s3.2.2.2.2.2.2.1) ^^^ (((4294967295 : UInt32) ^^^ s3.2.2.2.2.2.1) &&& s3.2.2.2.2.2.2.2.1))).toNat : Int)))).toNat : Int) + ((y18).toNat : Int)))).toNat : Int) + ((y19).toNat : Int)))).toNat : Int) + (((i32 (((((y20 ^^^ y21) ^^^ y22)).toNat : Int) + (((((s3.2.1 &&& s3.2.2.1) ^^^ (s3.2.1 &&& s3.2.2.2.1)) ^^^ (s3.2.2.1 &&& s3.2.2.2.1))).toNat : Int)))).toNat : Int))), s3.2.1, s3.2.2.1, s3.2.2.2.1, (i32 (((s3.2.2.2.2.1).toNat : Int) + (((i32 ((((i32 ((((i32 ((((i32 (((s3.2.2.2.2.2.2.2.2).toNat : Int) + ((((y15 ^^^ y16) ^^^ y17)).toNat : Int)))).toNat : Int) + ((((s3.2.2.2.2.2.1 &&& s3.2.2.2.2.2.2.1) ^^^ (((4294967295 : UInt32) ^^^ s3.2.2.2.2.2.1) &&& s3.2.2.2.2.2.2.2.1))).toNat : Int)))).toNat : Int) + ((y18).toNat : Int)))).toNat : Int) + ((y19).toNat : Int)))).toNat : Int))), s3.2.2.2.2.2.1, s3.2.2.2.2.2.2.1, s3.2.2.2.2.2.2.2.1)))) else (some (.inr ((s3.2.1, s3.2.2.1, s3.2.2.2.1, s3.2.2.2.2.1, s3.2.2.2.2.2.1, s3.2.2.2.2.2.2.1, s3.2.2.2.2.2.2.2.1, s3.2.2.2.2.2.2.2.2))))
def hash_state_next_b3 (x0 : Qs) (s4 : Int × Qs) : Option ((Int × Qs) ⊕ Qs) :=
  bif decide (s4.1 < 8) then (Option.bind (idx ([s4.2.1, s4.2.2.1, s4.2.2.2.1, s4.2.2.2.2.1, s4.2.2.2.2.2.1, s4.2.2.2.2.2.2.1, s4.2.2.2.2.2.2.2.1, s4.2.2.2.2.2.2.2.2] : List UInt32) s4.1) fun y23 => Option.bind (idx ([x0.1, x0.2.1, x0.2.2.1, x0.2.2.2.1, x0.2.2.2.2.1, x0.2.2.2.2.2.1, x0.2.2.2.2.2.2.1, x0.2.2.2.2.2.2.2] : List UInt32) s4.1) fun y24 => Option.bind (idx ([s4.2.1, s4.2.2.1, s4.2.2.2.1, s4.2.2.2.2.1, s4.2.2.2.2.2.1, s4.2.2.2.2.2.2.1, s4.2.2.2.2.2.2.2.1, s4.2.2.2.2.2.2.2.2] : List UInt32) s4.1) fun y25 => Option.bind (setL ([s4.2.1, s4.2.2.1, s4.2.2.2.1, s4.2.2.2.2.1, s4.2.2.2.2.2.1, s4.2.2.2.2.2.2.1, s4.2.2.2.2.2.2.2.1, s4.2.2.2.2.2.2.2.2] : List UInt32) (s4.1 : Int) (i32 (((y23).toNat : Int) + ((y24).toNat : Int)))) fun y26 => some (.inl (((w64 (s4.1 + 1)), (y26.getD 0 (0 : UInt32)), (y26.getD 1 (0 : UInt32)), (y26.getD 2 (0 : UInt32)), (y26.getD 3 (0 : UInt32)), (y26.getD 4 (0 : UInt32)), (y26.getD 5 (0 : UInt32)), (y26.getD 6 (0 : UInt32)), (y26.getD 7 (0 : UInt32)))))) else (some (.inr ((s4.2.1, s4.2.2.1, s4.2.2.2.1, s4.2.2.2.2.1, s4.2.2.2.2.2.1, s4.2.2.2.2.2.2.1, s4.2.2.2.2.2.2.2.1, s4.2.2.2.2.2.2.2.2))))
def hash_state_next_p (x0 : Qs) (x1 : List UInt8) (x2 : Vec UInt32 64) : Option (Qs × (Vec UInt32 64)) :=
  Option.bind (Option.bind (iter (hash_state_next_b0 x1) ((0, (vrep 64 (0 : UInt32))))) (fun e => some (e))) (fun t1 => Option.bind (Option.bind (iter (hash_state_next_b1) ((16, t1))) (fun e => some (e))) (fun t2 => Option.bind (Option.bind (iter (hash_state_next_b2 x2 t2) ((0, x0.1, x0.2.1, x0.2.2.1, x0.2.2.2.1, x0.2.2.2.2.1, x0.2.2.2.2.2.1, x0.2.2.2.2.2.2.1, x0.2.2.2.2.2.2.2))) (fun e => some (e))) (fun t3 => Option.bind (Option.bind (iter (hash_state_next_b3 x0) ((0, t3.1, t3.2.1, t3.2.2.1, t3.2.2.2.1, t3.2.2.2.2.1, t3.2.2.2.2.2.1, t3.2.2.2.2.2.2.1, t3.2.2.2.2.2.2.2))) (fun e => some (e))) (fun t4 => some (((t4.1, t4.2.1, t4.2.2.1, t4.2.2.2.1, t4.2.2.2.2.1, t4.2.2.2.2.2.1, t4.2.2.2.2.2.2.1, t4.2.2.2.2.2.2.2), x2))))))
theorem hash_state_next_c {S : Mem} {w : World} {b2_ : Nat} {x2 : Vec UInt32 64} (H : HS ⟨S, keysR [.blk b2_ ((vcl cU32 x2)) 168], w⟩ S w [.blk b2_ ((vcl cU32 x2)) 168]) {x0 : Qs} {v1_ : Value} {x1 : List UInt8} (h1_ : RdS S v1_ x1) {r : Qs × (Vec UInt32 64)} (hF : hash_state_next_p x0 x1 x2 = some r) :
    Calls Tryz.prog 137 #[.agg ((cl171 x0)).toArray, v1_, .pointer (some ⟨b2_, 0, none⟩)] w fun e w' => ∃ (S2 : Mem) , e = .returned (.agg ((cl171 r.1)).toArray) ∧ HS ⟨S, keysR [.blk b2_ ((vcl cU32 x2)) 168], w⟩ S2 w' [.blk b2_ ((vcl cU32 r.2)) 168] := by
 refine enter (n := 177) Tryz.func137 rfl rfl rfl ?_
 unfold hash_state_next_p at hF
 refine sr fun K1 hK1 => p_ofb (a_box (l := (cl171 x0)) H rfl) fun w1 b1 H => p_ofb (a_alloc (l := (cl171 ((0 : UInt32), (0 : UInt32), (0 : UInt32), (0 : UInt32), (0 : UInt32), (0 : UInt32), (0 : UInt32), (0 : UInt32)))) H tz171 rfl) fun w2 b2 H => xk hK1 <| sr fun K2 hK2 => ?_
 refine p_ofb (a_alloc (l := (vcl cU32 (vrep 64 (0 : UInt32)))) H tz168 rfl) fun w3 b3 H => xk hK2 <| wp_seq_k fun K3 hK3 => nameF fun m1 k1 => bn hF fun t1 hE1 hF1 => ?_
 have J4 : ∀ (m4 : FM) (w7 : World), (∀ t, has (8 :: rg 20 16 []) t = false → look m4 t = look m1 t) → HS ⟨S, keysR [.blk b2_ ((vcl cU32 x2)) 168], w⟩ S w7 [.blk b3 ((vcl cU32 t1)) 168, .blk b2 ((cl171 ((0 : UInt32), (0 : UInt32), (0 : UInt32), (0 : UInt32), (0 : UInt32), (0 : UInt32), (0 : UInt32), (0 : UInt32)))) 171, .blk b1 ((cl171 x0)) 171, .blk b2_ ((vcl cU32 x2)) 168] → K3 (fr 177 m4) w7 := by
  clear H; intro m4 w7 k5 H
  have q7 : look m4 2 = .pointer (some ⟨b2_, 0, none⟩) := (k5 2 rfl).trans (k1 2)
  have q8 : look m4 3 = .pointer (some ⟨b1, 0, none⟩) := (k5 3 rfl).trans (k1 3)
  have q9 : look m4 6 = .pointer (some ⟨b2, 0, none⟩) := (k5 6 rfl).trans (k1 6)
  have q10 : look m4 7 = .pointer (some ⟨b3, 0, none⟩) := (k5 7 rfl).trans (k1 7)
  refine hK3 _ _ <| sr fun K9 hK9 => p_as (v := .func (.func 158) #[] #[]) rfl <| xk hK9 <| wp_seq_k fun K10 hK10 => nameF fun m5 k6 => bn hF1 fun t2 hE3 hF2 => ?_
  have J3 : ∀ (m8 : FM) (w12 : World), (∀ t, has (10 :: 11 :: 12 :: rg 36 45 []) t = false → look m8 t = look m5 t) → HS ⟨S, keysR [.blk b2_ ((vcl cU32 x2)) 168], w⟩ S w12 [.blk b3 ((vcl cU32 t2)) 168, .blk b2 ((cl171 ((0 : UInt32), (0 : UInt32), (0 : UInt32), (0 : UInt32), (0 : UInt32), (0 : UInt32), (0 : UInt32), (0 : UInt32)))) 171, .blk b1 ((cl171 x0)) 171, .blk b2_ ((vcl cU32 x2)) 168] → K10 (fr 177 m8) w12 := by
   clear H; intro m8 w12 k10 H
   have q17 := (k10 2 rfl).trans ((k6 2).trans q7)
   have q18 := (k10 3 rfl).trans ((k6 3).trans q8)
   have q19 := (k10 6 rfl).trans ((k6 6).trans q9)
   have q20 := (k10 7 rfl).trans ((k6 7).trans q10)
   have q21 : look m8 9 = .func (.func 158) #[] #[] := (k10 9 rfl).trans (k6 9)
   refine hK10 _ _ <| sr fun K16 hK16 => p_val (h_load (l := (cl171 x0)) tg171 H q18 (k := 2) rfl rfl rfl) <| p_ofb (a_alloc (l := (cl171 ((0 : UInt32), (0 : UInt32), (0 : UInt32), (0 : UInt32), (0 : UInt32), (0 : UInt32), (0 : UInt32), (0 : UInt32)))) H tz171 rfl) fun w13 b4 H => p_ofs (a_store (k := 0) (l := (cl171 x0)) tsz171 H rfl rfl rfl (cells_agg _) rfl (onz rfl) rfl) fun w14 H => ?_
   replace H := hsn H
   refine xk hK16 <| wp_seq_k fun K17 hK17 => nameF fun m9 k11 => bn hF2 fun t3 hE5 hF3 => ?_
   have J2 : ∀ (m12 : FM) (w23 : World), (∀ t, has (14 :: 15 :: 16 :: 17 :: 18 :: rg 82 82 []) t = false → look m12 t = look m9 t) → HS ⟨S, keysR [.blk b2_ ((vcl cU32 x2)) 168], w⟩ S w23 [.blk b4 ((cl171 t3)) 171, .blk b3 ((vcl cU32 t2)) 168, .blk b2 ((cl171 ((0 : UInt32), (0 : UInt32), (0 : UInt32), (0 : UInt32), (0 : UInt32), (0 : UInt32), (0 : UInt32), (0 : UInt32)))) 171, .blk b1 ((cl171 x0)) 171, .blk b2_ ((vcl cU32 x2)) 168] → K17 (fr 177 m12) w23 := by
    clear H; intro m12 w23 k15 H
    have q29 := (k15 3 rfl).trans ((k11 3).trans q18)
    have q30 := (k15 6 rfl).trans ((k11 6).trans q19)
    have q31 : look m12 13 = .pointer (some ⟨b4, 0, none⟩) := (k15 13 rfl).trans (k11 13)
    refine hK17 _ _ <| wp_seq_k fun K28 hK28 => nameF fun m13 k16 => bn hF3 fun t4 hE7 hF4 => ?_
    have J1 : ∀ (m16 : FM) (w27 : World), (∀ t, has (19 :: rg 164 12 []) t = false → look m16 t = look m13 t) → HS ⟨S, keysR [.blk b2_ ((vcl cU32 x2)) 168], w⟩ S w27 [.blk b4 ((cl171 t4)) 171, .blk b3 ((vcl cU32 t2)) 168, .blk b2 ((cl171 ((0 : UInt32), (0 : UInt32), (0 : UInt32), (0 : UInt32), (0 : UInt32), (0 : UInt32), (0 : UInt32), (0 : UInt32)))) 171, .blk b1 ((cl171 x0)) 171, .blk b2_ ((vcl cU32 x2)) 168] → K28 (fr 177 m16) w27 := by
     clear H; intro m16 w27 k20 H
     have q36 := (k20 6 rfl).trans ((k16 6).trans q30)
     have q37 := (k20 13 rfl).trans ((k16 13).trans q31)
     refine hK28 _ _ <| sr fun K34 hK34 => p_val (h_load (l := (cl171 t4)) tg171 H q37 (k := 0) rfl rfl rfl) <| p_ofs (a_store (k := 2) (l := (cl171 t4)) tsz171 H q36 rfl rfl (cells_agg _) rfl (onz rfl) rfl) fun w28 H => ?_
     replace H := hsn H
     refine xk hK34 <| wp_ret ?_
     obtain rfl := osi hF4
     refine e_1 rfl (qh_cell (l := (cl171 t4)) tg171 H q36 (k := 2) rfl rfl rfl) ?_
     replace H := H.sel [4] rfl
     replace H := hsn H
     exact ⟨_, rfl, H⟩
    refine sr fun K29 hK29 => mvI rfl <| xk hK29 <| wp_block <| nameF fun m14 k17 => bn hE7 fun out4 hL4 hE8 => ?_
    replace H := hsn H
    refine loopI (19 :: rg 164 12 []) (fun (s4 : Int × Qs) (m15 : FM) (w24 : World) => look m15 164 = .int .i64 (s4.1) ∧ HS ⟨S, keysR [.blk b2_ ((vcl cU32 x2)) 168], w⟩ S w24 [.blk b4 ((cl171 s4.2)) 171, .blk b3 ((vcl cU32 t2)) 168, .blk b2 ((cl171 ((0 : UInt32), (0 : UInt32), (0 : UInt32), (0 : UInt32), (0 : UInt32), (0 : UInt32), (0 : UInt32), (0 : UInt32)))) 171, .blk b1 ((cl171 x0)) 171, .blk b2_ ((vcl cU32 x2)) 168]) hL4 ⟨(k17 164), H⟩ ?_
    clear H; intro k19 s4 m15 w24 k18 hI4 o8 hb4 hh4; obtain ⟨q32, H⟩ := hI4
    have q33 := (k18 3 rfl).trans ((k17 3).trans ((k16 3).trans q29))
    have q34 := (k18 6 rfl).trans ((k17 6).trans ((k16 6).trans q30))
    have q35 := (k18 13 rfl).trans ((k17 13).trans ((k16 13).trans q31))
    unfold hash_state_next_b3 at hb4
    refine sr fun K30 hK30 => p_val (r_lssI q32 rfl) <| xk hK30 <| wp_seq_k fun K31 hK31 => ?_
    refine c_split rfl (fun hc4 => ?_) (fun hc4 => ?_)
    ·replace hb4 := cnd_t hb4 hc4
     refine wp_skip <| xn hK31 <| wp_seq_k fun K32 hK32 => wp_block <| sr fun K33 hK33 => p_mv q32 <| asI rfl <| xk hK33 <| bn hb4 fun y23 e23 hb4 => ?_
     refine bn hb4 fun y24 e24 hb4 => bn hb4 fun y25 e25 hb4 => ?_
     apply wp_region_ext 8 (kindsF []) rfl rfl (by kernel_rfl); intro vs7
     simp only [tkS, tkZ, drS, drZ]
     replace H := H.drew
     refine tp (r_move (v := .int .i64 (s4.1)) rfl) <| tp (r_addrA (i := (s4.1 : Int).toNat) u171 sz107 q35 rfl rfl (by have h1_ := (idx_some e23).1; omega) (by have h1_ := (idx_some e23).1; have h2_ := idx_lt e23; simp only [List.length_cons, List.length_nil] at h2_; omega)) ?_
     refine t_v (fun w hx => h_loadA (cf := fun a_ : UInt32 => Value.int .u32 (((a_).toNat : Int))) (o := 0) to107 (H.ext hx) rfl (k := 0) rfl e23 rfl) <| tp (r_move (v := .int .i64 (s4.1)) rfl) ?_
     refine tp (r_addrA (i := (s4.1 : Int).toNat) u171 sz107 q33 rfl rfl (by have h1_ := (idx_some e24).1; omega) (by have h1_ := (idx_some e24).1; have h2_ := idx_lt e24; simp only [List.length_cons, List.length_nil] at h2_; omega)) ?_
     refine t_v (fun w hx => h_loadA (cf := fun a_ : UInt32 => Value.int .u32 (((a_).toNat : Int))) (o := 0) to107 (H.ext hx) rfl (k := 3) rfl e24 rfl) <| tp (r_add rfl rfl (i32_wrap _)) <| tp (r_addrA (i := (s4.1 : Int).toNat) u171 sz107 q35 rfl rfl (by have h1_ := (idx_some e25).1; omega) (by have h1_ := (idx_some e25).1; have h2_ := idx_lt e25; simp only [List.length_cons, List.length_nil] at h2_; omega)) ?_
     refine t_nil (fun w25 hx hF hA => ?_)
     replace H := H.ext hx; clear hx hF hA
     refine bn hb4 fun y26 e26 hb4 => p_ofs (a_storeA (0 : UInt32) (cf := fun a_ : UInt32 => Value.int .u32 (((a_).toNat : Int))) (u := (i32 (((y23).toNat : Int) + ((y24).toNat : Int)))) (o := 0) (n := 8) (k := 0) tsz107 H rfl rfl rfl (rfl) e26 rfl rfl (Nat.le_of_ble_eq_true rfl)) fun w26 H => ?_
     replace H := hsn H
     refine wpList_nil ?_; refine on_norm ?_
     refine b_norm <| xn hK32 <| wp_region_lit <| p_val (r_addI q32 rfl) <| mvI rfl <| wpList_nil <| x_norm ?_
     replace H := hsn H
     obtain rfl := osi hb4
     exact ⟨((w64 (s4.1 + 1)), (y26.getD 0 (0 : UInt32)), (y26.getD 1 (0 : UInt32)), (y26.getD 2 (0 : UInt32)), (y26.getD 3 (0 : UInt32)), (y26.getD 4 (0 : UInt32)), (y26.getD 5 (0 : UInt32)), (y26.getD 6 (0 : UInt32)), (y26.getD 7 (0 : UInt32))), _, rfl, (kS k18 rfl kcx), ⟨rfl, H⟩, hh4⟩
    ·replace hb4 := cnd_f hb4 hc4
     refine wp_exit <| x_exit <| x_exit <| b_hit <| x_norm ?_
     replace H := hsn H
     obtain rfl := osi hb4
     obtain rfl := osi hh4
     obtain rfl := osi hE8
     exact J1 _ _ (kS k18 rfl (kN k17 kcx)) H
   refine sr fun K18 hK18 => mvI rfl <| xk hK18 <| wp_block <| nameF fun m10 k12 => bn hE5 fun out3 hL3 hE6 => ?_
   replace H := hsn H
   refine loopI (14 :: 15 :: 16 :: 17 :: 18 :: rg 82 82 []) (fun (s3 : Int × Qs) (m11 : FM) (w15 : World) => look m11 82 = .int .i64 (s3.1) ∧ HS ⟨S, keysR [.blk b2_ ((vcl cU32 x2)) 168], w⟩ S w15 [.blk b4 ((cl171 s3.2)) 171, .blk b3 ((vcl cU32 t2)) 168, .blk b2 ((cl171 ((0 : UInt32), (0 : UInt32), (0 : UInt32), (0 : UInt32), (0 : UInt32), (0 : UInt32), (0 : UInt32), (0 : UInt32)))) 171, .blk b1 ((cl171 x0)) 171, .blk b2_ ((vcl cU32 x2)) 168]) hL3 ⟨(k12 82), H⟩ ?_
   clear H; intro k14 s3 m11 w15 k13 hI3 o6 hb3 hh3; obtain ⟨q22, H⟩ := hI3
   have q23 := (k13 2 rfl).trans ((k12 2).trans ((k11 2).trans q17))
   have q24 := (k13 3 rfl).trans ((k12 3).trans ((k11 3).trans q18))
   have q25 := (k13 6 rfl).trans ((k12 6).trans ((k11 6).trans q19))
   have q26 := (k13 7 rfl).trans ((k12 7).trans ((k11 7).trans q20))
   have q27 := (k13 9 rfl).trans ((k12 9).trans ((k11 9).trans q21))
   have q28 : look m11 13 = .pointer (some ⟨b4, 0, none⟩) := (k13 13 rfl).trans ((k12 13).trans (k11 13))
   unfold hash_state_next_b2 at hb3
   refine sr fun K19 hK19 => p_val (r_lssI q22 rfl) <| xk hK19 <| wp_seq_k fun K20 hK20 => ?_
   refine c_split rfl (fun hc3 => ?_) (fun hc3 => ?_)
   ·replace hb3 := cnd_t hb3 hc3
    refine wp_skip <| xn hK20 <| wp_seq_k fun K21 hK21 => wp_block <| sr fun K22 hK22 => p_mv q22 <| asI rfl <| xk hK22 <| wp_seq_k fun K23 hK23 => ?_
    apply wp_region_ext 5 (kindsF []) rfl rfl (by kernel_rfl); intro vs3
    simp only [tkS, tkZ, drS, drZ]
    replace H := H.drew
    refine tp (r_addrA (k := .i64) (i := 0) u171 sz107 q28 rfl rfl (by decide) (by decide)) <| t_v (fun w hx => h_load1 (v := .int .u32 (((s3.2.1).toNat : Int))) to107 (H.ext hx) rfl (k := 0) rfl rfl) <| tp (r_addrA (k := .i64) (i := 4) u171 sz107 q28 rfl rfl (by decide) (by decide)) <| t_v (fun w hx => h_load1 (v := .int .u32 (((s3.2.2.2.2.2.1).toNat : Int))) to107 (H.ext hx) rfl (k := 0) rfl rfl) ?_
    refine tp (r_assign (v := .int .u32 (((s3.2.1).toNat : Int))) rfl) ?_
    refine t_nil (fun w16 hx hF hA => ?_)
    replace H := H.ext hx; clear hx hF hA
    refine asI rfl ?_
    refine wpList_nil ?_; refine on_norm ?_
    refine xn hK23 <| wp_seq_k fun K24 hK24 => bn hb3 fun y15 e15 hb3 => bn hb3 fun y16 e16 hb3 => bn hb3 fun y17 e17 hb3 => bn hb3 fun y18 e18 hb3 => bn hb3 fun y19 e19 hb3 => ?_
    apply wp_region_ext 35 (kindsF [(4, .inl (.int .u32 (((y15).toNat : Int)))), (7, .inl (.int .u32 (((y16).toNat : Int)))), (11, .inl (.int .u32 (((y17).toNat : Int))))]) rfl rfl (by kernel_rfl); intro vs4
    simp only [tkS, tkZ, drS, drZ]
    replace H := H.drew
    refine tp (r_addrA (k := .i64) (i := 7) u171 sz107 q28 rfl rfl (by decide) (by decide)) <| t_v (fun w hx => h_load1 (v := .int .u32 (((s3.2.2.2.2.2.2.2.2).toNat : Int))) to107 (H.ext hx) rfl (k := 0) rfl rfl) <| tp (r_move (v := .func (.func 158) #[] #[]) q27) <| tp (r_move (v := .int .u32 (((s3.2.2.2.2.2.1).toNat : Int))) rfl) ?_
    refine t_callD (l := [.int .u32 (((s3.2.2.2.2.2.1).toNat : Int)), .int .i64 (6)]) rfl rfl rfl is158 rfl (fun w hx hF => (hash_state_next_1_c (H.ext hx).sub e15).mono (fun _ _ h => h)) <| tp (r_move (v := .func (.func 158) #[] #[]) q27) <| tp (r_move (v := .int .u32 (((s3.2.2.2.2.2.1).toNat : Int))) rfl) ?_
    refine t_callD (l := [.int .u32 (((s3.2.2.2.2.2.1).toNat : Int)), .int .i64 (11)]) rfl rfl rfl is158 rfl (fun w hx hF => (hash_state_next_1_c (H.ext hx).sub e16).mono (fun _ _ h => h)) <| tp (r_bits (bo := .xor) (by simp) rfl rfl (i32_xor _ _)) <| tp (r_move (v := .func (.func 158) #[] #[]) q27) <| tp (r_move (v := .int .u32 (((s3.2.2.2.2.2.1).toNat : Int))) rfl) ?_
    refine t_callD (l := [.int .u32 (((s3.2.2.2.2.2.1).toNat : Int)), .int .i64 (25)]) rfl rfl rfl is158 rfl (fun w hx hF => (hash_state_next_1_c (H.ext hx).sub e17).mono (fun _ _ h => h)) <| tp (r_bits (bo := .xor) (by simp) rfl rfl (i32_xor _ _)) <| tp (r_add rfl rfl (i32_wrap _)) <| tp (r_move (v := .int .u32 (((s3.2.2.2.2.2.1).toNat : Int))) rfl) ?_
    refine tp (r_addrA (k := .i64) (i := 5) u171 sz107 q28 rfl rfl (by decide) (by decide)) <| t_v (fun w hx => h_load1 (v := .int .u32 (((s3.2.2.2.2.2.2.1).toNat : Int))) to107 (H.ext hx) rfl (k := 0) rfl rfl) <| tp (r_bits (bo := .and) (by simp) rfl rfl (i32_and _ _)) <| tp (r_move (v := .int .u32 (((s3.2.2.2.2.2.1).toNat : Int))) rfl) ?_
    refine tp (r_com rfl rfl (r := ((((4294967295 : UInt32) ^^^ s3.2.2.2.2.2.1)).toNat : Int)) (i32_xor 4294967295 s3.2.2.2.2.2.1)) <| tp (r_addrA (k := .i64) (i := 6) u171 sz107 q28 rfl rfl (by decide) (by decide)) <| t_v (fun w hx => h_load1 (v := .int .u32 (((s3.2.2.2.2.2.2.2.1).toNat : Int))) to107 (H.ext hx) rfl (k := 0) rfl rfl) <| tp (r_bits (bo := .and) (by simp) rfl rfl (i32_and _ _)) ?_
    refine tp (r_bits (bo := .xor) (by simp) rfl rfl (i32_xor _ _)) <| tp (r_add rfl rfl (i32_wrap _)) <| tp (r_move (v := .pointer (some ⟨b2_, 0, none⟩)) q23) <| tp (r_move (v := .int .i64 (s3.1)) rfl) <| tp (r_nilck rfl) <| tp (r_addrA (i := (s3.1 : Int).toNat) u168 sz107 rfl rfl rfl (by have h1_ := (idx_some e18).1; omega) (by have h1_ := (idx_some e18).1; have h2_ := idx_ltV e18; omega)) ?_
    refine t_v (fun w hx => h_loadV (X := x2) (cf := fun a_ : UInt32 => Value.int .u32 (((a_).toNat : Int))) to107 (H.ext hx) rfl (k := 4) rfl e18) <| tp (r_add rfl rfl (i32_wrap _)) <| tp (r_move (v := .int .i64 (s3.1)) rfl) <| tp (r_addrA (i := (s3.1 : Int).toNat) u168 sz107 q26 rfl rfl (by have h1_ := (idx_some e19).1; omega) (by have h1_ := (idx_some e19).1; have h2_ := idx_ltV e19; omega)) ?_
    refine t_v (fun w hx => h_loadV (X := t2) (cf := fun a_ : UInt32 => Value.int .u32 (((a_).toNat : Int))) to107 (H.ext hx) rfl (k := 1) rfl e19) <| tp (r_add rfl rfl (i32_wrap _)) ?_
    refine t_nil (fun w17 hx hF hA => ?_)
    replace H := H.ext hx; clear hx hF hA
    refine asI rfl ?_
    refine wpList_nil ?_; refine on_norm ?_
    refine xn hK24 <| wp_seq_k fun K25 hK25 => bn hb3 fun y20 e20 hb3 => bn hb3 fun y21 e21 hb3 => bn hb3 fun y22 e22 hb3 => ?_
    apply wp_region_ext 27 (kindsF [(2, .inl (.int .u32 (((y20).toNat : Int)))), (5, .inl (.int .u32 (((y21).toNat : Int)))), (9, .inl (.int .u32 (((y22).toNat : Int))))]) rfl rfl (by kernel_rfl); intro vs5
    simp only [tkS, tkZ, drS, drZ]
    replace H := H.drew
    refine tp (r_move (v := .func (.func 158) #[] #[]) q27) <| tp (r_move (v := .int .u32 (((s3.2.1).toNat : Int))) rfl) <| t_callD (l := [.int .u32 (((s3.2.1).toNat : Int)), .int .i64 (2)]) rfl rfl rfl is158 rfl (fun w hx hF => (hash_state_next_1_c (H.ext hx).sub e20).mono (fun _ _ h => h)) <| tp (r_move (v := .func (.func 158) #[] #[]) q27) <| tp (r_move (v := .int .u32 (((s3.2.1).toNat : Int))) rfl) ?_
    refine t_callD (l := [.int .u32 (((s3.2.1).toNat : Int)), .int .i64 (13)]) rfl rfl rfl is158 rfl (fun w hx hF => (hash_state_next_1_c (H.ext hx).sub e21).mono (fun _ _ h => h)) <| tp (r_bits (bo := .xor) (by simp) rfl rfl (i32_xor _ _)) <| tp (r_move (v := .func (.func 158) #[] #[]) q27) <| tp (r_move (v := .int .u32 (((s3.2.1).toNat : Int))) rfl) ?_
    refine t_callD (l := [.int .u32 (((s3.2.1).toNat : Int)), .int .i64 (22)]) rfl rfl rfl is158 rfl (fun w hx hF => (hash_state_next_1_c (H.ext hx).sub e22).mono (fun _ _ h => h)) <| tp (r_bits (bo := .xor) (by simp) rfl rfl (i32_xor _ _)) <| tp (r_move (v := .int .u32 (((s3.2.1).toNat : Int))) rfl) <| tp (r_addrA (k := .i64) (i := 1) u171 sz107 q28 rfl rfl (by decide) (by decide)) ?_
    refine t_v (fun w hx => h_load1 (v := .int .u32 (((s3.2.2.1).toNat : Int))) to107 (H.ext hx) rfl (k := 0) rfl rfl) <| tp (r_bits (bo := .and) (by simp) rfl rfl (i32_and _ _)) <| tp (r_move (v := .int .u32 (((s3.2.1).toNat : Int))) rfl) <| tp (r_addrA (k := .i64) (i := 2) u171 sz107 q28 rfl rfl (by decide) (by decide)) ?_
    refine t_v (fun w hx => h_load1 (v := .int .u32 (((s3.2.2.2.1).toNat : Int))) to107 (H.ext hx) rfl (k := 0) rfl rfl) <| tp (r_bits (bo := .and) (by simp) rfl rfl (i32_and _ _)) <| tp (r_bits (bo := .xor) (by simp) rfl rfl (i32_xor _ _)) <| tp (r_addrA (k := .i64) (i := 1) u171 sz107 q28 rfl rfl (by decide) (by decide)) ?_
    refine t_v (fun w hx => h_load1 (v := .int .u32 (((s3.2.2.1).toNat : Int))) to107 (H.ext hx) rfl (k := 0) rfl rfl) <| tp (r_addrA (k := .i64) (i := 2) u171 sz107 q28 rfl rfl (by decide) (by decide)) <| t_v (fun w hx => h_load1 (v := .int .u32 (((s3.2.2.2.1).toNat : Int))) to107 (H.ext hx) rfl (k := 0) rfl rfl) <| tp (r_bits (bo := .and) (by simp) rfl rfl (i32_and _ _)) ?_
    refine tp (r_bits (bo := .xor) (by simp) rfl rfl (i32_xor _ _)) <| tp (r_add rfl rfl (i32_wrap _)) ?_
    refine t_nil (fun w18 hx hF hA => ?_)
    replace H := H.ext hx; clear hx hF hA
    refine asI rfl ?_
    refine wpList_nil ?_; refine on_norm ?_
    refine xn hK25 <| wp_seq_k fun K26 hK26 => ?_
    apply wp_region_ext 2 (kindsF []) rfl rfl (by kernel_rfl); intro vs6
    simp only [tkS, tkZ, drS, drZ]
    replace H := H.drew
    refine tp (r_sliceAL (p := 1) u171 tsz107 q28 rfl (Nat.le_of_ble_eq_true rfl)) <| tp (r_sliceAH (h := 7) u171 tsz107 q28 rfl (Nat.le_of_ble_eq_true rfl)) ?_
    refine t_nil (fun w19 hx hF hA => ?_)
    replace H := H.ext hx; clear hx hF hA
    refine p_ofc (c := .int .i64 7) (a_copyA (k := 0) (o1 := 1) (o2 := 0) (n := 7) (l := ([Value.int .u32 (((s3.2.1).toNat : Int))] ++ ([Value.int .u32 (((s3.2.2.1).toNat : Int))] ++ ([Value.int .u32 (((s3.2.2.2.1).toNat : Int))] ++ ([Value.int .u32 (((s3.2.2.2.2.1).toNat : Int))] ++ ([Value.int .u32 (((s3.2.2.2.2.2.1).toNat : Int))] ++ ([Value.int .u32 (((s3.2.2.2.2.2.2.1).toNat : Int))] ++ ([Value.int .u32 (((s3.2.2.2.2.2.2.2.1).toNat : Int))])))))))) u62 tsz107 H rfl rfl rfl rfl rfl rfl rfl (onz rfl)) fun w20 H => ?_
    replace H := hsn H
    refine wpList_nil ?_; refine on_norm ?_
    refine xn hK26 <| sr fun K27 hK27 => p_val (r_addrA (k := .i64) (i := 4) u171 sz107 q28 rfl rfl (by decide) (by decide)) <| p_val (h_load1 (v := .int .u32 (((s3.2.2.2.2.1).toNat : Int))) to107 H rfl (k := 0) rfl rfl) <| mvI rfl <| p_val (r_add rfl rfl (i32_wrap _)) <| p_val (r_addrA (k := .i64) (i := 4) u171 sz107 q28 rfl rfl (by decide) (by decide)) ?_
    refine p_ofs (a_store (k := 0) (l := [Value.int .u32 ((((i32 (((s3.2.2.2.2.1).toNat : Int) + (((i32 ((((i32 ((((i32 ((((i32 (((s3.2.2.2.2.2.2.2.2).toNat : Int) + ((((y15 ^^^ y16) ^^^ y17)).toNat : Int)))).toNat : Int) + ((((s3.2.2.2.2.2.1 &&& s3.2.2.2.2.2.2.1) ^^^ (((4294967295 : UInt32) ^^^ s3.2.2.2.2.2.1) &&& s3.2.2.2.2.2.2.2.1))).toNat : Int)))).toNat : Int) + ((y18).toNat : Int)))).toNat : Int) + ((y19).toNat : Int)))).toNat : Int)))).toNat : Int))]) tsz107 H rfl rfl rfl (cells_one rfl) rfl (onz rfl) rfl) fun w21 H => ?_
    replace H := hsn H
    refine xk hK27 <| wp_region_lit <| mvI rfl <| mvI rfl <| p_val (r_add rfl rfl (i32_wrap _)) <| p_val (r_addrA (k := .i64) (i := 0) u171 sz107 q28 rfl rfl (by decide) (by decide)) ?_
    refine p_ofs (a_store (k := 0) (l := [Value.int .u32 ((((i32 ((((i32 ((((i32 ((((i32 ((((i32 (((s3.2.2.2.2.2.2.2.2).toNat : Int) + ((((y15 ^^^ y16) ^^^ y17)).toNat : Int)))).toNat : Int) + ((((s3.2.2.2.2.2.1 &&& s3.2.2.2.2.2.2.1) ^^^ (((4294967295 : UInt32) ^^^ s3.2.2.2.2.2.1) &&& s3.2.2.2.2.2.2.2.1))).toNat : Int)))).toNat : Int) + ((y18).toNat : Int)))).toNat : Int) + ((y19).toNat : Int)))).toNat : Int) + (((i32 (((((y20 ^^^ y21) ^^^ y22)).toNat : Int) + (((((s3.2.1 &&& s3.2.2.1) ^^^ (s3.2.1 &&& s3.2.2.2.1)) ^^^ (s3.2.2.1 &&& s3.2.2.2.1))).toNat : Int)))).toNat : Int)))).toNat : Int))]) tsz107 H rfl rfl rfl (cells_one rfl) rfl (onz rfl) rfl) fun w22 H => ?_
    replace H := hsn H
    refine wpList_nil <| b_norm <| xn hK21 <| wp_region_lit <| p_val (r_addI q22 rfl) <| mvI rfl <| wpList_nil <| x_norm ?_
    replace H := hsn H
    obtain rfl := osi hb3
    exact ⟨((w64 (s3.1 + 1)), (i32 ((((i32 ((((i32 ((((i32 ((((i32 (((s3.2.2.2.2.2.2.2.2).toNat : Int) + ((((y15 ^^^ y16) ^^^ y17)).toNat : Int)))).toNat : Int) + ((((s3.2.2.2.2.2.1 &&& s3.2.2.2.2.2.2.1) ^^^ (((4294967295 : UInt32) ^^^ s3.2.2.2.2.2.1) &&& s3.2.2.2.2.2.2.2.1))).toNat : Int)))).toNat : Int) + ((y18).toNat : Int)))).toNat : Int) + ((y19).toNat : Int)))).toNat : Int) + (((i32 (((((y20 ^^^ y21) ^^^ y22)).toNat : Int) + (((((s3.2.1 &&& s3.2.2.1) ^^^ (s3.2.1 &&& s3.2.2.2.1)) ^^^ (s3.2.2.1 &&& s3.2.2.2.1))).toNat : Int)))).toNat : Int))), s3.2.1, s3.2.2.1, s3.2.2.2.1, (i32 (((s3.2.2.2.2.1).toNat : Int) + (((i32 ((((i32 ((((i32 ((((i32 (((s3.2.2.2.2.2.2.2.2).toNat : Int) + ((((y15 ^^^ y16) ^^^ y17)).toNat : Int)))).toNat : Int) + ((((s3.2.2.2.2.2.1 &&& s3.2.2.2.2.2.2.1) ^^^ (((4294967295 : UInt32) ^^^ s3.2.2.2.2.2.1) &&& s3.2.2.2.2.2.2.2.1))).toNat : Int)))).toNat : Int) + ((y18).toNat : Int)))).toNat : Int) + ((y19).toNat : Int)))).toNat : Int))), s3.2.2.2.2.2.1, s3.2.2.2.2.2.2.1, s3.2.2.2.2.2.2.2.1), _, rfl, (kS k13 rfl kcx), ⟨rfl, H⟩, hh3⟩
   ·replace hb3 := cnd_f hb3 hc3
    refine wp_exit <| x_exit <| x_exit <| b_hit <| x_norm ?_
    replace H := hsn H
    obtain rfl := osi hb3
    obtain rfl := osi hh3
    obtain rfl := osi hE6
    exact J2 _ _ (kS k13 rfl (kN k12 kcx)) H
  refine sr fun K11 hK11 => asI rfl <| xk hK11 <| wp_block <| nameF fun m6 k7 => bn hE3 fun out2 hL2 hE4 => ?_
  replace H := hsn H
  refine loopI (10 :: 11 :: 12 :: rg 36 45 []) (fun (s2 : Int × (Vec UInt32 64)) (m7 : FM) (w8 : World) => look m7 10 = .int .i64 (s2.1) ∧ HS ⟨S, keysR [.blk b2_ ((vcl cU32 x2)) 168], w⟩ S w8 [.blk b3 ((vcl cU32 s2.2)) 168, .blk b2 ((cl171 ((0 : UInt32), (0 : UInt32), (0 : UInt32), (0 : UInt32), (0 : UInt32), (0 : UInt32), (0 : UInt32), (0 : UInt32)))) 171, .blk b1 ((cl171 x0)) 171, .blk b2_ ((vcl cU32 x2)) 168]) hL2 ⟨(k7 10), H⟩ ?_
  clear H; intro k9 s2 m7 w8 k8 hI2 o4 hb2 hh2; obtain ⟨q11, H⟩ := hI2
  have q12 := (k8 2 rfl).trans ((k7 2).trans ((k6 2).trans q7))
  have q13 := (k8 3 rfl).trans ((k7 3).trans ((k6 3).trans q8))
  have q14 := (k8 6 rfl).trans ((k7 6).trans ((k6 6).trans q9))
  have q15 := (k8 7 rfl).trans ((k7 7).trans ((k6 7).trans q10))
  have q16 : look m7 9 = .func (.func 158) #[] #[] := (k8 9 rfl).trans ((k7 9).trans (k6 9))
  unfold hash_state_next_b1 at hb2
  refine wp_seq_k fun K12 hK12 => sr fun K13 hK13 => p_mv q11 <| p_val (r_lssI rfl rfl) <| xk hK13 ?_
  refine c_split rfl (fun hc2 => ?_) (fun hc2 => ?_)
  ·replace hb2 := cnd_t hb2 hc2
   refine wp_skip <| xn hK12 <| wp_seq_k fun K14 hK14 => wp_block <| wp_seq_k fun K15 hK15 => bn hb2 fun y5 e5 hb2 => bn hb2 fun y6 e6 hb2 => ?_
   apply wp_region_ext 9 (kindsF []) rfl rfl (by kernel_rfl); intro vs1
   simp only [tkS, tkZ, drS, drZ]
   replace H := H.drew
   refine tp (r_move q11) <| tp (r_subI rfl rfl) <| tp (r_addrA (i := ((w64 (s2.1 - 15)) : Int).toNat) u168 sz107 q15 rfl rfl (by have h1_ := (idx_some e5).1; omega) (by have h1_ := (idx_some e5).1; have h2_ := idx_ltV e5; omega)) ?_
   refine t_v (fun w hx => h_loadV (X := s2.2) (cf := fun a_ : UInt32 => Value.int .u32 (((a_).toNat : Int))) to107 (H.ext hx) rfl (k := 0) rfl e5) <| tp (r_move q11) <| tp (r_subI rfl rfl) <| tp (r_addrA (i := ((w64 (s2.1 - 2)) : Int).toNat) u168 sz107 q15 rfl rfl (by have h1_ := (idx_some e6).1; omega) (by have h1_ := (idx_some e6).1; have h2_ := idx_ltV e6; omega)) ?_
   refine t_v (fun w hx => h_loadV (X := s2.2) (cf := fun a_ : UInt32 => Value.int .u32 (((a_).toNat : Int))) to107 (H.ext hx) rfl (k := 0) rfl e6) <| tp (r_assign (v := .int .u32 (((y5).toNat : Int))) rfl) ?_
   refine t_nil (fun w9 hx hF hA => ?_)
   replace H := H.ext hx; clear hx hF hA
   refine asI rfl ?_
   refine wpList_nil ?_; refine on_norm ?_
   refine xn hK15 <| bn hb2 fun y7 e7 hb2 => bn hb2 fun y8 e8 hb2 => bn hb2 fun y9 e9 hb2 => bn hb2 fun y10 e10 hb2 => bn hb2 fun y11 e11 hb2 => bn hb2 fun y12 e12 hb2 => bn hb2 fun y13 e13 hb2 => ?_
   apply wp_region_ext 33 (kindsF [(7, .inl (.int .u32 (((y8).toNat : Int)))), (10, .inl (.int .u32 (((y9).toNat : Int)))), (23, .inl (.int .u32 (((y11).toNat : Int)))), (26, .inl (.int .u32 (((y12).toNat : Int))))]) rfl rfl (by kernel_rfl); intro vs2
   simp only [tkS, tkZ, drS, drZ]
   replace H := H.drew
   refine tp (r_move q11) <| tp (r_move q11) <| tp (r_subI rfl rfl) <| tp (r_addrA (i := ((w64 (s2.1 - 16)) : Int).toNat) u168 sz107 q15 rfl rfl (by have h1_ := (idx_some e7).1; omega) (by have h1_ := (idx_some e7).1; have h2_ := idx_ltV e7; omega)) ?_
   refine t_v (fun w hx => h_loadV (X := s2.2) (cf := fun a_ : UInt32 => Value.int .u32 (((a_).toNat : Int))) to107 (H.ext hx) rfl (k := 0) rfl e7) <| tp (r_move (v := .func (.func 158) #[] #[]) q16) <| tp (r_move (v := .int .u32 (((y5).toNat : Int))) rfl) ?_
   refine t_callD (l := [.int .u32 (((y5).toNat : Int)), .int .i64 (7)]) rfl rfl rfl is158 rfl (fun w hx hF => (hash_state_next_1_c (H.ext hx).sub e8).mono (fun _ _ h => h)) <| tp (r_move (v := .func (.func 158) #[] #[]) q16) <| tp (r_move (v := .int .u32 (((y5).toNat : Int))) rfl) ?_
   refine t_callD (l := [.int .u32 (((y5).toNat : Int)), .int .i64 (18)]) rfl rfl rfl is158 rfl (fun w hx hF => (hash_state_next_1_c (H.ext hx).sub e9).mono (fun _ _ h => h)) <| tp (r_bits (bo := .xor) (by simp) rfl rfl (i32_xor _ _)) <| tp (r_move (v := .int .u32 (((y5).toNat : Int))) rfl) <| tp (r_shr rfl rfl (by decide) (i32_shr _ _)) <| tp (r_bits (bo := .xor) (by simp) rfl rfl (i32_xor _ _)) ?_
   refine tp (r_add rfl rfl (i32_wrap _)) <| tp (r_move q11) <| tp (r_subI rfl rfl) <| tp (r_addrA (i := ((w64 (s2.1 - 7)) : Int).toNat) u168 sz107 q15 rfl rfl (by have h1_ := (idx_some e10).1; omega) (by have h1_ := (idx_some e10).1; have h2_ := idx_ltV e10; omega)) ?_
   refine t_v (fun w hx => h_loadV (X := s2.2) (cf := fun a_ : UInt32 => Value.int .u32 (((a_).toNat : Int))) to107 (H.ext hx) rfl (k := 0) rfl e10) <| tp (r_add rfl rfl (i32_wrap _)) <| tp (r_move (v := .func (.func 158) #[] #[]) q16) <| tp (r_move (v := .int .u32 (((y6).toNat : Int))) rfl) ?_
   refine t_callD (l := [.int .u32 (((y6).toNat : Int)), .int .i64 (17)]) rfl rfl rfl is158 rfl (fun w hx hF => (hash_state_next_1_c (H.ext hx).sub e11).mono (fun _ _ h => h)) <| tp (r_move (v := .func (.func 158) #[] #[]) q16) <| tp (r_move (v := .int .u32 (((y6).toNat : Int))) rfl) ?_
   refine t_callD (l := [.int .u32 (((y6).toNat : Int)), .int .i64 (19)]) rfl rfl rfl is158 rfl (fun w hx hF => (hash_state_next_1_c (H.ext hx).sub e12).mono (fun _ _ h => h)) <| tp (r_bits (bo := .xor) (by simp) rfl rfl (i32_xor _ _)) <| tp (r_move (v := .int .u32 (((y6).toNat : Int))) rfl) <| tp (r_shr rfl rfl (by decide) (i32_shr _ _)) <| tp (r_bits (bo := .xor) (by simp) rfl rfl (i32_xor _ _)) ?_
   refine tp (r_add rfl rfl (i32_wrap _)) <| tp (r_addrA (i := (s2.1 : Int).toNat) u168 sz107 q15 rfl rfl (by have h1_ := (idx_some e13).1; omega) (by have h1_ := (idx_some e13).1; have h2_ := idx_ltV e13; omega)) ?_
   refine t_nil (fun w10 hx hF hA => ?_)
   replace H := H.ext hx; clear hx hF hA
   refine bn hb2 fun y14 e14 hb2 => ?_
   refine p_ofs (a_storeV (X := s2.2) (cf := fun a_ : UInt32 => Value.int .u32 (((a_).toNat : Int))) (u := (i32 ((((i32 ((((i32 (((y7).toNat : Int) + ((((y8 ^^^ y9) ^^^ (i32 (shrI .u32 ((y5).toNat : Int) 3)))).toNat : Int)))).toNat : Int) + ((y10).toNat : Int)))).toNat : Int) + ((((y11 ^^^ y12) ^^^ (i32 (shrI .u32 ((y6).toNat : Int) 10)))).toNat : Int)))) (k := 0) tsz107 H rfl rfl rfl rfl e14) fun w11 H => ?_
   replace H := hsn H
   refine wpList_nil ?_; refine on_norm ?_
   refine b_norm <| xn hK14 <| wp_region_lit <| p_mv q11 <| p_val (r_addI rfl rfl) <| asI rfl <| wpList_nil <| x_norm ?_
   replace H := hsn H
   obtain rfl := osi hb2
   exact ⟨((w64 (s2.1 + 1)), y14), _, rfl, (kS k8 rfl kcx), ⟨rfl, H⟩, hh2⟩
  ·replace hb2 := cnd_f hb2 hc2
   refine wp_exit <| x_exit <| x_exit <| b_hit <| x_norm ?_
   replace H := hsn H
   obtain rfl := osi hb2
   obtain rfl := osi hh2
   obtain rfl := osi hE4
   exact J3 _ _ (kS k8 rfl (kN k7 kcx)) H
 refine sr fun K4 hK4 => mvI rfl <| xk hK4 <| wp_block <| nameF fun m2 k2 => bn hE1 fun out1 hL1 hE2 => ?_
 replace H := hsn H
 refine loopI (8 :: rg 20 16 []) (fun (s1 : Int × (Vec UInt32 64)) (m3 : FM) (w4 : World) => look m3 20 = .int .i64 (s1.1) ∧ HS ⟨S, keysR [.blk b2_ ((vcl cU32 x2)) 168], w⟩ S w4 [.blk b3 ((vcl cU32 s1.2)) 168, .blk b2 ((cl171 ((0 : UInt32), (0 : UInt32), (0 : UInt32), (0 : UInt32), (0 : UInt32), (0 : UInt32), (0 : UInt32), (0 : UInt32)))) 171, .blk b1 ((cl171 x0)) 171, .blk b2_ ((vcl cU32 x2)) 168]) hL1 ⟨(k2 20), H⟩ ?_
 clear H; intro k4 s1 m3 w4 k3 hI1 o2 hb1 hh1; obtain ⟨q1, H⟩ := hI1
 have q2 : look m3 1 = v1_ := (k3 1 rfl).trans ((k2 1).trans (k1 1))
 have q3 : look m3 2 = .pointer (some ⟨b2_, 0, none⟩) := (k3 2 rfl).trans ((k2 2).trans (k1 2))
 have q4 : look m3 3 = .pointer (some ⟨b1, 0, none⟩) := (k3 3 rfl).trans ((k2 3).trans (k1 3))
 have q5 : look m3 6 = .pointer (some ⟨b2, 0, none⟩) := (k3 6 rfl).trans ((k2 6).trans (k1 6))
 have q6 : look m3 7 = .pointer (some ⟨b3, 0, none⟩) := (k3 7 rfl).trans ((k2 7).trans (k1 7))
 unfold hash_state_next_b0 at hb1
 refine sr fun K5 hK5 => p_val (r_lssI q1 rfl) <| xk hK5 <| wp_seq_k fun K6 hK6 => ?_
 refine c_split rfl (fun hc1 => ?_) (fun hc1 => ?_)
 ·replace hb1 := cnd_t hb1 hc1
  refine wp_skip <| xn hK6 <| wp_seq_k fun K7 hK7 => wp_block <| sr fun K8 hK8 => p_mv q1 <| asI rfl <| xk hK8 <| wp_region_lit ?_
  refine mvI rfl <| p_mv (v := v1_) q2 <| mvI rfl <| p_val (r_mulI rfl rfl) <| mvI rfl <| p_val (r_mulI rfl rfl) <| p_val (r_addI rfl rfl) <| bn hb1 fun y1 e1 hb1 => p_val (r_subLH (p := ((w64 ((4 : Int) * s1.1)) : Int).toNat) (h := ((w64 ((w64 ((4 : Int) * s1.1)) + 4)) : Int).toNat) u127 tsz5 rfl rfl rfl (sub3_some e1).1 (sub3_some e1).2.1 h1_ (sub3_some e1).2.2.1 (sub3_some e1).2.2.2.1) ?_
  have g1 : RdS S (subN v1_ 1 ((w64 ((4 : Int) * s1.1)) : Int).toNat ((w64 ((w64 ((4 : Int) * s1.1)) + 4)) : Int).toNat) y1 := RdS.subLH h1_ e1
  refine p_val (r_strS u127 u5 u9 rfl g1 H.sub) <| bn hb1 fun y2 e2 hb1 => p_call (l := [str (y1)]) is157 rfl <| (hash_value_c H.sub e2).mono <| H.xe fun w5 H => p_val (r_conv u22 u107 rfl (i32_wrap _)) <| bn hb1 fun y3 e3 hb1 => p_val (r_addrA (i := (s1.1 : Int).toNat) u168 sz107 q6 rfl rfl (by have h1_ := (idx_some e3).1; omega) (by have h1_ := (idx_some e3).1; have h2_ := idx_ltV e3; omega)) ?_
  refine bn hb1 fun y4 e4 hb1 => p_ofs (a_storeV (X := s1.2) (cf := fun a_ : UInt32 => Value.int .u32 (((a_).toNat : Int))) (u := (i32 ((y2).toNat : Int))) (k := 0) tsz107 H rfl rfl rfl rfl e4) fun w6 H => ?_
  replace H := hsn H
  refine wpList_nil <| b_norm <| xn hK7 <| wp_region_lit <| p_val (r_addI q1 rfl) <| mvI rfl <| wpList_nil <| x_norm ?_
  replace H := hsn H
  obtain rfl := osi hb1
  exact ⟨((w64 (s1.1 + 1)), y4), _, rfl, (kS k3 rfl kcx), ⟨rfl, H⟩, hh1⟩
 ·replace hb1 := cnd_f hb1 hc1
  refine wp_exit <| x_exit <| x_exit <| b_hit <| x_norm ?_
  replace H := hsn H
  obtain rfl := osi hb1
  obtain rfl := osi hh1
  obtain rfl := osi hE2
  exact J4 _ _ (kS k3 rfl (kN k2 kcx)) H
def hash_Sum_b0 (s1 : (List UInt8)) : Option (((List UInt8)) ⊕ ((List UInt8))) :=
  bif ((Int.tmod ((s1).length : Int) 64) != 56) then (Option.bind (app s1 ([(0 : UInt8)] : List UInt8)) fun y2 => some (.inl (y2))) else (some (.inr (s1)))
def hash_Sum_b1 (s2 : (List UInt8) × UInt32 × UInt32 × UInt32 × UInt32 × UInt32 × UInt32 × UInt32 × UInt32 × (Vec UInt32 64)) : Option (((List UInt8) × UInt32 × UInt32 × UInt32 × UInt32 × UInt32 × UInt32 × UInt32 × UInt32 × (Vec UInt32 64)) ⊕ (UInt32 × UInt32 × UInt32 × UInt32 × UInt32 × UInt32 × UInt32 × UInt32 × (Vec UInt32 64))) :=
  bif decide ((0 : Int) < ((s2.1).length : Int)) then (Option.bind (subH s2.1 64) fun y5 => Option.bind (hash_state_next_p (s2.2.1, s2.2.2.1, s2.2.2.2.1, s2.2.2.2.2.1, s2.2.2.2.2.2.1, s2.2.2.2.2.2.2.1, s2.2.2.2.2.2.2.2.1, s2.2.2.2.2.2.2.2.2.1) y5 s2.2.2.2.2.2.2.2.2.2) fun y6 => Option.bind (subL s2.1 64) fun y7 => some (.inl ((y7, y6.1.1, y6.1.2.1, y6.1.2.2.1, y6.1.2.2.2.1, y6.1.2.2.2.2.1, y6.1.2.2.2.2.2.1, y6.1.2.2.2.2.2.2.1, y6.1.2.2.2.2.2.2.2, y6.2)))) else (some (.inr ((s2.2.1, s2.2.2.1, s2.2.2.2.1, s2.2.2.2.2.1, s2.2.2.2.2.2.1, s2.2.2.2.2.2.2.1, s2.2.2.2.2.2.2.2.1, s2.2.2.2.2.2.2.2.2.1, s2.2.2.2.2.2.2.2.2.2))))
def hash_Sum_b2 (t2 : UInt32 × UInt32 × UInt32 × UInt32 × UInt32 × UInt32 × UInt32 × UInt32 × (Vec UInt32 64)) (s3 : (List UInt8) × Int) : Option (((List UInt8) × Int) ⊕ ((List UInt8))) :=
  bif decide (s3.2 < 8) then (Option.bind (idx ([t2.1, t2.2.1, t2.2.2.1, t2.2.2.2.1, t2.2.2.2.2.1, t2.2.2.2.2.2.1, t2.2.2.2.2.2.2.1, t2.2.2.2.2.2.2.2.1] : List UInt32) s3.2) fun y8 => Option.bind (hash_big_p s3.1 (i64 ((y8).toNat : Int)) 4) fun y9 => some (.inl ((y9, (w64 (s3.2 + 1)))))) else (some (.inr (s3.1)))
def hash_Sum_p (x0 : List UInt8) : Option ((List UInt8)) :=
  Option.bind (app x0 ([(128 : UInt8)] : List UInt8)) fun y1 => Option.bind (Option.bind (iter (hash_Sum_b0) (y1)) (fun e => some (e))) (fun t1 => Option.bind (hash_big_p t1 (i64 ((8 : Int) * (((i64 ((x0).length : Int))).toNat : Int))) 8) fun y3 => Option.bind (hash_keys_p) fun y4 => Option.bind (Option.bind (iter (hash_Sum_b1) ((y3, (1779033703 : UInt32), (3144134277 : UInt32), (1013904242 : UInt32), (2773480762 : UInt32), (1359893119 : UInt32), (2600822924 : UInt32), (528734635 : UInt32), (1541459225 : UInt32), y4))) (fun e => some (e))) (fun t2 => Option.bind (Option.bind (iter (hash_Sum_b2 t2) ((([] : List UInt8), 0))) (fun e => some (e))) (fun t3 => some (t3))))
theorem hash_Sum_c {S : Mem} {w : World} (hS : Sub S w) {x0 : List UInt8} {r : (List UInt8)} (hF : hash_Sum_p x0 = some r) :
    Calls Tryz.prog 87 #[str (x0)] w fun e w' => e = .returned (str (r)) ∧ Ext w w' := by
 refine enter (n := 48) Tryz.func87 rfl rfl rfl ?_
 have H := HS.start hS
 unfold hash_Sum_p at hF
 refine sr fun K1 hK1 => asT rfl <| xk hK1 <| sr fun K2 hK2 => mvT rfl <| p_of1 (a_bytes (l := x0) u9 u127 u5 H rfl) ?_; clear H; rintro w1 v1 ⟨rs1, H⟩
 have g1 : RL S (u8s x0) x0 := RL.of_u8s _
 replace H := hsn H
 refine p_of2 (a_bsliceG (N := 1) (xs := ([(128 : UInt8)] : List UInt8)) (RL.cons (rpU8c (x := (128 : UInt8)) rfl) RL.nil) tn127 H rfl rfl rfl) fun w2 v2 cs1 H g2 => ?_
 replace H := hsn H
 refine bn hF fun y1 e1 hF => p_of3 (a_appendX (k := 1) (v2 := v2) tn127 rfl H rfl rfl g1 rfl (H.slW (k := 0) rfl) g2 e1) fun w3 v3 cs2 rs2 H g3 => ?_
 replace H := hsn H
 replace H := H.sel [1] rfl
 replace H := hsn H
 refine p_as (v := v3) rfl <| xk hK2 <| wp_seq_k fun K3 hK3 => nameF fun m1 k1 => bn hF fun t1 hE1 hF1 => ?_
 have J3 : ∀ (v7 : Value) (cs6 rs5 : List Value) (m4 : FM) (w7 : World), (∀ t, has (3 :: rg 13 7 []) t = false → look m4 t = look m1 t) → look m4 3 = v7 → HS ⟨S, [], w⟩ S w7 [.osl (v7) (t1).length 1 cs6 rs5 5] → RL S cs6 t1 → K3 (fr 48 m4) w7 := by
  clear H; intro v7 cs6 rs5 m4 w7 k5 q3 H g7
  have q4 : look m4 0 = str (x0) := (k5 0 rfl).trans (k1 0)
  refine hK3 _ _ <| sr fun K6 hK6 => p_mv (v := v7) q3 <| p_mv q4 <| p_val (r_lenT (N := (x0).length) u9 rfl rfl) <| p_val (r_conv u3 u22 rfl (i64_wrap _)) <| p_val (r_mul rfl rfl (i64_wrap _)) <| bn hF1 fun y3 e3 hF1 => p_call (l := [v7, .int .u64 ((((i64 ((8 : Int) * (((i64 ((x0).length : Int))).toNat : Int)))).toNat : Int)), .int .i64 (8)]) is135 rfl ?_
  refine (hash_big_c (H.hand [0] rfl) g7 e3).mono ?_; rintro _ w8 ⟨S1, pv1, pcs1, prs1, rfl, H2, pg1⟩
  obtain ⟨H1, hle1⟩ := H.frame [0] [] rfl H2; clear H H2; have H := H1; clear H1
  replace H := hsn H
  refine p_as (v := pv1) rfl <| xk hK6 <| sr fun K7 hK7 => bn hF1 fun y4 e4 hF1 => p_call (l := []) is136 rfl <| (hash_keys_c H.sub e4).mono <| H.xe fun w9 H => p_ofb (a_alloc (l := (vcl cU32 (vrep 64 (0 : UInt32)))) H tz168 rfl) fun w10 b1 H => ?_
  refine p_ofs (a_storeVW (X := (vrep 64 (0 : UInt32))) (Y := y4) (cf := fun a_ : UInt32 => Value.int .u32 (((a_).toNat : Int))) (k := 0) tsz168 H rfl rfl rfl (fun _ => rfl)) fun w11 H => ?_
  replace H := hsn H
  refine xk hK7 <| sr fun K8 hK8 => ?_
  refine p_val (r_build (vals := [(0, .int .u32 (1779033703)), (1, .int .u32 (3144134277)), (2, .int .u32 (1013904242)), (3, .int .u32 (2773480762)), (4, .int .u32 (1359893119)), (5, .int .u32 (2600822924)), (6, .int .u32 (528734635)), (7, .int .u32 (1541459225))]) (l := (cl171 ((1779033703 : UInt32), (3144134277 : UInt32), (1013904242 : UInt32), (2773480762 : UInt32), (1359893119 : UInt32), (2600822924 : UInt32), (528734635 : UInt32), (1541459225 : UInt32)))) tb171 rfl rfl) ?_
  refine p_ofb (a_alloc (l := (cl171 ((0 : UInt32), (0 : UInt32), (0 : UInt32), (0 : UInt32), (0 : UInt32), (0 : UInt32), (0 : UInt32), (0 : UInt32)))) H tz171 rfl) fun w12 b2 H => ?_
  refine p_ofs (a_store (k := 0) (l := (cl171 ((1779033703 : UInt32), (3144134277 : UInt32), (1013904242 : UInt32), (2773480762 : UInt32), (1359893119 : UInt32), (2600822924 : UInt32), (528734635 : UInt32), (1541459225 : UInt32)))) tsz171 H rfl rfl rfl (cells_agg _) rfl (onz rfl) rfl) fun w13 H => ?_
  replace H := hsn H
  refine xk hK8 <| wp_seq_k fun K9 hK9 => ?_
  obtain ⟨S2, hle2, g8, H1⟩ := H.fixX (k := 2) rfl pg1; clear H; have H := H1; clear H1
  replace H := hsn H
  refine nameF fun m5 k6 => bn hF1 fun t2 hE3 hF2 => ?_
  have J2 : ∀ (S5 : Mem) (m8 : FM) (w18 : World), (∀ t, has (3 :: rg 28 9 []) t = false → look m8 t = look m5 t) → Mem.le S2 S5 → HS ⟨S, [], w⟩ S5 w18 [.blk b2 ((cl171 (t2.1, t2.2.1, t2.2.2.1, t2.2.2.2.1, t2.2.2.2.2.1, t2.2.2.2.2.2.1, t2.2.2.2.2.2.2.1, t2.2.2.2.2.2.2.2.1))) 171, .blk b1 ((vcl cU32 t2.2.2.2.2.2.2.2.2)) 168] → K9 (fr 48 m8) w18 := by
   clear H; intro S5 m8 w18 k10 hle5 H
   replace g8 := g8.mono hle5
   have q8 : look m8 5 = .pointer (some ⟨b2, 0, none⟩) := (k10 5 rfl).trans (k6 5)
   refine hK9 _ _ <| sr fun K13 hK13 => asN rfl <| xk hK13 <| wp_seq_k fun K14 hK14 => nameF fun m9 k11 => bn hF2 fun t3 hE5 hF3 => ?_
   have J1 : ∀ (v10 : Value) (cs8 rs7 : List Value) (S8 : Mem) (m12 : FM) (w21 : World), (∀ t, has (6 :: 8 :: rg 37 9 []) t = false → look m12 t = look m9 t) → look m12 6 = v10 → Mem.le S5 S8 → HS ⟨S, [], w⟩ S8 w21 [.osl (v10) (t3).length 1 cs8 rs7 5, .blk b2 ((cl171 (t2.1, t2.2.1, t2.2.2.1, t2.2.2.2.1, t2.2.2.2.2.1, t2.2.2.2.2.2.1, t2.2.2.2.2.2.2.1, t2.2.2.2.2.2.2.2.1))) 171, .blk b1 ((vcl cU32 t2.2.2.2.2.2.2.2.2)) 168] → RL S8 cs8 t3 → K14 (fr 48 m12) w21 := by
    clear H; intro v10 cs8 rs7 S8 m12 w21 k15 q12 hle8 H g14
    replace g8 := g8.mono hle8
    refine hK14 _ _ <| sr fun K20 hK20 => p_mv (v := v10) q12 <| p_val (r_strO u127 u5 u9 rfl H (k := 0) rfl g14) <| asT rfl <| xk hK20 <| wp_ret ?_
    obtain rfl := osi hF3
    refine e_1 rfl (q_tmp rfl) ?_
    exact ⟨rfl, H.toExt⟩
   refine sr fun K15 hK15 => p_val (h_load (l := (cl171 (t2.1, t2.2.1, t2.2.2.1, t2.2.2.2.1, t2.2.2.2.2.1, t2.2.2.2.2.2.1, t2.2.2.2.2.2.2.1, t2.2.2.2.2.2.2.2.1))) tg171 H ((k11 5).trans q8) (k := 0) rfl rfl rfl) <| mvI rfl <| xk hK15 <| wp_block <| nameF fun m10 k12 => bn hE5 fun out3 hL3 hE6 => ?_
   replace H := H.nilOwn 1 5; have g13 : RL S5 [] ([] : List UInt8) := RL.nil
   replace H := hsn H
   refine loopI (6 :: 8 :: rg 38 8 []) (fun (s3 : (List UInt8) × Int) (m11 : FM) (w19 : World) => ∃ (S6 : Mem) (v9 : Value) (cs7 rs6 : List Value), look m11 6 = v9 ∧ look m11 38 = .int .i64 (s3.2) ∧ Mem.le S5 S6 ∧ HS ⟨S, [], w⟩ S6 w19 [.osl (v9) (s3.1).length 1 cs7 rs6 5, .blk b2 ((cl171 (t2.1, t2.2.1, t2.2.2.1, t2.2.2.2.1, t2.2.2.2.2.1, t2.2.2.2.2.2.1, t2.2.2.2.2.2.2.1, t2.2.2.2.2.2.2.2.1))) 171, .blk b1 ((vcl cU32 t2.2.2.2.2.2.2.2.2)) 168] ∧ RL S6 cs7 s3.1) hL3 ⟨_, _, _, _, (show _ = (.slice none 0 0 : Value) from ((k12 6).trans (k11 6))), (k12 38), (Mem.le_refl _), H, g13⟩ ?_
   clear H; intro k14 s3 m11 w19 k13 hI3 o6 hb3 hh3; obtain ⟨S6, v9, cs7, rs6, q9, q10, hle6, H, g12⟩ := hI3
   replace g8 := g8.mono hle6
   have q11 : look m11 37 = .agg ((cl171 (t2.1, t2.2.1, t2.2.2.1, t2.2.2.2.1, t2.2.2.2.2.1, t2.2.2.2.2.2.1, t2.2.2.2.2.2.2.1, t2.2.2.2.2.2.2.2.1))).toArray := (k13 37 rfl).trans (k12 37)
   unfold hash_Sum_b2 at hb3
   refine sr fun K16 hK16 => p_val (r_lssI q10 rfl) <| xk hK16 <| wp_seq_k fun K17 hK17 => ?_
   refine c_split rfl (fun hc3 => ?_) (fun hc3 => ?_)
   ·replace hb3 := cnd_t hb3 hc3
    refine wp_skip <| xn hK17 <| wp_seq_k fun K18 hK18 => wp_block <| sr fun K19 hK19 => bn hb3 fun y8 e8 hb3 => p_val (r_idxAV (cf := fun a_ : UInt32 => Value.int .u32 (((a_).toNat : Int))) u171 to107 q11 q10 rfl rfl e8) <| asI rfl <| xk hK19 ?_
    refine wp_region_lit <| p_mv (v := v9) q9 <| mvI rfl <| p_val (r_conv u107 u22 rfl (i64_wrap _)) <| bn hb3 fun y9 e9 hb3 => p_call (l := [v9, .int .u64 ((((i64 ((y8).toNat : Int))).toNat : Int)), .int .i64 (4)]) is135 rfl <| (hash_big_c (H.hand [0] rfl) g12 e9).mono ?_; rintro _ w20 ⟨S7, pv2, pcs2, prs2, rfl, H2, pg2⟩
    obtain ⟨H1, hle7⟩ := H.frame [0] [1, 2] rfl H2; clear H H2; have H := H1; clear H1
    replace H := hsn H
    refine p_as (v := pv2) rfl <| wpList_nil <| b_norm <| xn hK18 <| wp_region_lit <| p_val (r_addI q10 rfl) <| mvI rfl <| wpList_nil <| x_norm ?_
    replace H := hsn H
    obtain rfl := osi hb3
    exact ⟨(y9, (w64 (s3.2 + 1))), _, rfl, (kS k13 rfl kcx), ⟨_, _, _, _, rfl, rfl, (Mem.le_trans hle6 hle7), H, pg2⟩, hh3⟩
   ·replace hb3 := cnd_f hb3 hc3
    refine wp_exit <| x_exit <| x_exit <| b_hit <| x_norm ?_
    replace H := hsn H
    obtain rfl := osi hb3
    obtain rfl := osi hh3
    obtain rfl := osi hE6
    exact J1 _ _ _ _ _ _ (kS k13 rfl (kN k12 kcx)) (show _ = (v9 : Value) from q9) hle6 H g12
  refine wp_block <| nameF fun m6 k7 => bn hE3 fun out2 hL2 hE4 => ?_
  replace H := hsn H
  refine loopI (3 :: rg 28 9 []) (fun (s2 : (List UInt8) × UInt32 × UInt32 × UInt32 × UInt32 × UInt32 × UInt32 × UInt32 × UInt32 × (Vec UInt32 64)) (m7 : FM) (w14 : World) => ∃ (S3 : Mem) (v8 : Value), look m7 3 = v8 ∧ Mem.le S2 S3 ∧ HS ⟨S, [], w⟩ S3 w14 [.blk b2 ((cl171 (s2.2.1, s2.2.2.1, s2.2.2.2.1, s2.2.2.2.2.1, s2.2.2.2.2.2.1, s2.2.2.2.2.2.2.1, s2.2.2.2.2.2.2.2.1, s2.2.2.2.2.2.2.2.2.1))) 171, .blk b1 ((vcl cU32 s2.2.2.2.2.2.2.2.2.2)) 168] ∧ RdS S3 v8 s2.1) hL2 ⟨_, _, (show _ = (pv1 : Value) from ((k7 3).trans (k6 3))), (Mem.le_refl _), H, g8⟩ ?_
  clear H; intro k9 s2 m7 w14 k8 hI2 o4 hb2 hh2; obtain ⟨S3, v8, q5, hle3, H, g9⟩ := hI2
  replace g8 := g8.mono hle3
  have q6 : look m7 4 = .pointer (some ⟨b1, 0, none⟩) := (k8 4 rfl).trans ((k7 4).trans (k6 4))
  have q7 : look m7 5 = .pointer (some ⟨b2, 0, none⟩) := (k8 5 rfl).trans ((k7 5).trans (k6 5))
  unfold hash_Sum_b1 at hb2
  refine wp_seq_k fun K10 hK10 => sr fun K11 hK11 => p_mv (v := v8) q5 <| p_val (r_lenR' u127 rfl g9 H.sub) <| p_val (r_gtrI rfl rfl) <| xk hK11 ?_
  refine c_split rfl (fun hc2 => ?_) (fun hc2 => ?_)
  ·replace hb2 := cnd_t hb2 hc2
   refine wp_skip <| xn hK10 <| wp_seq_k fun K12 hK12 => wp_block <| bn hb2 fun y5 e5 hb2 => ?_
   have g10 : RdS S3 (subN v8 1 0 (64 : Int).toNat) y5 := RdS.subH g9 e5
   apply wp_region_ext 3 (kindsF []) rfl rfl (by kernel_rfl); intro vs1
   simp only [tkS, tkZ, drS, drZ]
   replace H := H.drew
   refine t_v (fun w hx => h_load (l := (cl171 (s2.2.1, s2.2.2.1, s2.2.2.2.1, s2.2.2.2.2.1, s2.2.2.2.2.2.1, s2.2.2.2.2.2.2.1, s2.2.2.2.2.2.2.2.1, s2.2.2.2.2.2.2.2.2.1))) tg171 (H.ext hx) q7 (k := 0) rfl rfl rfl) <| tp (r_move (v := v8) q5) <| tp (r_subH (h := (64 : Int).toNat) u127 tsz5 rfl rfl (subH_some e5).1 g9 (subH_some e5).2.1) ?_
   refine t_nil (fun w15 hx hF hA => ?_)
   replace H := H.ext hx; clear hx hF hA
   refine bn hb2 fun y6 e6 hb2 => p_call (l := [.agg ((cl171 (s2.2.1, s2.2.2.1, s2.2.2.2.1, s2.2.2.2.2.1, s2.2.2.2.2.2.1, s2.2.2.2.2.2.2.1, s2.2.2.2.2.2.2.2.1, s2.2.2.2.2.2.2.2.2.1))).toArray, (subN v8 1 0 (64 : Int).toNat), .pointer (some ⟨b1, 0, none⟩)]) is137 (args_cons rfl (args_cons rfl (args_cons q6 args_nil))) <| (hash_state_next_c (H.hand [1] rfl) g10 e6).mono ?_; rintro _ w16 ⟨S4, rfl, H2⟩
   obtain ⟨H1, hle4⟩ := H.frame [1] [0] rfl H2; clear H H2; have H := H1; clear H1
   replace g9 := g9.mono hle4
   replace g10 := g10.mono hle4
   replace H := hsn H
   refine p_ofs (a_store (k := 1) (l := (cl171 y6.1)) tsz171 H q7 rfl rfl (cells_agg _) rfl (onz rfl) rfl) fun w17 H => ?_
   replace H := hsn H
   refine wpList_nil ?_; refine on_norm ?_
   refine b_norm <| xn hK12 <| wp_region_lit <| p_mv (v := v8) q5 <| bn hb2 fun y7 e7 hb2 => p_val (r_subL (p := (64 : Int).toNat) u127 tsz5 rfl rfl (subL_some e7).1 g9 (subL_some e7).2.1) ?_
   have g11 : RdS S4 (subN v8 1 (64 : Int).toNat (s2.1).length) y7 := RdS.subL g9 e7
   refine p_as (v := (subN v8 1 (64 : Int).toNat (s2.1).length)) rfl <| wpList_nil <| x_norm ?_
   replace H := H.sel [1, 0] rfl
   replace H := hsn H
   obtain rfl := osi hb2
   exact ⟨(y7, y6.1.1, y6.1.2.1, y6.1.2.2.1, y6.1.2.2.2.1, y6.1.2.2.2.2.1, y6.1.2.2.2.2.2.1, y6.1.2.2.2.2.2.2.1, y6.1.2.2.2.2.2.2.2, y6.2), _, rfl, (kS k8 rfl kcx), ⟨_, _, rfl, (Mem.le_trans hle3 hle4), H, g11⟩, hh2⟩
  ·replace hb2 := cnd_f hb2 hc2
   refine wp_exit <| x_exit <| x_exit <| b_hit <| x_norm ?_
   replace H := hsn H
   obtain rfl := osi hb2
   obtain rfl := osi hh2
   obtain rfl := osi hE4
   exact J2 _ _ _ (kS k8 rfl (kN k7 kcx)) hle3 H
 refine wp_block <| nameF fun m2 k2 => bn hE1 fun out1 hL1 hE2 => ?_
 replace H := hsn H
 refine loopI (3 :: rg 13 7 []) (fun (s1 : (List UInt8)) (m3 : FM) (w4 : World) => ∃ (v4 : Value) (cs3 rs3 : List Value), look m3 3 = v4 ∧ HS ⟨S, [], w⟩ S w4 [.osl (v4) (s1).length 1 cs3 rs3 5] ∧ RL S cs3 s1) hL1 ⟨_, _, _, (show _ = (v3 : Value) from ((k2 3).trans (k1 3))), H, g3⟩ ?_
 clear H; intro k4 s1 m3 w4 k3 hI1 o2 hb1 hh1; obtain ⟨v4, cs3, rs3, q1, H, g4⟩ := hI1
 have q2 : look m3 0 = str (x0) := (k3 0 rfl).trans ((k2 0).trans (k1 0))
 unfold hash_Sum_b0 at hb1
 refine wp_seq_k fun K4 hK4 => sr fun K5 hK5 => p_mv (v := v4) q1 <| p_val (r_lenO u127 rfl H (k := 0) rfl rfl) <| p_val (r_rem (r := Int.tmod ((s1).length : Int) 64) rfl rfl (by decide) rfl) <| p_val (r_neqI rfl rfl) <| xk hK5 ?_
 refine c_split rfl (fun hc1 => ?_) (fun hc1 => ?_)
 ·replace hb1 := cnd_t hb1 hc1
  refine wp_skip <| xn hK4 <| wp_block <| wp_region_lit <| p_mv (v := v4) q1 <| p_of2 (a_bsliceG (N := 1) (xs := ([(0 : UInt8)] : List UInt8)) (RL.cons (rpU8c (x := (0 : UInt8)) rfl) RL.nil) tn127 H rfl rfl rfl) fun w5 v5 cs4 H g5 => ?_
  replace H := hsn H
  refine bn hb1 fun y2 e2 hb1 => p_of3 (a_appendX (k := 1) (v2 := v5) tn127 rfl H rfl rfl g4 rfl (H.slW (k := 0) rfl) g5 e2) fun w6 v6 cs5 rs4 H g6 => ?_
  replace H := hsn H
  replace H := H.sel [1] rfl
  replace H := hsn H
  refine p_as (v := v6) rfl <| wpList_nil <| b_norm <| x_norm ?_
  replace H := hsn H
  obtain rfl := osi hb1
  exact ⟨y2, _, rfl, (kS k3 rfl kcx), ⟨_, _, _, rfl, H, g6⟩, hh1⟩
 ·replace hb1 := cnd_f hb1 hc1
  refine wp_exit <| x_exit <| x_exit <| b_hit <| x_norm ?_
  replace H := hsn H
  obtain rfl := osi hb1
  obtain rfl := osi hh1
  obtain rfl := osi hE2
  exact J3 _ _ _ _ _ (kS k3 rfl (kN k2 kcx)) (show _ = (v4 : Value) from q1) H g4
end Go.Proofs.YtmbcolbbekbccaaGreat
namespace Go.Proofs.YtmbcolbbekbccaaGreat
open Go Go.RowKit
def putB (xs : List UInt8) (p : Nat) (ys : List UInt8) : List UInt8 := xs.take p ++ (ys.take (xs.length - p) ++ xs.drop (p + min ys.length (xs.length - p)))
theorem putB_len (xs : List UInt8) (p : Nat) (ys : List UInt8) (h : p ≤ xs.length) : (putB xs p ys).length = xs.length := by
 simp only [putB, List.length_append, List.length_take, List.length_drop]; omega
noncomputable def anyJ {α : Type} (n : Nat) (f : List UInt8 → Option α) : Option α := by
 classical exact if h : ∃ r, ∀ l : List UInt8, l.length = n → f l = some r then some (Classical.choose h) else none
theorem anyJ_some {α : Type} {n : Nat} {f : List UInt8 → Option α} {r : α} (h : anyJ n f = some r) (l : List UInt8) (hl : l.length = n) : f l = some r := by
 unfold anyJ at h
 split at h
 ·rename_i hc
  obtain rfl := osi h
  exact Classical.choose_spec hc l hl
 ·cases h
theorem anyJ_intro {α : Type} {n : Nat} {f : List UInt8 → Option α} {r : α} (h : ∀ l : List UInt8, l.length = n → f l = some r) : anyJ n f = some r := by
 unfold anyJ
 have hc : ∃ r, ∀ l : List UInt8, l.length = n → f l = some r := ⟨r, h⟩
 rw [dif_pos hc]
 have h1 := Classical.choose_spec hc (List.replicate n 0) (by simp)
 rw [h _ (by simp)] at h1
 exact h1.symm
theorem RL.u8 {S : Mem} : ∀ {xs : List UInt8} {cs : List Value}, RL S cs xs → cs = u8s xs
 | [], _, h => h
 | x :: xs, _, ⟨c, d, e, h1, h2⟩ => by
  obtain rfl := elU8 h1
  rw [e, RL.u8 h2]; rfl
theorem digits_u8 : ∀ (n t : Nat) (acc : List UInt8), ∃ l : List UInt8, l.length = n ∧ Extern.BytealgMakeNoZero.digits n t (u8s acc).toArray = (u8s (acc ++ l)).toArray
 | 0, _, acc => ⟨[], rfl, by simp [Extern.BytealgMakeNoZero.digits]⟩
 | n + 1, t, acc => by
  obtain ⟨l, h1, h2⟩ := digits_u8 n (t / 256) (acc ++ [UInt8.ofNat (t % 256)])
  refine ⟨UInt8.ofNat (t % 256) :: l, by simp [h1], ?_⟩
  have e : ((u8s acc).toArray.push (.int .u8 (Int.ofNat (t % 256)))) = (u8s (acc ++ [UInt8.ofNat (t % 256)])).toArray := by
   simp [u8s]
  rw [Extern.BytealgMakeNoZero.digits, e, h2]; simp
section
variable {P : Program}
theorem run_mnz (w : World) (ps : Array TypeId) (t e : TypeId) (ht : P.underlying t = some (.slice e)) (n : Nat) (hn : n ≤ 281474976710656) :
  ∃ l : List UInt8, n ≤ l.length ∧ (Extern.BytealgMakeNoZero.makeNoZero ps #[t] #[.int .i64 n]).run P w = .ok (sl w.heap.size 0 n l.length) (w.drew.drew.alloc (.cells (u8s l).toArray e)) := by
 obtain ⟨l, h1, h2⟩ := digits_u8 (grownCap w n 0 e) ((Question.extern "internal/bytealg.MakeNoZero.bytes" 0).cut (w.tape (w.drawn + 1) (.extern "internal/bytealg.MakeNoZero.bytes" 0))) []
 refine ⟨l, by rw [h1]; simpa using grownCap_ge w n 0 e, ?_⟩
 have a1 : ¬ (n : Int) < 0 := by omega
 have a2 : ¬ (281474976710656 : Int) < (n : Int) := by omega
 rw [show (u8s l).toArray = Extern.BytealgMakeNoZero.digits (grownCap w n 0 e) _ #[] from h2.symm, h1]
 delta Extern.BytealgMakeNoZero.makeNoZero
 delta Extern.BytealgMakeNoZero.makeNoZero.match_3
 delta Extern.BytealgMakeNoZero.makeNoZero._sparseCasesOn_3 Extern.BytealgMakeNoZero.makeNoZero._sparseCasesOn_4
 dsimp [Array.getLit]
 simp [run_underlying ht, a1, a2, Question.forced, newRow, grownCap, sl]
end
section
variable {P : Program} {w : World} {B : Bas} {S : Mem} {L : List Res} {T T' E dT sT : TypeId} {e : Operand → Value} {x y lo hi mx : Operand} {dst : Option Tmp} {pos : String} {aft : Array Edge} {ty : TypeId} {g : Option (Nat × Bool)} {v : Value} {k1 k2 : IntKind}
theorem a_mnz {fn : Func} {f : FuncId} {at_ ps : Array TypeId} {t : TypeId} {a : Int} (hf : P.funcs[f]? = some fn) (hname : (fn.name == "runtime.NumGoroutine") = false) (hb : fn.body.isNone = true) (hn : Extern.findNext fn = none)
  (he : Extern.find fn = some (Extern.BytealgMakeNoZero.makeNoZero ps #[t])) (ht : P.underlying t = some (.slice E)) (he0 : e (.func f) = .func (.func f) #[] #[]) (H : HS B S w L) (hx : e x = .int .i64 a) (h0 : 0 ≤ a) (h1 : a ≤ (LIM : Int)) :
  ∃ w' v, (execOp e ⟨dst, .call ⟨.value (.func f), #[x], at_⟩, ty, pos, aft, g⟩).run P w = .ok (.value v) w' ∧ ∃ b c jk jr, v = sl b 0 jk.length c ∧ jk.length = a.toNat ∧ HS B S w' (.osl (sl b 0 jk.length c) jk.length 1 (u8s jk) (u8s jr) E :: L) := by
 have h1' : a ≤ 68719476736 := h1
 obtain ⟨n, rfl⟩ := Int.eq_ofNat_of_zero_le h0
 obtain ⟨l, hl, hrun⟩ := run_mnz w ps t E ht n (by omega)
 have hc : (callFunc f #[.int .i64 (n : Int)]).run P w = .ok (.value (sl w.heap.size 0 n l.length)) (w.drew.drew.alloc (.cells (u8s l).toArray E)) := by
  rw [run_callFunc_extern hf hname hb hn he, hrun]; rfl
 have hlen : (l.take n).length = n := by simp; omega
 have hop : (execOp e ⟨dst, .call ⟨.value (.func f), #[x], at_⟩, ty, pos, aft, g⟩).run P w = .ok (.value (sl w.heap.size 0 n l.length)) (w.drew.drew.alloc (.cells (u8s l).toArray E)) := by
  simp only [execOp, resolve, he0, Deferred.ofValue, Sem.run_bind, Sem.run_pure, Result.andThen, invoke]
  simpa [hx] using hc
 refine ⟨_, _, hop, w.heap.size, l.length, l.take n, l.drop n, by rw [hlen], by rw [hlen]; exact (Int.toNat_natCast n).symm, ?_⟩
 rw [hlen]
 refine H.push (Ext.trans (Ext.drew w) (Ext.trans (Ext.drew w.drew) (Ext.alloc w.drew.drew _))) (.inr ⟨w.heap.size, l.length, (0, 0), rfl, hl, by simp [u8s]; omega, by simp [u8s], ?_, .inl rfl⟩) fun b hb => by cases hb; exact Nat.le_refl _
 have : u8s (l.take n) ++ u8s (l.drop n) = u8s l := by simp only [u8s, ← List.map_append, List.take_append_drop]
 rw [this]
 exact heap_alloc_self w.drew.drew _
theorem r_sliceC {b c N sz : Nat} {a : Int} (hu : P.underlying T = some (.slice E)) (ts : TSz P E sz) (hx : e x = sl b 0 N c) (hy : e hi = .int k1 a) (hz : e mx = .int k2 a) (ha : a = (N : Int)) (hc : N ≤ c) :
  (execOp e ⟨dst, .slice T x none (some hi) (some mx), ty, pos, aft, g⟩).run P w = .ok (.value (sl b 0 N N)) w := by
 simp [execOp, Instr.sliceAt, Go.underlying, hu, Instr.slice, Instr.sliceBounds, hx, hy, hz, sl, run_bound (P := P) (w := w) ha hc, run_bound (P := P) (w := w) ha (Nat.le_refl _), ts w, Addr.add]
theorem HS.recap {k b c N sz : Nat} {cs rs : List Value} (H : HS B S w L) (hk : lkR L k = some (.osl (sl b 0 N c) N sz cs rs T')) : HS B S w (stR L k (.osl (sl b 0 N N) N sz cs rs T')) := by
 rcases H.own k _ hk with ⟨h, _⟩ | ⟨b', c', fz, hv', h1, h2, h3, h4, h5⟩
 ·cases h
 ·injection hv' with e1 e2 e3
  injection e1 with e1
  injection e1 with e1 _ _
  subst e1; subst e3
  exact H.upd hk (Nat.le_refl _) rfl rfl rfl (fun _ _ _ => rfl) (.inr ⟨b, N, fz, rfl, Nat.le_refl _, h2, Nat.le_trans (Nat.mul_le_mul_right sz h1) h3, h4, h5⟩) fun b' hb' => .inl hb'
theorem capOf {k b c N sz : Nat} {cs rs : List Value} (H : HS B S w L) (hk : lkR L k = some (.osl (sl b 0 N c) N sz cs rs T')) : N ≤ c := by
 rcases H.own k _ hk with ⟨h, _⟩ | ⟨b', c', fz, hv', h1, _⟩
 ·cases h
 ·injection hv' with e1 e2 e3
  subst e3; exact h1
theorem lay_u8s (xs ys : List UInt8) (p n : Nat) (rs : List Value) (hn : n = min ys.length (xs.length - p)) (hp : p ≤ xs.length) : lay (u8s xs ++ rs) p (u8s (ys.take n)) = u8s (putB xs p ys) ++ rs := by
 apply List.ext_getElem?
 intro j
 rw [lay_get]
 have h1 : (u8s (ys.take n)).length = n := by simp [u8s]; omega
 have h2 : (u8s (putB xs p ys)).length = xs.length := by rw [u8s, List.length_map, putB_len _ _ _ hp]
 have h3 : (u8s xs).length = xs.length := by simp [u8s]
 have h4 : (xs.take p).length = p := by simp; omega
 by_cases hj : p ≤ j ∧ j < p + n
 ·rw [if_pos (by rw [h1, List.length_append, h3]; omega), List.getElem?_append_left (by rw [h2]; omega)]
  simp only [u8s, putB, List.map_append]
  rw [List.getElem?_append_right (by simp; omega), List.getElem?_append_left (by simp; omega)]
  simp only [List.length_map, h4, List.getElem?_map, List.getElem?_take]
  rw [if_pos (by omega), if_pos (by omega)]
 ·rw [if_neg (by rw [h1]; omega)]
  by_cases hx : j < xs.length
  ·rw [List.getElem?_append_left (by rw [h3]; omega), List.getElem?_append_left (by rw [h2]; omega)]
   simp only [u8s, putB, List.map_append]
   by_cases hq : j < p
   ·rw [List.getElem?_append_left (by simp; omega)]
    simp only [List.getElem?_map, List.getElem?_take, if_pos hq]
   ·rw [List.getElem?_append_right (by simp; omega), List.getElem?_append_right (by simp; omega)]
    simp only [List.length_map, h4, List.getElem?_map, List.getElem?_drop, List.length_take]
    congr 2; omega
  ·rw [List.getElem?_append_right (by rw [h3]; omega), List.getElem?_append_right (by rw [h2]; omega), h2, h3]
theorem a_copyO {k p : Nat} {xs ys : List UInt8} {S2 : Mem} {cs rs : List Value} {v2 : Value} (hu : P.underlying dT = some (.slice E)) (ts : TSz P E 1) (H : HS B S w L) (hk : lkR L k = some (.osl v xs.length 1 cs rs T')) (h0 : RL S cs xs)
  (hx : e x = subN v 1 p xs.length) (hp : p ≤ xs.length) (h2 : RdS S2 v2 ys) (hs2 : Sub S2 w) (hy : e y = v2) :
  ∃ w' r, (execOp e ⟨dst, .call ⟨.builtin .copy, #[x, y], #[dT, sT]⟩, ty, pos, aft, g⟩).run P w = .ok (.value r) w' ∧ r = .int .i64 ((min ys.length (xs.length - p) : Nat) : Int) ∧ ∃ cs', HS B S w' (stR L k (.osl v (putB xs p ys).length 1 cs' rs T')) ∧ RL S cs' (putB xs p ys) := by
 obtain ⟨ds, k1, k2⟩ := h2
 obtain rfl := k2.u8
 obtain rfl := h0.u8
 have k1w := k1.w hs2
 have hsz : Rp.sz UInt8 = 1 := rfl
 rw [hsz] at k1w
 generalize hn : min ys.length (xs.length - p) = n
 have hlen : (u8s (ys.take n)).length = n := by simp [u8s]; omega
 have hone : ∀ u ∈ u8s (ys.take n), u.oneCell' = true := (RL.of_u8s (S := S) (ys.take n)).one
 have hcells : (Builtin.firstCells 1 n v2).run P w = .ok (u8s (ys.take n)).toArray w ∧ (Builtin.lenOf v2).run P w = .ok ys.length w := by
  rcases k1w with ⟨h, h0, _⟩ | ⟨b, o, c, dd, T2, fz, h, hc, hh, hl, hpc⟩
  ·obtain rfl : ys = [] := List.length_eq_zero_iff.1 h0
   obtain rfl : n = 0 := by rw [← hn]; simp
   rw [h]; constructor <;> simp [Builtin.firstCells, Builtin.lenOf, u8s]
  ·have := run_loadCells_list (P := P) w ⟨b, o, none⟩ (u8s (ys.take n)) (fun j v hj => by
    have hjn : j < n := by have := (List.getElem?_eq_some_iff.1 hj).1; rwa [hlen] at this
    rw [add_addr, cell_of_F hh, ← hj]
    have h3 : (u8s ys)[j]? = (u8s (ys.take n))[j]? := by simp only [u8s, List.getElem?_map, List.getElem?_take, if_pos hjn]
    rw [← h3, ← hpc, piece_eq, List.getElem?_take, if_pos (by omega), List.getElem?_drop])
   rw [hlen] at this
   rw [h]; constructor
   ·simpa [Builtin.firstCells, sl] using this
   ·simp [Builtin.lenOf, sl]
 have hmin : Nat.min ys.length (xs.length - p) = n := hn
 rcases H.own k _ hk with ⟨h, hN, hcs, hrs⟩ | ⟨b, c, fz, hv, hc1, hc2, hc3, hc4, hc5⟩
 ·obtain rfl : xs = [] := List.length_eq_zero_iff.1 hN
  obtain rfl : p = 0 := by simpa using hp
  obtain rfl : n = 0 := by rw [← hn]; simp
  refine ⟨w, _, ?_, rfl, u8s [], ?_, ?_⟩
  ·subst h
   simp [execOp, resolve, invoke, builtin, hx, hy, subN, Builtin.copy_, Go.underlying, hu, hcells.1, hcells.2, ts w, goInt, hmin]
  ·have : putB [] 0 ys = [] := by simp [putB]
   rw [this]
   exact H.upd hk (Nat.le_refl _) rfl rfl rfl (fun _ _ _ => rfl) (.inl ⟨h, rfl, hcs, hrs⟩) fun b' hb' => .inl hb'
  ·have : putB [] 0 ys = [] := by simp [putB]
   rw [this]; rfl
 ·obtain ⟨w', he, hb, hs, h4, h5, h6, h7⟩ := run_storeCellsF (P := P) (o := p) (u8s (ys.take n)) 0 w (u8s xs ++ rs) hone hc4 hc5 (by rw [hlen, List.length_append]; simp [u8s]; omega)
  refine ⟨w', _, ?_, rfl, u8s (putB xs p ys), ?_, RL.of_u8s _⟩
  ·subst hv
   by_cases hcp : c = p
   ·have h0' : n = 0 := by omega
    subst h0'
    have hw : w = w' := by simpa [storeCells, u8s] using he
    subst hw
    simp [execOp, resolve, invoke, builtin, hx, hy, subN, sl, hcp, Builtin.copy_, Go.underlying, hu, hcells.1, hcells.2, ts w, goInt, hmin, storeCells, u8s]
   ·simp [execOp, resolve, invoke, builtin, hx, hy, subN, sl, hcp, Builtin.copy_, Go.underlying, hu, hcells.1, hcells.2, ts w, goInt, hmin, add_addr, he]
  ·rw [Nat.add_zero, lay_u8s xs ys p n rs hn.symm hp] at hb
   refine H.upd hk (by omega) h4 h5 h6 (fun i _ hne => h7 i fun e => hne (by rw [e, hv]; rfl)) (.inr ⟨b, c, fz, by rw [putB_len _ _ _ hp]; exact hv, by rw [putB_len _ _ _ hp]; exact hc1, by simp [u8s], ?_, hb, ?_⟩) fun b' hb' => .inl hb'
   ·simp only [u8s, List.length_append, List.length_map, putB_len _ _ _ hp] at hc3 ⊢; exact hc3
   ·simp only [u8s, List.length_append, List.length_map, putB_len _ _ _ hp] at hc5 ⊢; exact hc5
theorem r_min {a b r : Int} {ats : Array TypeId} (hx : e x = .int .i64 a) (hy : e y = .int .i64 b) (h : (bif decide (a ≤ b) then a else b) = r) :
  (execOp e ⟨dst, .call ⟨.builtin .min, #[x, y], ats⟩, ty, pos, aft, g⟩).run P w = .ok (.value (.int .i64 r)) w := by
 subst h
 by_cases hc : a ≤ b
 ·have h2 : ¬ b < a := by omega
  simp [execOp, resolve, invoke, builtin, hx, hy, Builtin.min_, Builtin.min2, hc, h2]
 ·have h2 : b < a := by omega
  simp [execOp, resolve, invoke, builtin, hx, hy, Builtin.min_, Builtin.min2, hc, h2]
theorem HS.subAll {k N sz : Nat} {cs rs : List Value} (H : HS B S w L) (hk : lkR L k = some (.osl v N sz cs rs T')) : subN v sz 0 N = v := by
 rcases H.own k _ hk with ⟨h, hN, _⟩ | ⟨b, c, fz, hv, _⟩
 ·subst hN; rw [h]; rfl
 ·rw [hv]; simp only [subN, sl, Nat.zero_mul, Nat.sub_zero]
  split <;> simp [Addr.add]
end
end Go.Proofs.YtmbcolbbekbccaaGreat
