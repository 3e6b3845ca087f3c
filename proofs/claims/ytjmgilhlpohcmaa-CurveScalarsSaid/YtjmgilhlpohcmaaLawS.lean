/- The walks of some functions. Conditions: as each theorem says. -/
import Derived.Test.YtjmgilhlpohcmaaLawC
import Derived.Test.YtjmgilhlpohcmaaOrd
namespace Go.Proofs.Ytjmgilhlpohcmaa
open Go Go.RowKit
attribute [local irreducible] wpList wpT Code.wp Calls Code.rounds lm sd sb ad ac modN bval be fm fa fs fn jtwX jtwY jtwZ onB invV invE onT cneg cerr cadd cadde cmul cby cofV cofE
theorem is52 : IsFn Try.prog 52 := isFn Try.func52 (by kernel_rfl) (by kernel_rfl)

set_option maxRecDepth 8000 in
set_option maxHeartbeats 800000 in
theorem curveScalars_c (p : Ap) (hp : AL p) (A B : Nat) (hA : A < two256) (hB : B < two256) (w : World) :
    Calls Try.prog 15 #[.agg (ptT p).toArray, numV A, numV B] w fun e w' => e = .returned (.bool true) ∧ Ext w w' := by
  refine enter (n := 108) Try.func15 rfl rfl rfl ?_
  have H := HP.start w
  have hp1 := hp.1
  have hp2 := hp.2
  refine wp_seq_k ?_; intro K1 hK1
  refine wp_region_lit ?_
  refine p_box (l := (numL p.1 ++ (numL p.2.1 ++ [(.bool p.2.2 : Value)]))) H rfl ?_; clear H; intro w2 b3 H
  refine p_box (l := numL A) H rfl ?_; clear H; intro w4 b5 H
  refine p_box (l := numL B) H rfl ?_; clear H; intro w6 b7 H
  refine p_val (r_assign (v := (.bool _)) rfl) ?_
  refine wpList_nil ?_
  refine x_norm ?_; refine hK1 _ _ ?_; try clear hK1 K1
  refine wp_seq_k ?_; intro K8 hK8
  refine wp_seq_k ?_; intro K9 hK9
  refine wp_region_lit ?_
  refine p_call (l := []) is43 rfl ?_
  refine (awake7_c _).mono ?_; rintro _ w10 ⟨rfl, hx⟩; replace H := H.ext hx; clear hx
  refine p_val (r_not (t := false) rfl rfl) ?_
  refine wpList_nil ?_
  refine x_norm ?_; refine hK9 _ _ ?_; try clear hK9 K9
  refine c_false rfl rfl ?_
  refine wp_skip ?_
  refine x_norm ?_; refine hK8 _ _ ?_; try clear hK8 K8
  refine wp_seq_k ?_; intro K11 hK11
  refine wp_seq_k ?_; intro K12 hK12
  refine wp_region_lit ?_
  refine p_val (r_loadW tg52 H rfl (k := 2) rfl rfl) ?_
  refine p_call (l := [(.agg (List.toArray _))]) is44 rfl ?_
  refine (on_t (p.1, p.2.1, p.2.2) (by repeat (first | assumption | exact AL_GG | exact AL_0 _ | exact AL_cadd _ _ | exact AL_cmul _ _ | exact AL_cofV _ | exact AL_jend _ | refine AL_cneg ?_ | exact ⟨by decide, by decide⟩)) _).mono ?_; rintro _ w13 ⟨rfl, hx⟩; replace H := H.ext hx; clear hx
  refine p_val (r_not (t := _) rfl rfl) ?_
  refine wpList_nil ?_
  refine x_norm ?_; refine hK12 _ _ ?_; try clear hK12 K12
  refine c_split (t := _) rfl (fun hc_3 => ?_) (fun hc_3 => ?_)
  · skip
    refine wp_seq_k ?_; intro K15 hK15
    refine wp_region_lit ?_
    refine p_val (r_assign (v := (.bool _)) rfl) ?_
    refine wpList_nil ?_
    refine x_norm ?_; refine hK15 _ _ ?_; try clear hK15 K15
    refine wp_ret ?_
    refine x_ret ?_
    refine e_1 rfl (q_tmp (v := (.bool _)) rfl) ?_
    exact ⟨rfl, H.below⟩
  · skip
    have hon : onT p = true := by simpa using hc_3
    refine wp_skip ?_
    refine x_norm ?_; refine hK11 _ _ ?_; try clear hK11 K11
    refine wp_seq_k ?_; intro K16 hK16
    refine wp_region_lit ?_
    refine p_val (r_loadW tg24 H rfl (k := 1) rfl rfl) ?_
    refine p_val (r_loadW tg52 H rfl (k := 2) rfl rfl) ?_
    refine p_call (l := [(.agg (List.toArray _)), (.agg (List.toArray _))]) is52 rfl ?_
    refine (mul_t (A) (p.1, p.2.1, p.2.2) (by first | exact Nat.mod_lt _ two256_pos | exact Mod.lt (mod_modN _) | assumption | exact onceN_lt (by assumption) | exact Nat.lt_trans (Nat.mod_lt _ (mod_modN _).pos) (mod_modN _).lt | exact ofV_lt2 _ _ | exact invV_lt2 _ _ | exact fm_lt2 _ _ | exact fa_lt2 _ _ | exact fs_lt2 _ _ | exact fn_lt2 _ | exact PP_lt | exact AL_GG.1 | exact AL_GG.2 | exact (AL_cadd _ _).1 | exact (AL_cadd _ _).2 | exact (AL_cmul _ _).1 | exact (AL_cmul _ _).2 | exact (AL_cofV _).1 | exact (AL_cofV _).2 | exact (AL_cneg (by assumption)).1 | exact (AL_cneg (by assumption)).2 | exact lt_lit (by decide)) (by repeat (first | assumption | exact AL_GG | exact AL_0 _ | exact AL_cadd _ _ | exact AL_cmul _ _ | exact AL_cofV _ | exact AL_jend _ | refine AL_cneg ?_ | exact ⟨by decide, by decide⟩)) _).mono ?_; rintro _ w17 ⟨rfl, hx⟩; replace H := H.ext hx; clear hx
    refine p_val (r_move (v := (.tuple _)) rfl) ?_
    refine p_val (r_extract (v := (.agg (List.toArray _))) rfl rfl) ?_
    refine p_val (r_extract (v := (.int _ _)) rfl rfl) ?_
    refine p_alloc (l := [.int .u64 0, .int .u64 0, .int .u64 0, .int .u64 0, .int .u64 0, .int .u64 0, .int .u64 0, .int .u64 0, .bool false]) H tz52 rfl ?_; clear H; intro w19 b18 H
    refine p_storeW tg52 H rfl (k := 0) rfl rfl rfl rfl rfl ?_; clear H; intro w20 H
    refine p_val (r_assign (v := (.int _ _)) rfl) ?_
    refine wpList_nil ?_
    refine x_norm ?_; refine hK16 _ _ ?_; try clear hK16 K16
    refine wp_seq_k ?_; intro K21 hK21
    refine wp_region_lit ?_
    refine p_val (r_loadW tg24 H rfl (k := 1) rfl rfl) ?_
    refine p_val (r_loadW tg52 H rfl (k := 3) rfl rfl) ?_
    refine p_call (l := [(.agg (List.toArray _)), (.agg (List.toArray _))]) is52 rfl ?_
    refine (mul_t (B) (p.1, p.2.1, p.2.2) (by first | exact Nat.mod_lt _ two256_pos | exact Mod.lt (mod_modN _) | assumption | exact onceN_lt (by assumption) | exact Nat.lt_trans (Nat.mod_lt _ (mod_modN _).pos) (mod_modN _).lt | exact ofV_lt2 _ _ | exact invV_lt2 _ _ | exact fm_lt2 _ _ | exact fa_lt2 _ _ | exact fs_lt2 _ _ | exact fn_lt2 _ | exact PP_lt | exact AL_GG.1 | exact AL_GG.2 | exact (AL_cadd _ _).1 | exact (AL_cadd _ _).2 | exact (AL_cmul _ _).1 | exact (AL_cmul _ _).2 | exact (AL_cofV _).1 | exact (AL_cofV _).2 | exact (AL_cneg (by assumption)).1 | exact (AL_cneg (by assumption)).2 | exact lt_lit (by decide)) (by repeat (first | assumption | exact AL_GG | exact AL_0 _ | exact AL_cadd _ _ | exact AL_cmul _ _ | exact AL_cofV _ | exact AL_jend _ | refine AL_cneg ?_ | exact ⟨by decide, by decide⟩)) _).mono ?_; rintro _ w22 ⟨rfl, hx⟩; replace H := H.ext hx; clear hx
    refine p_val (r_move (v := (.tuple _)) rfl) ?_
    refine p_val (r_extract (v := (.agg (List.toArray _))) rfl rfl) ?_
    refine p_val (r_extract (v := (.int _ _)) rfl rfl) ?_
    refine p_alloc (l := [.int .u64 0, .int .u64 0, .int .u64 0, .int .u64 0, .int .u64 0, .int .u64 0, .int .u64 0, .int .u64 0, .bool false]) H tz52 rfl ?_; clear H; intro w24 b23 H
    refine p_storeW tg52 H rfl (k := 0) rfl rfl rfl rfl rfl ?_; clear H; intro w25 H
    refine p_val (r_assign (v := (.int _ _)) rfl) ?_
    refine wpList_nil ?_
    refine x_norm ?_; refine hK21 _ _ ?_; try clear hK21 K21
    refine wp_seq_k ?_; intro K26 hK26
    apply wp_region_ext 9 (kinds [(2, .inl _), (4, .inl _), (8, .inr (NewAt _ [.int .u64 0, .int .u64 0, .int .u64 0, .int .u64 0, .int .u64 0, .int .u64 0, .int .u64 0, .int .u64 0, .bool false] 52))]) rfl rfl (by kernel_rfl); intro vs28
    simp only [List.take_succ_cons, List.take_zero, List.drop_succ_cons, List.drop_zero]
    replace H := H.drew
    refine t_val (fun w hx => r_loadW tg24 (H.ext hx) rfl (k := 3) rfl rfl) rfl rfl ?_
    refine t_val (fun w hx => r_loadW tg24 (H.ext hx) rfl (k := 2) rfl rfl) rfl rfl ?_
    refine t_call (l := [(.int _ _), (.agg (List.toArray _)), (.agg (List.toArray _))]) rfl rfl is21 rfl (fun w hx hF => (add_c _ _ _ (by first | exact Nat.mod_lt _ two256_pos | exact Mod.lt (mod_modN _) | assumption | exact onceN_lt (by assumption) | exact Nat.lt_trans (Nat.mod_lt _ (mod_modN _).pos) (mod_modN _).lt | exact ofV_lt2 _ _ | exact invV_lt2 _ _ | exact fm_lt2 _ _ | exact fa_lt2 _ _ | exact fs_lt2 _ _ | exact fn_lt2 _ | exact PP_lt | exact AL_GG.1 | exact AL_GG.2 | exact (AL_cadd _ _).1 | exact (AL_cadd _ _).2 | exact (AL_cmul _ _).1 | exact (AL_cmul _ _).2 | exact (AL_cofV _).1 | exact (AL_cofV _).2 | exact (AL_cneg (by assumption)).1 | exact (AL_cneg (by assumption)).2 | exact lt_lit (by decide)) (by first | exact Nat.mod_lt _ two256_pos | exact Mod.lt (mod_modN _) | assumption | exact onceN_lt (by assumption) | exact Nat.lt_trans (Nat.mod_lt _ (mod_modN _).pos) (mod_modN _).lt | exact ofV_lt2 _ _ | exact invV_lt2 _ _ | exact fm_lt2 _ _ | exact fa_lt2 _ _ | exact fs_lt2 _ _ | exact fn_lt2 _ | exact PP_lt | exact AL_GG.1 | exact AL_GG.2 | exact (AL_cadd _ _).1 | exact (AL_cadd _ _).2 | exact (AL_cmul _ _).1 | exact (AL_cmul _ _).2 | exact (AL_cofV _).1 | exact (AL_cofV _).2 | exact (AL_cneg (by assumption)).1 | exact (AL_cneg (by assumption)).2 | exact lt_lit (by decide)) _).mono (fun _ _ ⟨he, hx⟩ => ⟨he, hx⟩)) ?_
    refine t_val (fun w hx => r_loadW tg52 (H.ext hx) rfl (k := 4) rfl rfl) rfl rfl ?_
    refine t_call (l := [(.agg (List.toArray _)), (.agg (List.toArray _))]) rfl rfl is52 rfl (fun w hx hF => (mul_t ((A + B) % modN 1) (p.1, p.2.1, p.2.2) (by first | exact Nat.mod_lt _ two256_pos | exact Mod.lt (mod_modN _) | assumption | exact onceN_lt (by assumption) | exact Nat.lt_trans (Nat.mod_lt _ (mod_modN _).pos) (mod_modN _).lt | exact ofV_lt2 _ _ | exact invV_lt2 _ _ | exact fm_lt2 _ _ | exact fa_lt2 _ _ | exact fs_lt2 _ _ | exact fn_lt2 _ | exact PP_lt | exact AL_GG.1 | exact AL_GG.2 | exact (AL_cadd _ _).1 | exact (AL_cadd _ _).2 | exact (AL_cmul _ _).1 | exact (AL_cmul _ _).2 | exact (AL_cofV _).1 | exact (AL_cofV _).2 | exact (AL_cneg (by assumption)).1 | exact (AL_cneg (by assumption)).2 | exact lt_lit (by decide)) (by repeat (first | assumption | exact AL_GG | exact AL_0 _ | exact AL_cadd _ _ | exact AL_cmul _ _ | exact AL_cofV _ | exact AL_jend _ | refine AL_cneg ?_ | exact ⟨by decide, by decide⟩)) _).mono (fun _ _ ⟨he, hx⟩ => ⟨he, hx⟩)) ?_
    refine t_val (fun w hx => r_move (v := (.tuple _)) rfl) rfl rfl ?_
    refine t_val (fun w hx => r_extract (v := (.agg (List.toArray _))) rfl rfl) rfl rfl ?_
    refine t_float (fun w => r_extract (v := (.int _ _)) rfl rfl) rfl rfl ?_
    refine t_alloc rfl rfl tz52 rfl ?_
    refine t_nil (fun w30 hx hF hA => ?_)
    obtain ⟨b29, eb29, hbb29, hhb29⟩ := fact_rel hF 8 rfl rfl; have hnb29 := HP.neL H hbb29; replace hbb29 := Nat.le_trans H.below.size hbb29
    replace H := H.ext hx
    replace H := HP.push1 H hbb29 hnb29 hhb29
    clear hbb29 hnb29 hhb29
    clear hx hF hA
    refine p_storeW tg52 H eb29 (k := 0) rfl rfl rfl rfl rfl ?_; clear H; intro w31 H
    refine p_val (r_assign (v := (.int _ _)) rfl) ?_
    refine wpList_nil ?_; refine on_norm ?_
    refine x_norm ?_; refine hK26 _ _ ?_; try clear hK26 K26
    refine wp_seq_k ?_; intro K32 hK32
    apply wp_region_ext 7 (kinds [(0, .inl _), (2, .inl _), (6, .inr (NewAt _ [.int .u64 0, .int .u64 0, .int .u64 0, .int .u64 0, .int .u64 0, .int .u64 0, .int .u64 0, .int .u64 0, .bool false] 52))]) rfl rfl (by kernel_rfl); intro vs34
    simp only [List.take_succ_cons, List.take_zero, List.drop_succ_cons, List.drop_zero]
    replace H := H.drew
    refine t_call (l := [(.int _ _)]) rfl rfl is18 rfl (fun w hx hF => (modulus_c _ _).mono (fun _ _ ⟨he, hx⟩ => ⟨he, hx⟩)) ?_
    refine t_val (fun w hx => r_loadW tg52 (H.ext hx) rfl (k := 5) rfl rfl) rfl rfl ?_
    refine t_call (l := [(.agg (List.toArray _)), (.agg (List.toArray _))]) rfl rfl is52 rfl (fun w hx hF => (mul_t (modN 1) (p.1, p.2.1, p.2.2) (by first | exact Nat.mod_lt _ two256_pos | exact Mod.lt (mod_modN _) | assumption | exact onceN_lt (by assumption) | exact Nat.lt_trans (Nat.mod_lt _ (mod_modN _).pos) (mod_modN _).lt | exact ofV_lt2 _ _ | exact invV_lt2 _ _ | exact fm_lt2 _ _ | exact fa_lt2 _ _ | exact fs_lt2 _ _ | exact fn_lt2 _ | exact PP_lt | exact AL_GG.1 | exact AL_GG.2 | exact (AL_cadd _ _).1 | exact (AL_cadd _ _).2 | exact (AL_cmul _ _).1 | exact (AL_cmul _ _).2 | exact (AL_cofV _).1 | exact (AL_cofV _).2 | exact (AL_cneg (by assumption)).1 | exact (AL_cneg (by assumption)).2 | exact lt_lit (by decide)) (by repeat (first | assumption | exact AL_GG | exact AL_0 _ | exact AL_cadd _ _ | exact AL_cmul _ _ | exact AL_cofV _ | exact AL_jend _ | refine AL_cneg ?_ | exact ⟨by decide, by decide⟩)) _).mono (fun _ _ ⟨he, hx⟩ => ⟨he, hx⟩)) ?_
    refine t_val (fun w hx => r_move (v := (.tuple _)) rfl) rfl rfl ?_
    refine t_val (fun w hx => r_extract (v := (.agg (List.toArray _))) rfl rfl) rfl rfl ?_
    refine t_float (fun w => r_extract (v := (.int _ _)) rfl rfl) rfl rfl ?_
    refine t_alloc rfl rfl tz52 rfl ?_
    refine t_nil (fun w36 hx hF hA => ?_)
    obtain ⟨b35, eb35, hbb35, hhb35⟩ := fact_rel hF 6 rfl rfl; have hnb35 := HP.neL H hbb35; replace hbb35 := Nat.le_trans H.below.size hbb35
    replace H := H.ext hx
    replace H := HP.push1 H hbb35 hnb35 hhb35
    clear hbb35 hnb35 hhb35
    clear hx hF hA
    refine p_storeW tg52 H eb35 (k := 0) rfl rfl rfl rfl rfl ?_; clear H; intro w37 H
    refine p_val (r_assign (v := (.int _ _)) rfl) ?_
    refine wpList_nil ?_; refine on_norm ?_
    refine x_norm ?_; refine hK32 _ _ ?_; try clear hK32 K32
    refine wp_seq_k ?_; intro K38 hK38
    refine wp_seq_k ?_; intro K39 hK39
    refine wp_region_lit ?_
    refine p_val (r_move (v := (.int _ _)) rfl) ?_
    refine p_val (r_neq (t := false) rfl rfl (by rw [cerr_t hon]; rfl)) ?_
    refine p_val (r_move (v := (.bool _)) rfl) ?_
    refine p_want rfl rfl ?_
    refine p_val (r_move (v := (.int _ _)) rfl) ?_
    refine p_want rfl rfl ?_
    refine p_val (r_neq (t := false) rfl rfl (by rw [cerr_t hon]; rfl)) ?_
    refine p_val (r_pickf (v := (.bool _)) rfl rfl rfl) ?_
    refine p_val (r_move (v := (.bool _)) rfl) ?_
    refine p_want rfl rfl ?_
    refine p_val (r_move (v := (.int _ _)) rfl) ?_
    refine p_want rfl rfl ?_
    refine p_val (r_neq (t := false) rfl rfl (by rw [cerr_t hon]; rfl)) ?_
    refine p_val (r_pickf (v := (.bool _)) rfl rfl rfl) ?_
    refine p_val (r_move (v := (.bool _)) rfl) ?_
    refine p_want rfl rfl ?_
    refine p_val (r_move (v := (.int _ _)) rfl) ?_
    refine p_want rfl rfl ?_
    refine p_val (r_neq (t := false) rfl rfl (by rw [cerr_t hon]; rfl)) ?_
    refine p_val (r_pickf (v := (.bool _)) rfl rfl rfl) ?_
    refine p_val (r_move (v := (.bool _)) rfl) ?_
    refine p_want rfl rfl ?_
    refine p_val (r_loadW tg52 H eb35 (k := 0) rfl rfl) ?_
    refine p_want rfl rfl ?_
    refine p_val (r_as (l' := (numL 0 ++ (numL 0 ++ [(.bool true : Value)]))) (r_build (vals := [(2, .bool true)]) (l := ([.int .u64 0, .int .u64 0, .int .u64 0, .int .u64 0] ++ ([.int .u64 0, .int .u64 0, .int .u64 0, .int .u64 0] ++ [(.bool true : Value)]))) tb52 rfl rfl) (by rw [num_0])) ?_
    refine p_want rfl rfl ?_
    refine p_val (r_nept (t := false) pt52 ptf52 pts52 u24 u22 sz22 ag22 agt24 szt24 u4 agt4 eg52 rfl rfl (by first | exact Nat.mod_lt _ two256_pos | exact Mod.lt (mod_modN _) | assumption | exact onceN_lt (by assumption) | exact Nat.lt_trans (Nat.mod_lt _ (mod_modN _).pos) (mod_modN _).lt | exact ofV_lt2 _ _ | exact invV_lt2 _ _ | exact fm_lt2 _ _ | exact fa_lt2 _ _ | exact fs_lt2 _ _ | exact fn_lt2 _ | exact PP_lt | exact AL_GG.1 | exact AL_GG.2 | exact (AL_cadd _ _).1 | exact (AL_cadd _ _).2 | exact (AL_cmul _ _).1 | exact (AL_cmul _ _).2 | exact (AL_cofV _).1 | exact (AL_cofV _).2 | exact (AL_cneg (by assumption)).1 | exact (AL_cneg (by assumption)).2 | exact lt_lit (by decide)) (by first | exact Nat.mod_lt _ two256_pos | exact Mod.lt (mod_modN _) | assumption | exact onceN_lt (by assumption) | exact Nat.lt_trans (Nat.mod_lt _ (mod_modN _).pos) (mod_modN _).lt | exact ofV_lt2 _ _ | exact invV_lt2 _ _ | exact fm_lt2 _ _ | exact fa_lt2 _ _ | exact fs_lt2 _ _ | exact fn_lt2 _ | exact PP_lt | exact AL_GG.1 | exact AL_GG.2 | exact (AL_cadd _ _).1 | exact (AL_cadd _ _).2 | exact (AL_cmul _ _).1 | exact (AL_cmul _ _).2 | exact (AL_cofV _).1 | exact (AL_cofV _).2 | exact (AL_cneg (by assumption)).1 | exact (AL_cneg (by assumption)).2 | exact lt_lit (by decide)) (by first | exact Nat.mod_lt _ two256_pos | exact Mod.lt (mod_modN _) | assumption | exact onceN_lt (by assumption) | exact Nat.lt_trans (Nat.mod_lt _ (mod_modN _).pos) (mod_modN _).lt | exact ofV_lt2 _ _ | exact invV_lt2 _ _ | exact fm_lt2 _ _ | exact fa_lt2 _ _ | exact fs_lt2 _ _ | exact fn_lt2 _ | exact PP_lt | exact AL_GG.1 | exact AL_GG.2 | exact (AL_cadd _ _).1 | exact (AL_cadd _ _).2 | exact (AL_cmul _ _).1 | exact (AL_cmul _ _).2 | exact (AL_cofV _).1 | exact (AL_cofV _).2 | exact (AL_cneg (by assumption)).1 | exact (AL_cneg (by assumption)).2 | exact lt_lit (by decide)) (by first | exact Nat.mod_lt _ two256_pos | exact Mod.lt (mod_modN _) | assumption | exact onceN_lt (by assumption) | exact Nat.lt_trans (Nat.mod_lt _ (mod_modN _).pos) (mod_modN _).lt | exact ofV_lt2 _ _ | exact invV_lt2 _ _ | exact fm_lt2 _ _ | exact fa_lt2 _ _ | exact fs_lt2 _ _ | exact fn_lt2 _ | exact PP_lt | exact AL_GG.1 | exact AL_GG.2 | exact (AL_cadd _ _).1 | exact (AL_cadd _ _).2 | exact (AL_cmul _ _).1 | exact (AL_cmul _ _).2 | exact (AL_cofV _).1 | exact (AL_cofV _).2 | exact (AL_cneg (by assumption)).1 | exact (AL_cneg (by assumption)).2 | exact lt_lit (by decide)) (ptb_ne (cmul_N hon))) ?_
    refine p_val (r_pickf (v := (.bool _)) rfl rfl rfl) ?_
    refine wpList_nil ?_
    refine x_norm ?_; refine hK39 _ _ ?_; try clear hK39 K39
    refine c_false rfl rfl ?_
    refine wp_skip ?_
    refine x_norm ?_; refine hK38 _ _ ?_; try clear hK38 K38
    refine wp_seq_k ?_; intro K40 hK40
    refine wp_region_lit ?_
    refine p_val (r_loadW tg52 H rfl (k := 3) rfl rfl) ?_
    refine p_val (r_loadW tg52 H rfl (k := 2) rfl rfl) ?_
    refine p_call (l := [(.agg (List.toArray _)), (.agg (List.toArray _))]) is47 rfl ?_
    refine (add_t (cmul (A) (p.1, p.2.1, p.2.2)) (cmul (B) (p.1, p.2.1, p.2.2)) (by repeat (first | assumption | exact AL_GG | exact AL_0 _ | exact AL_cadd _ _ | exact AL_cmul _ _ | exact AL_cofV _ | exact AL_jend _ | refine AL_cneg ?_ | exact ⟨by decide, by decide⟩)) (by repeat (first | assumption | exact AL_GG | exact AL_0 _ | exact AL_cadd _ _ | exact AL_cmul _ _ | exact AL_cofV _ | exact AL_jend _ | refine AL_cneg ?_ | exact ⟨by decide, by decide⟩)) _).mono ?_; rintro _ w41 ⟨rfl, hx⟩; replace H := H.ext hx; clear hx
    refine p_val (r_move (v := (.tuple _)) rfl) ?_
    refine p_val (r_extract (v := (.agg (List.toArray _))) rfl rfl) ?_
    refine p_val (r_extract (v := (.int _ _)) rfl rfl) ?_
    refine p_alloc (l := [.int .u64 0, .int .u64 0, .int .u64 0, .int .u64 0, .int .u64 0, .int .u64 0, .int .u64 0, .int .u64 0, .bool false]) H tz52 rfl ?_; clear H; intro w43 b42 H
    refine p_storeW tg52 H rfl (k := 0) rfl rfl rfl rfl rfl ?_; clear H; intro w44 H
    refine p_val (r_assign (v := (.int _ _)) rfl) ?_
    refine wpList_nil ?_
    refine x_norm ?_; refine hK40 _ _ ?_; try clear hK40 K40
    refine wp_seq_k ?_; intro K45 hK45
    apply wp_region_ext 9 (kinds [(2, .inl _), (4, .inl _), (8, .inr (NewAt _ [.int .u64 0, .int .u64 0, .int .u64 0, .int .u64 0, .int .u64 0, .int .u64 0, .int .u64 0, .int .u64 0, .bool false] 52))]) rfl rfl (by kernel_rfl); intro vs47
    simp only [List.take_succ_cons, List.take_zero, List.drop_succ_cons, List.drop_zero]
    replace H := H.drew
    refine t_val (fun w hx => r_loadW tg24 (H.ext hx) rfl (k := 6) rfl rfl) rfl rfl ?_
    refine t_val (fun w hx => r_loadW tg24 (H.ext hx) rfl (k := 5) rfl rfl) rfl rfl ?_
    refine t_call (l := [(.int _ _), (.agg (List.toArray _)), (.agg (List.toArray _))]) rfl rfl is25 rfl (fun w hx hF => (mul_c _ _ _ (by first | exact Nat.mod_lt _ two256_pos | exact Mod.lt (mod_modN _) | assumption | exact onceN_lt (by assumption) | exact Nat.lt_trans (Nat.mod_lt _ (mod_modN _).pos) (mod_modN _).lt | exact ofV_lt2 _ _ | exact invV_lt2 _ _ | exact fm_lt2 _ _ | exact fa_lt2 _ _ | exact fs_lt2 _ _ | exact fn_lt2 _ | exact PP_lt | exact AL_GG.1 | exact AL_GG.2 | exact (AL_cadd _ _).1 | exact (AL_cadd _ _).2 | exact (AL_cmul _ _).1 | exact (AL_cmul _ _).2 | exact (AL_cofV _).1 | exact (AL_cofV _).2 | exact (AL_cneg (by assumption)).1 | exact (AL_cneg (by assumption)).2 | exact lt_lit (by decide)) (by first | exact Nat.mod_lt _ two256_pos | exact Mod.lt (mod_modN _) | assumption | exact onceN_lt (by assumption) | exact Nat.lt_trans (Nat.mod_lt _ (mod_modN _).pos) (mod_modN _).lt | exact ofV_lt2 _ _ | exact invV_lt2 _ _ | exact fm_lt2 _ _ | exact fa_lt2 _ _ | exact fs_lt2 _ _ | exact fn_lt2 _ | exact PP_lt | exact AL_GG.1 | exact AL_GG.2 | exact (AL_cadd _ _).1 | exact (AL_cadd _ _).2 | exact (AL_cmul _ _).1 | exact (AL_cmul _ _).2 | exact (AL_cofV _).1 | exact (AL_cofV _).2 | exact (AL_cneg (by assumption)).1 | exact (AL_cneg (by assumption)).2 | exact lt_lit (by decide)) _).mono (fun _ _ ⟨he, hx⟩ => ⟨he, hx⟩)) ?_
    refine t_val (fun w hx => r_loadW tg52 (H.ext hx) rfl (k := 7) rfl rfl) rfl rfl ?_
    refine t_call (l := [(.agg (List.toArray _)), (.agg (List.toArray _))]) rfl rfl is52 rfl (fun w hx hF => (mul_t (A * B % modN 1) (p.1, p.2.1, p.2.2) (by first | exact Nat.mod_lt _ two256_pos | exact Mod.lt (mod_modN _) | assumption | exact onceN_lt (by assumption) | exact Nat.lt_trans (Nat.mod_lt _ (mod_modN _).pos) (mod_modN _).lt | exact ofV_lt2 _ _ | exact invV_lt2 _ _ | exact fm_lt2 _ _ | exact fa_lt2 _ _ | exact fs_lt2 _ _ | exact fn_lt2 _ | exact PP_lt | exact AL_GG.1 | exact AL_GG.2 | exact (AL_cadd _ _).1 | exact (AL_cadd _ _).2 | exact (AL_cmul _ _).1 | exact (AL_cmul _ _).2 | exact (AL_cofV _).1 | exact (AL_cofV _).2 | exact (AL_cneg (by assumption)).1 | exact (AL_cneg (by assumption)).2 | exact lt_lit (by decide)) (by repeat (first | assumption | exact AL_GG | exact AL_0 _ | exact AL_cadd _ _ | exact AL_cmul _ _ | exact AL_cofV _ | exact AL_jend _ | refine AL_cneg ?_ | exact ⟨by decide, by decide⟩)) _).mono (fun _ _ ⟨he, hx⟩ => ⟨he, hx⟩)) ?_
    refine t_val (fun w hx => r_move (v := (.tuple _)) rfl) rfl rfl ?_
    refine t_val (fun w hx => r_extract (v := (.agg (List.toArray _))) rfl rfl) rfl rfl ?_
    refine t_float (fun w => r_extract (v := (.int _ _)) rfl rfl) rfl rfl ?_
    refine t_alloc rfl rfl tz52 rfl ?_
    refine t_nil (fun w49 hx hF hA => ?_)
    obtain ⟨b48, eb48, hbb48, hhb48⟩ := fact_rel hF 8 rfl rfl; have hnb48 := HP.neL H hbb48; replace hbb48 := Nat.le_trans H.below.size hbb48
    replace H := H.ext hx
    replace H := HP.push1 H hbb48 hnb48 hhb48
    clear hbb48 hnb48 hhb48
    clear hx hF hA
    refine p_storeW tg52 H eb48 (k := 0) rfl rfl rfl rfl rfl ?_; clear H; intro w50 H
    refine p_val (r_assign (v := (.int _ _)) rfl) ?_
    refine wpList_nil ?_; refine on_norm ?_
    refine x_norm ?_; refine hK45 _ _ ?_; try clear hK45 K45
    refine wp_seq_k ?_; intro K51 hK51
    refine wp_region_lit ?_
    refine p_val (r_loadW tg24 H rfl (k := 7) rfl rfl) ?_
    refine p_val (r_loadW tg52 H rfl (k := 4) rfl rfl) ?_
    refine p_call (l := [(.agg (List.toArray _)), (.agg (List.toArray _))]) is52 rfl ?_
    refine (mul_t (A) (cmul (B) (p.1, p.2.1, p.2.2)) (by first | exact Nat.mod_lt _ two256_pos | exact Mod.lt (mod_modN _) | assumption | exact onceN_lt (by assumption) | exact Nat.lt_trans (Nat.mod_lt _ (mod_modN _).pos) (mod_modN _).lt | exact ofV_lt2 _ _ | exact invV_lt2 _ _ | exact fm_lt2 _ _ | exact fa_lt2 _ _ | exact fs_lt2 _ _ | exact fn_lt2 _ | exact PP_lt | exact AL_GG.1 | exact AL_GG.2 | exact (AL_cadd _ _).1 | exact (AL_cadd _ _).2 | exact (AL_cmul _ _).1 | exact (AL_cmul _ _).2 | exact (AL_cofV _).1 | exact (AL_cofV _).2 | exact (AL_cneg (by assumption)).1 | exact (AL_cneg (by assumption)).2 | exact lt_lit (by decide)) (by repeat (first | assumption | exact AL_GG | exact AL_0 _ | exact AL_cadd _ _ | exact AL_cmul _ _ | exact AL_cofV _ | exact AL_jend _ | refine AL_cneg ?_ | exact ⟨by decide, by decide⟩)) _).mono ?_; rintro _ w52 ⟨rfl, hx⟩; replace H := H.ext hx; clear hx
    refine p_val (r_move (v := (.tuple _)) rfl) ?_
    refine p_val (r_extract (v := (.agg (List.toArray _))) rfl rfl) ?_
    refine p_val (r_extract (v := (.int _ _)) rfl rfl) ?_
    refine p_alloc (l := [.int .u64 0, .int .u64 0, .int .u64 0, .int .u64 0, .int .u64 0, .int .u64 0, .int .u64 0, .int .u64 0, .bool false]) H tz52 rfl ?_; clear H; intro w54 b53 H
    refine p_storeW tg52 H rfl (k := 0) rfl rfl rfl rfl rfl ?_; clear H; intro w55 H
    refine p_val (r_assign (v := (.int _ _)) rfl) ?_
    refine wpList_nil ?_
    refine x_norm ?_; refine hK51 _ _ ?_; try clear hK51 K51
    refine wp_seq_k ?_; intro K56 hK56
    refine wp_region_lit ?_
    refine p_val (r_move (v := (.int _ _)) rfl) ?_
    refine p_val (r_eql (t := true) rfl rfl (by rw [cadde_t (on_cmul hon A) (on_cmul hon B)]; rfl)) ?_
    refine p_val (r_move (v := (.bool _)) rfl) ?_
    refine p_want rfl rfl ?_
    refine p_val (r_move (v := (.int _ _)) rfl) ?_
    refine p_want rfl rfl ?_
    refine p_val (r_eql (t := true) rfl rfl (by rw [cerr_t hon]; rfl)) ?_
    refine p_val (r_pickt (v := (.bool _)) rfl rfl rfl) ?_
    refine p_val (r_move (v := (.bool _)) rfl) ?_
    refine p_want rfl rfl ?_
    refine p_val (r_move (v := (.int _ _)) rfl) ?_
    refine p_want rfl rfl ?_
    refine p_val (r_eql (t := true) rfl rfl (by rw [cerr_t (on_cmul hon B)]; rfl)) ?_
    refine p_val (r_pickt (v := (.bool _)) rfl rfl rfl) ?_
    refine p_val (r_move (v := (.bool _)) rfl) ?_
    refine p_want rfl rfl ?_
    refine p_val (r_loadW tg52 H rfl (k := 2) rfl rfl) ?_
    refine p_want rfl rfl ?_
    refine p_val (r_loadW tg52 H eb29 (k := 4) rfl rfl) ?_
    refine p_want rfl rfl ?_
    refine p_val (r_eqpt (t := true) pt52 ptf52 pts52 u24 u22 sz22 ag22 agt24 szt24 u4 agt4 eg52 rfl rfl (by first | exact Nat.mod_lt _ two256_pos | exact Mod.lt (mod_modN _) | assumption | exact onceN_lt (by assumption) | exact Nat.lt_trans (Nat.mod_lt _ (mod_modN _).pos) (mod_modN _).lt | exact ofV_lt2 _ _ | exact invV_lt2 _ _ | exact fm_lt2 _ _ | exact fa_lt2 _ _ | exact fs_lt2 _ _ | exact fn_lt2 _ | exact PP_lt | exact AL_GG.1 | exact AL_GG.2 | exact (AL_cadd _ _).1 | exact (AL_cadd _ _).2 | exact (AL_cmul _ _).1 | exact (AL_cmul _ _).2 | exact (AL_cofV _).1 | exact (AL_cofV _).2 | exact (AL_cneg (by assumption)).1 | exact (AL_cneg (by assumption)).2 | exact lt_lit (by decide)) (by first | exact Nat.mod_lt _ two256_pos | exact Mod.lt (mod_modN _) | assumption | exact onceN_lt (by assumption) | exact Nat.lt_trans (Nat.mod_lt _ (mod_modN _).pos) (mod_modN _).lt | exact ofV_lt2 _ _ | exact invV_lt2 _ _ | exact fm_lt2 _ _ | exact fa_lt2 _ _ | exact fs_lt2 _ _ | exact fn_lt2 _ | exact PP_lt | exact AL_GG.1 | exact AL_GG.2 | exact (AL_cadd _ _).1 | exact (AL_cadd _ _).2 | exact (AL_cmul _ _).1 | exact (AL_cmul _ _).2 | exact (AL_cofV _).1 | exact (AL_cofV _).2 | exact (AL_cneg (by assumption)).1 | exact (AL_cneg (by assumption)).2 | exact lt_lit (by decide)) (by first | exact Nat.mod_lt _ two256_pos | exact Mod.lt (mod_modN _) | assumption | exact onceN_lt (by assumption) | exact Nat.lt_trans (Nat.mod_lt _ (mod_modN _).pos) (mod_modN _).lt | exact ofV_lt2 _ _ | exact invV_lt2 _ _ | exact fm_lt2 _ _ | exact fa_lt2 _ _ | exact fs_lt2 _ _ | exact fn_lt2 _ | exact PP_lt | exact AL_GG.1 | exact AL_GG.2 | exact (AL_cadd _ _).1 | exact (AL_cadd _ _).2 | exact (AL_cmul _ _).1 | exact (AL_cmul _ _).2 | exact (AL_cofV _).1 | exact (AL_cofV _).2 | exact (AL_cneg (by assumption)).1 | exact (AL_cneg (by assumption)).2 | exact lt_lit (by decide)) (by first | exact Nat.mod_lt _ two256_pos | exact Mod.lt (mod_modN _) | assumption | exact onceN_lt (by assumption) | exact Nat.lt_trans (Nat.mod_lt _ (mod_modN _).pos) (mod_modN _).lt | exact ofV_lt2 _ _ | exact invV_lt2 _ _ | exact fm_lt2 _ _ | exact fa_lt2 _ _ | exact fs_lt2 _ _ | exact fn_lt2 _ | exact PP_lt | exact AL_GG.1 | exact AL_GG.2 | exact (AL_cadd _ _).1 | exact (AL_cadd _ _).2 | exact (AL_cmul _ _).1 | exact (AL_cmul _ _).2 | exact (AL_cofV _).1 | exact (AL_cofV _).2 | exact (AL_cneg (by assumption)).1 | exact (AL_cneg (by assumption)).2 | exact lt_lit (by decide)) (ptb_eq (cmul_add hon A B))) ?_
    refine p_val (r_pickt (v := (.bool _)) rfl rfl rfl) ?_
    refine p_val (r_move (v := (.bool _)) rfl) ?_
    refine p_want rfl rfl ?_
    refine p_val (r_loadW tg52 H eb48 (k := 1) rfl rfl) ?_
    refine p_want rfl rfl ?_
    refine p_val (r_loadW tg52 H rfl (k := 0) rfl rfl) ?_
    refine p_want rfl rfl ?_
    refine p_val (r_eqpt (t := true) pt52 ptf52 pts52 u24 u22 sz22 ag22 agt24 szt24 u4 agt4 eg52 rfl rfl (by first | exact Nat.mod_lt _ two256_pos | exact Mod.lt (mod_modN _) | assumption | exact onceN_lt (by assumption) | exact Nat.lt_trans (Nat.mod_lt _ (mod_modN _).pos) (mod_modN _).lt | exact ofV_lt2 _ _ | exact invV_lt2 _ _ | exact fm_lt2 _ _ | exact fa_lt2 _ _ | exact fs_lt2 _ _ | exact fn_lt2 _ | exact PP_lt | exact AL_GG.1 | exact AL_GG.2 | exact (AL_cadd _ _).1 | exact (AL_cadd _ _).2 | exact (AL_cmul _ _).1 | exact (AL_cmul _ _).2 | exact (AL_cofV _).1 | exact (AL_cofV _).2 | exact (AL_cneg (by assumption)).1 | exact (AL_cneg (by assumption)).2 | exact lt_lit (by decide)) (by first | exact Nat.mod_lt _ two256_pos | exact Mod.lt (mod_modN _) | assumption | exact onceN_lt (by assumption) | exact Nat.lt_trans (Nat.mod_lt _ (mod_modN _).pos) (mod_modN _).lt | exact ofV_lt2 _ _ | exact invV_lt2 _ _ | exact fm_lt2 _ _ | exact fa_lt2 _ _ | exact fs_lt2 _ _ | exact fn_lt2 _ | exact PP_lt | exact AL_GG.1 | exact AL_GG.2 | exact (AL_cadd _ _).1 | exact (AL_cadd _ _).2 | exact (AL_cmul _ _).1 | exact (AL_cmul _ _).2 | exact (AL_cofV _).1 | exact (AL_cofV _).2 | exact (AL_cneg (by assumption)).1 | exact (AL_cneg (by assumption)).2 | exact lt_lit (by decide)) (by first | exact Nat.mod_lt _ two256_pos | exact Mod.lt (mod_modN _) | assumption | exact onceN_lt (by assumption) | exact Nat.lt_trans (Nat.mod_lt _ (mod_modN _).pos) (mod_modN _).lt | exact ofV_lt2 _ _ | exact invV_lt2 _ _ | exact fm_lt2 _ _ | exact fa_lt2 _ _ | exact fs_lt2 _ _ | exact fn_lt2 _ | exact PP_lt | exact AL_GG.1 | exact AL_GG.2 | exact (AL_cadd _ _).1 | exact (AL_cadd _ _).2 | exact (AL_cmul _ _).1 | exact (AL_cmul _ _).2 | exact (AL_cofV _).1 | exact (AL_cofV _).2 | exact (AL_cneg (by assumption)).1 | exact (AL_cneg (by assumption)).2 | exact lt_lit (by decide)) (by first | exact Nat.mod_lt _ two256_pos | exact Mod.lt (mod_modN _) | assumption | exact onceN_lt (by assumption) | exact Nat.lt_trans (Nat.mod_lt _ (mod_modN _).pos) (mod_modN _).lt | exact ofV_lt2 _ _ | exact invV_lt2 _ _ | exact fm_lt2 _ _ | exact fa_lt2 _ _ | exact fs_lt2 _ _ | exact fn_lt2 _ | exact PP_lt | exact AL_GG.1 | exact AL_GG.2 | exact (AL_cadd _ _).1 | exact (AL_cadd _ _).2 | exact (AL_cmul _ _).1 | exact (AL_cmul _ _).2 | exact (AL_cofV _).1 | exact (AL_cofV _).2 | exact (AL_cneg (by assumption)).1 | exact (AL_cneg (by assumption)).2 | exact lt_lit (by decide)) (ptb_eq (cmul_mul hon A B))) ?_
    refine p_val (r_pickt (v := (.bool _)) rfl rfl rfl) ?_
    refine p_val (r_assign (v := (.bool _)) rfl) ?_
    refine wpList_nil ?_
    refine x_norm ?_; refine hK56 _ _ ?_; try clear hK56 K56
    refine wp_ret ?_
    refine e_1 rfl (q_tmp (v := (.bool _)) rfl) ?_
    exact ⟨rfl, H.below⟩

end Go.Proofs.Ytjmgilhlpohcmaa
