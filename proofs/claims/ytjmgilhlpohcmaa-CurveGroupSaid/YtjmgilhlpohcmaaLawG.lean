/- The walks of some functions. Conditions: as each theorem says. -/
import Derived.Test.YtjmgilhlpohcmaaLawC
import Derived.Test.YtjmgilhlpohcmaaRep
namespace Go.Proofs.Ytjmgilhlpohcmaa
open Go Go.RowKit
attribute [local irreducible] wpList wpT Code.wp Calls Code.rounds lm sd sb ad ac modN bval be fm fa fs fn jtwX jtwY jtwZ onB invV invE onT cneg cerr cadd cadde cmul cby cofV cofE
theorem u48 : Try.prog.underlying 48 = some (.array 3 24) := by kernel_rfl
theorem is52 : IsFn Try.prog 52 := isFn Try.func52 (by kernel_rfl) (by kernel_rfl)
theorem sz24 (w : World) : (sizeOf 24).run Try.prog w = .ok 4 w := by kernel_rfl

set_option maxRecDepth 8000 in
set_option maxHeartbeats 800000 in
theorem curveGroup_c (p : Ap) (hp : AL p) (A B C : Nat) (hA : A < two256) (hB : B < two256) (hC : C < two256) (w : World) :
    Calls Try.prog 14 #[.agg (ptT p).toArray, .agg (numL A ++ (numL B ++ numL C)).toArray] w fun e w' => e = .returned (.bool true) ∧ Ext w w' := by
  refine enter (n := 168) Try.func14 rfl rfl rfl ?_
  have H := HP.start w
  have hp1 := hp.1
  have hp2 := hp.2
  refine wp_seq_k ?_; intro K1 hK1
  refine wp_region_lit ?_
  refine p_box (l := (numL p.1 ++ (numL p.2.1 ++ [(.bool p.2.2 : Value)]))) H rfl ?_; clear H; intro w2 b3 H
  refine p_box (l := (numL A ++ (numL B ++ numL C))) H rfl ?_; clear H; intro w4 b5 H
  refine p_val (r_assign (v := (.bool _)) rfl) ?_
  refine wpList_nil ?_
  refine x_norm ?_; refine hK1 _ _ ?_; try clear hK1 K1
  refine wp_seq_k ?_; intro K6 hK6
  refine wp_seq_k ?_; intro K7 hK7
  refine wp_region_lit ?_
  refine p_call (l := []) is43 rfl ?_
  refine (awake7_c _).mono ?_; rintro _ w8 ⟨rfl, hx⟩; replace H := H.ext hx; clear hx
  refine p_val (r_not (t := false) rfl rfl) ?_
  refine wpList_nil ?_
  refine x_norm ?_; refine hK7 _ _ ?_; try clear hK7 K7
  refine c_false rfl rfl ?_
  refine wp_skip ?_
  refine x_norm ?_; refine hK6 _ _ ?_; try clear hK6 K6
  refine wp_seq_k ?_; intro K9 hK9
  refine wp_seq_k ?_; intro K10 hK10
  refine wp_region_lit ?_
  refine p_val (r_loadW tg52 H rfl (k := 1) rfl rfl) ?_
  refine p_call (l := [(.agg (List.toArray _))]) is44 rfl ?_
  refine (on_t (p.1, p.2.1, p.2.2) (by repeat (first | assumption | exact AL_GG | exact AL_0 _ | exact AL_cadd _ _ | exact AL_cmul _ _ | exact AL_cofV _ | exact AL_jend _ | refine AL_cneg ?_ | exact ⟨by decide, by decide⟩)) _).mono ?_; rintro _ w11 ⟨rfl, hx⟩; replace H := H.ext hx; clear hx
  refine p_val (r_not (t := _) rfl rfl) ?_
  refine wpList_nil ?_
  refine x_norm ?_; refine hK10 _ _ ?_; try clear hK10 K10
  refine c_split (t := _) rfl (fun hc_3 => ?_) (fun hc_3 => ?_)
  · skip
    refine wp_seq_k ?_; intro K13 hK13
    refine wp_region_lit ?_
    refine p_val (r_assign (v := (.bool _)) rfl) ?_
    refine wpList_nil ?_
    refine x_norm ?_; refine hK13 _ _ ?_; try clear hK13 K13
    refine wp_ret ?_
    refine x_ret ?_
    refine e_1 rfl (q_tmp (v := (.bool _)) rfl) ?_
    exact ⟨rfl, H.below⟩
  · skip
    have hon : onT p = true := by simpa using hc_3
    refine wp_skip ?_
    refine x_norm ?_; refine hK9 _ _ ?_; try clear hK9 K9
    refine wp_seq_k ?_; intro K14 hK14
    refine wp_region_lit ?_
    refine p_val (r_addrA u48 sz24 rfl (k := .i64) (i := 0) rfl rfl (by decide) (by decide)) ?_
    refine p_val (r_load (l := numL A) tg24 H rfl (k := 0) rfl rfl rfl) ?_
    refine p_val (r_loadW tg52 H rfl (k := 1) rfl rfl) ?_
    refine p_call (l := [(.agg (List.toArray _)), (.agg (List.toArray _))]) is52 rfl ?_
    refine (mul_t (A) (p.1, p.2.1, p.2.2) (by first | exact Nat.mod_lt _ two256_pos | exact Mod.lt (mod_modN _) | assumption | exact onceN_lt (by assumption) | exact Nat.lt_trans (Nat.mod_lt _ (mod_modN _).pos) (mod_modN _).lt | exact ofV_lt2 _ _ | exact invV_lt2 _ _ | exact fm_lt2 _ _ | exact fa_lt2 _ _ | exact fs_lt2 _ _ | exact fn_lt2 _ | exact PP_lt | exact AL_GG.1 | exact AL_GG.2 | exact (AL_cadd _ _).1 | exact (AL_cadd _ _).2 | exact (AL_cmul _ _).1 | exact (AL_cmul _ _).2 | exact (AL_cofV _).1 | exact (AL_cofV _).2 | exact (AL_cneg (by assumption)).1 | exact (AL_cneg (by assumption)).2 | exact lt_lit (by decide)) (by repeat (first | assumption | exact AL_GG | exact AL_0 _ | exact AL_cadd _ _ | exact AL_cmul _ _ | exact AL_cofV _ | exact AL_jend _ | refine AL_cneg ?_ | exact ⟨by decide, by decide⟩)) _).mono ?_; rintro _ w15 ⟨rfl, hx⟩; replace H := H.ext hx; clear hx
    refine p_val (r_move (v := (.tuple _)) rfl) ?_
    refine p_val (r_extract (v := (.agg (List.toArray _))) rfl rfl) ?_
    refine p_val (r_extract (v := (.int _ _)) rfl rfl) ?_
    refine p_alloc (l := [.int .u64 0, .int .u64 0, .int .u64 0, .int .u64 0, .int .u64 0, .int .u64 0, .int .u64 0, .int .u64 0, .bool false]) H tz52 rfl ?_; clear H; intro w17 b16 H
    refine p_storeW tg52 H rfl (k := 0) rfl rfl rfl rfl rfl ?_; clear H; intro w18 H
    refine p_val (r_assign (v := (.int _ _)) rfl) ?_
    refine wpList_nil ?_
    refine x_norm ?_; refine hK14 _ _ ?_; try clear hK14 K14
    refine wp_seq_k ?_; intro K19 hK19
    refine wp_region_lit ?_
    refine p_val (r_addrA u48 sz24 rfl (k := .i64) (i := 1) rfl rfl (by decide) (by decide)) ?_
    refine p_val (r_load (l := numL B) tg24 H rfl (k := 1) rfl rfl rfl) ?_
    refine p_val (r_loadW tg52 H rfl (k := 2) rfl rfl) ?_
    refine p_call (l := [(.agg (List.toArray _)), (.agg (List.toArray _))]) is52 rfl ?_
    refine (mul_t (B) (p.1, p.2.1, p.2.2) (by first | exact Nat.mod_lt _ two256_pos | exact Mod.lt (mod_modN _) | assumption | exact onceN_lt (by assumption) | exact Nat.lt_trans (Nat.mod_lt _ (mod_modN _).pos) (mod_modN _).lt | exact ofV_lt2 _ _ | exact invV_lt2 _ _ | exact fm_lt2 _ _ | exact fa_lt2 _ _ | exact fs_lt2 _ _ | exact fn_lt2 _ | exact PP_lt | exact AL_GG.1 | exact AL_GG.2 | exact (AL_cadd _ _).1 | exact (AL_cadd _ _).2 | exact (AL_cmul _ _).1 | exact (AL_cmul _ _).2 | exact (AL_cofV _).1 | exact (AL_cofV _).2 | exact (AL_cneg (by assumption)).1 | exact (AL_cneg (by assumption)).2 | exact lt_lit (by decide)) (by repeat (first | assumption | exact AL_GG | exact AL_0 _ | exact AL_cadd _ _ | exact AL_cmul _ _ | exact AL_cofV _ | exact AL_jend _ | refine AL_cneg ?_ | exact ⟨by decide, by decide⟩)) _).mono ?_; rintro _ w20 ⟨rfl, hx⟩; replace H := H.ext hx; clear hx
    refine p_val (r_move (v := (.tuple _)) rfl) ?_
    refine p_val (r_extract (v := (.agg (List.toArray _))) rfl rfl) ?_
    refine p_val (r_extract (v := (.int _ _)) rfl rfl) ?_
    refine p_alloc (l := [.int .u64 0, .int .u64 0, .int .u64 0, .int .u64 0, .int .u64 0, .int .u64 0, .int .u64 0, .int .u64 0, .bool false]) H tz52 rfl ?_; clear H; intro w22 b21 H
    refine p_storeW tg52 H rfl (k := 0) rfl rfl rfl rfl rfl ?_; clear H; intro w23 H
    refine p_val (r_assign (v := (.int _ _)) rfl) ?_
    refine wpList_nil ?_
    refine x_norm ?_; refine hK19 _ _ ?_; try clear hK19 K19
    refine wp_seq_k ?_; intro K24 hK24
    refine wp_region_lit ?_
    refine p_val (r_addrA u48 sz24 rfl (k := .i64) (i := 2) rfl rfl (by decide) (by decide)) ?_
    refine p_val (r_load (l := numL C) tg24 H rfl (k := 2) rfl rfl rfl) ?_
    refine p_val (r_loadW tg52 H rfl (k := 3) rfl rfl) ?_
    refine p_call (l := [(.agg (List.toArray _)), (.agg (List.toArray _))]) is52 rfl ?_
    refine (mul_t (C) (p.1, p.2.1, p.2.2) (by first | exact Nat.mod_lt _ two256_pos | exact Mod.lt (mod_modN _) | assumption | exact onceN_lt (by assumption) | exact Nat.lt_trans (Nat.mod_lt _ (mod_modN _).pos) (mod_modN _).lt | exact ofV_lt2 _ _ | exact invV_lt2 _ _ | exact fm_lt2 _ _ | exact fa_lt2 _ _ | exact fs_lt2 _ _ | exact fn_lt2 _ | exact PP_lt | exact AL_GG.1 | exact AL_GG.2 | exact (AL_cadd _ _).1 | exact (AL_cadd _ _).2 | exact (AL_cmul _ _).1 | exact (AL_cmul _ _).2 | exact (AL_cofV _).1 | exact (AL_cofV _).2 | exact (AL_cneg (by assumption)).1 | exact (AL_cneg (by assumption)).2 | exact lt_lit (by decide)) (by repeat (first | assumption | exact AL_GG | exact AL_0 _ | exact AL_cadd _ _ | exact AL_cmul _ _ | exact AL_cofV _ | exact AL_jend _ | refine AL_cneg ?_ | exact ⟨by decide, by decide⟩)) _).mono ?_; rintro _ w25 ⟨rfl, hx⟩; replace H := H.ext hx; clear hx
    refine p_val (r_move (v := (.tuple _)) rfl) ?_
    refine p_val (r_extract (v := (.agg (List.toArray _))) rfl rfl) ?_
    refine p_val (r_extract (v := (.int _ _)) rfl rfl) ?_
    refine p_alloc (l := [.int .u64 0, .int .u64 0, .int .u64 0, .int .u64 0, .int .u64 0, .int .u64 0, .int .u64 0, .int .u64 0, .bool false]) H tz52 rfl ?_; clear H; intro w27 b26 H
    refine p_storeW tg52 H rfl (k := 0) rfl rfl rfl rfl rfl ?_; clear H; intro w28 H
    refine p_val (r_assign (v := (.int _ _)) rfl) ?_
    refine wpList_nil ?_
    refine x_norm ?_; refine hK24 _ _ ?_; try clear hK24 K24
    refine wp_seq_k ?_; intro K29 hK29
    refine wp_seq_k ?_; intro K30 hK30
    refine wp_region_lit ?_
    refine p_val (r_move (v := (.int _ _)) rfl) ?_
    refine p_val (r_neq (t := false) rfl rfl (by rw [cerr_t hon]; rfl)) ?_
    refine p_val (r_move (v := (.bool _)) rfl) ?_
    refine p_want rfl rfl ?_
    refine p_val (r_move (v := (.int _ _)) rfl) ?_
    refine p_want rfl rfl ?_
    refine p_val (r_neq (t := false) rfl rfl (by rw [cerr_t hon]; rfl)) ?_
    refine p_val (r_pickf (v := (.bool _)) rfl rfl rfl) ?_
    refine p_val (r_move (v := (.bool _)) rfl) ?_
    refine p_want rfl rfl ?_
    refine p_val (r_move (v := (.int _ _)) rfl) ?_
    refine p_want rfl rfl ?_
    refine p_val (r_neq (t := false) rfl rfl (by rw [cerr_t hon]; rfl)) ?_
    refine p_val (r_pickf (v := (.bool _)) rfl rfl rfl) ?_
    refine p_val (r_move (v := (.bool _)) rfl) ?_
    refine p_want rfl rfl ?_
    refine p_val (r_loadW tg52 H rfl (k := 2) rfl rfl) ?_
    refine p_want rfl rfl ?_
    refine p_call (l := [(.agg (List.toArray _))]) is44 rfl ?_
    refine (on_t (cmul (A) (p.1, p.2.1, p.2.2)) (by repeat (first | assumption | exact AL_GG | exact AL_0 _ | exact AL_cadd _ _ | exact AL_cmul _ _ | exact AL_cofV _ | exact AL_jend _ | refine AL_cneg ?_ | exact ⟨by decide, by decide⟩)) _).mono ?_; rintro _ w31 ⟨rfl, hx⟩; replace H := H.ext hx; clear hx
    refine p_want rfl rfl ?_
    refine p_val (r_not (t := false) rfl (by rw [(on_cmul hon A)]; rfl)) ?_
    refine p_val (r_pickf (v := (.bool _)) rfl rfl rfl) ?_
    refine p_val (r_move (v := (.bool _)) rfl) ?_
    refine p_want rfl rfl ?_
    refine p_val (r_loadW tg52 H rfl (k := 1) rfl rfl) ?_
    refine p_want rfl rfl ?_
    refine p_call (l := [(.agg (List.toArray _))]) is44 rfl ?_
    refine (on_t (cmul (B) (p.1, p.2.1, p.2.2)) (by repeat (first | assumption | exact AL_GG | exact AL_0 _ | exact AL_cadd _ _ | exact AL_cmul _ _ | exact AL_cofV _ | exact AL_jend _ | refine AL_cneg ?_ | exact ⟨by decide, by decide⟩)) _).mono ?_; rintro _ w32 ⟨rfl, hx⟩; replace H := H.ext hx; clear hx
    refine p_want rfl rfl ?_
    refine p_val (r_not (t := false) rfl (by rw [(on_cmul hon B)]; rfl)) ?_
    refine p_val (r_pickf (v := (.bool _)) rfl rfl rfl) ?_
    refine p_val (r_move (v := (.bool _)) rfl) ?_
    refine p_want rfl rfl ?_
    refine p_val (r_loadW tg52 H rfl (k := 0) rfl rfl) ?_
    refine p_want rfl rfl ?_
    refine p_call (l := [(.agg (List.toArray _))]) is44 rfl ?_
    refine (on_t (cmul (C) (p.1, p.2.1, p.2.2)) (by repeat (first | assumption | exact AL_GG | exact AL_0 _ | exact AL_cadd _ _ | exact AL_cmul _ _ | exact AL_cofV _ | exact AL_jend _ | refine AL_cneg ?_ | exact ⟨by decide, by decide⟩)) _).mono ?_; rintro _ w33 ⟨rfl, hx⟩; replace H := H.ext hx; clear hx
    refine p_want rfl rfl ?_
    refine p_val (r_not (t := false) rfl (by rw [(on_cmul hon C)]; rfl)) ?_
    refine p_val (r_pickf (v := (.bool _)) rfl rfl rfl) ?_
    refine wpList_nil ?_
    refine x_norm ?_; refine hK30 _ _ ?_; try clear hK30 K30
    refine c_false rfl rfl ?_
    refine wp_skip ?_
    refine x_norm ?_; refine hK29 _ _ ?_; try clear hK29 K29
    refine wp_seq_k ?_; intro K34 hK34
    refine wp_region_lit ?_
    refine p_val (r_loadW tg52 H rfl (k := 2) rfl rfl) ?_
    refine p_val (r_loadW tg52 H rfl (k := 1) rfl rfl) ?_
    refine p_call (l := [(.agg (List.toArray _)), (.agg (List.toArray _))]) is47 rfl ?_
    refine (add_t (cmul (A) (p.1, p.2.1, p.2.2)) (cmul (B) (p.1, p.2.1, p.2.2)) (by repeat (first | assumption | exact AL_GG | exact AL_0 _ | exact AL_cadd _ _ | exact AL_cmul _ _ | exact AL_cofV _ | exact AL_jend _ | refine AL_cneg ?_ | exact ⟨by decide, by decide⟩)) (by repeat (first | assumption | exact AL_GG | exact AL_0 _ | exact AL_cadd _ _ | exact AL_cmul _ _ | exact AL_cofV _ | exact AL_jend _ | refine AL_cneg ?_ | exact ⟨by decide, by decide⟩)) _).mono ?_; rintro _ w35 ⟨rfl, hx⟩; replace H := H.ext hx; clear hx
    refine p_val (r_move (v := (.tuple _)) rfl) ?_
    refine p_val (r_extract (v := (.agg (List.toArray _))) rfl rfl) ?_
    refine p_val (r_extract (v := (.int _ _)) rfl rfl) ?_
    refine p_alloc (l := [.int .u64 0, .int .u64 0, .int .u64 0, .int .u64 0, .int .u64 0, .int .u64 0, .int .u64 0, .int .u64 0, .bool false]) H tz52 rfl ?_; clear H; intro w37 b36 H
    refine p_storeW tg52 H rfl (k := 0) rfl rfl rfl rfl rfl ?_; clear H; intro w38 H
    refine p_val (r_assign (v := (.int _ _)) rfl) ?_
    refine wpList_nil ?_
    refine x_norm ?_; refine hK34 _ _ ?_; try clear hK34 K34
    refine wp_seq_k ?_; intro K39 hK39
    refine wp_region_lit ?_
    refine p_val (r_loadW tg52 H rfl (k := 2) rfl rfl) ?_
    refine p_val (r_loadW tg52 H rfl (k := 3) rfl rfl) ?_
    refine p_call (l := [(.agg (List.toArray _)), (.agg (List.toArray _))]) is47 rfl ?_
    refine (add_t (cmul (B) (p.1, p.2.1, p.2.2)) (cmul (A) (p.1, p.2.1, p.2.2)) (by repeat (first | assumption | exact AL_GG | exact AL_0 _ | exact AL_cadd _ _ | exact AL_cmul _ _ | exact AL_cofV _ | exact AL_jend _ | refine AL_cneg ?_ | exact ⟨by decide, by decide⟩)) (by repeat (first | assumption | exact AL_GG | exact AL_0 _ | exact AL_cadd _ _ | exact AL_cmul _ _ | exact AL_cofV _ | exact AL_jend _ | refine AL_cneg ?_ | exact ⟨by decide, by decide⟩)) _).mono ?_; rintro _ w40 ⟨rfl, hx⟩; replace H := H.ext hx; clear hx
    refine p_val (r_move (v := (.tuple _)) rfl) ?_
    refine p_val (r_extract (v := (.agg (List.toArray _))) rfl rfl) ?_
    refine p_val (r_extract (v := (.int _ _)) rfl rfl) ?_
    refine p_alloc (l := [.int .u64 0, .int .u64 0, .int .u64 0, .int .u64 0, .int .u64 0, .int .u64 0, .int .u64 0, .int .u64 0, .bool false]) H tz52 rfl ?_; clear H; intro w42 b41 H
    refine p_storeW tg52 H rfl (k := 0) rfl rfl rfl rfl rfl ?_; clear H; intro w43 H
    refine p_val (r_assign (v := (.int _ _)) rfl) ?_
    refine wpList_nil ?_
    refine x_norm ?_; refine hK39 _ _ ?_; try clear hK39 K39
    refine wp_seq_k ?_; intro K44 hK44
    refine wp_region_lit ?_
    refine p_val (r_loadW tg52 H rfl (k := 3) rfl rfl) ?_
    refine p_val (r_loadW tg52 H rfl (k := 2) rfl rfl) ?_
    refine p_call (l := [(.agg (List.toArray _)), (.agg (List.toArray _))]) is47 rfl ?_
    refine (add_t (cmul (B) (p.1, p.2.1, p.2.2)) (cmul (C) (p.1, p.2.1, p.2.2)) (by repeat (first | assumption | exact AL_GG | exact AL_0 _ | exact AL_cadd _ _ | exact AL_cmul _ _ | exact AL_cofV _ | exact AL_jend _ | refine AL_cneg ?_ | exact ⟨by decide, by decide⟩)) (by repeat (first | assumption | exact AL_GG | exact AL_0 _ | exact AL_cadd _ _ | exact AL_cmul _ _ | exact AL_cofV _ | exact AL_jend _ | refine AL_cneg ?_ | exact ⟨by decide, by decide⟩)) _).mono ?_; rintro _ w45 ⟨rfl, hx⟩; replace H := H.ext hx; clear hx
    refine p_val (r_move (v := (.tuple _)) rfl) ?_
    refine p_val (r_extract (v := (.agg (List.toArray _))) rfl rfl) ?_
    refine p_val (r_extract (v := (.int _ _)) rfl rfl) ?_
    refine p_alloc (l := [.int .u64 0, .int .u64 0, .int .u64 0, .int .u64 0, .int .u64 0, .int .u64 0, .int .u64 0, .int .u64 0, .bool false]) H tz52 rfl ?_; clear H; intro w47 b46 H
    refine p_storeW tg52 H rfl (k := 0) rfl rfl rfl rfl rfl ?_; clear H; intro w48 H
    refine p_val (r_assign (v := (.int _ _)) rfl) ?_
    refine wpList_nil ?_
    refine x_norm ?_; refine hK44 _ _ ?_; try clear hK44 K44
    refine wp_seq_k ?_; intro K49 hK49
    refine wp_seq_k ?_; intro K50 hK50
    refine wp_region_lit ?_
    refine p_val (r_move (v := (.int _ _)) rfl) ?_
    refine p_val (r_neq (t := false) rfl rfl (by rw [cadde_t (on_cmul hon A) (on_cmul hon B)]; rfl)) ?_
    refine p_val (r_move (v := (.bool _)) rfl) ?_
    refine p_want rfl rfl ?_
    refine p_val (r_move (v := (.int _ _)) rfl) ?_
    refine p_want rfl rfl ?_
    refine p_val (r_neq (t := false) rfl rfl (by rw [cadde_t (on_cmul hon B) (on_cmul hon A)]; rfl)) ?_
    refine p_val (r_pickf (v := (.bool _)) rfl rfl rfl) ?_
    refine p_val (r_move (v := (.bool _)) rfl) ?_
    refine p_want rfl rfl ?_
    refine p_val (r_move (v := (.int _ _)) rfl) ?_
    refine p_want rfl rfl ?_
    refine p_val (r_neq (t := false) rfl rfl (by rw [cadde_t (on_cmul hon B) (on_cmul hon C)]; rfl)) ?_
    refine p_val (r_pickf (v := (.bool _)) rfl rfl rfl) ?_
    refine p_val (r_move (v := (.bool _)) rfl) ?_
    refine p_want rfl rfl ?_
    refine p_val (r_loadW tg52 H rfl (k := 2) rfl rfl) ?_
    refine p_want rfl rfl ?_
    refine p_val (r_loadW tg52 H rfl (k := 1) rfl rfl) ?_
    refine p_want rfl rfl ?_
    refine p_val (r_nept (t := false) pt52 ptf52 pts52 u24 u22 sz22 ag22 agt24 szt24 u4 agt4 eg52 rfl rfl (by first | exact Nat.mod_lt _ two256_pos | exact Mod.lt (mod_modN _) | assumption | exact onceN_lt (by assumption) | exact Nat.lt_trans (Nat.mod_lt _ (mod_modN _).pos) (mod_modN _).lt | exact ofV_lt2 _ _ | exact invV_lt2 _ _ | exact fm_lt2 _ _ | exact fa_lt2 _ _ | exact fs_lt2 _ _ | exact fn_lt2 _ | exact PP_lt | exact AL_GG.1 | exact AL_GG.2 | exact (AL_cadd _ _).1 | exact (AL_cadd _ _).2 | exact (AL_cmul _ _).1 | exact (AL_cmul _ _).2 | exact (AL_cofV _).1 | exact (AL_cofV _).2 | exact (AL_cneg (by assumption)).1 | exact (AL_cneg (by assumption)).2 | exact lt_lit (by decide)) (by first | exact Nat.mod_lt _ two256_pos | exact Mod.lt (mod_modN _) | assumption | exact onceN_lt (by assumption) | exact Nat.lt_trans (Nat.mod_lt _ (mod_modN _).pos) (mod_modN _).lt | exact ofV_lt2 _ _ | exact invV_lt2 _ _ | exact fm_lt2 _ _ | exact fa_lt2 _ _ | exact fs_lt2 _ _ | exact fn_lt2 _ | exact PP_lt | exact AL_GG.1 | exact AL_GG.2 | exact (AL_cadd _ _).1 | exact (AL_cadd _ _).2 | exact (AL_cmul _ _).1 | exact (AL_cmul _ _).2 | exact (AL_cofV _).1 | exact (AL_cofV _).2 | exact (AL_cneg (by assumption)).1 | exact (AL_cneg (by assumption)).2 | exact lt_lit (by decide)) (by first | exact Nat.mod_lt _ two256_pos | exact Mod.lt (mod_modN _) | assumption | exact onceN_lt (by assumption) | exact Nat.lt_trans (Nat.mod_lt _ (mod_modN _).pos) (mod_modN _).lt | exact ofV_lt2 _ _ | exact invV_lt2 _ _ | exact fm_lt2 _ _ | exact fa_lt2 _ _ | exact fs_lt2 _ _ | exact fn_lt2 _ | exact PP_lt | exact AL_GG.1 | exact AL_GG.2 | exact (AL_cadd _ _).1 | exact (AL_cadd _ _).2 | exact (AL_cmul _ _).1 | exact (AL_cmul _ _).2 | exact (AL_cofV _).1 | exact (AL_cofV _).2 | exact (AL_cneg (by assumption)).1 | exact (AL_cneg (by assumption)).2 | exact lt_lit (by decide)) (by first | exact Nat.mod_lt _ two256_pos | exact Mod.lt (mod_modN _) | assumption | exact onceN_lt (by assumption) | exact Nat.lt_trans (Nat.mod_lt _ (mod_modN _).pos) (mod_modN _).lt | exact ofV_lt2 _ _ | exact invV_lt2 _ _ | exact fm_lt2 _ _ | exact fa_lt2 _ _ | exact fs_lt2 _ _ | exact fn_lt2 _ | exact PP_lt | exact AL_GG.1 | exact AL_GG.2 | exact (AL_cadd _ _).1 | exact (AL_cadd _ _).2 | exact (AL_cmul _ _).1 | exact (AL_cmul _ _).2 | exact (AL_cofV _).1 | exact (AL_cofV _).2 | exact (AL_cneg (by assumption)).1 | exact (AL_cneg (by assumption)).2 | exact lt_lit (by decide)) (ptb_ne (cadd_comm (on_cmul hon A) (on_cmul hon B)))) ?_
    refine p_val (r_pickf (v := (.bool _)) rfl rfl rfl) ?_
    refine p_val (r_move (v := (.bool _)) rfl) ?_
    refine p_want rfl rfl ?_
    refine p_val (r_loadW tg52 H rfl (k := 2) rfl rfl) ?_
    refine p_want rfl rfl ?_
    refine p_call (l := [(.agg (List.toArray _))]) is44 rfl ?_
    refine (on_t (cadd (cmul (A) (p.1, p.2.1, p.2.2)) (cmul (B) (p.1, p.2.1, p.2.2))) (by repeat (first | assumption | exact AL_GG | exact AL_0 _ | exact AL_cadd _ _ | exact AL_cmul _ _ | exact AL_cofV _ | exact AL_jend _ | refine AL_cneg ?_ | exact ⟨by decide, by decide⟩)) _).mono ?_; rintro _ w51 ⟨rfl, hx⟩; replace H := H.ext hx; clear hx
    refine p_want rfl rfl ?_
    refine p_val (r_not (t := false) rfl (by rw [(on_cadd (on_cmul hon A) (on_cmul hon B))]; rfl)) ?_
    refine p_val (r_pickf (v := (.bool _)) rfl rfl rfl) ?_
    refine wpList_nil ?_
    refine x_norm ?_; refine hK50 _ _ ?_; try clear hK50 K50
    refine c_false rfl rfl ?_
    refine wp_skip ?_
    refine x_norm ?_; refine hK49 _ _ ?_; try clear hK49 K49
    refine wp_seq_k ?_; intro K52 hK52
    refine wp_region_lit ?_
    refine p_val (r_loadW tg52 H rfl (k := 2) rfl rfl) ?_
    refine p_val (r_loadW tg52 H rfl (k := 3) rfl rfl) ?_
    refine p_call (l := [(.agg (List.toArray _)), (.agg (List.toArray _))]) is47 rfl ?_
    refine (add_t (cadd (cmul (A) (p.1, p.2.1, p.2.2)) (cmul (B) (p.1, p.2.1, p.2.2))) (cmul (C) (p.1, p.2.1, p.2.2)) (by repeat (first | assumption | exact AL_GG | exact AL_0 _ | exact AL_cadd _ _ | exact AL_cmul _ _ | exact AL_cofV _ | exact AL_jend _ | refine AL_cneg ?_ | exact ⟨by decide, by decide⟩)) (by repeat (first | assumption | exact AL_GG | exact AL_0 _ | exact AL_cadd _ _ | exact AL_cmul _ _ | exact AL_cofV _ | exact AL_jend _ | refine AL_cneg ?_ | exact ⟨by decide, by decide⟩)) _).mono ?_; rintro _ w53 ⟨rfl, hx⟩; replace H := H.ext hx; clear hx
    refine p_val (r_move (v := (.tuple _)) rfl) ?_
    refine p_val (r_extract (v := (.agg (List.toArray _))) rfl rfl) ?_
    refine p_val (r_extract (v := (.int _ _)) rfl rfl) ?_
    refine p_alloc (l := [.int .u64 0, .int .u64 0, .int .u64 0, .int .u64 0, .int .u64 0, .int .u64 0, .int .u64 0, .int .u64 0, .bool false]) H tz52 rfl ?_; clear H; intro w55 b54 H
    refine p_storeW tg52 H rfl (k := 0) rfl rfl rfl rfl rfl ?_; clear H; intro w56 H
    refine p_val (r_assign (v := (.int _ _)) rfl) ?_
    refine wpList_nil ?_
    refine x_norm ?_; refine hK52 _ _ ?_; try clear hK52 K52
    refine wp_seq_k ?_; intro K57 hK57
    refine wp_region_lit ?_
    refine p_val (r_loadW tg52 H rfl (k := 6) rfl rfl) ?_
    refine p_val (r_loadW tg52 H rfl (k := 1) rfl rfl) ?_
    refine p_call (l := [(.agg (List.toArray _)), (.agg (List.toArray _))]) is47 rfl ?_
    refine (add_t (cmul (A) (p.1, p.2.1, p.2.2)) (cadd (cmul (B) (p.1, p.2.1, p.2.2)) (cmul (C) (p.1, p.2.1, p.2.2))) (by repeat (first | assumption | exact AL_GG | exact AL_0 _ | exact AL_cadd _ _ | exact AL_cmul _ _ | exact AL_cofV _ | exact AL_jend _ | refine AL_cneg ?_ | exact ⟨by decide, by decide⟩)) (by repeat (first | assumption | exact AL_GG | exact AL_0 _ | exact AL_cadd _ _ | exact AL_cmul _ _ | exact AL_cofV _ | exact AL_jend _ | refine AL_cneg ?_ | exact ⟨by decide, by decide⟩)) _).mono ?_; rintro _ w58 ⟨rfl, hx⟩; replace H := H.ext hx; clear hx
    refine p_val (r_move (v := (.tuple _)) rfl) ?_
    refine p_val (r_extract (v := (.agg (List.toArray _))) rfl rfl) ?_
    refine p_val (r_extract (v := (.int _ _)) rfl rfl) ?_
    refine p_alloc (l := [.int .u64 0, .int .u64 0, .int .u64 0, .int .u64 0, .int .u64 0, .int .u64 0, .int .u64 0, .int .u64 0, .bool false]) H tz52 rfl ?_; clear H; intro w60 b59 H
    refine p_storeW tg52 H rfl (k := 0) rfl rfl rfl rfl rfl ?_; clear H; intro w61 H
    refine p_val (r_assign (v := (.int _ _)) rfl) ?_
    refine wpList_nil ?_
    refine x_norm ?_; refine hK57 _ _ ?_; try clear hK57 K57
    refine wp_seq_k ?_; intro K62 hK62
    refine wp_region_lit ?_
    refine p_val (r_loadW tg52 H rfl (k := 7) rfl rfl) ?_
    refine p_call (l := [(.agg (List.toArray _))]) is46 rfl ?_
    refine (neg_t (cmul (A) (p.1, p.2.1, p.2.2)) (by repeat (first | assumption | exact AL_GG | exact AL_0 _ | exact AL_cadd _ _ | exact AL_cmul _ _ | exact AL_cofV _ | exact AL_jend _ | refine AL_cneg ?_ | exact ⟨by decide, by decide⟩)) _).mono ?_; rintro _ w63 ⟨rfl, hx⟩; replace H := H.ext hx; clear hx
    refine p_val (r_move (v := (.tuple _)) rfl) ?_
    refine p_val (r_extract (v := (.agg (List.toArray _))) rfl rfl) ?_
    refine p_val (r_extract (v := (.int _ _)) rfl rfl) ?_
    refine p_alloc (l := [.int .u64 0, .int .u64 0, .int .u64 0, .int .u64 0, .int .u64 0, .int .u64 0, .int .u64 0, .int .u64 0, .bool false]) H tz52 rfl ?_; clear H; intro w65 b64 H
    refine p_storeW tg52 H rfl (k := 0) rfl rfl rfl rfl rfl ?_; clear H; intro w66 H
    refine p_val (r_assign (v := (.int _ _)) rfl) ?_
    refine wpList_nil ?_
    refine x_norm ?_; refine hK62 _ _ ?_; try clear hK62 K62
    refine wp_seq_k ?_; intro K67 hK67
    refine wp_seq_k ?_; intro K68 hK68
    refine wp_region_lit ?_
    refine p_val (r_move (v := (.int _ _)) rfl) ?_
    refine p_val (r_neq (t := false) rfl rfl (by rw [cadde_t (on_cadd (on_cmul hon A) (on_cmul hon B)) (on_cmul hon C)]; rfl)) ?_
    refine p_val (r_move (v := (.bool _)) rfl) ?_
    refine p_want rfl rfl ?_
    refine p_val (r_move (v := (.int _ _)) rfl) ?_
    refine p_want rfl rfl ?_
    refine p_val (r_neq (t := false) rfl rfl (by rw [cadde_t (on_cmul hon A) (on_cadd (on_cmul hon B) (on_cmul hon C))]; rfl)) ?_
    refine p_val (r_pickf (v := (.bool _)) rfl rfl rfl) ?_
    refine p_val (r_move (v := (.bool _)) rfl) ?_
    refine p_want rfl rfl ?_
    refine p_val (r_move (v := (.int _ _)) rfl) ?_
    refine p_want rfl rfl ?_
    refine p_val (r_neq (t := false) rfl rfl (by rw [cerr_t (on_cmul hon A)]; rfl)) ?_
    refine p_val (r_pickf (v := (.bool _)) rfl rfl rfl) ?_
    refine p_val (r_move (v := (.bool _)) rfl) ?_
    refine p_want rfl rfl ?_
    refine p_val (r_loadW tg52 H rfl (k := 2) rfl rfl) ?_
    refine p_want rfl rfl ?_
    refine p_val (r_loadW tg52 H rfl (k := 1) rfl rfl) ?_
    refine p_want rfl rfl ?_
    refine p_val (r_nept (t := false) pt52 ptf52 pts52 u24 u22 sz22 ag22 agt24 szt24 u4 agt4 eg52 rfl rfl (by first | exact Nat.mod_lt _ two256_pos | exact Mod.lt (mod_modN _) | assumption | exact onceN_lt (by assumption) | exact Nat.lt_trans (Nat.mod_lt _ (mod_modN _).pos) (mod_modN _).lt | exact ofV_lt2 _ _ | exact invV_lt2 _ _ | exact fm_lt2 _ _ | exact fa_lt2 _ _ | exact fs_lt2 _ _ | exact fn_lt2 _ | exact PP_lt | exact AL_GG.1 | exact AL_GG.2 | exact (AL_cadd _ _).1 | exact (AL_cadd _ _).2 | exact (AL_cmul _ _).1 | exact (AL_cmul _ _).2 | exact (AL_cofV _).1 | exact (AL_cofV _).2 | exact (AL_cneg (by assumption)).1 | exact (AL_cneg (by assumption)).2 | exact lt_lit (by decide)) (by first | exact Nat.mod_lt _ two256_pos | exact Mod.lt (mod_modN _) | assumption | exact onceN_lt (by assumption) | exact Nat.lt_trans (Nat.mod_lt _ (mod_modN _).pos) (mod_modN _).lt | exact ofV_lt2 _ _ | exact invV_lt2 _ _ | exact fm_lt2 _ _ | exact fa_lt2 _ _ | exact fs_lt2 _ _ | exact fn_lt2 _ | exact PP_lt | exact AL_GG.1 | exact AL_GG.2 | exact (AL_cadd _ _).1 | exact (AL_cadd _ _).2 | exact (AL_cmul _ _).1 | exact (AL_cmul _ _).2 | exact (AL_cofV _).1 | exact (AL_cofV _).2 | exact (AL_cneg (by assumption)).1 | exact (AL_cneg (by assumption)).2 | exact lt_lit (by decide)) (by first | exact Nat.mod_lt _ two256_pos | exact Mod.lt (mod_modN _) | assumption | exact onceN_lt (by assumption) | exact Nat.lt_trans (Nat.mod_lt _ (mod_modN _).pos) (mod_modN _).lt | exact ofV_lt2 _ _ | exact invV_lt2 _ _ | exact fm_lt2 _ _ | exact fa_lt2 _ _ | exact fs_lt2 _ _ | exact fn_lt2 _ | exact PP_lt | exact AL_GG.1 | exact AL_GG.2 | exact (AL_cadd _ _).1 | exact (AL_cadd _ _).2 | exact (AL_cmul _ _).1 | exact (AL_cmul _ _).2 | exact (AL_cofV _).1 | exact (AL_cofV _).2 | exact (AL_cneg (by assumption)).1 | exact (AL_cneg (by assumption)).2 | exact lt_lit (by decide)) (by first | exact Nat.mod_lt _ two256_pos | exact Mod.lt (mod_modN _) | assumption | exact onceN_lt (by assumption) | exact Nat.lt_trans (Nat.mod_lt _ (mod_modN _).pos) (mod_modN _).lt | exact ofV_lt2 _ _ | exact invV_lt2 _ _ | exact fm_lt2 _ _ | exact fa_lt2 _ _ | exact fs_lt2 _ _ | exact fn_lt2 _ | exact PP_lt | exact AL_GG.1 | exact AL_GG.2 | exact (AL_cadd _ _).1 | exact (AL_cadd _ _).2 | exact (AL_cmul _ _).1 | exact (AL_cmul _ _).2 | exact (AL_cofV _).1 | exact (AL_cofV _).2 | exact (AL_cneg (by assumption)).1 | exact (AL_cneg (by assumption)).2 | exact lt_lit (by decide)) (ptb_ne (cadd_assoc (on_cmul hon A) (on_cmul hon B) (on_cmul hon C)))) ?_
    refine p_val (r_pickf (v := (.bool _)) rfl rfl rfl) ?_
    refine wpList_nil ?_
    refine x_norm ?_; refine hK68 _ _ ?_; try clear hK68 K68
    refine c_false rfl rfl ?_
    refine wp_skip ?_
    refine x_norm ?_; refine hK67 _ _ ?_; try clear hK67 K67
    refine wp_seq_k ?_; intro K69 hK69
    refine wp_region_lit ?_
    refine p_val (r_loadW tg52 H rfl (k := 8) rfl rfl) ?_
    refine p_val (r_loadW tg52 H rfl (k := 0) rfl rfl) ?_
    refine p_call (l := [(.agg (List.toArray _)), (.agg (List.toArray _))]) is47 rfl ?_
    refine (add_t (cmul (A) (p.1, p.2.1, p.2.2)) (cneg (cmul (A) (p.1, p.2.1, p.2.2))) (by repeat (first | assumption | exact AL_GG | exact AL_0 _ | exact AL_cadd _ _ | exact AL_cmul _ _ | exact AL_cofV _ | exact AL_jend _ | refine AL_cneg ?_ | exact ⟨by decide, by decide⟩)) (by repeat (first | assumption | exact AL_GG | exact AL_0 _ | exact AL_cadd _ _ | exact AL_cmul _ _ | exact AL_cofV _ | exact AL_jend _ | refine AL_cneg ?_ | exact ⟨by decide, by decide⟩)) _).mono ?_; rintro _ w70 ⟨rfl, hx⟩; replace H := H.ext hx; clear hx
    refine p_val (r_move (v := (.tuple _)) rfl) ?_
    refine p_val (r_extract (v := (.agg (List.toArray _))) rfl rfl) ?_
    refine p_val (r_extract (v := (.int _ _)) rfl rfl) ?_
    refine p_alloc (l := [.int .u64 0, .int .u64 0, .int .u64 0, .int .u64 0, .int .u64 0, .int .u64 0, .int .u64 0, .int .u64 0, .bool false]) H tz52 rfl ?_; clear H; intro w72 b71 H
    refine p_storeW tg52 H rfl (k := 0) rfl rfl rfl rfl rfl ?_; clear H; intro w73 H
    refine p_val (r_assign (v := (.int _ _)) rfl) ?_
    refine wpList_nil ?_
    refine x_norm ?_; refine hK69 _ _ ?_; try clear hK69 K69
    refine wp_seq_k ?_; intro K74 hK74
    refine wp_region_lit ?_
    refine p_val (r_loadW tg52 H rfl (k := 9) rfl rfl) ?_
    refine p_val (r_as (l' := (numL 0 ++ (numL 0 ++ [(.bool true : Value)]))) (r_build (vals := [(2, .bool true)]) (l := ([.int .u64 0, .int .u64 0, .int .u64 0, .int .u64 0] ++ ([.int .u64 0, .int .u64 0, .int .u64 0, .int .u64 0] ++ [(.bool true : Value)]))) tb52 rfl rfl) (by rw [num_0])) ?_
    refine p_call (l := [(.agg (List.toArray _)), (.agg (List.toArray _))]) is47 rfl ?_
    refine (add_t (cmul (A) (p.1, p.2.1, p.2.2)) (0, 0, true) (by repeat (first | assumption | exact AL_GG | exact AL_0 _ | exact AL_cadd _ _ | exact AL_cmul _ _ | exact AL_cofV _ | exact AL_jend _ | refine AL_cneg ?_ | exact ⟨by decide, by decide⟩)) (by repeat (first | assumption | exact AL_GG | exact AL_0 _ | exact AL_cadd _ _ | exact AL_cmul _ _ | exact AL_cofV _ | exact AL_jend _ | refine AL_cneg ?_ | exact ⟨by decide, by decide⟩)) _).mono ?_; rintro _ w75 ⟨rfl, hx⟩; replace H := H.ext hx; clear hx
    refine p_val (r_move (v := (.tuple _)) rfl) ?_
    refine p_val (r_extract (v := (.agg (List.toArray _))) rfl rfl) ?_
    refine p_val (r_extract (v := (.int _ _)) rfl rfl) ?_
    refine p_alloc (l := [.int .u64 0, .int .u64 0, .int .u64 0, .int .u64 0, .int .u64 0, .int .u64 0, .int .u64 0, .int .u64 0, .bool false]) H tz52 rfl ?_; clear H; intro w77 b76 H
    refine p_storeW tg52 H rfl (k := 0) rfl rfl rfl rfl rfl ?_; clear H; intro w78 H
    refine p_val (r_assign (v := (.int _ _)) rfl) ?_
    refine wpList_nil ?_
    refine x_norm ?_; refine hK74 _ _ ?_; try clear hK74 K74
    refine wp_seq_k ?_; intro K79 hK79
    refine wp_region_lit ?_
    refine p_val (r_move (v := (.int _ _)) rfl) ?_
    refine p_val (r_eql (t := true) rfl rfl (by rw [cadde_t (on_cmul hon A) (on_cneg (on_cmul hon A))]; rfl)) ?_
    refine p_val (r_move (v := (.bool _)) rfl) ?_
    refine p_want rfl rfl ?_
    refine p_val (r_move (v := (.int _ _)) rfl) ?_
    refine p_want rfl rfl ?_
    refine p_val (r_eql (t := true) rfl rfl (by rw [cadde_t (on_cmul hon A) onT_0]; rfl)) ?_
    refine p_val (r_pickt (v := (.bool _)) rfl rfl rfl) ?_
    refine p_val (r_move (v := (.bool _)) rfl) ?_
    refine p_want rfl rfl ?_
    refine p_val (r_loadW tg52 H rfl (k := 1) rfl rfl) ?_
    refine p_want rfl rfl ?_
    refine p_val (r_as (l' := (numL 0 ++ (numL 0 ++ [(.bool true : Value)]))) (r_build (vals := [(2, .bool true)]) (l := ([.int .u64 0, .int .u64 0, .int .u64 0, .int .u64 0] ++ ([.int .u64 0, .int .u64 0, .int .u64 0, .int .u64 0] ++ [(.bool true : Value)]))) tb52 rfl rfl) (by rw [num_0])) ?_
    refine p_want rfl rfl ?_
    refine p_val (r_eqpt (t := true) pt52 ptf52 pts52 u24 u22 sz22 ag22 agt24 szt24 u4 agt4 eg52 rfl rfl (by first | exact Nat.mod_lt _ two256_pos | exact Mod.lt (mod_modN _) | assumption | exact onceN_lt (by assumption) | exact Nat.lt_trans (Nat.mod_lt _ (mod_modN _).pos) (mod_modN _).lt | exact ofV_lt2 _ _ | exact invV_lt2 _ _ | exact fm_lt2 _ _ | exact fa_lt2 _ _ | exact fs_lt2 _ _ | exact fn_lt2 _ | exact PP_lt | exact AL_GG.1 | exact AL_GG.2 | exact (AL_cadd _ _).1 | exact (AL_cadd _ _).2 | exact (AL_cmul _ _).1 | exact (AL_cmul _ _).2 | exact (AL_cofV _).1 | exact (AL_cofV _).2 | exact (AL_cneg (by assumption)).1 | exact (AL_cneg (by assumption)).2 | exact lt_lit (by decide)) (by first | exact Nat.mod_lt _ two256_pos | exact Mod.lt (mod_modN _) | assumption | exact onceN_lt (by assumption) | exact Nat.lt_trans (Nat.mod_lt _ (mod_modN _).pos) (mod_modN _).lt | exact ofV_lt2 _ _ | exact invV_lt2 _ _ | exact fm_lt2 _ _ | exact fa_lt2 _ _ | exact fs_lt2 _ _ | exact fn_lt2 _ | exact PP_lt | exact AL_GG.1 | exact AL_GG.2 | exact (AL_cadd _ _).1 | exact (AL_cadd _ _).2 | exact (AL_cmul _ _).1 | exact (AL_cmul _ _).2 | exact (AL_cofV _).1 | exact (AL_cofV _).2 | exact (AL_cneg (by assumption)).1 | exact (AL_cneg (by assumption)).2 | exact lt_lit (by decide)) (by first | exact Nat.mod_lt _ two256_pos | exact Mod.lt (mod_modN _) | assumption | exact onceN_lt (by assumption) | exact Nat.lt_trans (Nat.mod_lt _ (mod_modN _).pos) (mod_modN _).lt | exact ofV_lt2 _ _ | exact invV_lt2 _ _ | exact fm_lt2 _ _ | exact fa_lt2 _ _ | exact fs_lt2 _ _ | exact fn_lt2 _ | exact PP_lt | exact AL_GG.1 | exact AL_GG.2 | exact (AL_cadd _ _).1 | exact (AL_cadd _ _).2 | exact (AL_cmul _ _).1 | exact (AL_cmul _ _).2 | exact (AL_cofV _).1 | exact (AL_cofV _).2 | exact (AL_cneg (by assumption)).1 | exact (AL_cneg (by assumption)).2 | exact lt_lit (by decide)) (by first | exact Nat.mod_lt _ two256_pos | exact Mod.lt (mod_modN _) | assumption | exact onceN_lt (by assumption) | exact Nat.lt_trans (Nat.mod_lt _ (mod_modN _).pos) (mod_modN _).lt | exact ofV_lt2 _ _ | exact invV_lt2 _ _ | exact fm_lt2 _ _ | exact fa_lt2 _ _ | exact fs_lt2 _ _ | exact fn_lt2 _ | exact PP_lt | exact AL_GG.1 | exact AL_GG.2 | exact (AL_cadd _ _).1 | exact (AL_cadd _ _).2 | exact (AL_cmul _ _).1 | exact (AL_cmul _ _).2 | exact (AL_cofV _).1 | exact (AL_cofV _).2 | exact (AL_cneg (by assumption)).1 | exact (AL_cneg (by assumption)).2 | exact lt_lit (by decide)) (ptb_eq (cadd_neg (on_cmul hon A)))) ?_
    refine p_val (r_pickt (v := (.bool _)) rfl rfl rfl) ?_
    refine p_val (r_move (v := (.bool _)) rfl) ?_
    refine p_want rfl rfl ?_
    refine p_val (r_loadW tg52 H rfl (k := 0) rfl rfl) ?_
    refine p_want rfl rfl ?_
    refine p_val (r_loadW tg52 H rfl (k := 10) rfl rfl) ?_
    refine p_want rfl rfl ?_
    refine p_val (r_eqpt (t := true) pt52 ptf52 pts52 u24 u22 sz22 ag22 agt24 szt24 u4 agt4 eg52 rfl rfl (by first | exact Nat.mod_lt _ two256_pos | exact Mod.lt (mod_modN _) | assumption | exact onceN_lt (by assumption) | exact Nat.lt_trans (Nat.mod_lt _ (mod_modN _).pos) (mod_modN _).lt | exact ofV_lt2 _ _ | exact invV_lt2 _ _ | exact fm_lt2 _ _ | exact fa_lt2 _ _ | exact fs_lt2 _ _ | exact fn_lt2 _ | exact PP_lt | exact AL_GG.1 | exact AL_GG.2 | exact (AL_cadd _ _).1 | exact (AL_cadd _ _).2 | exact (AL_cmul _ _).1 | exact (AL_cmul _ _).2 | exact (AL_cofV _).1 | exact (AL_cofV _).2 | exact (AL_cneg (by assumption)).1 | exact (AL_cneg (by assumption)).2 | exact lt_lit (by decide)) (by first | exact Nat.mod_lt _ two256_pos | exact Mod.lt (mod_modN _) | assumption | exact onceN_lt (by assumption) | exact Nat.lt_trans (Nat.mod_lt _ (mod_modN _).pos) (mod_modN _).lt | exact ofV_lt2 _ _ | exact invV_lt2 _ _ | exact fm_lt2 _ _ | exact fa_lt2 _ _ | exact fs_lt2 _ _ | exact fn_lt2 _ | exact PP_lt | exact AL_GG.1 | exact AL_GG.2 | exact (AL_cadd _ _).1 | exact (AL_cadd _ _).2 | exact (AL_cmul _ _).1 | exact (AL_cmul _ _).2 | exact (AL_cofV _).1 | exact (AL_cofV _).2 | exact (AL_cneg (by assumption)).1 | exact (AL_cneg (by assumption)).2 | exact lt_lit (by decide)) (by first | exact Nat.mod_lt _ two256_pos | exact Mod.lt (mod_modN _) | assumption | exact onceN_lt (by assumption) | exact Nat.lt_trans (Nat.mod_lt _ (mod_modN _).pos) (mod_modN _).lt | exact ofV_lt2 _ _ | exact invV_lt2 _ _ | exact fm_lt2 _ _ | exact fa_lt2 _ _ | exact fs_lt2 _ _ | exact fn_lt2 _ | exact PP_lt | exact AL_GG.1 | exact AL_GG.2 | exact (AL_cadd _ _).1 | exact (AL_cadd _ _).2 | exact (AL_cmul _ _).1 | exact (AL_cmul _ _).2 | exact (AL_cofV _).1 | exact (AL_cofV _).2 | exact (AL_cneg (by assumption)).1 | exact (AL_cneg (by assumption)).2 | exact lt_lit (by decide)) (by first | exact Nat.mod_lt _ two256_pos | exact Mod.lt (mod_modN _) | assumption | exact onceN_lt (by assumption) | exact Nat.lt_trans (Nat.mod_lt _ (mod_modN _).pos) (mod_modN _).lt | exact ofV_lt2 _ _ | exact invV_lt2 _ _ | exact fm_lt2 _ _ | exact fa_lt2 _ _ | exact fs_lt2 _ _ | exact fn_lt2 _ | exact PP_lt | exact AL_GG.1 | exact AL_GG.2 | exact (AL_cadd _ _).1 | exact (AL_cadd _ _).2 | exact (AL_cmul _ _).1 | exact (AL_cmul _ _).2 | exact (AL_cofV _).1 | exact (AL_cofV _).2 | exact (AL_cneg (by assumption)).1 | exact (AL_cneg (by assumption)).2 | exact lt_lit (by decide)) (ptb_eq (cadd_0 (on_cmul hon A)))) ?_
    refine p_val (r_pickt (v := (.bool _)) rfl rfl rfl) ?_
    refine p_val (r_assign (v := (.bool _)) rfl) ?_
    refine wpList_nil ?_
    refine x_norm ?_; refine hK79 _ _ ?_; try clear hK79 K79
    refine wp_ret ?_
    refine e_1 rfl (q_tmp (v := (.bool _)) rfl) ?_
    exact ⟨rfl, H.below⟩

end Go.Proofs.Ytjmgilhlpohcmaa
