/- The walks of some functions. Conditions: as each theorem says. -/
import Derived.Test.YtjmgilhlpohcmaaCrvC
import Derived.Test.YtjmgilhlpohcmaaAw7
namespace Go.Proofs.Ytjmgilhlpohcmaa
open Go Go.RowKit
attribute [local irreducible] wpList wpT Code.wp Calls Code.rounds lm sd sb ad ac modN bval be fm fa fs fn jtwX jtwY jtwZ onB invV invE onT cneg cerr cadd cadde cmul cby cofV cofE
theorem is39 : IsFn Try.prog 39 := isFn Try.func39 (by kernel_rfl) (by kernel_rfl)
theorem is40 : IsFn Try.prog 40 := isFn Try.func40 (by kernel_rfl) (by kernel_rfl)
theorem is46 : IsFn Try.prog 46 := isFn Try.func46 (by kernel_rfl) (by kernel_rfl)
theorem is47 : IsFn Try.prog 47 := isFn Try.func47 (by kernel_rfl) (by kernel_rfl)
theorem is78 : IsFn Try.prog 78 := isFn Try.func78 (by kernel_rfl) (by kernel_rfl)
theorem is79 : IsFn Try.prog 79 := isFn Try.func79 (by kernel_rfl) (by kernel_rfl)

theorem base_t (w : World) : Calls Try.prog 78 #[] w fun e w' => e = .returned (.agg (ptT GG).toArray) ∧ Ext w w' := base_c w

theorem on_t (p : Ap) (h : AL p) (w : World) : Calls Try.prog 44 #[.agg (ptT p).toArray] w fun e w' => e = .returned (.bool (onT p)) ∧ Ext w w' := by unfold onT; exact on_c p.1 p.2.1 p.2.2 h.1 h.2 w

theorem neg_t (p : Ap) (h : AL p) (w : World) : Calls Try.prog 46 #[.agg (ptT p).toArray] w fun e w' => e = .returned (.tuple #[.agg (ptT (cneg p)).toArray, .int .i64 (cerr p)]) ∧ Ext w w' := cneg_c p.1 p.2.1 p.2.2 h.1 h.2 w

theorem add_t (p q : Ap) (h : AL p) (h' : AL q) (w : World) : Calls Try.prog 47 #[.agg (ptT p).toArray, .agg (ptT q).toArray] w fun e w' => e = .returned (.tuple #[.agg (ptT (cadd p q)).toArray, .int .i64 (cadde p q)]) ∧ Ext w w' := cadd_c p.1 p.2.1 p.2.2 h.1 h.2 q.1 q.2.1 q.2.2 h'.1 h'.2 w

theorem mul_t (K : Nat) (p : Ap) (hK : K < two256) (h : AL p) (w : World) : Calls Try.prog 52 #[numV K, .agg (ptT p).toArray] w fun e w' => e = .returned (.tuple #[.agg (ptT (cmul K p)).toArray, .int .i64 (cerr p)]) ∧ Ext w w' := cmul_c K hK p.1 p.2.1 p.2.2 h.1 h.2 w

theorem bytes_t (p : Ap) (h : AL p) (w : World) : Calls Try.prog 39 #[.agg (ptT p).toArray] w fun e w' => e = .returned (.tuple #[str (cby p), .int .i64 (cerr p)]) ∧ Ext w w' := cbytes_c p.1 p.2.1 p.2.2 h.1 h.2 w

theorem rbase_c  (w : World) :
    Calls Try.prog 79 #[] w fun e w' => e = .returned (.agg (ptT GG).toArray) ∧ Ext w w' := by
 refine enter (n := 4) Try.func79 rfl rfl rfl ?_
 have H := HP.start w
 refine sr ?_; intro K1 hK1
 refine p_alloc (l := [.int .u64 0, .int .u64 0, .int .u64 0, .int .u64 0, .int .u64 0, .int .u64 0, .int .u64 0, .int .u64 0, .bool false]) H tz52 rfl ?_; clear H; intro w3 b2 H
 refine xk hK1 ?_; try clear hK1 K1
 refine sr ?_; intro K4 hK4
 refine p_val (r_as (l' := numL 48439561293906451759052585252797914202762949526041747995844080717082404635286) (r_build (vals := [(0, (.int _ _)), (1, (.int _ _)), (2, (.int _ _)), (3, (.int _ _))]) (l := [_, _, _, _]) tb24 rfl rfl) (num_const (a := 17627433388654248598) (b := 8575836109218198432) (c := 17923454489921339634) (d := 7716867327612699207) _ (by decide) (by decide) (by decide) (by decide) (by decide))) ?_
 refine p_val (r_as (l' := numL 36134250956749795798585127919587881956611106672985015071877198253568414405109) (r_build (vals := [(0, (.int _ _)), (1, (.int _ _)), (2, (.int _ _)), (3, (.int _ _))]) (l := [_, _, _, _]) tb24 rfl rfl) (num_const (a := 14678990851816772085) (b := 3156516839386865358) (c := 10297457778147434006) (d := 5756518291402817435) _ (by decide) (by decide) (by decide) (by decide) (by decide))) ?_
 refine p_val (r_build (vals := [(0, .agg (numL 48439561293906451759052585252797914202762949526041747995844080717082404635286).toArray), (1, .agg (numL 36134250956749795798585127919587881956611106672985015071877198253568414405109).toArray)]) (l := (numL 48439561293906451759052585252797914202762949526041747995844080717082404635286 ++ (numL 36134250956749795798585127919587881956611106672985015071877198253568414405109 ++ [(.bool false : Value)]))) tb52 rfl rfl) ?_
 refine p_storeW tg52 H rfl (k := 0) rfl rfl rfl rfl rfl ?_; clear H; intro w5 H
 refine xk hK4 ?_; try clear hK4 K4
 refine wp_ret ?_
 refine e_1 rfl (q_cellW tg52 H rfl (k := 0) rfl rfl) ?_
 exact ⟨by rw [GG, GX, GY], H.below⟩

set_option maxRecDepth 8000 in
set_option maxHeartbeats 800000 in
theorem awake7_c  (w : World) :
    Calls Try.prog 43 #[] w fun e w' => e = .returned (.bool true) ∧ Ext w w' := by
 refine enter (n := 108) Try.func43 rfl rfl rfl ?_
 have H := HP.start w
 refine sr ?_; intro K1 hK1
 refine p_as (v := (.bool _)) rfl ?_
 refine xk hK1 ?_; try clear hK1 K1
 refine sr ?_; intro K2 hK2
 refine p_call (l := []) is78 rfl ?_
 refine (base_t _).mono ?_; rintro _ w3 ⟨rfl, hx⟩; replace H := H.ext hx; clear hx
 refine p_alloc (l := [.int .u64 0, .int .u64 0, .int .u64 0, .int .u64 0, .int .u64 0, .int .u64 0, .int .u64 0, .int .u64 0, .bool false]) H tz52 rfl ?_; clear H; intro w5 b4 H
 refine p_storeW tg52 H rfl (k := 0) rfl rfl rfl rfl rfl ?_; clear H; intro w6 H
 refine xk hK2 ?_; try clear hK2 K2
 refine sr ?_; intro K7 hK7
 refine p_val (r_loadW tg52 H rfl (k := 0) rfl rfl) ?_
 refine p_call (l := [(.agg (List.toArray _))]) is46 rfl ?_
 refine (neg_t (GG) (by repeat (first | assumption | exact AL_GG | exact AL_0 _ | exact AL_cadd _ _ | exact AL_cmul _ _ | exact AL_cofV _ | exact AL_jend _ | refine AL_cneg ?_ | exact ⟨by decide, by decide⟩)) _).mono ?_; rintro _ w8 ⟨rfl, hx⟩; replace H := H.ext hx; clear hx
 refine p_mv (v := (.tuple _)) rfl ?_
 refine p_val (r_extract (v := (.agg (List.toArray _))) rfl rfl) ?_
 refine p_val (r_extract (v := (.int _ _)) rfl rfl) ?_
 refine p_alloc (l := [.int .u64 0, .int .u64 0, .int .u64 0, .int .u64 0, .int .u64 0, .int .u64 0, .int .u64 0, .int .u64 0, .bool false]) H tz52 rfl ?_; clear H; intro w10 b9 H
 refine p_storeW tg52 H rfl (k := 0) rfl rfl rfl rfl rfl ?_; clear H; intro w11 H
 refine p_as (v := (.int _ _)) rfl ?_
 refine xk hK7 ?_; try clear hK7 K7
 refine sr ?_; intro K12 hK12
 refine p_val (r_loadW tg52 H rfl (k := 1) rfl rfl) ?_
 refine p_val (r_loadW tg52 H rfl (k := 0) rfl rfl) ?_
 refine p_call (l := [(.agg (List.toArray _)), (.agg (List.toArray _))]) is47 rfl ?_
 refine (add_t (GG) (cneg (GG)) (by repeat (first | assumption | exact AL_GG | exact AL_0 _ | exact AL_cadd _ _ | exact AL_cmul _ _ | exact AL_cofV _ | exact AL_jend _ | refine AL_cneg ?_ | exact ⟨by decide, by decide⟩)) (by repeat (first | assumption | exact AL_GG | exact AL_0 _ | exact AL_cadd _ _ | exact AL_cmul _ _ | exact AL_cofV _ | exact AL_jend _ | refine AL_cneg ?_ | exact ⟨by decide, by decide⟩)) _).mono ?_; rintro _ w13 ⟨rfl, hx⟩; replace H := H.ext hx; clear hx
 refine p_mv (v := (.tuple _)) rfl ?_
 refine p_val (r_extract (v := (.agg (List.toArray _))) rfl rfl) ?_
 refine p_val (r_extract (v := (.int _ _)) rfl rfl) ?_
 refine p_alloc (l := [.int .u64 0, .int .u64 0, .int .u64 0, .int .u64 0, .int .u64 0, .int .u64 0, .int .u64 0, .int .u64 0, .bool false]) H tz52 rfl ?_; clear H; intro w15 b14 H
 refine p_storeW tg52 H rfl (k := 0) rfl rfl rfl rfl rfl ?_; clear H; intro w16 H
 refine p_as (v := (.int _ _)) rfl ?_
 refine xk hK12 ?_; try clear hK12 K12
 refine sr ?_; intro K17 hK17
 refine p_val (r_loadW tg52 H rfl (k := 2) rfl rfl) ?_
 refine p_val (r_loadW tg52 H rfl (k := 2) rfl rfl) ?_
 refine p_call (l := [(.agg (List.toArray _)), (.agg (List.toArray _))]) is47 rfl ?_
 refine (add_t (GG) (GG) (by repeat (first | assumption | exact AL_GG | exact AL_0 _ | exact AL_cadd _ _ | exact AL_cmul _ _ | exact AL_cofV _ | exact AL_jend _ | refine AL_cneg ?_ | exact ⟨by decide, by decide⟩)) (by repeat (first | assumption | exact AL_GG | exact AL_0 _ | exact AL_cadd _ _ | exact AL_cmul _ _ | exact AL_cofV _ | exact AL_jend _ | refine AL_cneg ?_ | exact ⟨by decide, by decide⟩)) _).mono ?_; rintro _ w18 ⟨rfl, hx⟩; replace H := H.ext hx; clear hx
 refine p_mv (v := (.tuple _)) rfl ?_
 refine p_val (r_extract (v := (.agg (List.toArray _))) rfl rfl) ?_
 refine p_val (r_extract (v := (.int _ _)) rfl rfl) ?_
 refine p_alloc (l := [.int .u64 0, .int .u64 0, .int .u64 0, .int .u64 0, .int .u64 0, .int .u64 0, .int .u64 0, .int .u64 0, .bool false]) H tz52 rfl ?_; clear H; intro w20 b19 H
 refine p_storeW tg52 H rfl (k := 0) rfl rfl rfl rfl rfl ?_; clear H; intro w21 H
 refine p_as (v := (.int _ _)) rfl ?_
 refine xk hK17 ?_; try clear hK17 K17
 refine sr ?_; intro K22 hK22
 refine p_val (r_loadW tg52 H rfl (k := 3) rfl rfl) ?_
 refine p_val (r_as (l' := numL 1) (r_build (vals := [(0, (.int _ _))]) (l := [_, _, _, _]) tb24 rfl rfl) (num_lit 1 (by decide))) ?_
 refine p_val (r_as (l' := numL 1) (r_build (vals := [(0, (.int _ _))]) (l := [_, _, _, _]) tb24 rfl rfl) (num_lit 1 (by decide))) ?_
 refine p_val (r_build (vals := [(0, .agg (numL 1).toArray), (1, .agg (numL 1).toArray)]) (l := (numL 1 ++ (numL 1 ++ [(.bool false : Value)]))) tb52 rfl rfl) ?_
 refine p_call (l := [(.agg (List.toArray _)), (.agg (List.toArray _))]) is47 rfl ?_
 refine (add_t (GG) (1, 1, false) (by repeat (first | assumption | exact AL_GG | exact AL_0 _ | exact AL_cadd _ _ | exact AL_cmul _ _ | exact AL_cofV _ | exact AL_jend _ | refine AL_cneg ?_ | exact ⟨by decide, by decide⟩)) (by repeat (first | assumption | exact AL_GG | exact AL_0 _ | exact AL_cadd _ _ | exact AL_cmul _ _ | exact AL_cofV _ | exact AL_jend _ | refine AL_cneg ?_ | exact ⟨by decide, by decide⟩)) _).mono ?_; rintro _ w23 ⟨rfl, hx⟩; replace H := H.ext hx; clear hx
 refine p_mv (v := (.tuple _)) rfl ?_
 refine p_val (r_extract (v := (.agg (List.toArray _))) rfl rfl) ?_
 refine p_val (r_extract (v := (.int _ _)) rfl rfl) ?_
 refine p_alloc (l := [.int .u64 0, .int .u64 0, .int .u64 0, .int .u64 0, .int .u64 0, .int .u64 0, .int .u64 0, .int .u64 0, .bool false]) H tz52 rfl ?_; clear H; intro w25 b24 H
 refine p_storeW tg52 H rfl (k := 0) rfl rfl rfl rfl rfl ?_; clear H; intro w26 H
 refine p_as (v := (.int _ _)) rfl ?_
 refine xk hK22 ?_; try clear hK22 K22
 refine sr ?_; intro K27 hK27
 refine p_val (r_loadW tg52 H rfl (k := 2) rfl rfl) ?_
 refine p_call (l := [(.agg (List.toArray _))]) is39 rfl ?_
 refine (bytes_t (cadd (GG) (cneg (GG))) (by repeat (first | assumption | exact AL_GG | exact AL_0 _ | exact AL_cadd _ _ | exact AL_cmul _ _ | exact AL_cofV _ | exact AL_jend _ | refine AL_cneg ?_ | exact ⟨by decide, by decide⟩)) _).mono ?_; rintro _ w28 ⟨rfl, hx⟩; replace H := H.ext hx; clear hx
 refine p_mv (v := (.tuple _)) rfl ?_
 refine p_val (r_extract (v := (str (cby (cadd (GG) (cneg (GG)))))) rfl rfl) ?_
 refine p_val (r_extract (v := (.int _ _)) rfl rfl) ?_
 refine p_as (v := (str (cby (cadd (GG) (cneg (GG)))))) rfl ?_
 refine p_as (v := (.int _ _)) rfl ?_
 refine xk hK27 ?_; try clear hK27 K27
 refine sr ?_; intro K29 hK29
 refine p_call (l := [(str _)]) is40 rfl ?_
 refine (cofs_c _ (by first | assumption | omega | exact cby_len _ | decide) _).mono ?_; rintro _ w30 ⟨rfl, hx⟩; replace H := H.ext hx; clear hx
 refine p_mv (v := (.tuple _)) rfl ?_
 refine p_val (r_extract (v := (.agg (List.toArray _))) rfl rfl) ?_
 refine p_val (r_extract (v := (.int _ _)) rfl rfl) ?_
 refine p_alloc (l := [.int .u64 0, .int .u64 0, .int .u64 0, .int .u64 0, .int .u64 0, .int .u64 0, .int .u64 0, .int .u64 0, .bool false]) H tz52 rfl ?_; clear H; intro w32 b31 H
 refine p_storeW tg52 H rfl (k := 0) rfl rfl rfl rfl rfl ?_; clear H; intro w33 H
 refine p_as (v := (.int _ _)) rfl ?_
 refine xk hK29 ?_; try clear hK29 K29
 refine wp_seq_k ?_; intro K34 hK34
 apply wp_region_ext 60 (kinds [(1, .inl _), (44, .inl _), (48, .inl _), (52, .inl _)]) rfl rfl (by kernel_rfl); intro vs36
 simp only [List.take_succ_cons, List.take_zero, List.drop_succ_cons, List.drop_zero]
 replace H := H.drew
 refine t_v (fun w hx => r_loadW tg52 (H.ext hx) rfl (k := 5) rfl rfl) ?_
 refine t_call (l := []) rfl rfl is79 rfl (fun w hx hF => (rbase_c _).mono (fun _ _ ⟨he, hx⟩ => ⟨he, hx⟩)) ?_
 refine t_v (fun w hx => r_eqpt pt52 ptf52 pts52 u24 u22 sz22 ag22 agt24 szt24 u4 agt4 eg52 rfl rfl (by first | exact Nat.mod_lt _ two256_pos | exact Mod.lt (mod_modN _) | assumption | exact onceN_lt (by assumption) | exact Nat.lt_trans (Nat.mod_lt _ (mod_modN _).pos) (mod_modN _).lt | exact ofV_lt2 _ _ | exact invV_lt2 _ _ | exact fm_lt2 _ _ | exact fa_lt2 _ _ | exact fs_lt2 _ _ | exact fn_lt2 _ | exact PP_lt | exact AL_GG.1 | exact AL_GG.2 | exact (AL_cadd _ _).1 | exact (AL_cadd _ _).2 | exact (AL_cmul _ _).1 | exact (AL_cmul _ _).2 | exact (AL_cofV _).1 | exact (AL_cofV _).2 | exact (AL_cneg (by assumption)).1 | exact (AL_cneg (by assumption)).2 | exact lt_lit (by decide)) (by first | exact Nat.mod_lt _ two256_pos | exact Mod.lt (mod_modN _) | assumption | exact onceN_lt (by assumption) | exact Nat.lt_trans (Nat.mod_lt _ (mod_modN _).pos) (mod_modN _).lt | exact ofV_lt2 _ _ | exact invV_lt2 _ _ | exact fm_lt2 _ _ | exact fa_lt2 _ _ | exact fs_lt2 _ _ | exact fn_lt2 _ | exact PP_lt | exact AL_GG.1 | exact AL_GG.2 | exact (AL_cadd _ _).1 | exact (AL_cadd _ _).2 | exact (AL_cmul _ _).1 | exact (AL_cmul _ _).2 | exact (AL_cofV _).1 | exact (AL_cofV _).2 | exact (AL_cneg (by assumption)).1 | exact (AL_cneg (by assumption)).2 | exact lt_lit (by decide)) (by first | exact Nat.mod_lt _ two256_pos | exact Mod.lt (mod_modN _) | assumption | exact onceN_lt (by assumption) | exact Nat.lt_trans (Nat.mod_lt _ (mod_modN _).pos) (mod_modN _).lt | exact ofV_lt2 _ _ | exact invV_lt2 _ _ | exact fm_lt2 _ _ | exact fa_lt2 _ _ | exact fs_lt2 _ _ | exact fn_lt2 _ | exact PP_lt | exact AL_GG.1 | exact AL_GG.2 | exact (AL_cadd _ _).1 | exact (AL_cadd _ _).2 | exact (AL_cmul _ _).1 | exact (AL_cmul _ _).2 | exact (AL_cofV _).1 | exact (AL_cofV _).2 | exact (AL_cneg (by assumption)).1 | exact (AL_cneg (by assumption)).2 | exact lt_lit (by decide)) (by first | exact Nat.mod_lt _ two256_pos | exact Mod.lt (mod_modN _) | assumption | exact onceN_lt (by assumption) | exact Nat.lt_trans (Nat.mod_lt _ (mod_modN _).pos) (mod_modN _).lt | exact ofV_lt2 _ _ | exact invV_lt2 _ _ | exact fm_lt2 _ _ | exact fa_lt2 _ _ | exact fs_lt2 _ _ | exact fn_lt2 _ | exact PP_lt | exact AL_GG.1 | exact AL_GG.2 | exact (AL_cadd _ _).1 | exact (AL_cadd _ _).2 | exact (AL_cmul _ _).1 | exact (AL_cmul _ _).2 | exact (AL_cofV _).1 | exact (AL_cofV _).2 | exact (AL_cneg (by assumption)).1 | exact (AL_cneg (by assumption)).2 | exact lt_lit (by decide)) rfl) ?_
 refine t_v (fun w hx => r_move (v := (.bool _)) rfl) ?_
 refine t_valG rfl (ptb_eq rfl) (fun w hx => r_move (v := (.int _ _)) rfl) rfl rfl ?_
 refine t_valG rfl (ptb_eq rfl) (fun w hx => r_eql rfl rfl rfl) rfl rfl ?_
 refine t_v (fun w hx => r_pickt (v := (.bool _)) rfl (ptb_eq rfl) rfl) ?_
 refine t_v (fun w hx => r_move (v := (.bool _)) rfl) ?_
 refine t_valG rfl (aw_e1) (fun w hx => r_loadW tg52 (H.ext hx) rfl (k := 3) rfl rfl) rfl rfl ?_
 refine t_valG rfl (aw_e1) (fun w hx => r_as (l' := (numL 0 ++ (numL 0 ++ [(.bool true : Value)]))) (r_build (vals := [(2, .bool true)]) (l := ([.int .u64 0, .int .u64 0, .int .u64 0, .int .u64 0] ++ ([.int .u64 0, .int .u64 0, .int .u64 0, .int .u64 0] ++ [(.bool true : Value)]))) tb52 rfl rfl) (by rw [num_0])) rfl rfl ?_
 refine t_valG rfl (aw_e1) (fun w hx => r_eqpt pt52 ptf52 pts52 u24 u22 sz22 ag22 agt24 szt24 u4 agt4 eg52 rfl rfl (by first | exact Nat.mod_lt _ two256_pos | exact Mod.lt (mod_modN _) | assumption | exact onceN_lt (by assumption) | exact Nat.lt_trans (Nat.mod_lt _ (mod_modN _).pos) (mod_modN _).lt | exact ofV_lt2 _ _ | exact invV_lt2 _ _ | exact fm_lt2 _ _ | exact fa_lt2 _ _ | exact fs_lt2 _ _ | exact fn_lt2 _ | exact PP_lt | exact AL_GG.1 | exact AL_GG.2 | exact (AL_cadd _ _).1 | exact (AL_cadd _ _).2 | exact (AL_cmul _ _).1 | exact (AL_cmul _ _).2 | exact (AL_cofV _).1 | exact (AL_cofV _).2 | exact (AL_cneg (by assumption)).1 | exact (AL_cneg (by assumption)).2 | exact lt_lit (by decide)) (by first | exact Nat.mod_lt _ two256_pos | exact Mod.lt (mod_modN _) | assumption | exact onceN_lt (by assumption) | exact Nat.lt_trans (Nat.mod_lt _ (mod_modN _).pos) (mod_modN _).lt | exact ofV_lt2 _ _ | exact invV_lt2 _ _ | exact fm_lt2 _ _ | exact fa_lt2 _ _ | exact fs_lt2 _ _ | exact fn_lt2 _ | exact PP_lt | exact AL_GG.1 | exact AL_GG.2 | exact (AL_cadd _ _).1 | exact (AL_cadd _ _).2 | exact (AL_cmul _ _).1 | exact (AL_cmul _ _).2 | exact (AL_cofV _).1 | exact (AL_cofV _).2 | exact (AL_cneg (by assumption)).1 | exact (AL_cneg (by assumption)).2 | exact lt_lit (by decide)) (by first | exact Nat.mod_lt _ two256_pos | exact Mod.lt (mod_modN _) | assumption | exact onceN_lt (by assumption) | exact Nat.lt_trans (Nat.mod_lt _ (mod_modN _).pos) (mod_modN _).lt | exact ofV_lt2 _ _ | exact invV_lt2 _ _ | exact fm_lt2 _ _ | exact fa_lt2 _ _ | exact fs_lt2 _ _ | exact fn_lt2 _ | exact PP_lt | exact AL_GG.1 | exact AL_GG.2 | exact (AL_cadd _ _).1 | exact (AL_cadd _ _).2 | exact (AL_cmul _ _).1 | exact (AL_cmul _ _).2 | exact (AL_cofV _).1 | exact (AL_cofV _).2 | exact (AL_cneg (by assumption)).1 | exact (AL_cneg (by assumption)).2 | exact lt_lit (by decide)) (by first | exact Nat.mod_lt _ two256_pos | exact Mod.lt (mod_modN _) | assumption | exact onceN_lt (by assumption) | exact Nat.lt_trans (Nat.mod_lt _ (mod_modN _).pos) (mod_modN _).lt | exact ofV_lt2 _ _ | exact invV_lt2 _ _ | exact fm_lt2 _ _ | exact fa_lt2 _ _ | exact fs_lt2 _ _ | exact fn_lt2 _ | exact PP_lt | exact AL_GG.1 | exact AL_GG.2 | exact (AL_cadd _ _).1 | exact (AL_cadd _ _).2 | exact (AL_cmul _ _).1 | exact (AL_cmul _ _).2 | exact (AL_cofV _).1 | exact (AL_cofV _).2 | exact (AL_cneg (by assumption)).1 | exact (AL_cneg (by assumption)).2 | exact lt_lit (by decide)) rfl) rfl rfl ?_
 refine t_v (fun w hx => r_pickt (v := (.bool _)) rfl (aw_e1) rfl) ?_
 refine t_v (fun w hx => r_move (v := (.bool _)) rfl) ?_
 refine t_valG rfl (ptb_eq aw_far) (fun w hx => r_move (v := (.int _ _)) rfl) rfl rfl ?_
 refine t_valG rfl (ptb_eq aw_far) (fun w hx => r_eql rfl rfl rfl) rfl rfl ?_
 refine t_v (fun w hx => r_pickt (v := (.bool _)) rfl (ptb_eq aw_far) rfl) ?_
 refine t_v (fun w hx => r_move (v := (.bool _)) rfl) ?_
 refine t_valG rfl (aw_e2) (fun w hx => r_field fa52_0 rfl) rfl rfl ?_
 refine t_valG rfl (aw_e2) (fun w hx => r_load (l := numL (cadd (GG) (GG)).1) tg24 (H.ext hx) rfl (k := 2) rfl rfl rfl) rfl rfl ?_
 refine t_valG rfl (aw_e2) (fun w hx => r_as (l' := numL 56515219790691171413109057904011688695424810155802929973526481321309856242040) (r_build (vals := [(0, (.int _ _)), (1, (.int _ _)), (2, (.int _ _)), (3, (.int _ _))]) (l := [_, _, _, _]) tb24 rfl rfl) (num_const (a := 11964737083406719352) (b := 13873736548487404341) (c := 9967090510939364035) (d := 9003393950442278782) _ (by decide) (by decide) (by decide) (by decide) (by decide))) rfl rfl ?_
 refine t_valG rfl (aw_e2) (fun w hx => r_eqnum u24 u22 sz22 ag22 eg24 rfl rfl (by first | exact Nat.mod_lt _ two256_pos | exact Mod.lt (mod_modN _) | assumption | exact onceN_lt (by assumption) | exact Nat.lt_trans (Nat.mod_lt _ (mod_modN _).pos) (mod_modN _).lt | exact ofV_lt2 _ _ | exact invV_lt2 _ _ | exact fm_lt2 _ _ | exact fa_lt2 _ _ | exact fs_lt2 _ _ | exact fn_lt2 _ | exact PP_lt | exact AL_GG.1 | exact AL_GG.2 | exact (AL_cadd _ _).1 | exact (AL_cadd _ _).2 | exact (AL_cmul _ _).1 | exact (AL_cmul _ _).2 | exact (AL_cofV _).1 | exact (AL_cofV _).2 | exact (AL_cneg (by assumption)).1 | exact (AL_cneg (by assumption)).2 | exact lt_lit (by decide)) (by first | exact Nat.mod_lt _ two256_pos | exact Mod.lt (mod_modN _) | assumption | exact onceN_lt (by assumption) | exact Nat.lt_trans (Nat.mod_lt _ (mod_modN _).pos) (mod_modN _).lt | exact ofV_lt2 _ _ | exact invV_lt2 _ _ | exact fm_lt2 _ _ | exact fa_lt2 _ _ | exact fs_lt2 _ _ | exact fn_lt2 _ | exact PP_lt | exact AL_GG.1 | exact AL_GG.2 | exact (AL_cadd _ _).1 | exact (AL_cadd _ _).2 | exact (AL_cmul _ _).1 | exact (AL_cmul _ _).2 | exact (AL_cofV _).1 | exact (AL_cofV _).2 | exact (AL_cneg (by assumption)).1 | exact (AL_cneg (by assumption)).2 | exact lt_lit (by decide)) rfl) rfl rfl ?_
 refine t_v (fun w hx => r_pickt (v := (.bool _)) rfl (aw_e2) rfl) ?_
 refine t_v (fun w hx => r_move (v := (.bool _)) rfl) ?_
 refine t_valG rfl (aw_two) (fun w hx => r_move (v := (.int _ _)) rfl) rfl rfl ?_
 refine t_valG rfl (aw_two) (fun w hx => r_eql rfl rfl rfl) rfl rfl ?_
 refine t_v (fun w hx => r_pickt (v := (.bool _)) rfl (aw_two) rfl) ?_
 refine t_v (fun w hx => r_move (v := (.bool _)) rfl) ?_
 refine t_valG rfl (aw_e3) (fun w hx => r_move (v := (.int _ _)) rfl) rfl rfl ?_
 refine t_valG rfl (aw_e3) (fun w hx => r_eql rfl rfl rfl) rfl rfl ?_
 refine t_v (fun w hx => r_pickt (v := (.bool _)) rfl (aw_e3) rfl) ?_
 refine t_v (fun w hx => r_move (v := (.bool _)) rfl) ?_
 refine t_valG rfl (aw_e4) (fun w hx => r_move (v := (str (cby (cadd (GG) (cneg (GG)))))) rfl) rfl rfl ?_
 refine t_valG rfl (aw_e4) (fun w hx => r_eqT rfl rfl rfl) rfl rfl ?_
 refine t_v (fun w hx => r_pickt (v := (.bool _)) rfl (aw_e4) rfl) ?_
 refine t_v (fun w hx => r_move (v := (.bool _)) rfl) ?_
 refine t_valG rfl (aw_cby) (fun w hx => r_move (v := (.int _ _)) rfl) rfl rfl ?_
 refine t_valG rfl (aw_cby) (fun w hx => r_eql rfl rfl rfl) rfl rfl ?_
 refine t_v (fun w hx => r_pickt (v := (.bool _)) rfl (aw_cby) rfl) ?_
 refine t_v (fun w hx => r_move (v := (.bool _)) rfl) ?_
 refine t_valG rfl (aw_e5) (fun w hx => r_move (v := (.int _ _)) rfl) rfl rfl ?_
 refine t_valG rfl (aw_e5) (fun w hx => r_eql rfl rfl rfl) rfl rfl ?_
 refine t_v (fun w hx => r_pickt (v := (.bool _)) rfl (aw_e5) rfl) ?_
 refine t_v (fun w hx => r_move (v := (.bool _)) rfl) ?_
 refine t_valG rfl (aw_e6) (fun w hx => r_loadW tg52 (H.ext hx) rfl (k := 5) rfl rfl) rfl rfl ?_
 refine t_callG rfl (aw_e6) (l := [(.agg (List.toArray _))]) rfl rfl is44 rfl (fun w hx hF => (on_t (GG) (by repeat (first | assumption | exact AL_GG | exact AL_0 _ | exact AL_cadd _ _ | exact AL_cmul _ _ | exact AL_cofV _ | exact AL_jend _ | refine AL_cneg ?_ | exact ⟨by decide, by decide⟩)) _).mono (fun _ _ ⟨he, hx⟩ => ⟨he, hx⟩)) ?_
 refine t_v (fun w hx => r_pickt (v := (.bool _)) rfl (aw_e6) rfl) ?_
 refine t_v (fun w hx => r_move (v := (.bool _)) rfl) ?_
 refine t_valG rfl (onT_GG) (fun w hx => r_loadW tg52 (H.ext hx) rfl (k := 3) rfl rfl) rfl rfl ?_
 refine t_callG rfl (onT_GG) (l := [(.agg (List.toArray _))]) rfl rfl is44 rfl (fun w hx hF => (on_t (cadd (GG) (cneg (GG))) (by repeat (first | assumption | exact AL_GG | exact AL_0 _ | exact AL_cadd _ _ | exact AL_cmul _ _ | exact AL_cofV _ | exact AL_jend _ | refine AL_cneg ?_ | exact ⟨by decide, by decide⟩)) _).mono (fun _ _ ⟨he, hx⟩ => ⟨he, hx⟩)) ?_
 refine t_v (fun w hx => r_pickt (v := (.bool _)) rfl (onT_GG) rfl) ?_
 refine t_v (fun w hx => r_move (v := (.bool _)) rfl) ?_
 refine t_valG rfl (aw_on2) (fun w hx => r_as (l' := (numL 0 ++ (numL 0 ++ [(.bool false : Value)]))) (r_build (vals := []) (l := ([.int .u64 0, .int .u64 0, .int .u64 0, .int .u64 0] ++ ([.int .u64 0, .int .u64 0, .int .u64 0, .int .u64 0] ++ [(.bool false : Value)]))) tb52 rfl rfl) (by rw [num_0])) rfl rfl ?_
 refine t_callG rfl (aw_on2) (l := [(.agg (List.toArray _))]) rfl rfl is44 rfl (fun w hx hF => (on_t (0, 0, false) (by repeat (first | assumption | exact AL_GG | exact AL_0 _ | exact AL_cadd _ _ | exact AL_cmul _ _ | exact AL_cofV _ | exact AL_jend _ | refine AL_cneg ?_ | exact ⟨by decide, by decide⟩)) _).mono (fun _ _ ⟨he, hx⟩ => ⟨he, hx⟩)) ?_
 refine t_valG rfl (aw_on2) (fun w hx => r_not (t := true) rfl (aw_on3)) rfl rfl ?_
 refine t_v (fun w hx => r_pickt (v := (.bool _)) rfl (aw_on2) rfl) ?_
 refine t_v (fun w hx => r_move (v := (.bool _)) rfl) ?_
 refine t_v (fun w hx => r_pickt (v := (.bool _)) rfl rfl rfl) ?_
 refine t_v (fun w hx => r_move (v := (.bool _)) rfl) ?_
 refine t_v (fun w hx => r_pickt (v := (.bool _)) rfl rfl rfl) ?_
 refine t_v (fun w hx => r_assign (v := (.bool _)) rfl) ?_
 refine t_nil (fun w49 hx hF hA => ?_)
 replace H := H.ext hx
 clear hx hF hA
 refine wpList_nil ?_; refine on_norm ?_
 refine xn hK34 ?_; try clear hK34 K34
 refine wp_ret ?_
 refine e_1 rfl (q_tmp (v := (.bool _)) rfl) ?_
 exact ⟨rfl, H.below⟩

end Go.Proofs.Ytjmgilhlpohcmaa
