/- The walks of some functions. Conditions: as each theorem says. -/
import Derived.Test.YtjmgilhlpohcmaaRefE
import Derived.Test.YtjmgilhlpohcmaaAw6
namespace Go.Proofs.Ytjmgilhlpohcmaa
open Go Go.RowKit
attribute [local irreducible] wpList wpT Code.wp Calls Code.rounds lm sd sb ad ac dval subv adr u32s fl dg modN bval be
theorem u3 : Try.prog.underlying 3 = some (.int .i64) := by kernel_rfl
theorem u4 : Try.prog.underlying 4 = some .bool := by kernel_rfl
theorem is16 : IsFn Try.prog 16 := isFn Try.func16 (by kernel_rfl) (by kernel_rfl)
theorem is17 : IsFn Try.prog 17 := isFn Try.func17 (by kernel_rfl) (by kernel_rfl)
theorem is19 : IsFn Try.prog 19 := isFn Try.func19 (by kernel_rfl) (by kernel_rfl)
theorem is22 : IsFn Try.prog 22 := isFn Try.func22 (by kernel_rfl) (by kernel_rfl)
theorem is23 : IsFn Try.prog 23 := isFn Try.func23 (by kernel_rfl) (by kernel_rfl)
theorem is24 : IsFn Try.prog 24 := isFn Try.func24 (by kernel_rfl) (by kernel_rfl)
theorem is28 : IsFn Try.prog 28 := isFn Try.func28 (by kernel_rfl) (by kernel_rfl)
theorem is30 : IsFn Try.prog 30 := isFn Try.func30 (by kernel_rfl) (by kernel_rfl)
theorem is32 : IsFn Try.prog 32 := isFn Try.func32 (by kernel_rfl) (by kernel_rfl)
theorem is33 : IsFn Try.prog 33 := isFn Try.func33 (by kernel_rfl) (by kernel_rfl)
theorem is34 : IsFn Try.prog 34 := isFn Try.func34 (by kernel_rfl) (by kernel_rfl)
theorem is36 : IsFn Try.prog 36 := isFn Try.func36 (by kernel_rfl) (by kernel_rfl)
theorem is37 : IsFn Try.prog 37 := isFn Try.func37 (by kernel_rfl) (by kernel_rfl)
theorem is38 : IsFn Try.prog 38 := isFn Try.func38 (by kernel_rfl) (by kernel_rfl)

set_option maxRecDepth 4000 in
theorem awake6_c  (w : World) :
    Calls Try.prog 17 #[] w fun e w' => e = .returned (.bool true) ∧ Ext w w' := by
  refine enter (n := 90) Try.func17 rfl rfl rfl ?_
  have H := HP.start w
  refine wp_seq_k ?_; intro K1 hK1
  refine wp_region_lit ?_
  refine p_val (r_assign (v := (.bool _)) rfl) ?_
  refine wpList_nil ?_
  refine x_norm ?_; refine hK1 _ _ ?_; try clear hK1 K1
  refine wp_seq_k ?_; intro K2 hK2
  refine wp_region_lit ?_
  refine p_call (l := [(.int _ _)]) is18 rfl ?_
  refine (modulus_c _ _).mono ?_; rintro _ w3 ⟨rfl, hx⟩; replace H := H.ext hx; clear hx
  refine p_alloc (l := [.int .u64 0, .int .u64 0, .int .u64 0, .int .u64 0]) H tz24 rfl ?_; clear H; intro w5 b4 H
  refine p_storeW tg24 H rfl (k := 0) rfl rfl rfl rfl rfl ?_; clear H; intro w6 H
  refine wpList_nil ?_
  refine x_norm ?_; refine hK2 _ _ ?_; try clear hK2 K2
  refine wp_seq_k ?_; intro K7 hK7
  refine wp_region_lit ?_
  refine p_val (r_as (l' := numL 1) (r_build (vals := [(0, (.int _ _))]) (l := [_, _, _, _]) tb24 rfl rfl) (num_lit 1 (by decide))) ?_
  refine p_val (r_as (l' := numL 2) (r_build (vals := [(0, (.int _ _))]) (l := [_, _, _, _]) tb24 rfl rfl) (num_lit 2 (by decide))) ?_
  refine p_call (l := [(.int _ _), (.agg (List.toArray _)), (.agg (List.toArray _))]) is23 rfl ?_
  refine (sub_c _ _ _ (by first | exact Nat.mod_lt _ two256_pos | exact Mod.lt (mod_modN _) | assumption | exact onceN_lt (by assumption) | exact Nat.lt_trans (Nat.mod_lt _ (mod_modN _).pos) (mod_modN _).lt | exact ofV_lt2 _ _ | exact invV_lt2 _ _ | exact lt_lit (by decide)) (by first | exact Nat.mod_lt _ two256_pos | exact Mod.lt (mod_modN _) | assumption | exact onceN_lt (by assumption) | exact Nat.lt_trans (Nat.mod_lt _ (mod_modN _).pos) (mod_modN _).lt | exact ofV_lt2 _ _ | exact invV_lt2 _ _ | exact lt_lit (by decide)) _).mono ?_; rintro _ w8 ⟨rfl, hx⟩; replace H := H.ext hx; clear hx
  refine p_alloc (l := [.int .u64 0, .int .u64 0, .int .u64 0, .int .u64 0]) H tz24 rfl ?_; clear H; intro w10 b9 H
  refine p_storeW tg24 H rfl (k := 0) rfl rfl rfl rfl rfl ?_; clear H; intro w11 H
  refine wpList_nil ?_
  refine x_norm ?_; refine hK7 _ _ ?_; try clear hK7 K7
  refine wp_seq_k ?_; intro K12 hK12
  refine wp_region_lit ?_
  refine p_val (r_as (l' := numL 2) (r_build (vals := [(0, (.int _ _))]) (l := [_, _, _, _]) tb24 rfl rfl) (num_lit 2 (by decide))) ?_
  refine p_call (l := [(.int _ _), (.agg (List.toArray _))]) is28 rfl ?_
  refine (inv_c _ _ (by first | exact Nat.mod_lt _ two256_pos | exact Mod.lt (mod_modN _) | assumption | exact onceN_lt (by assumption) | exact Nat.lt_trans (Nat.mod_lt _ (mod_modN _).pos) (mod_modN _).lt | exact ofV_lt2 _ _ | exact invV_lt2 _ _ | exact lt_lit (by decide)) _).mono ?_; rintro _ w13 ⟨rfl, hx⟩; replace H := H.ext hx; clear hx
  refine p_val (r_move (v := (.tuple _)) rfl) ?_
  refine p_val (r_extract (v := (.agg (List.toArray _))) rfl rfl) ?_
  refine p_val (r_extract (v := (.int _ _)) rfl rfl) ?_
  refine p_alloc (l := [.int .u64 0, .int .u64 0, .int .u64 0, .int .u64 0]) H tz24 rfl ?_; clear H; intro w15 b14 H
  refine p_storeW tg24 H rfl (k := 0) rfl rfl rfl rfl rfl ?_; clear H; intro w16 H
  refine p_val (r_assign (v := (.int _ _)) rfl) ?_
  refine wpList_nil ?_
  refine x_norm ?_; refine hK12 _ _ ?_; try clear hK12 K12
  refine wp_seq_k ?_; intro K17 hK17
  refine wp_region_lit ?_
  refine p_call (l := [(.int _ _)]) is18 rfl ?_
  refine (modulus_c _ _).mono ?_; rintro _ w18 ⟨rfl, hx⟩; replace H := H.ext hx; clear hx
  refine p_call (l := [(.int _ _), (.agg (List.toArray _))]) is28 rfl ?_
  refine (inv_c _ _ (by first | exact Nat.mod_lt _ two256_pos | exact Mod.lt (mod_modN _) | assumption | exact onceN_lt (by assumption) | exact Nat.lt_trans (Nat.mod_lt _ (mod_modN _).pos) (mod_modN _).lt | exact ofV_lt2 _ _ | exact invV_lt2 _ _ | exact lt_lit (by decide)) _).mono ?_; rintro _ w19 ⟨rfl, hx⟩; replace H := H.ext hx; clear hx
  refine p_val (r_move (v := (.tuple _)) rfl) ?_
  refine p_val (r_extract (v := (.agg (List.toArray _))) rfl rfl) ?_
  refine p_val (r_extract (v := (.int _ _)) rfl rfl) ?_
  refine p_alloc (l := [.int .u64 0, .int .u64 0, .int .u64 0, .int .u64 0]) H tz24 rfl ?_; clear H; intro w21 b20 H
  refine p_storeW tg24 H rfl (k := 0) rfl rfl rfl rfl rfl ?_; clear H; intro w22 H
  refine p_val (r_assign (v := (.int _ _)) rfl) ?_
  refine wpList_nil ?_
  refine x_norm ?_; refine hK17 _ _ ?_; try clear hK17 K17
  refine wp_seq_k ?_; intro K23 hK23
  refine wp_region_lit ?_
  refine p_val (r_loadW tg24 H rfl (k := 3) rfl rfl) ?_
  refine p_call (l := [(.agg (List.toArray _))]) is36 rfl ?_
  refine (bytes_c _ _).mono ?_; rintro _ w24 ⟨rfl, hx⟩; replace H := H.ext hx; clear hx
  refine p_call (l := [(.int _ _), (str _)]) is33 rfl ?_
  refine (of_c _ _ (by rw [be_length]; decide) _).mono ?_; rintro _ w25 ⟨rfl, hx⟩; replace H := H.ext hx; clear hx
  refine p_val (r_move (v := (.tuple _)) rfl) ?_
  refine p_val (r_extract (v := (.agg (List.toArray _))) rfl rfl) ?_
  refine p_val (r_extract (v := (.int _ _)) rfl rfl) ?_
  refine p_alloc (l := [.int .u64 0, .int .u64 0, .int .u64 0, .int .u64 0]) H tz24 rfl ?_; clear H; intro w27 b26 H
  refine p_storeW tg24 H rfl (k := 0) rfl rfl rfl rfl rfl ?_; clear H; intro w28 H
  refine p_val (r_assign (v := (.int _ _)) rfl) ?_
  refine wpList_nil ?_
  refine x_norm ?_; refine hK23 _ _ ?_; try clear hK23 K23
  refine wp_seq_k ?_; intro K29 hK29
  refine wp_region_lit ?_
  refine p_val (r_loadW tg24 H rfl (k := 4) rfl rfl) ?_
  refine p_val (r_as (l' := numL 115792089210356248762697446949407573530086143415290314195533631308867097853951) (r_build (vals := [(0, (.int _ _)), (1, (.int _ _)), (2, (.int _ _)), (3, (.int _ _))]) (l := [_, _, _, _]) tb24 rfl rfl) (num_const (a := 18446744073709551615) (b := 4294967295) (c := 0) (d := 18446744069414584321) _ (by decide) (by decide) (by decide) (by decide) (by decide))) ?_
  refine p_val (r_eqnum u24 u22 sz22 ag22 eg24 rfl rfl (by first | exact Nat.mod_lt _ two256_pos | exact Mod.lt (mod_modN _) | assumption | exact onceN_lt (by assumption) | exact Nat.lt_trans (Nat.mod_lt _ (mod_modN _).pos) (mod_modN _).lt | exact ofV_lt2 _ _ | exact invV_lt2 _ _ | exact lt_lit (by decide)) (by first | exact Nat.mod_lt _ two256_pos | exact Mod.lt (mod_modN _) | assumption | exact onceN_lt (by assumption) | exact Nat.lt_trans (Nat.mod_lt _ (mod_modN _).pos) (mod_modN _).lt | exact ofV_lt2 _ _ | exact invV_lt2 _ _ | exact lt_lit (by decide)) rfl) ?_
  refine p_val (r_move (v := (.bool _)) rfl) ?_
  refine p_want rfl (aw1) ?_
  refine p_call (l := [(.int _ _)]) is18 rfl ?_
  refine (modulus_c _ _).mono ?_; rintro _ w31 ⟨rfl, hx⟩; replace H := H.ext hx; clear hx
  refine p_want rfl (aw1) ?_
  refine p_val (r_as (l' := numL 115792089210356248762697446949407573529996955224135760342422259061068512044369) (r_build (vals := [(0, (.int _ _)), (1, (.int _ _)), (2, (.int _ _)), (3, (.int _ _))]) (l := [_, _, _, _]) tb24 rfl rfl) (num_const (a := 17562291160714782033) (b := 13611842547513532036) (c := 18446744073709551615) (d := 18446744069414584320) _ (by decide) (by decide) (by decide) (by decide) (by decide))) ?_
  refine p_want rfl (aw1) ?_
  refine p_val (r_eqnum u24 u22 sz22 ag22 eg24 rfl rfl (by first | exact Nat.mod_lt _ two256_pos | exact Mod.lt (mod_modN _) | assumption | exact onceN_lt (by assumption) | exact Nat.lt_trans (Nat.mod_lt _ (mod_modN _).pos) (mod_modN _).lt | exact ofV_lt2 _ _ | exact invV_lt2 _ _ | exact lt_lit (by decide)) (by first | exact Nat.mod_lt _ two256_pos | exact Mod.lt (mod_modN _) | assumption | exact onceN_lt (by assumption) | exact Nat.lt_trans (Nat.mod_lt _ (mod_modN _).pos) (mod_modN _).lt | exact ofV_lt2 _ _ | exact invV_lt2 _ _ | exact lt_lit (by decide)) rfl) ?_
  refine p_val (r_pickt (v := (.bool _)) rfl (aw1) rfl) ?_
  refine p_val (r_move (v := (.bool _)) rfl) ?_
  refine p_want rfl (aw2) ?_
  refine p_val (r_loadW tg24 H rfl (k := 3) rfl rfl) ?_
  refine p_want rfl (aw2) ?_
  refine p_val (r_as (l' := numL 115792089210356248762697446949407573530086143415290314195533631308867097853950) (r_build (vals := [(0, (.int _ _)), (1, (.int _ _)), (2, (.int _ _)), (3, (.int _ _))]) (l := [_, _, _, _]) tb24 rfl rfl) (num_const (a := 18446744073709551614) (b := 4294967295) (c := 0) (d := 18446744069414584321) _ (by decide) (by decide) (by decide) (by decide) (by decide))) ?_
  refine p_want rfl (aw2) ?_
  refine p_val (r_eqnum u24 u22 sz22 ag22 eg24 rfl rfl (by first | exact Nat.mod_lt _ two256_pos | exact Mod.lt (mod_modN _) | assumption | exact onceN_lt (by assumption) | exact Nat.lt_trans (Nat.mod_lt _ (mod_modN _).pos) (mod_modN _).lt | exact ofV_lt2 _ _ | exact invV_lt2 _ _ | exact lt_lit (by decide)) (by first | exact Nat.mod_lt _ two256_pos | exact Mod.lt (mod_modN _) | assumption | exact onceN_lt (by assumption) | exact Nat.lt_trans (Nat.mod_lt _ (mod_modN _).pos) (mod_modN _).lt | exact ofV_lt2 _ _ | exact invV_lt2 _ _ | exact lt_lit (by decide)) rfl) ?_
  refine p_val (r_pickt (v := (.bool _)) rfl (aw2) rfl) ?_
  refine p_val (r_move (v := (.bool _)) rfl) ?_
  refine p_want rfl (aw3) ?_
  refine p_val (r_loadW tg24 H rfl (k := 3) rfl rfl) ?_
  refine p_want rfl (aw3) ?_
  refine p_val (r_loadW tg24 H rfl (k := 3) rfl rfl) ?_
  refine p_want rfl (aw3) ?_
  refine p_call (l := [(.int _ _), (.agg (List.toArray _)), (.agg (List.toArray _))]) is25 rfl ?_
  refine (mul_c _ _ _ (by first | exact Nat.mod_lt _ two256_pos | exact Mod.lt (mod_modN _) | assumption | exact onceN_lt (by assumption) | exact Nat.lt_trans (Nat.mod_lt _ (mod_modN _).pos) (mod_modN _).lt | exact ofV_lt2 _ _ | exact invV_lt2 _ _ | exact lt_lit (by decide)) (by first | exact Nat.mod_lt _ two256_pos | exact Mod.lt (mod_modN _) | assumption | exact onceN_lt (by assumption) | exact Nat.lt_trans (Nat.mod_lt _ (mod_modN _).pos) (mod_modN _).lt | exact ofV_lt2 _ _ | exact invV_lt2 _ _ | exact lt_lit (by decide)) _).mono ?_; rintro _ w34 ⟨rfl, hx⟩; replace H := H.ext hx; clear hx
  refine p_want rfl (aw3) ?_
  refine p_val (r_as (l' := numL 1) (r_build (vals := [(0, (.int _ _))]) (l := [_, _, _, _]) tb24 rfl rfl) (num_lit 1 (by decide))) ?_
  refine p_want rfl (aw3) ?_
  refine p_val (r_eqnum u24 u22 sz22 ag22 eg24 rfl rfl (by first | exact Nat.mod_lt _ two256_pos | exact Mod.lt (mod_modN _) | assumption | exact onceN_lt (by assumption) | exact Nat.lt_trans (Nat.mod_lt _ (mod_modN _).pos) (mod_modN _).lt | exact ofV_lt2 _ _ | exact invV_lt2 _ _ | exact lt_lit (by decide)) (by first | exact Nat.mod_lt _ two256_pos | exact Mod.lt (mod_modN _) | assumption | exact onceN_lt (by assumption) | exact Nat.lt_trans (Nat.mod_lt _ (mod_modN _).pos) (mod_modN _).lt | exact ofV_lt2 _ _ | exact invV_lt2 _ _ | exact lt_lit (by decide)) rfl) ?_
  refine p_val (r_pickt (v := (.bool _)) rfl (aw3) rfl) ?_
  refine p_val (r_move (v := (.bool _)) rfl) ?_
  refine p_want rfl (aw4) ?_
  refine p_val (r_loadW tg24 H rfl (k := 2) rfl rfl) ?_
  refine p_want rfl (aw4) ?_
  refine p_val (r_loadW tg24 H rfl (k := 2) rfl rfl) ?_
  refine p_want rfl (aw4) ?_
  refine p_call (l := [(.int _ _), (.agg (List.toArray _)), (.agg (List.toArray _))]) is21 rfl ?_
  refine (add_c _ _ _ (by first | exact Nat.mod_lt _ two256_pos | exact Mod.lt (mod_modN _) | assumption | exact onceN_lt (by assumption) | exact Nat.lt_trans (Nat.mod_lt _ (mod_modN _).pos) (mod_modN _).lt | exact ofV_lt2 _ _ | exact invV_lt2 _ _ | exact lt_lit (by decide)) (by first | exact Nat.mod_lt _ two256_pos | exact Mod.lt (mod_modN _) | assumption | exact onceN_lt (by assumption) | exact Nat.lt_trans (Nat.mod_lt _ (mod_modN _).pos) (mod_modN _).lt | exact ofV_lt2 _ _ | exact invV_lt2 _ _ | exact lt_lit (by decide)) _).mono ?_; rintro _ w36 ⟨rfl, hx⟩; replace H := H.ext hx; clear hx
  refine p_want rfl (aw4) ?_
  refine p_val (r_as (l' := numL 1) (r_build (vals := [(0, (.int _ _))]) (l := [_, _, _, _]) tb24 rfl rfl) (num_lit 1 (by decide))) ?_
  refine p_want rfl (aw4) ?_
  refine p_val (r_eqnum u24 u22 sz22 ag22 eg24 rfl rfl (by first | exact Nat.mod_lt _ two256_pos | exact Mod.lt (mod_modN _) | assumption | exact onceN_lt (by assumption) | exact Nat.lt_trans (Nat.mod_lt _ (mod_modN _).pos) (mod_modN _).lt | exact ofV_lt2 _ _ | exact invV_lt2 _ _ | exact lt_lit (by decide)) (by first | exact Nat.mod_lt _ two256_pos | exact Mod.lt (mod_modN _) | assumption | exact onceN_lt (by assumption) | exact Nat.lt_trans (Nat.mod_lt _ (mod_modN _).pos) (mod_modN _).lt | exact ofV_lt2 _ _ | exact invV_lt2 _ _ | exact lt_lit (by decide)) rfl) ?_
  refine p_val (r_pickt (v := (.bool _)) rfl (aw4) rfl) ?_
  refine p_val (r_move (v := (.bool _)) rfl) ?_
  refine p_want rfl (aw5) ?_
  refine p_val (r_move (v := (.int _ _)) rfl) ?_
  refine p_want rfl (aw5) ?_
  refine p_val (r_eql rfl rfl rfl) ?_
  refine p_val (r_pickt (v := (.bool _)) rfl (aw5) rfl) ?_
  refine p_val (r_move (v := (.bool _)) rfl) ?_
  refine p_want rfl (aw6) ?_
  refine p_val (r_move (v := (.int _ _)) rfl) ?_
  refine p_want rfl (aw6) ?_
  refine p_val (r_eql rfl rfl rfl) ?_
  refine p_val (r_pickt (v := (.bool _)) rfl (aw6) rfl) ?_
  refine p_val (r_move (v := (.bool _)) rfl) ?_
  refine p_want rfl (aw7) ?_
  refine p_val (r_move (v := (.int _ _)) rfl) ?_
  refine p_want rfl (aw7) ?_
  refine p_val (r_eql rfl rfl rfl) ?_
  refine p_val (r_pickt (v := (.bool _)) rfl (aw7) rfl) ?_
  refine p_val (r_move (v := (.bool _)) rfl) ?_
  refine p_want rfl (aw8) ?_
  refine p_val (r_as (l' := numL 3) (r_build (vals := [(0, (.int _ _))]) (l := [_, _, _, _]) tb24 rfl rfl) (num_lit 3 (by decide))) ?_
  refine p_want rfl (aw8) ?_
  refine p_val (r_as (l' := numL 5) (r_build (vals := [(0, (.int _ _))]) (l := [_, _, _, _]) tb24 rfl rfl) (num_lit 5 (by decide))) ?_
  refine p_want rfl (aw8) ?_
  refine p_call (l := [(.int _ _), (.agg (List.toArray _)), (.agg (List.toArray _))]) is31 rfl ?_
  refine (pow_c _ _ _ (by first | exact Nat.mod_lt _ two256_pos | exact Mod.lt (mod_modN _) | assumption | exact onceN_lt (by assumption) | exact Nat.lt_trans (Nat.mod_lt _ (mod_modN _).pos) (mod_modN _).lt | exact ofV_lt2 _ _ | exact invV_lt2 _ _ | exact lt_lit (by decide)) (by first | exact Nat.mod_lt _ two256_pos | exact Mod.lt (mod_modN _) | assumption | exact onceN_lt (by assumption) | exact Nat.lt_trans (Nat.mod_lt _ (mod_modN _).pos) (mod_modN _).lt | exact ofV_lt2 _ _ | exact invV_lt2 _ _ | exact lt_lit (by decide)) _).mono ?_; rintro _ w41 ⟨rfl, hx⟩; replace H := H.ext hx; clear hx
  refine p_want rfl (aw8) ?_
  refine p_val (r_as (l' := numL 243) (r_build (vals := [(0, (.int _ _))]) (l := [_, _, _, _]) tb24 rfl rfl) (num_lit 243 (by decide))) ?_
  refine p_want rfl (aw8) ?_
  refine p_val (r_eqnum u24 u22 sz22 ag22 eg24 rfl rfl (by first | exact Nat.mod_lt _ two256_pos | exact Mod.lt (mod_modN _) | assumption | exact onceN_lt (by assumption) | exact Nat.lt_trans (Nat.mod_lt _ (mod_modN _).pos) (mod_modN _).lt | exact ofV_lt2 _ _ | exact invV_lt2 _ _ | exact lt_lit (by decide)) (by first | exact Nat.mod_lt _ two256_pos | exact Mod.lt (mod_modN _) | assumption | exact onceN_lt (by assumption) | exact Nat.lt_trans (Nat.mod_lt _ (mod_modN _).pos) (mod_modN _).lt | exact ofV_lt2 _ _ | exact invV_lt2 _ _ | exact lt_lit (by decide)) rfl) ?_
  refine p_val (r_pickt (v := (.bool _)) rfl (aw8) rfl) ?_
  refine p_val (r_move (v := (.bool _)) rfl) ?_
  refine p_want rfl (aw9) ?_
  refine p_call (l := [(.int _ _), (str _)]) is38 rfl ?_
  refine (reduce_c _ _ (by decide) _).mono ?_; rintro _ w43 ⟨rfl, hx⟩; replace H := H.ext hx; clear hx
  refine p_want rfl (aw9) ?_
  refine p_val (r_as (l' := numL 256) (r_build (vals := [(0, (.int _ _))]) (l := [_, _, _, _]) tb24 rfl rfl) (num_lit 256 (by decide))) ?_
  refine p_want rfl (aw9) ?_
  refine p_val (r_eqnum u24 u22 sz22 ag22 eg24 rfl rfl (by first | exact Nat.mod_lt _ two256_pos | exact Mod.lt (mod_modN _) | assumption | exact onceN_lt (by assumption) | exact Nat.lt_trans (Nat.mod_lt _ (mod_modN _).pos) (mod_modN _).lt | exact ofV_lt2 _ _ | exact invV_lt2 _ _ | exact lt_lit (by decide)) (by first | exact Nat.mod_lt _ two256_pos | exact Mod.lt (mod_modN _) | assumption | exact onceN_lt (by assumption) | exact Nat.lt_trans (Nat.mod_lt _ (mod_modN _).pos) (mod_modN _).lt | exact ofV_lt2 _ _ | exact invV_lt2 _ _ | exact lt_lit (by decide)) rfl) ?_
  refine p_val (r_pickt (v := (.bool _)) rfl (aw9) rfl) ?_
  refine p_val (r_move (v := (.bool _)) rfl) ?_
  refine p_want rfl (aw10) ?_
  refine p_val (r_as (l' := numL 0) (r_build (vals := []) (l := [_, _, _, _]) tb24 rfl rfl) (num_0)) ?_
  refine p_want rfl (aw10) ?_
  refine p_call (l := [(.int _ _), (.agg (List.toArray _))]) is27 rfl ?_
  refine (neg_c _ _ (by first | exact Nat.mod_lt _ two256_pos | exact Mod.lt (mod_modN _) | assumption | exact onceN_lt (by assumption) | exact Nat.lt_trans (Nat.mod_lt _ (mod_modN _).pos) (mod_modN _).lt | exact ofV_lt2 _ _ | exact invV_lt2 _ _ | exact lt_lit (by decide)) _).mono ?_; rintro _ w45 ⟨rfl, hx⟩; replace H := H.ext hx; clear hx
  refine p_want rfl (aw10) ?_
  refine p_val (r_as (l' := numL 0) (r_build (vals := []) (l := [_, _, _, _]) tb24 rfl rfl) (num_0)) ?_
  refine p_want rfl (aw10) ?_
  refine p_val (r_eqnum u24 u22 sz22 ag22 eg24 rfl rfl (by first | exact Nat.mod_lt _ two256_pos | exact Mod.lt (mod_modN _) | assumption | exact onceN_lt (by assumption) | exact Nat.lt_trans (Nat.mod_lt _ (mod_modN _).pos) (mod_modN _).lt | exact ofV_lt2 _ _ | exact invV_lt2 _ _ | exact lt_lit (by decide)) (by first | exact Nat.mod_lt _ two256_pos | exact Mod.lt (mod_modN _) | assumption | exact onceN_lt (by assumption) | exact Nat.lt_trans (Nat.mod_lt _ (mod_modN _).pos) (mod_modN _).lt | exact ofV_lt2 _ _ | exact invV_lt2 _ _ | exact lt_lit (by decide)) rfl) ?_
  refine p_val (r_pickt (v := (.bool _)) rfl (aw10) rfl) ?_
  refine p_val (r_move (v := (.bool _)) rfl) ?_
  refine p_val (r_pick rfl rfl rfl rfl) ?_
  refine p_val (r_move (v := (.bool _)) rfl) ?_
  refine p_val (r_pick rfl rfl rfl rfl) ?_
  refine p_val (r_assign (v := (.bool _)) rfl) ?_
  refine wpList_nil ?_
  refine x_norm ?_; refine hK29 _ _ ?_; try clear hK29 K29
  refine wp_ret ?_
  refine e_1 rfl (q_tmp (v := (.bool _)) rfl) ?_
  exact ⟨by rw [aw11]; rfl, H.below⟩

set_option maxRecDepth 4000 in
theorem fieldReckons_c (m : Int) (A B : Nat) (hA : A < two256) (hB : B < two256) (w : World) :
    Calls Try.prog 3 #[.int .i64 m, numV A, numV B] w fun e w' => e = .returned (.bool true) ∧ Ext w w' := by
  refine enter (n := 70) Try.func3 rfl rfl rfl ?_
  have H := HP.start w
  have E := Below.refl w.heap.size w
  have hlA := len256 hA
  have hlB := len256 hB
  refine wp_seq_k ?_; intro K1 hK1
  refine wp_region_lit ?_
  refine p_box (l := numL A) H rfl ?_; clear H; intro w2 b3 H
  refine p_box (l := numL B) H rfl ?_; clear H; intro w4 b5 H
  refine p_val (r_assign (v := (.bool _)) rfl) ?_
  refine wpList_nil ?_
  refine x_norm ?_; refine hK1 _ _ ?_; try clear hK1 K1
  refine wp_seq_k ?_; intro K6 hK6
  have hbb5 := HP.bk H (k := 0) (cs := numL B) rfl
  have hbb3 := HP.bk H (k := 1) (cs := numL A) rfl
  have hB := H.below; replace E := Ext.trans E hB
  clear hB; replace H := HP.restart H
  apply wp_region_ext 6 (kinds [(1, .inr (fun v w => Dg w v A)), (3, .inr (fun v w => Dg w v B))]) rfl rfl (by kernel_rfl); intro vs8
  simp only [List.take_succ_cons, List.take_zero, List.drop_succ_cons, List.drop_zero]
  replace H := H.drew
  refine t_val (fun w hx => r_loadBW tg24 rfl (Bk.hp hbb3 (H.ext hx)) rfl) rfl rfl ?_
  refine t_callr (l := [(.agg (List.toArray _))]) rfl rfl (fun _ _ _ h hx => Rd.ext h hx) is16 rfl (fun w hx hF => (in_c _ (by first | exact Nat.mod_lt _ two256_pos | exact Mod.lt (mod_modN _) | assumption | exact onceN_lt (by assumption) | exact Nat.lt_trans (Nat.mod_lt _ (mod_modN _).pos) (mod_modN _).lt | exact ofV_lt2 _ _ | exact invV_lt2 _ _ | exact lt_lit (by decide)) _).mono (fun _ _ ⟨r, he, hr, hx⟩ => ⟨r, he, hr, hx⟩)) ?_
  refine t_val (fun w hx => r_loadBW tg24 rfl (Bk.hp hbb5 (H.ext hx)) rfl) rfl rfl ?_
  refine t_callr (l := [(.agg (List.toArray _))]) rfl rfl (fun _ _ _ h hx => Rd.ext h hx) is16 rfl (fun w hx hF => (in_c _ (by first | exact Nat.mod_lt _ two256_pos | exact Mod.lt (mod_modN _) | assumption | exact onceN_lt (by assumption) | exact Nat.lt_trans (Nat.mod_lt _ (mod_modN _).pos) (mod_modN _).lt | exact ofV_lt2 _ _ | exact invV_lt2 _ _ | exact lt_lit (by decide)) _).mono (fun _ _ ⟨r, he, hr, hx⟩ => ⟨r, he, hr, hx⟩)) ?_
  refine t_val (fun w hx => r_assign (v := _) rfl) rfl rfl ?_
  refine t_val (fun w hx => r_assign (v := _) rfl) rfl rfl ?_
  refine t_nil (fun w9 hx hF hA => ?_)
  replace H := H.ext hx
  have hr_1_1 := fact_rel hF 1 rfl rfl
  have hr_1_3 := fact_rel hF 3 rfl rfl
  clear hx hF hA
  try dsimp only at hr_1_1 hr_1_3
  have hB := H.below; replace E := Ext.trans E hB
  replace hbb5 := Bk.ext hbb5 hB
  replace hbb3 := Bk.ext hbb3 hB
  clear hB; replace H := HP.restart H
  refine wpList_nil ?_; refine on_norm ?_
  refine x_norm ?_; refine hK6 _ _ ?_; try clear hK6 K6
  refine wp_seq_k ?_; intro K10 hK10
  refine wp_region_lit ?_
  refine p_call (l := []) is17 rfl ?_
  refine (awake6_c _).mono ?_; rintro _ w11 ⟨rfl, hx⟩; replace H := H.ext hx; clear hx
  refine p_val (r_move (v := (.bool _)) rfl) ?_
  refine p_want rfl rfl ?_
  refine p_val (r_move (v := (.int _ _)) rfl) ?_
  refine p_want rfl rfl ?_
  refine p_call (l := [(.int _ _)]) is18 rfl ?_
  refine (modulus_c _ _).mono ?_; rintro _ w12 ⟨rfl, hx⟩; replace H := H.ext hx; clear hx
  refine p_want rfl rfl ?_
  refine p_call (l := [(.agg (List.toArray _))]) is16 rfl ?_
  refine (in_c _ (by first | exact Nat.mod_lt _ two256_pos | exact Mod.lt (mod_modN _) | assumption | exact onceN_lt (by assumption) | exact Nat.lt_trans (Nat.mod_lt _ (mod_modN _).pos) (mod_modN _).lt | exact ofV_lt2 _ _ | exact invV_lt2 _ _ | exact lt_lit (by decide)) _).mono ?_; rintro _ w13 ⟨r_2_4, rfl, hr_2_4, hx⟩; replace H := H.ext hx; clear hx
  have hB := H.below; replace E := Ext.trans E hB
  replace hr_1_1 := Rd.ext hr_1_1 hB
  replace hr_1_3 := Rd.ext hr_1_3 hB
  replace hbb5 := Bk.ext hbb5 hB
  replace hbb3 := Bk.ext hbb3 hB
  clear hB; replace H := HP.restart H
  refine p_want rfl rfl ?_
  refine p_val (r_move (v := (.int _ _)) rfl) ?_
  refine p_want rfl rfl ?_
  refine p_call (l := [(.int _ _)]) is20 rfl ?_
  refine (rmodulus_c _ _).mono ?_; rintro _ w14 ⟨r_2_6, rfl, hr_2_6, hx⟩; replace H := H.ext hx; clear hx
  have hB := H.below; replace E := Ext.trans E hB
  replace hr_1_1 := Rd.ext hr_1_1 hB
  replace hr_1_3 := Rd.ext hr_1_3 hB
  replace hr_2_4 := Rd.ext hr_2_4 hB
  replace hbb5 := Bk.ext hbb5 hB
  replace hbb3 := Bk.ext hbb3 hB
  clear hB; replace H := HP.restart H
  refine p_want rfl rfl ?_
  refine p_call (l := [_, _]) is19 rfl ?_
  refine (is_c _ _ _ _ _ (Rd.hp hr_2_4 H) (Rd.hp hr_2_6 H) (by first | omega | exact Nat.lt_trans (len_mod _ _) (by decide) | exact Nat.lt_trans (len256 (by first | exact invV_lt2 _ _ | exact ofV_lt2 _ _)) (by decide) | (rw [len_modN]; decide)) (by first | omega | exact Nat.lt_trans (len_mod _ _) (by decide) | exact Nat.lt_trans (len256 (by first | exact invV_lt2 _ _ | exact ofV_lt2 _ _)) (by decide) | (rw [len_modN]; decide))).mono ?_; rintro _ w15 ⟨rfl, hx⟩; replace H := H.ext hx; clear hx
  refine p_val (r_pickt (v := (.bool _)) rfl rfl rfl) ?_
  refine p_val (r_move (v := (.bool _)) rfl) ?_
  refine p_want rfl (decide_eq_true rfl) ?_
  refine p_val (r_move (v := (.int _ _)) rfl) ?_
  refine p_want rfl (decide_eq_true rfl) ?_
  refine p_val (r_loadBW tg24 rfl (Bk.hp hbb3 H) rfl) ?_
  refine p_want rfl (decide_eq_true rfl) ?_
  refine p_val (r_loadBW tg24 rfl (Bk.hp hbb5 H) rfl) ?_
  refine p_want rfl (decide_eq_true rfl) ?_
  refine p_call (l := [(.int _ _), (.agg (List.toArray _)), (.agg (List.toArray _))]) is21 rfl ?_
  refine (add_c _ _ _ (by first | exact Nat.mod_lt _ two256_pos | exact Mod.lt (mod_modN _) | assumption | exact onceN_lt (by assumption) | exact Nat.lt_trans (Nat.mod_lt _ (mod_modN _).pos) (mod_modN _).lt | exact ofV_lt2 _ _ | exact invV_lt2 _ _ | exact lt_lit (by decide)) (by first | exact Nat.mod_lt _ two256_pos | exact Mod.lt (mod_modN _) | assumption | exact onceN_lt (by assumption) | exact Nat.lt_trans (Nat.mod_lt _ (mod_modN _).pos) (mod_modN _).lt | exact ofV_lt2 _ _ | exact invV_lt2 _ _ | exact lt_lit (by decide)) _).mono ?_; rintro _ w17 ⟨rfl, hx⟩; replace H := H.ext hx; clear hx
  refine p_want rfl (decide_eq_true rfl) ?_
  refine p_call (l := [(.agg (List.toArray _))]) is16 rfl ?_
  refine (in_c _ (by first | exact Nat.mod_lt _ two256_pos | exact Mod.lt (mod_modN _) | assumption | exact onceN_lt (by assumption) | exact Nat.lt_trans (Nat.mod_lt _ (mod_modN _).pos) (mod_modN _).lt | exact ofV_lt2 _ _ | exact invV_lt2 _ _ | exact lt_lit (by decide)) _).mono ?_; rintro _ w18 ⟨r_2_14, rfl, hr_2_14, hx⟩; replace H := H.ext hx; clear hx
  have hB := H.below; replace E := Ext.trans E hB
  replace hr_1_1 := Rd.ext hr_1_1 hB
  replace hr_1_3 := Rd.ext hr_1_3 hB
  replace hr_2_4 := Rd.ext hr_2_4 hB
  replace hr_2_6 := Rd.ext hr_2_6 hB
  replace hbb5 := Bk.ext hbb5 hB
  replace hbb3 := Bk.ext hbb3 hB
  clear hB; replace H := HP.restart H
  refine p_want rfl (decide_eq_true rfl) ?_
  refine p_val (r_move (v := (.int _ _)) rfl) ?_
  refine p_want rfl (decide_eq_true rfl) ?_
  refine p_val (r_move (v := _) rfl) ?_
  refine p_want rfl (decide_eq_true rfl) ?_
  refine p_val (r_move (v := _) rfl) ?_
  refine p_want rfl (decide_eq_true rfl) ?_
  refine p_call (l := [(.int _ _), _, _]) is22 rfl ?_
  refine (rsum_c _ _ _ _ _ _ (Rd.hp hr_1_1 H) (Rd.hp hr_1_3 H) (by first | omega | exact len_mod _ _) (by first | omega | exact len_mod _ _)).mono ?_; rintro _ w19 ⟨r_2_18, rfl, hr_2_18, hx⟩; replace H := H.ext hx; clear hx
  have hB := H.below; replace E := Ext.trans E hB
  replace hr_1_1 := Rd.ext hr_1_1 hB
  replace hr_1_3 := Rd.ext hr_1_3 hB
  replace hr_2_14 := Rd.ext hr_2_14 hB
  replace hr_2_4 := Rd.ext hr_2_4 hB
  replace hr_2_6 := Rd.ext hr_2_6 hB
  replace hbb5 := Bk.ext hbb5 hB
  replace hbb3 := Bk.ext hbb3 hB
  clear hB; replace H := HP.restart H
  refine p_want rfl (decide_eq_true rfl) ?_
  refine p_call (l := [_, _]) is19 rfl ?_
  refine (is_c _ _ _ _ _ (Rd.hp hr_2_14 H) (Rd.hp hr_2_18 H) (by first | omega | exact Nat.lt_trans (len_mod _ _) (by decide) | exact Nat.lt_trans (len256 (by first | exact invV_lt2 _ _ | exact ofV_lt2 _ _)) (by decide) | (rw [len_modN]; decide)) (by first | omega | exact Nat.lt_trans (len_mod _ _) (by decide) | exact Nat.lt_trans (len256 (by first | exact invV_lt2 _ _ | exact ofV_lt2 _ _)) (by decide) | (rw [len_modN]; decide))).mono ?_; rintro _ w20 ⟨rfl, hx⟩; replace H := H.ext hx; clear hx
  refine p_val (r_pickt (v := (.bool _)) rfl (decide_eq_true rfl) rfl) ?_
  refine p_val (r_move (v := (.bool _)) rfl) ?_
  refine p_want rfl (decide_eq_true rfl) ?_
  refine p_val (r_move (v := (.int _ _)) rfl) ?_
  refine p_want rfl (decide_eq_true rfl) ?_
  refine p_val (r_loadBW tg24 rfl (Bk.hp hbb3 H) rfl) ?_
  refine p_want rfl (decide_eq_true rfl) ?_
  refine p_val (r_loadBW tg24 rfl (Bk.hp hbb5 H) rfl) ?_
  refine p_want rfl (decide_eq_true rfl) ?_
  refine p_call (l := [(.int _ _), (.agg (List.toArray _)), (.agg (List.toArray _))]) is23 rfl ?_
  refine (sub_c _ _ _ (by first | exact Nat.mod_lt _ two256_pos | exact Mod.lt (mod_modN _) | assumption | exact onceN_lt (by assumption) | exact Nat.lt_trans (Nat.mod_lt _ (mod_modN _).pos) (mod_modN _).lt | exact ofV_lt2 _ _ | exact invV_lt2 _ _ | exact lt_lit (by decide)) (by first | exact Nat.mod_lt _ two256_pos | exact Mod.lt (mod_modN _) | assumption | exact onceN_lt (by assumption) | exact Nat.lt_trans (Nat.mod_lt _ (mod_modN _).pos) (mod_modN _).lt | exact ofV_lt2 _ _ | exact invV_lt2 _ _ | exact lt_lit (by decide)) _).mono ?_; rintro _ w22 ⟨rfl, hx⟩; replace H := H.ext hx; clear hx
  refine p_want rfl (decide_eq_true rfl) ?_
  refine p_call (l := [(.agg (List.toArray _))]) is16 rfl ?_
  refine (in_c _ (by first | exact Nat.mod_lt _ two256_pos | exact Mod.lt (mod_modN _) | assumption | exact onceN_lt (by assumption) | exact Nat.lt_trans (Nat.mod_lt _ (mod_modN _).pos) (mod_modN _).lt | exact ofV_lt2 _ _ | exact invV_lt2 _ _ | exact lt_lit (by decide)) _).mono ?_; rintro _ w23 ⟨r_2_26, rfl, hr_2_26, hx⟩; replace H := H.ext hx; clear hx
  have hB := H.below; replace E := Ext.trans E hB
  replace hr_1_1 := Rd.ext hr_1_1 hB
  replace hr_1_3 := Rd.ext hr_1_3 hB
  replace hr_2_14 := Rd.ext hr_2_14 hB
  replace hr_2_18 := Rd.ext hr_2_18 hB
  replace hr_2_4 := Rd.ext hr_2_4 hB
  replace hr_2_6 := Rd.ext hr_2_6 hB
  replace hbb5 := Bk.ext hbb5 hB
  replace hbb3 := Bk.ext hbb3 hB
  clear hB; replace H := HP.restart H
  refine p_want rfl (decide_eq_true rfl) ?_
  refine p_val (r_move (v := (.int _ _)) rfl) ?_
  refine p_want rfl (decide_eq_true rfl) ?_
  refine p_val (r_move (v := _) rfl) ?_
  refine p_want rfl (decide_eq_true rfl) ?_
  refine p_val (r_move (v := (.int _ _)) rfl) ?_
  refine p_want rfl (decide_eq_true rfl) ?_
  refine p_val (r_move (v := _) rfl) ?_
  refine p_want rfl (decide_eq_true rfl) ?_
  refine p_call (l := [(.int _ _), _]) is24 rfl ?_
  refine (ropposite_c _ _ _ _ (Rd.hp hr_1_3 H) (by first | omega | exact len_mod _ _)).mono ?_; rintro _ w24 ⟨r_2_31, rfl, hr_2_31, hx⟩; replace H := H.ext hx; clear hx
  have hB := H.below; replace E := Ext.trans E hB
  replace hr_1_1 := Rd.ext hr_1_1 hB
  replace hr_1_3 := Rd.ext hr_1_3 hB
  replace hr_2_14 := Rd.ext hr_2_14 hB
  replace hr_2_18 := Rd.ext hr_2_18 hB
  replace hr_2_26 := Rd.ext hr_2_26 hB
  replace hr_2_4 := Rd.ext hr_2_4 hB
  replace hr_2_6 := Rd.ext hr_2_6 hB
  replace hbb5 := Bk.ext hbb5 hB
  replace hbb3 := Bk.ext hbb3 hB
  clear hB; replace H := HP.restart H
  refine p_want rfl (decide_eq_true rfl) ?_
  refine p_call (l := [(.int _ _), _, _]) is22 rfl ?_
  refine (rsum_c _ _ _ _ _ _ (Rd.hp hr_1_1 H) (Rd.hp hr_2_31 H) (by first | omega | exact len_mod _ _) (by first | omega | exact len_mod _ _)).mono ?_; rintro _ w25 ⟨r_2_32, rfl, hr_2_32, hx⟩; replace H := H.ext hx; clear hx
  have hB := H.below; replace E := Ext.trans E hB
  replace hr_1_1 := Rd.ext hr_1_1 hB
  replace hr_1_3 := Rd.ext hr_1_3 hB
  replace hr_2_14 := Rd.ext hr_2_14 hB
  replace hr_2_18 := Rd.ext hr_2_18 hB
  replace hr_2_26 := Rd.ext hr_2_26 hB
  replace hr_2_31 := Rd.ext hr_2_31 hB
  replace hr_2_4 := Rd.ext hr_2_4 hB
  replace hr_2_6 := Rd.ext hr_2_6 hB
  replace hbb5 := Bk.ext hbb5 hB
  replace hbb3 := Bk.ext hbb3 hB
  clear hB; replace H := HP.restart H
  refine p_want rfl (decide_eq_true rfl) ?_
  refine p_call (l := [_, _]) is19 rfl ?_
  refine (is_c _ _ _ _ _ (Rd.hp hr_2_26 H) (Rd.hp hr_2_32 H) (by first | omega | exact Nat.lt_trans (len_mod _ _) (by decide) | exact Nat.lt_trans (len256 (by first | exact invV_lt2 _ _ | exact ofV_lt2 _ _)) (by decide) | (rw [len_modN]; decide)) (by first | omega | exact Nat.lt_trans (len_mod _ _) (by decide) | exact Nat.lt_trans (len256 (by first | exact invV_lt2 _ _ | exact ofV_lt2 _ _)) (by decide) | (rw [len_modN]; decide))).mono ?_; rintro _ w26 ⟨rfl, hx⟩; replace H := H.ext hx; clear hx
  refine p_val (r_pickt (v := (.bool _)) rfl (decide_eq_true rfl) rfl) ?_
  refine p_val (r_move (v := (.bool _)) rfl) ?_
  refine p_want rfl (decide_eq_true (by rw [Nat.add_mod_mod])) ?_
  refine p_val (r_move (v := (.int _ _)) rfl) ?_
  refine p_want rfl (decide_eq_true (by rw [Nat.add_mod_mod])) ?_
  refine p_val (r_loadBW tg24 rfl (Bk.hp hbb3 H) rfl) ?_
  refine p_want rfl (decide_eq_true (by rw [Nat.add_mod_mod])) ?_
  refine p_val (r_loadBW tg24 rfl (Bk.hp hbb5 H) rfl) ?_
  refine p_want rfl (decide_eq_true (by rw [Nat.add_mod_mod])) ?_
  refine p_call (l := [(.int _ _), (.agg (List.toArray _)), (.agg (List.toArray _))]) is25 rfl ?_
  refine (mul_c _ _ _ (by first | exact Nat.mod_lt _ two256_pos | exact Mod.lt (mod_modN _) | assumption | exact onceN_lt (by assumption) | exact Nat.lt_trans (Nat.mod_lt _ (mod_modN _).pos) (mod_modN _).lt | exact ofV_lt2 _ _ | exact invV_lt2 _ _ | exact lt_lit (by decide)) (by first | exact Nat.mod_lt _ two256_pos | exact Mod.lt (mod_modN _) | assumption | exact onceN_lt (by assumption) | exact Nat.lt_trans (Nat.mod_lt _ (mod_modN _).pos) (mod_modN _).lt | exact ofV_lt2 _ _ | exact invV_lt2 _ _ | exact lt_lit (by decide)) _).mono ?_; rintro _ w28 ⟨rfl, hx⟩; replace H := H.ext hx; clear hx
  refine p_want rfl (decide_eq_true (by rw [Nat.add_mod_mod])) ?_
  refine p_call (l := [(.agg (List.toArray _))]) is16 rfl ?_
  refine (in_c _ (by first | exact Nat.mod_lt _ two256_pos | exact Mod.lt (mod_modN _) | assumption | exact onceN_lt (by assumption) | exact Nat.lt_trans (Nat.mod_lt _ (mod_modN _).pos) (mod_modN _).lt | exact ofV_lt2 _ _ | exact invV_lt2 _ _ | exact lt_lit (by decide)) _).mono ?_; rintro _ w29 ⟨r_2_40, rfl, hr_2_40, hx⟩; replace H := H.ext hx; clear hx
  have hB := H.below; replace E := Ext.trans E hB
  replace hr_1_1 := Rd.ext hr_1_1 hB
  replace hr_1_3 := Rd.ext hr_1_3 hB
  replace hr_2_14 := Rd.ext hr_2_14 hB
  replace hr_2_18 := Rd.ext hr_2_18 hB
  replace hr_2_26 := Rd.ext hr_2_26 hB
  replace hr_2_31 := Rd.ext hr_2_31 hB
  replace hr_2_32 := Rd.ext hr_2_32 hB
  replace hr_2_4 := Rd.ext hr_2_4 hB
  replace hr_2_6 := Rd.ext hr_2_6 hB
  replace hbb5 := Bk.ext hbb5 hB
  replace hbb3 := Bk.ext hbb3 hB
  clear hB; replace H := HP.restart H
  refine p_want rfl (decide_eq_true (by rw [Nat.add_mod_mod])) ?_
  refine p_val (r_move (v := (.int _ _)) rfl) ?_
  refine p_want rfl (decide_eq_true (by rw [Nat.add_mod_mod])) ?_
  refine p_val (r_move (v := _) rfl) ?_
  refine p_want rfl (decide_eq_true (by rw [Nat.add_mod_mod])) ?_
  refine p_val (r_move (v := _) rfl) ?_
  refine p_want rfl (decide_eq_true (by rw [Nat.add_mod_mod])) ?_
  refine p_call (l := [(.int _ _), _, _]) is26 rfl ?_
  refine (rproduct_c _ _ _ _ _ _ (Rd.hp hr_1_1 H) (Rd.hp hr_1_3 H) (by first | omega | exact len_mod _ _) (by first | omega | exact len_mod _ _)).mono ?_; rintro _ w30 ⟨r_2_44, rfl, hr_2_44, hx⟩; replace H := H.ext hx; clear hx
  have hB := H.below; replace E := Ext.trans E hB
  replace hr_1_1 := Rd.ext hr_1_1 hB
  replace hr_1_3 := Rd.ext hr_1_3 hB
  replace hr_2_14 := Rd.ext hr_2_14 hB
  replace hr_2_18 := Rd.ext hr_2_18 hB
  replace hr_2_26 := Rd.ext hr_2_26 hB
  replace hr_2_31 := Rd.ext hr_2_31 hB
  replace hr_2_32 := Rd.ext hr_2_32 hB
  replace hr_2_4 := Rd.ext hr_2_4 hB
  replace hr_2_40 := Rd.ext hr_2_40 hB
  replace hr_2_6 := Rd.ext hr_2_6 hB
  replace hbb5 := Bk.ext hbb5 hB
  replace hbb3 := Bk.ext hbb3 hB
  clear hB; replace H := HP.restart H
  refine p_want rfl (decide_eq_true (by rw [Nat.add_mod_mod])) ?_
  refine p_call (l := [_, _]) is19 rfl ?_
  refine (is_c _ _ _ _ _ (Rd.hp hr_2_40 H) (Rd.hp hr_2_44 H) (by first | omega | exact Nat.lt_trans (len_mod _ _) (by decide) | exact Nat.lt_trans (len256 (by first | exact invV_lt2 _ _ | exact ofV_lt2 _ _)) (by decide) | (rw [len_modN]; decide)) (by first | omega | exact Nat.lt_trans (len_mod _ _) (by decide) | exact Nat.lt_trans (len256 (by first | exact invV_lt2 _ _ | exact ofV_lt2 _ _)) (by decide) | (rw [len_modN]; decide))).mono ?_; rintro _ w31 ⟨rfl, hx⟩; replace H := H.ext hx; clear hx
  refine p_val (r_pickt (v := (.bool _)) rfl (decide_eq_true (by rw [Nat.add_mod_mod])) rfl) ?_
  refine p_val (r_move (v := (.bool _)) rfl) ?_
  refine p_want rfl (decide_eq_true rfl) ?_
  refine p_val (r_move (v := (.int _ _)) rfl) ?_
  refine p_want rfl (decide_eq_true rfl) ?_
  refine p_val (r_loadBW tg24 rfl (Bk.hp hbb3 H) rfl) ?_
  refine p_want rfl (decide_eq_true rfl) ?_
  refine p_call (l := [(.int _ _), (.agg (List.toArray _))]) is27 rfl ?_
  refine (neg_c _ _ (by first | exact Nat.mod_lt _ two256_pos | exact Mod.lt (mod_modN _) | assumption | exact onceN_lt (by assumption) | exact Nat.lt_trans (Nat.mod_lt _ (mod_modN _).pos) (mod_modN _).lt | exact ofV_lt2 _ _ | exact invV_lt2 _ _ | exact lt_lit (by decide)) _).mono ?_; rintro _ w33 ⟨rfl, hx⟩; replace H := H.ext hx; clear hx
  refine p_want rfl (decide_eq_true rfl) ?_
  refine p_call (l := [(.agg (List.toArray _))]) is16 rfl ?_
  refine (in_c _ (by first | exact Nat.mod_lt _ two256_pos | exact Mod.lt (mod_modN _) | assumption | exact onceN_lt (by assumption) | exact Nat.lt_trans (Nat.mod_lt _ (mod_modN _).pos) (mod_modN _).lt | exact ofV_lt2 _ _ | exact invV_lt2 _ _ | exact lt_lit (by decide)) _).mono ?_; rintro _ w34 ⟨r_2_51, rfl, hr_2_51, hx⟩; replace H := H.ext hx; clear hx
  have hB := H.below; replace E := Ext.trans E hB
  replace hr_1_1 := Rd.ext hr_1_1 hB
  replace hr_1_3 := Rd.ext hr_1_3 hB
  replace hr_2_14 := Rd.ext hr_2_14 hB
  replace hr_2_18 := Rd.ext hr_2_18 hB
  replace hr_2_26 := Rd.ext hr_2_26 hB
  replace hr_2_31 := Rd.ext hr_2_31 hB
  replace hr_2_32 := Rd.ext hr_2_32 hB
  replace hr_2_4 := Rd.ext hr_2_4 hB
  replace hr_2_40 := Rd.ext hr_2_40 hB
  replace hr_2_44 := Rd.ext hr_2_44 hB
  replace hr_2_6 := Rd.ext hr_2_6 hB
  replace hbb5 := Bk.ext hbb5 hB
  replace hbb3 := Bk.ext hbb3 hB
  clear hB; replace H := HP.restart H
  refine p_want rfl (decide_eq_true rfl) ?_
  refine p_val (r_move (v := (.int _ _)) rfl) ?_
  refine p_want rfl (decide_eq_true rfl) ?_
  refine p_val (r_move (v := _) rfl) ?_
  refine p_want rfl (decide_eq_true rfl) ?_
  refine p_call (l := [(.int _ _), _]) is24 rfl ?_
  refine (ropposite_c _ _ _ _ (Rd.hp hr_1_1 H) (by first | omega | exact len_mod _ _)).mono ?_; rintro _ w35 ⟨r_2_54, rfl, hr_2_54, hx⟩; replace H := H.ext hx; clear hx
  have hB := H.below; replace E := Ext.trans E hB
  replace hr_1_1 := Rd.ext hr_1_1 hB
  replace hr_1_3 := Rd.ext hr_1_3 hB
  replace hr_2_14 := Rd.ext hr_2_14 hB
  replace hr_2_18 := Rd.ext hr_2_18 hB
  replace hr_2_26 := Rd.ext hr_2_26 hB
  replace hr_2_31 := Rd.ext hr_2_31 hB
  replace hr_2_32 := Rd.ext hr_2_32 hB
  replace hr_2_4 := Rd.ext hr_2_4 hB
  replace hr_2_40 := Rd.ext hr_2_40 hB
  replace hr_2_44 := Rd.ext hr_2_44 hB
  replace hr_2_51 := Rd.ext hr_2_51 hB
  replace hr_2_6 := Rd.ext hr_2_6 hB
  replace hbb5 := Bk.ext hbb5 hB
  replace hbb3 := Bk.ext hbb3 hB
  clear hB; replace H := HP.restart H
  refine p_want rfl (decide_eq_true rfl) ?_
  refine p_call (l := [_, _]) is19 rfl ?_
  refine (is_c _ _ _ _ _ (Rd.hp hr_2_51 H) (Rd.hp hr_2_54 H) (by first | omega | exact Nat.lt_trans (len_mod _ _) (by decide) | exact Nat.lt_trans (len256 (by first | exact invV_lt2 _ _ | exact ofV_lt2 _ _)) (by decide) | (rw [len_modN]; decide)) (by first | omega | exact Nat.lt_trans (len_mod _ _) (by decide) | exact Nat.lt_trans (len256 (by first | exact invV_lt2 _ _ | exact ofV_lt2 _ _)) (by decide) | (rw [len_modN]; decide))).mono ?_; rintro _ w36 ⟨rfl, hx⟩; replace H := H.ext hx; clear hx
  refine p_val (r_pickt (v := (.bool _)) rfl (decide_eq_true rfl) rfl) ?_
  refine p_val (r_assign (v := (.bool _)) rfl) ?_
  refine wpList_nil ?_
  refine x_norm ?_; refine hK10 _ _ ?_; try clear hK10 K10
  refine wp_ret ?_
  refine e_1 rfl (q_tmp (v := (.bool _)) rfl) ?_
  exact ⟨by rw [decide_eq_true rfl], E.trans H.below⟩

set_option maxRecDepth 4000 in
theorem fieldPowers_c (m : Int) (A B : Nat) (hA : A < two256) (hB : B < two256) (w : World) :
    Calls Try.prog 5 #[.int .i64 m, numV A, numV B] w fun e w' => e = .returned (.bool true) ∧ Ext w w' := by
  refine enter (n := 22) Try.func5 rfl rfl rfl ?_
  have H := HP.start w
  have E := Below.refl w.heap.size w
  have hlA := len256 hA
  have hlB := len256 hB
  refine wp_seq_k ?_; intro K1 hK1
  refine wp_region_lit ?_
  refine p_box (l := numL A) H rfl ?_; clear H; intro w2 b3 H
  refine p_box (l := numL B) H rfl ?_; clear H; intro w4 b5 H
  refine p_val (r_assign (v := (.bool _)) rfl) ?_
  refine wpList_nil ?_
  refine x_norm ?_; refine hK1 _ _ ?_; try clear hK1 K1
  refine wp_seq_k ?_; intro K6 hK6
  have hbb5 := HP.bk H (k := 0) (cs := numL B) rfl
  have hbb3 := HP.bk H (k := 1) (cs := numL A) rfl
  have hB := H.below; replace E := Ext.trans E hB
  clear hB; replace H := HP.restart H
  apply wp_region_ext 16 (kinds [(0, .inl _), (5, .inl _), (6, .inr (fun v w => Dg w v (A ^ B % modN m))), (9, .inr (fun v w => Dg w v A)), (11, .inr (fun v w => Dg w v B)), (12, .inr (fun v w => Dg w v (A ^ B % modN m))), (13, .inl _)]) rfl rfl (by kernel_rfl); intro vs8
  simp only [List.take_succ_cons, List.take_zero, List.drop_succ_cons, List.drop_zero]
  replace H := H.drew
  refine t_call (l := []) rfl rfl is17 rfl (fun w hx hF => (awake6_c _).mono (fun _ _ ⟨he, hx⟩ => ⟨he, hx⟩)) ?_
  refine t_val (fun w hx => r_move (v := (.bool _)) rfl) rfl rfl ?_
  refine t_valG rfl rfl (fun w hx => r_move (v := (.int _ _)) rfl) rfl rfl ?_
  refine t_valG rfl rfl (fun w hx => r_loadBW tg24 rfl (Bk.hp hbb3 (H.ext hx)) rfl) rfl rfl ?_
  refine t_valG rfl rfl (fun w hx => r_loadBW tg24 rfl (Bk.hp hbb5 (H.ext hx)) rfl) rfl rfl ?_
  refine t_callG rfl rfl (l := [(.int _ _), (.agg (List.toArray _)), (.agg (List.toArray _))]) rfl rfl is31 rfl (fun w hx hF => (pow_c _ _ _ (by first | exact Nat.mod_lt _ two256_pos | exact Mod.lt (mod_modN _) | assumption | exact onceN_lt (by assumption) | exact Nat.lt_trans (Nat.mod_lt _ (mod_modN _).pos) (mod_modN _).lt | exact ofV_lt2 _ _ | exact invV_lt2 _ _ | exact lt_lit (by decide)) (by first | exact Nat.mod_lt _ two256_pos | exact Mod.lt (mod_modN _) | assumption | exact onceN_lt (by assumption) | exact Nat.lt_trans (Nat.mod_lt _ (mod_modN _).pos) (mod_modN _).lt | exact ofV_lt2 _ _ | exact invV_lt2 _ _ | exact lt_lit (by decide)) _).mono (fun _ _ ⟨he, hx⟩ => ⟨he, hx⟩)) ?_
  refine t_callrG rfl rfl (l := [(.agg (List.toArray _))]) rfl rfl (fun _ _ _ h hx => Rd.ext h hx) is16 rfl (fun w hx hF => (in_c _ (by first | exact Nat.mod_lt _ two256_pos | exact Mod.lt (mod_modN _) | assumption | exact onceN_lt (by assumption) | exact Nat.lt_trans (Nat.mod_lt _ (mod_modN _).pos) (mod_modN _).lt | exact ofV_lt2 _ _ | exact invV_lt2 _ _ | exact lt_lit (by decide)) _).mono (fun _ _ ⟨r, he, hr, hx⟩ => ⟨r, he, hr, hx⟩)) ?_
  refine t_valG rfl rfl (fun w hx => r_move (v := (.int _ _)) rfl) rfl rfl ?_
  refine t_valG rfl rfl (fun w hx => r_loadBW tg24 rfl (Bk.hp hbb3 (H.ext hx)) rfl) rfl rfl ?_
  refine t_callrG rfl rfl (l := [(.agg (List.toArray _))]) rfl rfl (fun _ _ _ h hx => Rd.ext h hx) is16 rfl (fun w hx hF => (in_c _ (by first | exact Nat.mod_lt _ two256_pos | exact Mod.lt (mod_modN _) | assumption | exact onceN_lt (by assumption) | exact Nat.lt_trans (Nat.mod_lt _ (mod_modN _).pos) (mod_modN _).lt | exact ofV_lt2 _ _ | exact invV_lt2 _ _ | exact lt_lit (by decide)) _).mono (fun _ _ ⟨r, he, hr, hx⟩ => ⟨r, he, hr, hx⟩)) ?_
  refine t_valG rfl rfl (fun w hx => r_loadBW tg24 rfl (Bk.hp hbb5 (H.ext hx)) rfl) rfl rfl ?_
  refine t_callrG rfl rfl (l := [(.agg (List.toArray _))]) rfl rfl (fun _ _ _ h hx => Rd.ext h hx) is16 rfl (fun w hx hF => (in_c _ (by first | exact Nat.mod_lt _ two256_pos | exact Mod.lt (mod_modN _) | assumption | exact onceN_lt (by assumption) | exact Nat.lt_trans (Nat.mod_lt _ (mod_modN _).pos) (mod_modN _).lt | exact ofV_lt2 _ _ | exact invV_lt2 _ _ | exact lt_lit (by decide)) _).mono (fun _ _ ⟨r, he, hr, hx⟩ => ⟨r, he, hr, hx⟩)) ?_
  refine t_callrG rfl rfl (l := [(.int _ _), _, _]) rfl rfl (fun _ _ _ h hx => Rd.ext h hx) is32 rfl (fun w hx hF => (rpower_c _ _ _ _ _ _ (fact_rel hF 9 rfl rfl) (fact_rel hF 11 rfl rfl) (by first | omega | exact len_mod _ _) (by first | omega | exact Nat.lt_trans (len_mod _ _) (by decide) | (rw [len_modN]; decide))).mono (fun _ _ ⟨r, he, hr, hx⟩ => ⟨r, he, hr, hx⟩)) ?_
  refine t_callG rfl rfl (l := [_, _]) rfl rfl is19 rfl (fun w hx hF => (is_c _ _ _ _ _ (fact_rel hF 6 rfl rfl) (fact_rel hF 12 rfl rfl) (by first | omega | exact Nat.lt_trans (len_mod _ _) (by decide) | exact Nat.lt_trans (len256 (by first | exact invV_lt2 _ _ | exact ofV_lt2 _ _)) (by decide) | (rw [len_modN]; decide)) (by first | omega | exact Nat.lt_trans (len_mod _ _) (by decide) | exact Nat.lt_trans (len256 (by first | exact invV_lt2 _ _ | exact ofV_lt2 _ _)) (by decide) | (rw [len_modN]; decide))).mono (fun _ _ ⟨he, hx⟩ => ⟨he, hx⟩)) ?_
  refine t_val (fun w hx => r_pickt (v := (.bool _)) rfl rfl rfl) rfl rfl ?_
  refine t_val (fun w hx => r_assign (v := (.bool _)) rfl) rfl rfl ?_
  refine t_nil (fun w9 hx hF hA => ?_)
  replace H := H.ext hx
  have hr_1_6 := fact_rel hF 6 rfl rfl
  have hr_1_9 := fact_rel hF 9 rfl rfl
  have hr_1_11 := fact_rel hF 11 rfl rfl
  have hr_1_12 := fact_rel hF 12 rfl rfl
  clear hx hF hA
  try dsimp only at hr_1_6 hr_1_9 hr_1_11 hr_1_12
  have hB := H.below; replace E := Ext.trans E hB
  replace hbb5 := Bk.ext hbb5 hB
  replace hbb3 := Bk.ext hbb3 hB
  clear hB; replace H := HP.restart H
  refine wpList_nil ?_; refine on_norm ?_
  refine x_norm ?_; refine hK6 _ _ ?_; try clear hK6 K6
  refine wp_ret ?_
  refine e_1 rfl (q_tmp (v := (.bool _)) rfl) ?_
  exact ⟨by rw [decide_eq_true rfl], E.trans H.below⟩

set_option maxRecDepth 4000 in
theorem fieldInverts_c (m : Int) (A : Nat) (hA : A < two256) (w : World) :
    Calls Try.prog 4 #[.int .i64 m, numV A] w fun e w' => e = .returned (.bool true) ∧ Ext w w' := by
  refine enter (n := 44) Try.func4 rfl rfl rfl ?_
  have H := HP.start w
  have E := Below.refl w.heap.size w
  have hlA := len256 hA
  have hpl := (mod_modN m).lt
  refine wp_seq_k ?_; intro K1 hK1
  refine wp_region_lit ?_
  refine p_box (l := numL A) H rfl ?_; clear H; intro w2 b3 H
  refine p_val (r_assign (v := (.bool _)) rfl) ?_
  refine wpList_nil ?_
  refine x_norm ?_; refine hK1 _ _ ?_; try clear hK1 K1
  refine wp_seq_k ?_; intro K4 hK4
  refine wp_region_lit ?_
  refine p_val (r_move (v := (.int _ _)) rfl) ?_
  refine p_val (r_loadW tg24 H rfl (k := 0) rfl rfl) ?_
  refine p_call (l := [(.int _ _), (.agg (List.toArray _))]) is28 rfl ?_
  refine (inv_c _ _ (by first | exact Nat.mod_lt _ two256_pos | exact Mod.lt (mod_modN _) | assumption | exact onceN_lt (by assumption) | exact Nat.lt_trans (Nat.mod_lt _ (mod_modN _).pos) (mod_modN _).lt | exact ofV_lt2 _ _ | exact invV_lt2 _ _ | exact lt_lit (by decide)) _).mono ?_; rintro _ w5 ⟨rfl, hx⟩; replace H := H.ext hx; clear hx
  refine p_val (r_move (v := (.tuple _)) rfl) ?_
  refine p_val (r_extract (v := (.agg (List.toArray _))) rfl rfl) ?_
  refine p_val (r_extract (v := (.int _ _)) rfl rfl) ?_
  refine p_alloc (l := [.int .u64 0, .int .u64 0, .int .u64 0, .int .u64 0]) H tz24 rfl ?_; clear H; intro w7 b6 H
  refine p_storeW tg24 H rfl (k := 0) rfl rfl rfl rfl rfl ?_; clear H; intro w8 H
  refine p_val (r_assign (v := (.int _ _)) rfl) ?_
  refine wpList_nil ?_
  refine x_norm ?_; refine hK4 _ _ ?_; try clear hK4 K4
  refine wp_seq_k ?_; intro K9 hK9
  have hbb6 := HP.bk H (k := 0) rfl
  have hbb3 := HP.bk H (k := 1) (cs := numL A) rfl
  have hB := H.below; replace E := Ext.trans E hB
  clear hB; replace H := HP.restart H
  rcases Bool.eq_false_or_eq_true (decide (A % modN m = 0)) with hc | hc
  · skip
    have h0 : A % modN m = 0 := of_decide_eq_true hc
    have hi := inv_t h0
    have hB := H.below; replace E := Ext.trans E hB
    replace hbb6 := Bk.ext hbb6 hB
    replace hbb3 := Bk.ext hbb3 hB
    clear hB; replace H := HP.restart H
    refine wp_region_lit ?_
    refine p_val (r_loadBW tg24 rfl (Bk.hp hbb3 H) rfl) ?_
    refine p_call (l := [(.agg (List.toArray _))]) is16 rfl ?_
    refine (in_c _ (by first | exact Nat.mod_lt _ two256_pos | exact Mod.lt (mod_modN _) | assumption | exact onceN_lt (by assumption) | exact Nat.lt_trans (Nat.mod_lt _ (mod_modN _).pos) (mod_modN _).lt | exact ofV_lt2 _ _ | exact invV_lt2 _ _ | exact lt_lit (by decide)) _).mono ?_; rintro _ w10 ⟨r_2_1, rfl, hr_2_1, hx⟩; replace H := H.ext hx; clear hx
    have hB := H.below; replace E := Ext.trans E hB
    replace hbb6 := Bk.ext hbb6 hB
    replace hbb3 := Bk.ext hbb3 hB
    clear hB; replace H := HP.restart H
    refine p_val (r_move (v := (.int _ _)) rfl) ?_
    refine p_call (l := [(.int _ _)]) is20 rfl ?_
    refine (rmodulus_c _ _).mono ?_; rintro _ w11 ⟨r_2_3, rfl, hr_2_3, hx⟩; replace H := H.ext hx; clear hx
    have hB := H.below; replace E := Ext.trans E hB
    replace hr_2_1 := Rd.ext hr_2_1 hB
    replace hbb6 := Bk.ext hbb6 hB
    replace hbb3 := Bk.ext hbb3 hB
    clear hB; replace H := HP.restart H
    refine p_call (l := [_, _]) is29 rfl ?_
    refine (left_c _ _ _ _ _ (Rd.hp hr_2_1 H) (Rd.hp hr_2_3 H) (by omega) (len_modN _)).mono ?_; rintro _ w12 ⟨r_2_4, rfl, hr_2_4, hx⟩; replace H := H.ext hx; clear hx
    have hB := H.below; replace E := Ext.trans E hB
    replace hr_2_1 := Rd.ext hr_2_1 hB
    replace hr_2_3 := Rd.ext hr_2_3 hB
    replace hbb6 := Bk.ext hbb6 hB
    replace hbb3 := Bk.ext hbb3 hB
    clear hB; replace H := HP.restart H
    refine p_val (r_lenR (N := (digs _).length) ts26 rfl (Rd.hp hr_2_4 H) (u32s_length _)) ?_
    refine p_val (r_eql (t := true) rfl rfl (by rw [h0, digs_0]; rfl)) ?_
    refine p_val (r_assign (v := (.bool _)) rfl) ?_
    refine wpList_nil ?_
    refine x_norm ?_; refine hK9 _ _ ?_; try clear hK9 K9
    refine wp_seq_k ?_; intro K13 hK13
    refine wp_seq_k ?_; intro K14 hK14
    refine wp_region_lit ?_
    refine p_call (l := []) is17 rfl ?_
    refine (awake6_c _).mono ?_; rintro _ w15 ⟨rfl, hx⟩; replace H := H.ext hx; clear hx
    refine p_val (r_not (t := false) rfl rfl) ?_
    refine p_val (r_move (v := (.bool _)) rfl) ?_
    refine p_want rfl rfl ?_
    refine p_val (r_move (v := (.int _ _)) rfl) ?_
    refine p_want rfl rfl ?_
    refine p_val (r_eql (t := true) rfl rfl (by rw [hi.2]; rfl)) ?_
    refine p_want rfl rfl ?_
    refine p_val (r_move (v := (.bool _)) rfl) ?_
    refine p_want rfl rfl ?_
    refine p_val (r_neB (t := false) u4 rfl rfl rfl) ?_
    refine p_val (r_pickf (v := (.bool _)) rfl rfl rfl) ?_
    refine wpList_nil ?_
    refine x_norm ?_; refine hK14 _ _ ?_; try clear hK14 K14
    refine c_false rfl rfl ?_
    refine wp_skip ?_
    refine x_norm ?_; refine hK13 _ _ ?_; try clear hK13 K13
    refine wp_seq_k ?_; intro K16 hK16
    refine wp_seq_k ?_; intro K17 hK17
    refine wp_region_lit ?_
    refine p_val (r_move (v := (.bool _)) rfl) ?_
    refine wpList_nil ?_
    refine x_norm ?_; refine hK17 _ _ ?_; try clear hK17 K17
    refine c_true rfl rfl ?_
    refine wp_seq_k ?_; intro K18 hK18
    refine wp_region_lit ?_
    refine p_val (r_loadBW tg24 rfl (Bk.hp hbb6 H) rfl) ?_
    refine p_val (r_as (l' := numL 0) (r_build (vals := []) (l := [_, _, _, _]) tb24 rfl rfl) (num_0)) ?_
    refine p_val (r_eqnum (t := true) u24 u22 sz22 ag22 eg24 rfl rfl (by first | exact Nat.mod_lt _ two256_pos | exact Mod.lt (mod_modN _) | assumption | exact onceN_lt (by assumption) | exact Nat.lt_trans (Nat.mod_lt _ (mod_modN _).pos) (mod_modN _).lt | exact ofV_lt2 _ _ | exact invV_lt2 _ _ | exact lt_lit (by decide)) (by first | exact Nat.mod_lt _ two256_pos | exact Mod.lt (mod_modN _) | assumption | exact onceN_lt (by assumption) | exact Nat.lt_trans (Nat.mod_lt _ (mod_modN _).pos) (mod_modN _).lt | exact ofV_lt2 _ _ | exact invV_lt2 _ _ | exact lt_lit (by decide)) (eqT hi.1)) ?_
    refine p_val (r_assign (v := (.bool _)) rfl) ?_
    refine wpList_nil ?_
    refine x_norm ?_; refine hK18 _ _ ?_; try clear hK18 K18
    refine wp_ret ?_
    refine x_ret ?_
    refine e_1 rfl (q_tmp (v := (.bool _)) rfl) ?_
    exact ⟨rfl, E.trans H.below⟩
  · skip
    have h0 : A % modN m ≠ 0 := of_decide_eq_false hc
    have hi := inv_f h0
    have hB := H.below; replace E := Ext.trans E hB
    replace hbb6 := Bk.ext hbb6 hB
    replace hbb3 := Bk.ext hbb3 hB
    clear hB; replace H := HP.restart H
    refine wp_region_lit ?_
    refine p_val (r_loadBW tg24 rfl (Bk.hp hbb3 H) rfl) ?_
    refine p_call (l := [(.agg (List.toArray _))]) is16 rfl ?_
    refine (in_c _ (by first | exact Nat.mod_lt _ two256_pos | exact Mod.lt (mod_modN _) | assumption | exact onceN_lt (by assumption) | exact Nat.lt_trans (Nat.mod_lt _ (mod_modN _).pos) (mod_modN _).lt | exact ofV_lt2 _ _ | exact invV_lt2 _ _ | exact lt_lit (by decide)) _).mono ?_; rintro _ w19 ⟨r_2_1, rfl, hr_2_1, hx⟩; replace H := H.ext hx; clear hx
    have hB := H.below; replace E := Ext.trans E hB
    replace hbb6 := Bk.ext hbb6 hB
    replace hbb3 := Bk.ext hbb3 hB
    clear hB; replace H := HP.restart H
    refine p_val (r_move (v := (.int _ _)) rfl) ?_
    refine p_call (l := [(.int _ _)]) is20 rfl ?_
    refine (rmodulus_c _ _).mono ?_; rintro _ w20 ⟨r_2_3, rfl, hr_2_3, hx⟩; replace H := H.ext hx; clear hx
    have hB := H.below; replace E := Ext.trans E hB
    replace hr_2_1 := Rd.ext hr_2_1 hB
    replace hbb6 := Bk.ext hbb6 hB
    replace hbb3 := Bk.ext hbb3 hB
    clear hB; replace H := HP.restart H
    refine p_call (l := [_, _]) is29 rfl ?_
    refine (left_c _ _ _ _ _ (Rd.hp hr_2_1 H) (Rd.hp hr_2_3 H) (by omega) (len_modN _)).mono ?_; rintro _ w21 ⟨r_2_4, rfl, hr_2_4, hx⟩; replace H := H.ext hx; clear hx
    have hB := H.below; replace E := Ext.trans E hB
    replace hr_2_1 := Rd.ext hr_2_1 hB
    replace hr_2_3 := Rd.ext hr_2_3 hB
    replace hbb6 := Bk.ext hbb6 hB
    replace hbb3 := Bk.ext hbb3 hB
    clear hB; replace H := HP.restart H
    refine p_val (r_lenR (N := (digs _).length) ts26 rfl (Rd.hp hr_2_4 H) (u32s_length _)) ?_
    refine p_val (r_eql (t := false) rfl rfl (len_ne0 h0)) ?_
    refine p_val (r_assign (v := (.bool _)) rfl) ?_
    refine wpList_nil ?_
    refine x_norm ?_; refine hK9 _ _ ?_; try clear hK9 K9
    refine wp_seq_k ?_; intro K22 hK22
    refine wp_seq_k ?_; intro K23 hK23
    refine wp_region_lit ?_
    refine p_call (l := []) is17 rfl ?_
    refine (awake6_c _).mono ?_; rintro _ w24 ⟨rfl, hx⟩; replace H := H.ext hx; clear hx
    refine p_val (r_not (t := false) rfl rfl) ?_
    refine p_val (r_move (v := (.bool _)) rfl) ?_
    refine p_want rfl rfl ?_
    refine p_val (r_move (v := (.int _ _)) rfl) ?_
    refine p_want rfl rfl ?_
    refine p_val (r_eql (t := false) rfl rfl (by rw [hi.2]; rfl)) ?_
    refine p_want rfl rfl ?_
    refine p_val (r_move (v := (.bool _)) rfl) ?_
    refine p_want rfl rfl ?_
    refine p_val (r_neB (t := false) u4 rfl rfl rfl) ?_
    refine p_val (r_pickf (v := (.bool _)) rfl rfl rfl) ?_
    refine wpList_nil ?_
    refine x_norm ?_; refine hK23 _ _ ?_; try clear hK23 K23
    refine c_false rfl rfl ?_
    refine wp_skip ?_
    refine x_norm ?_; refine hK22 _ _ ?_; try clear hK22 K22
    refine wp_seq_k ?_; intro K25 hK25
    refine wp_seq_k ?_; intro K26 hK26
    refine wp_region_lit ?_
    refine p_val (r_move (v := (.bool _)) rfl) ?_
    refine wpList_nil ?_
    refine x_norm ?_; refine hK26 _ _ ?_; try clear hK26 K26
    refine c_false rfl rfl ?_
    refine wp_skip ?_
    refine x_norm ?_; refine hK25 _ _ ?_; try clear hK25 K25
    refine wp_seq_k ?_; intro K27 hK27
    apply wp_region_ext 12 (kinds [(4, .inr (fun v w => Dg w v (invV m A))), (7, .inr (fun v w => Dg w v A)), (8, .inr (fun v w => Dg w v (A ^ (modN m - 2) % modN m))), (9, .inl _)]) rfl rfl (by kernel_rfl); intro vs29
    simp only [List.take_succ_cons, List.take_zero, List.drop_succ_cons, List.drop_zero]
    replace H := H.drew
    refine t_val (fun w hx => r_move (v := (.int _ _)) rfl) rfl rfl ?_
    refine t_val (fun w hx => r_eql (t := true) rfl rfl (by rw [hi.2]; rfl)) rfl rfl ?_
    refine t_val (fun w hx => r_move (v := (.bool _)) rfl) rfl rfl ?_
    refine t_valG rfl rfl (fun w hx => r_loadBW tg24 rfl (Bk.hp hbb6 (H.ext hx)) rfl) rfl rfl ?_
    refine t_callrG rfl rfl (l := [(.agg (List.toArray _))]) rfl rfl (fun _ _ _ h hx => Rd.ext h hx) is16 rfl (fun w hx hF => (in_c _ (by first | exact Nat.mod_lt _ two256_pos | exact Mod.lt (mod_modN _) | assumption | exact onceN_lt (by assumption) | exact Nat.lt_trans (Nat.mod_lt _ (mod_modN _).pos) (mod_modN _).lt | exact ofV_lt2 _ _ | exact invV_lt2 _ _ | exact lt_lit (by decide)) _).mono (fun _ _ ⟨r, he, hr, hx⟩ => ⟨r, he, hr, hx⟩)) ?_
    refine t_valG rfl rfl (fun w hx => r_move (v := (.int _ _)) rfl) rfl rfl ?_
    refine t_valG rfl rfl (fun w hx => r_loadBW tg24 rfl (Bk.hp hbb3 (H.ext hx)) rfl) rfl rfl ?_
    refine t_callrG rfl rfl (l := [(.agg (List.toArray _))]) rfl rfl (fun _ _ _ h hx => Rd.ext h hx) is16 rfl (fun w hx hF => (in_c _ (by first | exact Nat.mod_lt _ two256_pos | exact Mod.lt (mod_modN _) | assumption | exact onceN_lt (by assumption) | exact Nat.lt_trans (Nat.mod_lt _ (mod_modN _).pos) (mod_modN _).lt | exact ofV_lt2 _ _ | exact invV_lt2 _ _ | exact lt_lit (by decide)) _).mono (fun _ _ ⟨r, he, hr, hx⟩ => ⟨r, he, hr, hx⟩)) ?_
    refine t_callrG rfl rfl (l := [(.int _ _), _]) rfl rfl (fun _ _ _ h hx => Rd.ext h hx) is30 rfl (fun w hx hF => (rinverse_c _ _ _ _ (fact_rel hF 7 rfl rfl) (by first | assumption | omega) (by assumption)).mono (fun _ _ ⟨r, he, hr, hx⟩ => ⟨r, he, hr, hx⟩)) ?_
    refine t_callG rfl rfl (l := [_, _]) rfl rfl is19 rfl (fun w hx hF => (is_c _ _ _ _ _ (fact_rel hF 4 rfl rfl) (fact_rel hF 8 rfl rfl) (by first | omega | exact Nat.lt_trans (len_mod _ _) (by decide) | exact Nat.lt_trans (len256 (by first | exact invV_lt2 _ _ | exact ofV_lt2 _ _)) (by decide) | (rw [len_modN]; decide)) (by first | omega | exact Nat.lt_trans (len_mod _ _) (by decide) | exact Nat.lt_trans (len256 (by first | exact invV_lt2 _ _ | exact ofV_lt2 _ _)) (by decide) | (rw [len_modN]; decide))).mono (fun _ _ ⟨he, hx⟩ => ⟨he, hx⟩)) ?_
    refine t_val (fun w hx => r_pickt (v := (.bool _)) rfl rfl rfl) rfl rfl ?_
    refine t_val (fun w hx => r_assign (v := (.bool _)) rfl) rfl rfl ?_
    refine t_nil (fun w30 hx hF hA => ?_)
    replace H := H.ext hx
    have hr_7_4 := fact_rel hF 4 rfl rfl
    have hr_7_7 := fact_rel hF 7 rfl rfl
    have hr_7_8 := fact_rel hF 8 rfl rfl
    clear hx hF hA
    try dsimp only at hr_7_4 hr_7_7 hr_7_8
    have hB := H.below; replace E := Ext.trans E hB
    replace hr_2_1 := Rd.ext hr_2_1 hB
    replace hr_2_3 := Rd.ext hr_2_3 hB
    replace hr_2_4 := Rd.ext hr_2_4 hB
    replace hbb6 := Bk.ext hbb6 hB
    replace hbb3 := Bk.ext hbb3 hB
    clear hB; replace H := HP.restart H
    refine wpList_nil ?_; refine on_norm ?_
    refine x_norm ?_; refine hK27 _ _ ?_; try clear hK27 K27
    refine wp_ret ?_
    refine e_1 rfl (q_tmp (v := (.bool _)) rfl) ?_
    exact ⟨by rw [decide_eq_true hi.1], E.trans H.below⟩

set_option maxRecDepth 4000 in
theorem fieldBytes_c (m : Int) (l : List UInt8) (A : Nat) (hl : l.length < 1099511627776) (hA : A < two256) (w : World) :
    Calls Try.prog 6 #[.int .i64 m, str l, numV A] w fun e w' => e = .returned (.bool true) ∧ Ext w w' := by
  refine enter (n := 80) Try.func6 rfl rfl rfl ?_
  have H := HP.start w
  have E := Below.refl w.heap.size w
  have hlA := len256 hA
  have hlb := len_bval l
  have hpl := (mod_modN m).lt
  have hML := len_modN m
  refine wp_seq_k ?_; intro K1 hK1
  refine wp_region_lit ?_
  refine p_box (l := numL A) H rfl ?_; clear H; intro w2 b3 H
  refine p_val (r_assign (v := (.bool _)) rfl) ?_
  refine wpList_nil ?_
  refine x_norm ?_; refine hK1 _ _ ?_; try clear hK1 K1
  refine wp_seq_k ?_; intro K4 hK4
  rcases Bool.eq_false_or_eq_true (ofOK m l) with hc | hc
  · skip
    have hi := of_t hc
    refine wp_region_lit ?_
    refine p_val (r_move (v := (.int _ _)) rfl) ?_
    refine p_val (r_move (v := (str l)) rfl) ?_
    refine p_call (l := [(.int _ _), (str l)]) is33 rfl ?_
    refine (of_c _ _ (by first | assumption | omega) _).mono ?_; rintro _ w5 ⟨rfl, hx⟩; replace H := H.ext hx; clear hx
    refine p_val (r_move (v := (.tuple _)) rfl) ?_
    refine p_val (r_extract (v := (.agg (List.toArray _))) rfl rfl) ?_
    refine p_val (r_extract (v := (.int _ _)) rfl rfl) ?_
    refine p_alloc (l := [.int .u64 0, .int .u64 0, .int .u64 0, .int .u64 0]) H tz24 rfl ?_; clear H; intro w7 b6 H
    refine p_storeW tg24 H rfl (k := 0) rfl rfl rfl rfl rfl ?_; clear H; intro w8 H
    refine p_val (r_assign (v := (.int _ _)) rfl) ?_
    refine wpList_nil ?_
    refine x_norm ?_; refine hK4 _ _ ?_; try clear hK4 K4
    refine wp_seq_k ?_; intro K9 hK9
    have hbb6 := HP.bk H (k := 0) rfl
    have hbb3 := HP.bk H (k := 1) (cs := numL A) rfl
    have hB := H.below; replace E := Ext.trans E hB
    clear hB; replace H := HP.restart H
    refine wp_region_lit ?_
    refine p_val (r_move (v := (str l)) rfl) ?_
    refine p_call (l := [(str l)]) is34 rfl ?_
    refine (read_c _ _ (by first | assumption | omega)).mono ?_; rintro _ w10 ⟨r_2_1, rfl, hr_2_1, hx⟩; replace H := H.ext hx; clear hx
    have hB := H.below; replace E := Ext.trans E hB
    replace hbb6 := Bk.ext hbb6 hB
    replace hbb3 := Bk.ext hbb3 hB
    clear hB; replace H := HP.restart H
    refine p_val (r_assign (v := _) rfl) ?_
    refine wpList_nil ?_
    refine x_norm ?_; refine hK9 _ _ ?_; try clear hK9 K9
    refine wp_seq_k ?_; intro K11 hK11
    refine wp_region_lit ?_
    refine p_val (r_move (v := (str l)) rfl) ?_
    refine p_val (r_lenT (N := _) u9 rfl (rfl)) ?_
    refine p_val (r_eql (t := true) rfl rfl (of_len1 hc)) ?_
    refine p_val (r_move (v := (.bool _)) rfl) ?_
    refine p_want rfl rfl ?_
    refine p_val (r_move (v := _) rfl) ?_
    refine p_want rfl rfl ?_
    refine p_val (r_move (v := (.int _ _)) rfl) ?_
    refine p_want rfl rfl ?_
    refine p_call (l := [(.int _ _)]) is20 rfl ?_
    refine (rmodulus_c _ _).mono ?_; rintro _ w12 ⟨r_3_6, rfl, hr_3_6, hx⟩; replace H := H.ext hx; clear hx
    have hB := H.below; replace E := Ext.trans E hB
    replace hr_2_1 := Rd.ext hr_2_1 hB
    replace hbb6 := Bk.ext hbb6 hB
    replace hbb3 := Bk.ext hbb3 hB
    clear hB; replace H := HP.restart H
    refine p_want rfl rfl ?_
    refine p_call (l := [_, _]) is35 rfl ?_
    refine (cmp_c _ _ _ _ _ (Rd.hp hr_2_1 H) (Rd.hp hr_3_6 H) (digs_DL _) (digs_DL _) (by omega) (by omega)).mono ?_; rintro _ w13 ⟨rfl, hx⟩; replace H := H.ext hx; clear hx
    refine p_want rfl rfl ?_
    refine p_val (r_lss (t := true) rfl rfl (of_fine1 hc)) ?_
    refine p_val (r_pickt (v := (.bool _)) rfl rfl rfl) ?_
    refine p_val (r_assign (v := (.bool _)) rfl) ?_
    refine wpList_nil ?_
    refine x_norm ?_; refine hK11 _ _ ?_; try clear hK11 K11
    refine wp_seq_k ?_; intro K14 hK14
    refine wp_seq_k ?_; intro K15 hK15
    refine wp_region_lit ?_
    refine p_call (l := []) is17 rfl ?_
    refine (awake6_c _).mono ?_; rintro _ w16 ⟨rfl, hx⟩; replace H := H.ext hx; clear hx
    refine p_val (r_not (t := false) rfl rfl) ?_
    refine p_val (r_move (v := (.bool _)) rfl) ?_
    refine p_want rfl rfl ?_
    refine p_val (r_move (v := (.int _ _)) rfl) ?_
    refine p_want rfl rfl ?_
    refine p_val (r_eql (t := true) rfl rfl (by rw [hi.2]; rfl)) ?_
    refine p_want rfl rfl ?_
    refine p_val (r_move (v := (.bool _)) rfl) ?_
    refine p_want rfl rfl ?_
    refine p_val (r_neB (t := false) u4 rfl rfl rfl) ?_
    refine p_val (r_pickf (v := (.bool _)) rfl rfl rfl) ?_
    refine p_val (r_move (v := (.bool _)) rfl) ?_
    refine p_want rfl rfl ?_
    refine p_val (r_move (v := (.int _ _)) rfl) ?_
    refine p_want rfl rfl ?_
    refine p_val (r_neq (t := false) rfl rfl (by rw [hi.2]; rfl)) ?_
    refine p_want rfl rfl ?_
    refine p_val (r_move (v := (.bool _)) rfl) ?_
    refine p_skip rfl rfl ?_
    rw [put_fr]
    refine p_skip rfl rfl ?_
    rw [put_fr]
    refine p_want rfl rfl ?_
    refine p_val (r_pickf (v := (.bool _)) rfl rfl rfl) ?_
    refine p_val (r_pickf (v := (.bool _)) rfl rfl rfl) ?_
    refine p_val (r_move (v := (.bool _)) rfl) ?_
    refine p_want rfl rfl ?_
    refine p_val (r_move (v := (.bool _)) rfl) ?_
    refine p_want rfl rfl ?_
    refine p_val (r_not (t := false) rfl rfl) ?_
    refine p_want rfl rfl ?_
    refine p_val (r_move (v := (.bool _)) rfl) ?_
    refine p_skip rfl rfl ?_
    rw [put_fr]
    refine p_skip rfl rfl ?_
    rw [put_fr]
    refine p_skip rfl rfl ?_
    rw [put_fr]
    refine p_want rfl rfl ?_
    refine p_val (r_pickf (v := (.bool _)) rfl rfl rfl) ?_
    refine p_val (r_pickf (v := (.bool _)) rfl rfl rfl) ?_
    refine p_val (r_move (v := (.bool _)) rfl) ?_
    refine p_want rfl rfl ?_
    refine p_val (r_move (v := (.bool _)) rfl) ?_
    refine p_want rfl rfl ?_
    refine p_val (r_move (v := (.bool _)) rfl) ?_
    refine p_want rfl rfl ?_
    refine p_val (r_loadBW tg24 rfl (Bk.hp hbb6 H) rfl) ?_
    refine p_want rfl rfl ?_
    refine p_call (l := [(.agg (List.toArray _))]) is16 rfl ?_
    refine (in_c _ (by first | exact Nat.mod_lt _ two256_pos | exact Mod.lt (mod_modN _) | assumption | exact onceN_lt (by assumption) | exact Nat.lt_trans (Nat.mod_lt _ (mod_modN _).pos) (mod_modN _).lt | exact ofV_lt2 _ _ | exact invV_lt2 _ _ | exact lt_lit (by decide)) _).mono ?_; rintro _ w17 ⟨r_4_29, rfl, hr_4_29, hx⟩; replace H := H.ext hx; clear hx
    have hB := H.below; replace E := Ext.trans E hB
    replace hr_2_1 := Rd.ext hr_2_1 hB
    replace hr_3_6 := Rd.ext hr_3_6 hB
    replace hbb6 := Bk.ext hbb6 hB
    replace hbb3 := Bk.ext hbb3 hB
    clear hB; replace H := HP.restart H
    refine p_want rfl rfl ?_
    refine p_val (r_move (v := _) rfl) ?_
    refine p_want rfl rfl ?_
    refine p_call (l := [_, _]) is19 rfl ?_
    refine (is_c _ _ _ _ _ (Rd.hp hr_4_29 H) (Rd.hp hr_2_1 H) (by first | omega | exact Nat.lt_trans (len_mod _ _) (by decide) | exact Nat.lt_trans (len256 (by first | exact invV_lt2 _ _ | exact ofV_lt2 _ _)) (by decide) | (rw [len_modN]; decide)) (by first | omega | exact Nat.lt_trans (len_mod _ _) (by decide) | exact Nat.lt_trans (len256 (by first | exact invV_lt2 _ _ | exact ofV_lt2 _ _)) (by decide) | (rw [len_modN]; decide))).mono ?_; rintro _ w18 ⟨rfl, hx⟩; replace H := H.ext hx; clear hx
    refine p_want rfl rfl ?_
    refine p_val (r_not (t := false) rfl (by rw [decide_eq_true hi.1]; rfl)) ?_
    refine p_want rfl rfl ?_
    refine p_val (r_pickt (v := (.bool _)) rfl rfl rfl) ?_
    refine p_val (r_pickf (v := (.bool _)) rfl rfl rfl) ?_
    refine wpList_nil ?_
    refine x_norm ?_; refine hK15 _ _ ?_; try clear hK15 K15
    refine c_false rfl rfl ?_
    refine wp_skip ?_
    refine x_norm ?_; refine hK14 _ _ ?_; try clear hK14 K14
    refine wp_seq_k ?_; intro K19 hK19
    have hB := H.below; replace E := Ext.trans E hB
    replace hr_2_1 := Rd.ext hr_2_1 hB
    replace hr_3_6 := Rd.ext hr_3_6 hB
    replace hr_4_29 := Rd.ext hr_4_29 hB
    replace hbb6 := Bk.ext hbb6 hB
    replace hbb3 := Bk.ext hbb3 hB
    clear hB; replace H := HP.restart H
    apply wp_region_ext 17 (kinds [(1, .inl _), (3, .inl _), (8, .inl _), (9, .inr (fun v w => Dg w v (bval l % modN m))), (12, .inr (fun v w => Dg w v (modN m))), (13, .inr (fun v w => Dg w v (bval l % modN m))), (14, .inl _)]) rfl rfl (by kernel_rfl); intro vs21
    simp only [List.take_succ_cons, List.take_zero, List.drop_succ_cons, List.drop_zero]
    replace H := H.drew
    refine t_val (fun w hx => r_loadBW tg24 rfl (Bk.hp hbb3 (H.ext hx)) rfl) rfl rfl ?_
    refine t_call (l := [(.agg (List.toArray _))]) rfl rfl is36 rfl (fun w hx hF => (bytes_c _ _).mono (fun _ _ ⟨he, hx⟩ => ⟨he, hx⟩)) ?_
    refine t_val (fun w hx => r_loadBW tg24 rfl (Bk.hp hbb3 (H.ext hx)) rfl) rfl rfl ?_
    refine t_call (l := [(.agg (List.toArray _))]) rfl rfl is37 rfl (fun w hx hF => (rbytes_c _ (by assumption) _).mono (fun _ _ ⟨he, hx⟩ => ⟨he, hx⟩)) ?_
    refine t_val (fun w hx => r_eqT (t := true) rfl rfl (beq_self_eq_true _)) rfl rfl ?_
    refine t_val (fun w hx => r_move (v := (.bool _)) rfl) rfl rfl ?_
    refine t_valG rfl rfl (fun w hx => r_move (v := (.int _ _)) rfl) rfl rfl ?_
    refine t_valG rfl rfl (fun w hx => r_move (v := (str l)) rfl) rfl rfl ?_
    refine t_callG rfl rfl (l := [(.int _ _), (str l)]) rfl rfl is38 rfl (fun w hx hF => (reduce_c _ _ (by first | assumption | omega) _).mono (fun _ _ ⟨he, hx⟩ => ⟨he, hx⟩)) ?_
    refine t_callrG rfl rfl (l := [(.agg (List.toArray _))]) rfl rfl (fun _ _ _ h hx => Rd.ext h hx) is16 rfl (fun w hx hF => (in_c _ (by first | exact Nat.mod_lt _ two256_pos | exact Mod.lt (mod_modN _) | assumption | exact onceN_lt (by assumption) | exact Nat.lt_trans (Nat.mod_lt _ (mod_modN _).pos) (mod_modN _).lt | exact ofV_lt2 _ _ | exact invV_lt2 _ _ | exact lt_lit (by decide)) _).mono (fun _ _ ⟨r, he, hr, hx⟩ => ⟨r, he, hr, hx⟩)) ?_
    refine t_valG rfl rfl (fun w hx => r_move (v := _) rfl) rfl rfl ?_
    refine t_valG rfl rfl (fun w hx => r_move (v := (.int _ _)) rfl) rfl rfl ?_
    refine t_callrG rfl rfl (l := [(.int _ _)]) rfl rfl (fun _ _ _ h hx => Rd.ext h hx) is20 rfl (fun w hx hF => (rmodulus_c _ _).mono (fun _ _ ⟨r, he, hr, hx⟩ => ⟨r, he, hr, hx⟩)) ?_
    refine t_callrG rfl rfl (l := [_, _]) rfl rfl (fun _ _ _ h hx => Rd.ext h hx) is29 rfl (fun w hx hF => (left_c _ _ _ _ _ (Rd.hp hr_2_1 (H.ext hx)) (fact_rel hF 12 rfl rfl) (by omega) (len_modN _)).mono (fun _ _ ⟨r, he, hr, hx⟩ => ⟨r, he, hr, hx⟩)) ?_
    refine t_callG rfl rfl (l := [_, _]) rfl rfl is19 rfl (fun w hx hF => (is_c _ _ _ _ _ (fact_rel hF 9 rfl rfl) (fact_rel hF 13 rfl rfl) (by first | omega | exact Nat.lt_trans (len_mod _ _) (by decide) | exact Nat.lt_trans (len256 (by first | exact invV_lt2 _ _ | exact ofV_lt2 _ _)) (by decide) | (rw [len_modN]; decide)) (by first | omega | exact Nat.lt_trans (len_mod _ _) (by decide) | exact Nat.lt_trans (len256 (by first | exact invV_lt2 _ _ | exact ofV_lt2 _ _)) (by decide) | (rw [len_modN]; decide))).mono (fun _ _ ⟨he, hx⟩ => ⟨he, hx⟩)) ?_
    refine t_val (fun w hx => r_pickt (v := (.bool _)) rfl rfl rfl) rfl rfl ?_
    refine t_val (fun w hx => r_assign (v := (.bool _)) rfl) rfl rfl ?_
    refine t_nil (fun w22 hx hF hA => ?_)
    replace H := H.ext hx
    have hr_6_9 := fact_rel hF 9 rfl rfl
    have hr_6_12 := fact_rel hF 12 rfl rfl
    have hr_6_13 := fact_rel hF 13 rfl rfl
    clear hx hF hA
    try dsimp only at hr_6_9 hr_6_12 hr_6_13
    have hB := H.below; replace E := Ext.trans E hB
    replace hr_2_1 := Rd.ext hr_2_1 hB
    replace hr_3_6 := Rd.ext hr_3_6 hB
    replace hr_4_29 := Rd.ext hr_4_29 hB
    replace hbb6 := Bk.ext hbb6 hB
    replace hbb3 := Bk.ext hbb3 hB
    clear hB; replace H := HP.restart H
    refine wpList_nil ?_; refine on_norm ?_
    refine x_norm ?_; refine hK19 _ _ ?_; try clear hK19 K19
    refine wp_ret ?_
    refine e_1 rfl (q_tmp (v := (.bool _)) rfl) ?_
    exact ⟨by rw [decide_eq_true rfl], E.trans H.below⟩
  · skip
    have hi := of_f hc
    refine wp_region_lit ?_
    refine p_val (r_move (v := (.int _ _)) rfl) ?_
    refine p_val (r_move (v := (str l)) rfl) ?_
    refine p_call (l := [(.int _ _), (str l)]) is33 rfl ?_
    refine (of_c _ _ (by first | assumption | omega) _).mono ?_; rintro _ w23 ⟨rfl, hx⟩; replace H := H.ext hx; clear hx
    refine p_val (r_move (v := (.tuple _)) rfl) ?_
    refine p_val (r_extract (v := (.agg (List.toArray _))) rfl rfl) ?_
    refine p_val (r_extract (v := (.int _ _)) rfl rfl) ?_
    refine p_alloc (l := [.int .u64 0, .int .u64 0, .int .u64 0, .int .u64 0]) H tz24 rfl ?_; clear H; intro w25 b24 H
    refine p_storeW tg24 H rfl (k := 0) rfl rfl rfl rfl rfl ?_; clear H; intro w26 H
    refine p_val (r_assign (v := (.int _ _)) rfl) ?_
    refine wpList_nil ?_
    refine x_norm ?_; refine hK4 _ _ ?_; try clear hK4 K4
    refine wp_seq_k ?_; intro K27 hK27
    have hbb24 := HP.bk H (k := 0) rfl
    have hbb3 := HP.bk H (k := 1) (cs := numL A) rfl
    have hB := H.below; replace E := Ext.trans E hB
    clear hB; replace H := HP.restart H
    refine wp_region_lit ?_
    refine p_val (r_move (v := (str l)) rfl) ?_
    refine p_call (l := [(str l)]) is34 rfl ?_
    refine (read_c _ _ (by first | assumption | omega)).mono ?_; rintro _ w28 ⟨r_2_1, rfl, hr_2_1, hx⟩; replace H := H.ext hx; clear hx
    have hB := H.below; replace E := Ext.trans E hB
    replace hbb24 := Bk.ext hbb24 hB
    replace hbb3 := Bk.ext hbb3 hB
    clear hB; replace H := HP.restart H
    refine p_val (r_assign (v := _) rfl) ?_
    refine wpList_nil ?_
    refine x_norm ?_; refine hK27 _ _ ?_; try clear hK27 K27
    refine wp_seq_k ?_; intro K29 hK29
    refine wp_region_lit ?_
    refine p_val (r_move (v := (str l)) rfl) ?_
    refine p_val (r_lenT (N := _) u9 rfl (rfl)) ?_
    refine p_val (r_eql rfl rfl rfl) ?_
    refine p_val (r_move (v := (.bool _)) rfl) ?_
    refine p_gs (j := 3) rfl (fun hb_3_3 => ?_) (fun hb_3_3 => ?_)
    · skip
      refine p_want rfl hb_3_3 ?_
      refine p_val (r_move (v := _) rfl) ?_
      refine p_want rfl hb_3_3 ?_
      refine p_val (r_move (v := (.int _ _)) rfl) ?_
      refine p_want rfl hb_3_3 ?_
      refine p_call (l := [(.int _ _)]) is20 rfl ?_
      refine (rmodulus_c _ _).mono ?_; rintro _ w31 ⟨r_3_6, rfl, hr_3_6, hx⟩; replace H := H.ext hx; clear hx
      have hB := H.below; replace E := Ext.trans E hB
      replace hr_2_1 := Rd.ext hr_2_1 hB
      replace hbb24 := Bk.ext hbb24 hB
      replace hbb3 := Bk.ext hbb3 hB
      clear hB; replace H := HP.restart H
      refine p_want rfl hb_3_3 ?_
      refine p_call (l := [_, _]) is35 rfl ?_
      refine (cmp_c _ _ _ _ _ (Rd.hp hr_2_1 H) (Rd.hp hr_3_6 H) (digs_DL _) (digs_DL _) (by omega) (by omega)).mono ?_; rintro _ w32 ⟨rfl, hx⟩; replace H := H.ext hx; clear hx
      refine p_want rfl hb_3_3 ?_
      refine p_val (r_lss (t := false) rfl rfl (of_fine2 hc hb_3_3)) ?_
      refine p_val (r_pickt (v := (.bool _)) rfl hb_3_3 rfl) ?_
      refine p_val (r_assign (v := (.bool _)) rfl) ?_
      refine wpList_nil ?_
      refine x_norm ?_; refine hK29 _ _ ?_; try clear hK29 K29
      refine wp_seq_k ?_; intro K33 hK33
      refine wp_seq_k ?_; intro K34 hK34
      refine wp_region_lit ?_
      refine p_call (l := []) is17 rfl ?_
      refine (awake6_c _).mono ?_; rintro _ w35 ⟨rfl, hx⟩; replace H := H.ext hx; clear hx
      refine p_val (r_not (t := false) rfl rfl) ?_
      refine p_val (r_move (v := (.bool _)) rfl) ?_
      refine p_want rfl rfl ?_
      refine p_val (r_move (v := (.int _ _)) rfl) ?_
      refine p_want rfl rfl ?_
      refine p_val (r_eql (t := false) rfl rfl (by rw [hi.2]; rfl)) ?_
      refine p_want rfl rfl ?_
      refine p_val (r_move (v := (.bool _)) rfl) ?_
      refine p_want rfl rfl ?_
      refine p_val (r_neB (t := false) u4 rfl rfl rfl) ?_
      refine p_val (r_pickf (v := (.bool _)) rfl rfl rfl) ?_
      refine p_val (r_move (v := (.bool _)) rfl) ?_
      refine p_want rfl rfl ?_
      refine p_val (r_move (v := (.int _ _)) rfl) ?_
      refine p_want rfl rfl ?_
      refine p_val (r_neq (t := true) rfl rfl (by rw [hi.2]; rfl)) ?_
      refine p_want rfl rfl ?_
      refine p_val (r_move (v := (.bool _)) rfl) ?_
      refine p_want rfl rfl ?_
      refine p_val (r_move (v := (.int _ _)) rfl) ?_
      refine p_want rfl rfl ?_
      refine p_val (r_neq (t := false) rfl rfl (by rw [hi.2]; rfl)) ?_
      refine p_want rfl rfl ?_
      refine p_val (r_pickt (v := (.bool _)) rfl rfl rfl) ?_
      refine p_val (r_pickf (v := (.bool _)) rfl rfl rfl) ?_
      refine p_val (r_move (v := (.bool _)) rfl) ?_
      refine p_want rfl rfl ?_
      refine p_val (r_move (v := (.bool _)) rfl) ?_
      refine p_want rfl rfl ?_
      refine p_val (r_not (t := true) rfl rfl) ?_
      refine p_want rfl rfl ?_
      refine p_val (r_move (v := (.bool _)) rfl) ?_
      refine p_want rfl rfl ?_
      refine p_val (r_loadBW tg24 rfl (Bk.hp hbb24 H) rfl) ?_
      refine p_want rfl rfl ?_
      refine p_val (r_as (l' := numL 0) (r_build (vals := []) (l := [_, _, _, _]) tb24 rfl rfl) (num_0)) ?_
      refine p_want rfl rfl ?_
      refine p_val (r_nenum (t := false) u24 u22 sz22 ag22 eg24 rfl rfl (by first | exact Nat.mod_lt _ two256_pos | exact Mod.lt (mod_modN _) | assumption | exact onceN_lt (by assumption) | exact Nat.lt_trans (Nat.mod_lt _ (mod_modN _).pos) (mod_modN _).lt | exact ofV_lt2 _ _ | exact invV_lt2 _ _ | exact lt_lit (by decide)) (by first | exact Nat.mod_lt _ two256_pos | exact Mod.lt (mod_modN _) | assumption | exact onceN_lt (by assumption) | exact Nat.lt_trans (Nat.mod_lt _ (mod_modN _).pos) (mod_modN _).lt | exact ofV_lt2 _ _ | exact invV_lt2 _ _ | exact lt_lit (by decide)) (neF hi.1)) ?_
      refine p_want rfl rfl ?_
      refine p_val (r_pickt (v := (.bool _)) rfl rfl rfl) ?_
      refine p_val (r_pickf (v := (.bool _)) rfl rfl rfl) ?_
      refine p_val (r_move (v := (.bool _)) rfl) ?_
      refine p_want rfl rfl ?_
      refine p_val (r_move (v := (.bool _)) rfl) ?_
      refine p_want rfl rfl ?_
      refine p_val (r_move (v := (.bool _)) rfl) ?_
      refine p_skip rfl rfl ?_
      rw [put_fr]
      refine p_skip rfl rfl ?_
      rw [put_fr]
      refine p_skip rfl rfl ?_
      rw [put_fr]
      refine p_skip rfl rfl ?_
      rw [put_fr]
      refine p_skip rfl rfl ?_
      rw [put_fr]
      refine p_want rfl rfl ?_
      refine p_val (r_pickf (v := (.bool _)) rfl rfl rfl) ?_
      refine p_val (r_pickf (v := (.bool _)) rfl rfl rfl) ?_
      refine wpList_nil ?_
      refine x_norm ?_; refine hK34 _ _ ?_; try clear hK34 K34
      refine c_false rfl rfl ?_
      refine wp_skip ?_
      refine x_norm ?_; refine hK33 _ _ ?_; try clear hK33 K33
      refine wp_seq_k ?_; intro K36 hK36
      have hB := H.below; replace E := Ext.trans E hB
      replace hr_2_1 := Rd.ext hr_2_1 hB
      replace hr_3_6 := Rd.ext hr_3_6 hB
      replace hbb24 := Bk.ext hbb24 hB
      replace hbb3 := Bk.ext hbb3 hB
      clear hB; replace H := HP.restart H
      apply wp_region_ext 17 (kinds [(1, .inl _), (3, .inl _), (8, .inl _), (9, .inr (fun v w => Dg w v (bval l % modN m))), (12, .inr (fun v w => Dg w v (modN m))), (13, .inr (fun v w => Dg w v (bval l % modN m))), (14, .inl _)]) rfl rfl (by kernel_rfl); intro vs38
      simp only [List.take_succ_cons, List.take_zero, List.drop_succ_cons, List.drop_zero]
      replace H := H.drew
      refine t_val (fun w hx => r_loadBW tg24 rfl (Bk.hp hbb3 (H.ext hx)) rfl) rfl rfl ?_
      refine t_call (l := [(.agg (List.toArray _))]) rfl rfl is36 rfl (fun w hx hF => (bytes_c _ _).mono (fun _ _ ⟨he, hx⟩ => ⟨he, hx⟩)) ?_
      refine t_val (fun w hx => r_loadBW tg24 rfl (Bk.hp hbb3 (H.ext hx)) rfl) rfl rfl ?_
      refine t_call (l := [(.agg (List.toArray _))]) rfl rfl is37 rfl (fun w hx hF => (rbytes_c _ (by assumption) _).mono (fun _ _ ⟨he, hx⟩ => ⟨he, hx⟩)) ?_
      refine t_val (fun w hx => r_eqT (t := true) rfl rfl (beq_self_eq_true _)) rfl rfl ?_
      refine t_val (fun w hx => r_move (v := (.bool _)) rfl) rfl rfl ?_
      refine t_valG rfl rfl (fun w hx => r_move (v := (.int _ _)) rfl) rfl rfl ?_
      refine t_valG rfl rfl (fun w hx => r_move (v := (str l)) rfl) rfl rfl ?_
      refine t_callG rfl rfl (l := [(.int _ _), (str l)]) rfl rfl is38 rfl (fun w hx hF => (reduce_c _ _ (by first | assumption | omega) _).mono (fun _ _ ⟨he, hx⟩ => ⟨he, hx⟩)) ?_
      refine t_callrG rfl rfl (l := [(.agg (List.toArray _))]) rfl rfl (fun _ _ _ h hx => Rd.ext h hx) is16 rfl (fun w hx hF => (in_c _ (by first | exact Nat.mod_lt _ two256_pos | exact Mod.lt (mod_modN _) | assumption | exact onceN_lt (by assumption) | exact Nat.lt_trans (Nat.mod_lt _ (mod_modN _).pos) (mod_modN _).lt | exact ofV_lt2 _ _ | exact invV_lt2 _ _ | exact lt_lit (by decide)) _).mono (fun _ _ ⟨r, he, hr, hx⟩ => ⟨r, he, hr, hx⟩)) ?_
      refine t_valG rfl rfl (fun w hx => r_move (v := _) rfl) rfl rfl ?_
      refine t_valG rfl rfl (fun w hx => r_move (v := (.int _ _)) rfl) rfl rfl ?_
      refine t_callrG rfl rfl (l := [(.int _ _)]) rfl rfl (fun _ _ _ h hx => Rd.ext h hx) is20 rfl (fun w hx hF => (rmodulus_c _ _).mono (fun _ _ ⟨r, he, hr, hx⟩ => ⟨r, he, hr, hx⟩)) ?_
      refine t_callrG rfl rfl (l := [_, _]) rfl rfl (fun _ _ _ h hx => Rd.ext h hx) is29 rfl (fun w hx hF => (left_c _ _ _ _ _ (Rd.hp hr_2_1 (H.ext hx)) (fact_rel hF 12 rfl rfl) (by omega) (len_modN _)).mono (fun _ _ ⟨r, he, hr, hx⟩ => ⟨r, he, hr, hx⟩)) ?_
      refine t_callG rfl rfl (l := [_, _]) rfl rfl is19 rfl (fun w hx hF => (is_c _ _ _ _ _ (fact_rel hF 9 rfl rfl) (fact_rel hF 13 rfl rfl) (by first | omega | exact Nat.lt_trans (len_mod _ _) (by decide) | exact Nat.lt_trans (len256 (by first | exact invV_lt2 _ _ | exact ofV_lt2 _ _)) (by decide) | (rw [len_modN]; decide)) (by first | omega | exact Nat.lt_trans (len_mod _ _) (by decide) | exact Nat.lt_trans (len256 (by first | exact invV_lt2 _ _ | exact ofV_lt2 _ _)) (by decide) | (rw [len_modN]; decide))).mono (fun _ _ ⟨he, hx⟩ => ⟨he, hx⟩)) ?_
      refine t_val (fun w hx => r_pickt (v := (.bool _)) rfl rfl rfl) rfl rfl ?_
      refine t_val (fun w hx => r_assign (v := (.bool _)) rfl) rfl rfl ?_
      refine t_nil (fun w39 hx hF hA => ?_)
      replace H := H.ext hx
      have hr_6_9 := fact_rel hF 9 rfl rfl
      have hr_6_12 := fact_rel hF 12 rfl rfl
      have hr_6_13 := fact_rel hF 13 rfl rfl
      clear hx hF hA
      try dsimp only at hr_6_9 hr_6_12 hr_6_13
      have hB := H.below; replace E := Ext.trans E hB
      replace hr_2_1 := Rd.ext hr_2_1 hB
      replace hr_3_6 := Rd.ext hr_3_6 hB
      replace hbb24 := Bk.ext hbb24 hB
      replace hbb3 := Bk.ext hbb3 hB
      clear hB; replace H := HP.restart H
      refine wpList_nil ?_; refine on_norm ?_
      refine x_norm ?_; refine hK36 _ _ ?_; try clear hK36 K36
      refine wp_ret ?_
      refine e_1 rfl (q_tmp (v := (.bool _)) rfl) ?_
      exact ⟨by rw [decide_eq_true rfl], E.trans H.below⟩
    · skip
      refine p_skip rfl hb_3_3 ?_
      rw [put_fr]
      refine p_skip rfl hb_3_3 ?_
      rw [put_fr]
      refine p_skip rfl hb_3_3 ?_
      rw [put_fr]
      refine p_skip rfl hb_3_3 ?_
      rw [put_fr]
      refine p_skip rfl hb_3_3 ?_
      rw [put_fr]
      refine p_val (r_pickf (v := (.bool _)) rfl hb_3_3 rfl) ?_
      refine p_val (r_assign (v := (.bool _)) rfl) ?_
      refine wpList_nil ?_
      refine x_norm ?_; refine hK29 _ _ ?_; try clear hK29 K29
      refine wp_seq_k ?_; intro K40 hK40
      refine wp_seq_k ?_; intro K41 hK41
      refine wp_region_lit ?_
      refine p_call (l := []) is17 rfl ?_
      refine (awake6_c _).mono ?_; rintro _ w42 ⟨rfl, hx⟩; replace H := H.ext hx; clear hx
      refine p_val (r_not (t := false) rfl rfl) ?_
      refine p_val (r_move (v := (.bool _)) rfl) ?_
      refine p_want rfl rfl ?_
      refine p_val (r_move (v := (.int _ _)) rfl) ?_
      refine p_want rfl rfl ?_
      refine p_val (r_eql (t := false) rfl rfl (by rw [hi.2]; rfl)) ?_
      refine p_want rfl rfl ?_
      refine p_val (r_move (v := (.bool _)) rfl) ?_
      refine p_want rfl rfl ?_
      refine p_val (r_neB (t := false) u4 rfl rfl rfl) ?_
      refine p_val (r_pickf (v := (.bool _)) rfl rfl rfl) ?_
      refine p_val (r_move (v := (.bool _)) rfl) ?_
      refine p_want rfl rfl ?_
      refine p_val (r_move (v := (.int _ _)) rfl) ?_
      refine p_want rfl rfl ?_
      refine p_val (r_neq (t := true) rfl rfl (by rw [hi.2]; rfl)) ?_
      refine p_want rfl rfl ?_
      refine p_val (r_move (v := (.bool _)) rfl) ?_
      refine p_want rfl rfl ?_
      refine p_val (r_move (v := (.int _ _)) rfl) ?_
      refine p_want rfl rfl ?_
      refine p_val (r_neq (t := false) rfl rfl (by rw [hi.2]; rfl)) ?_
      refine p_want rfl rfl ?_
      refine p_val (r_pickt (v := (.bool _)) rfl rfl rfl) ?_
      refine p_val (r_pickf (v := (.bool _)) rfl rfl rfl) ?_
      refine p_val (r_move (v := (.bool _)) rfl) ?_
      refine p_want rfl rfl ?_
      refine p_val (r_move (v := (.bool _)) rfl) ?_
      refine p_want rfl rfl ?_
      refine p_val (r_not (t := true) rfl rfl) ?_
      refine p_want rfl rfl ?_
      refine p_val (r_move (v := (.bool _)) rfl) ?_
      refine p_want rfl rfl ?_
      refine p_val (r_loadBW tg24 rfl (Bk.hp hbb24 H) rfl) ?_
      refine p_want rfl rfl ?_
      refine p_val (r_as (l' := numL 0) (r_build (vals := []) (l := [_, _, _, _]) tb24 rfl rfl) (num_0)) ?_
      refine p_want rfl rfl ?_
      refine p_val (r_nenum (t := false) u24 u22 sz22 ag22 eg24 rfl rfl (by first | exact Nat.mod_lt _ two256_pos | exact Mod.lt (mod_modN _) | assumption | exact onceN_lt (by assumption) | exact Nat.lt_trans (Nat.mod_lt _ (mod_modN _).pos) (mod_modN _).lt | exact ofV_lt2 _ _ | exact invV_lt2 _ _ | exact lt_lit (by decide)) (by first | exact Nat.mod_lt _ two256_pos | exact Mod.lt (mod_modN _) | assumption | exact onceN_lt (by assumption) | exact Nat.lt_trans (Nat.mod_lt _ (mod_modN _).pos) (mod_modN _).lt | exact ofV_lt2 _ _ | exact invV_lt2 _ _ | exact lt_lit (by decide)) (neF hi.1)) ?_
      refine p_want rfl rfl ?_
      refine p_val (r_pickt (v := (.bool _)) rfl rfl rfl) ?_
      refine p_val (r_pickf (v := (.bool _)) rfl rfl rfl) ?_
      refine p_val (r_move (v := (.bool _)) rfl) ?_
      refine p_want rfl rfl ?_
      refine p_val (r_move (v := (.bool _)) rfl) ?_
      refine p_want rfl rfl ?_
      refine p_val (r_move (v := (.bool _)) rfl) ?_
      refine p_skip rfl rfl ?_
      rw [put_fr]
      refine p_skip rfl rfl ?_
      rw [put_fr]
      refine p_skip rfl rfl ?_
      rw [put_fr]
      refine p_skip rfl rfl ?_
      rw [put_fr]
      refine p_skip rfl rfl ?_
      rw [put_fr]
      refine p_want rfl rfl ?_
      refine p_val (r_pickf (v := (.bool _)) rfl rfl rfl) ?_
      refine p_val (r_pickf (v := (.bool _)) rfl rfl rfl) ?_
      refine wpList_nil ?_
      refine x_norm ?_; refine hK41 _ _ ?_; try clear hK41 K41
      refine c_false rfl rfl ?_
      refine wp_skip ?_
      refine x_norm ?_; refine hK40 _ _ ?_; try clear hK40 K40
      refine wp_seq_k ?_; intro K43 hK43
      have hB := H.below; replace E := Ext.trans E hB
      replace hr_2_1 := Rd.ext hr_2_1 hB
      replace hbb24 := Bk.ext hbb24 hB
      replace hbb3 := Bk.ext hbb3 hB
      clear hB; replace H := HP.restart H
      apply wp_region_ext 17 (kinds [(1, .inl _), (3, .inl _), (8, .inl _), (9, .inr (fun v w => Dg w v (bval l % modN m))), (12, .inr (fun v w => Dg w v (modN m))), (13, .inr (fun v w => Dg w v (bval l % modN m))), (14, .inl _)]) rfl rfl (by kernel_rfl); intro vs45
      simp only [List.take_succ_cons, List.take_zero, List.drop_succ_cons, List.drop_zero]
      replace H := H.drew
      refine t_val (fun w hx => r_loadBW tg24 rfl (Bk.hp hbb3 (H.ext hx)) rfl) rfl rfl ?_
      refine t_call (l := [(.agg (List.toArray _))]) rfl rfl is36 rfl (fun w hx hF => (bytes_c _ _).mono (fun _ _ ⟨he, hx⟩ => ⟨he, hx⟩)) ?_
      refine t_val (fun w hx => r_loadBW tg24 rfl (Bk.hp hbb3 (H.ext hx)) rfl) rfl rfl ?_
      refine t_call (l := [(.agg (List.toArray _))]) rfl rfl is37 rfl (fun w hx hF => (rbytes_c _ (by assumption) _).mono (fun _ _ ⟨he, hx⟩ => ⟨he, hx⟩)) ?_
      refine t_val (fun w hx => r_eqT (t := true) rfl rfl (beq_self_eq_true _)) rfl rfl ?_
      refine t_val (fun w hx => r_move (v := (.bool _)) rfl) rfl rfl ?_
      refine t_valG rfl rfl (fun w hx => r_move (v := (.int _ _)) rfl) rfl rfl ?_
      refine t_valG rfl rfl (fun w hx => r_move (v := (str l)) rfl) rfl rfl ?_
      refine t_callG rfl rfl (l := [(.int _ _), (str l)]) rfl rfl is38 rfl (fun w hx hF => (reduce_c _ _ (by first | assumption | omega) _).mono (fun _ _ ⟨he, hx⟩ => ⟨he, hx⟩)) ?_
      refine t_callrG rfl rfl (l := [(.agg (List.toArray _))]) rfl rfl (fun _ _ _ h hx => Rd.ext h hx) is16 rfl (fun w hx hF => (in_c _ (by first | exact Nat.mod_lt _ two256_pos | exact Mod.lt (mod_modN _) | assumption | exact onceN_lt (by assumption) | exact Nat.lt_trans (Nat.mod_lt _ (mod_modN _).pos) (mod_modN _).lt | exact ofV_lt2 _ _ | exact invV_lt2 _ _ | exact lt_lit (by decide)) _).mono (fun _ _ ⟨r, he, hr, hx⟩ => ⟨r, he, hr, hx⟩)) ?_
      refine t_valG rfl rfl (fun w hx => r_move (v := _) rfl) rfl rfl ?_
      refine t_valG rfl rfl (fun w hx => r_move (v := (.int _ _)) rfl) rfl rfl ?_
      refine t_callrG rfl rfl (l := [(.int _ _)]) rfl rfl (fun _ _ _ h hx => Rd.ext h hx) is20 rfl (fun w hx hF => (rmodulus_c _ _).mono (fun _ _ ⟨r, he, hr, hx⟩ => ⟨r, he, hr, hx⟩)) ?_
      refine t_callrG rfl rfl (l := [_, _]) rfl rfl (fun _ _ _ h hx => Rd.ext h hx) is29 rfl (fun w hx hF => (left_c _ _ _ _ _ (Rd.hp hr_2_1 (H.ext hx)) (fact_rel hF 12 rfl rfl) (by omega) (len_modN _)).mono (fun _ _ ⟨r, he, hr, hx⟩ => ⟨r, he, hr, hx⟩)) ?_
      refine t_callG rfl rfl (l := [_, _]) rfl rfl is19 rfl (fun w hx hF => (is_c _ _ _ _ _ (fact_rel hF 9 rfl rfl) (fact_rel hF 13 rfl rfl) (by first | omega | exact Nat.lt_trans (len_mod _ _) (by decide) | exact Nat.lt_trans (len256 (by first | exact invV_lt2 _ _ | exact ofV_lt2 _ _)) (by decide) | (rw [len_modN]; decide)) (by first | omega | exact Nat.lt_trans (len_mod _ _) (by decide) | exact Nat.lt_trans (len256 (by first | exact invV_lt2 _ _ | exact ofV_lt2 _ _)) (by decide) | (rw [len_modN]; decide))).mono (fun _ _ ⟨he, hx⟩ => ⟨he, hx⟩)) ?_
      refine t_val (fun w hx => r_pickt (v := (.bool _)) rfl rfl rfl) rfl rfl ?_
      refine t_val (fun w hx => r_assign (v := (.bool _)) rfl) rfl rfl ?_
      refine t_nil (fun w46 hx hF hA => ?_)
      replace H := H.ext hx
      have hr_6_9 := fact_rel hF 9 rfl rfl
      have hr_6_12 := fact_rel hF 12 rfl rfl
      have hr_6_13 := fact_rel hF 13 rfl rfl
      clear hx hF hA
      try dsimp only at hr_6_9 hr_6_12 hr_6_13
      have hB := H.below; replace E := Ext.trans E hB
      replace hr_2_1 := Rd.ext hr_2_1 hB
      replace hbb24 := Bk.ext hbb24 hB
      replace hbb3 := Bk.ext hbb3 hB
      clear hB; replace H := HP.restart H
      refine wpList_nil ?_; refine on_norm ?_
      refine x_norm ?_; refine hK43 _ _ ?_; try clear hK43 K43
      refine wp_ret ?_
      refine e_1 rfl (q_tmp (v := (.bool _)) rfl) ?_
      exact ⟨by rw [decide_eq_true rfl], E.trans H.below⟩

set_option maxRecDepth 4000 in
theorem fieldFermat_c (m : Int) (A B : Nat) (hA : A < two256) (hB : B < two256) (w : World) :
    Calls Try.prog 8 #[.int .i64 m, numV A, numV B] w fun e w' => e = .returned (.bool true) ∧ Ext w w' := by
  refine enter (n := 76) Try.func8 rfl rfl rfl ?_
  have H := HP.start w
  have E := Below.refl w.heap.size w
  have hpl := (mod_modN m).lt
  have hp := modN_pos m
  refine wp_seq_k ?_; intro K1 hK1
  refine wp_region_lit ?_
  refine p_box (l := numL A) H rfl ?_; clear H; intro w2 b3 H
  refine p_box (l := numL B) H rfl ?_; clear H; intro w4 b5 H
  refine p_val (r_assign (v := (.bool _)) rfl) ?_
  refine wpList_nil ?_
  refine x_norm ?_; refine hK1 _ _ ?_; try clear hK1 K1
  refine wp_seq_k ?_; intro K6 hK6
  refine wp_seq_k ?_; intro K7 hK7
  refine wp_region_lit ?_
  refine p_call (l := []) is17 rfl ?_
  refine (awake6_c _).mono ?_; rintro _ w8 ⟨rfl, hx⟩; replace H := H.ext hx; clear hx
  refine p_val (r_not (t := false) rfl rfl) ?_
  refine wpList_nil ?_
  refine x_norm ?_; refine hK7 _ _ ?_; try clear hK7 K7
  refine c_false rfl rfl ?_
  refine wp_skip ?_
  refine x_norm ?_; refine hK6 _ _ ?_; try clear hK6 K6
  refine wp_seq_k ?_; intro K9 hK9
  refine wp_region_lit ?_
  refine p_val (r_move (v := (.int _ _)) rfl) ?_
  refine p_call (l := [(.int _ _)]) is18 rfl ?_
  refine (modulus_c _ _).mono ?_; rintro _ w10 ⟨rfl, hx⟩; replace H := H.ext hx; clear hx
  refine p_alloc (l := [.int .u64 0, .int .u64 0, .int .u64 0, .int .u64 0]) H tz24 rfl ?_; clear H; intro w12 b11 H
  refine p_storeW tg24 H rfl (k := 0) rfl rfl rfl rfl rfl ?_; clear H; intro w13 H
  refine wpList_nil ?_
  refine x_norm ?_; refine hK9 _ _ ?_; try clear hK9 K9
  refine wp_seq_k ?_; intro K14 hK14
  refine wp_region_lit ?_
  refine p_val (r_loadW tg24 H rfl (k := 0) rfl rfl) ?_
  refine p_alloc (l := [.int .u64 0, .int .u64 0, .int .u64 0, .int .u64 0]) H tz24 rfl ?_; clear H; intro w16 b15 H
  refine p_storeW tg24 H rfl (k := 0) rfl rfl rfl rfl rfl ?_; clear H; intro w17 H
  refine wpList_nil ?_
  refine x_norm ?_; refine hK14 _ _ ?_; try clear hK14 K14
  refine wp_seq_k ?_; intro K18 hK18
  refine wp_region_lit ?_
  refine p_val (r_addrA u24 sz22 rfl (k := .i64) (i := 0) rfl rfl (by decide) (by decide)) ?_
  refine p_val (r_load1 (v := (.int _ _)) to22 H rfl (k := 0) rfl rfl) ?_
  refine p_val (r_sub rfl rfl rfl) ?_
  refine p_val (r_addrA u24 sz22 rfl (k := .i64) (i := 0) rfl rfl (by decide) (by decide)) ?_
  refine p_store1 (cs := _) (v := (.int _ _)) to22 H rfl (k := 0) rfl rfl rfl (rfl) ?_; clear H; intro w19 H
  rw [low_sub m] at H
  refine wpList_nil ?_
  refine x_norm ?_; refine hK18 _ _ ?_; try clear hK18 K18
  refine wp_seq_k ?_; intro K20 hK20
  refine wp_region_lit ?_
  refine p_val (r_move (v := (.int _ _)) rfl) ?_
  refine p_val (r_loadW tg24 H rfl (k := 3) rfl rfl) ?_
  refine p_call (l := [(.int _ _), (.agg (List.toArray _))]) is28 rfl ?_
  refine (inv_c _ _ (by first | exact Nat.mod_lt _ two256_pos | exact Mod.lt (mod_modN _) | assumption | exact onceN_lt (by assumption) | exact Nat.lt_trans (Nat.mod_lt _ (mod_modN _).pos) (mod_modN _).lt | exact ofV_lt2 _ _ | exact invV_lt2 _ _ | exact lt_lit (by decide)) _).mono ?_; rintro _ w21 ⟨rfl, hx⟩; replace H := H.ext hx; clear hx
  refine p_val (r_move (v := (.tuple _)) rfl) ?_
  refine p_val (r_extract (v := (.agg (List.toArray _))) rfl rfl) ?_
  refine p_val (r_extract (v := (.int _ _)) rfl rfl) ?_
  refine p_alloc (l := [.int .u64 0, .int .u64 0, .int .u64 0, .int .u64 0]) H tz24 rfl ?_; clear H; intro w23 b22 H
  refine p_storeW tg24 H rfl (k := 0) rfl rfl rfl rfl rfl ?_; clear H; intro w24 H
  refine p_val (r_assign (v := (.int _ _)) rfl) ?_
  refine wpList_nil ?_
  refine x_norm ?_; refine hK20 _ _ ?_; try clear hK20 K20
  refine wp_seq_k ?_; intro K25 hK25
  refine wp_seq_k ?_; intro K26 hK26
  have hbb22 := HP.bk H (k := 0) rfl
  have hbb15 := HP.bk H (k := 1) rfl
  have hbb11 := HP.bk H (k := 2) rfl
  have hbb5 := HP.bk H (k := 3) (cs := numL B) rfl
  have hbb3 := HP.bk H (k := 4) (cs := numL A) rfl
  have hB := H.below; replace E := Ext.trans E hB
  clear hB; replace H := HP.restart H
  rcases Bool.eq_false_or_eq_true ((invE m A == 0)) with hd | hd
  · skip
    have hB := H.below; replace E := Ext.trans E hB
    replace hbb22 := Bk.ext hbb22 hB
    replace hbb15 := Bk.ext hbb15 hB
    replace hbb11 := Bk.ext hbb11 hB
    replace hbb5 := Bk.ext hbb5 hB
    replace hbb3 := Bk.ext hbb3 hB
    clear hB; replace H := HP.restart H
    apply wp_region_ext 21 (kinds [(3, .inl _), (7, .inl _), (16, .inl _)]) rfl rfl (by kernel_rfl); intro vs28
    simp only [List.take_succ_cons, List.take_zero, List.drop_succ_cons, List.drop_zero]
    replace H := H.drew
    refine t_val (fun w hx => r_move (v := (.int _ _)) rfl) rfl rfl ?_
    refine t_val (fun w hx => r_loadBW tg24 rfl (Bk.hp hbb3 (H.ext hx)) rfl) rfl rfl ?_
    refine t_val (fun w hx => r_loadBW tg24 rfl (Bk.hp hbb11 (H.ext hx)) rfl) rfl rfl ?_
    refine t_call (l := [(.int _ _), (.agg (List.toArray _)), (.agg (List.toArray _))]) rfl rfl is31 rfl (fun w hx hF => (pow_c _ _ _ hA (by first | assumption | exact low_lt m | exact two256_pos) _).mono (fun _ _ ⟨he, hx⟩ => ⟨he, hx⟩)) ?_
    refine t_val (fun w hx => r_move (v := (.int _ _)) rfl) rfl rfl ?_
    refine t_val (fun w hx => r_loadBW tg24 rfl (Bk.hp hbb3 (H.ext hx)) rfl) rfl rfl ?_
    refine t_val (fun w hx => r_as (l' := numL 0) (r_build (vals := []) (l := [_, _, _, _]) tb24 rfl rfl) (num_0)) rfl rfl ?_
    refine t_call (l := [(.int _ _), (.agg (List.toArray _)), (.agg (List.toArray _))]) rfl rfl is21 rfl (fun w hx hF => (add_c _ _ _ (by first | exact Nat.mod_lt _ two256_pos | exact Mod.lt (mod_modN _) | assumption | exact onceN_lt (by assumption) | exact Nat.lt_trans (Nat.mod_lt _ (mod_modN _).pos) (mod_modN _).lt | exact ofV_lt2 _ _ | exact invV_lt2 _ _ | exact lt_lit (by decide)) (by first | exact Nat.mod_lt _ two256_pos | exact Mod.lt (mod_modN _) | assumption | exact onceN_lt (by assumption) | exact Nat.lt_trans (Nat.mod_lt _ (mod_modN _).pos) (mod_modN _).lt | exact ofV_lt2 _ _ | exact invV_lt2 _ _ | exact lt_lit (by decide)) _).mono (fun _ _ ⟨he, hx⟩ => ⟨he, hx⟩)) ?_
    refine t_val (fun w hx => r_nenum (t := false) u24 u22 sz22 ag22 eg24 rfl rfl (by first | exact Nat.mod_lt _ two256_pos | exact Mod.lt (mod_modN _) | assumption | exact onceN_lt (by assumption) | exact Nat.lt_trans (Nat.mod_lt _ (mod_modN _).pos) (mod_modN _).lt | exact ofV_lt2 _ _ | exact invV_lt2 _ _ | exact lt_lit (by decide)) (by first | exact Nat.mod_lt _ two256_pos | exact Mod.lt (mod_modN _) | assumption | exact onceN_lt (by assumption) | exact Nat.lt_trans (Nat.mod_lt _ (mod_modN _).pos) (mod_modN _).lt | exact ofV_lt2 _ _ | exact invV_lt2 _ _ | exact lt_lit (by decide)) (neF (by rw [(pr_modN m).fermat, Nat.add_zero]))) rfl rfl ?_
    refine t_val (fun w hx => r_move (v := (.bool _)) rfl) rfl rfl ?_
    refine t_valG rfl rfl (fun w hx => r_move (v := (.int _ _)) rfl) rfl rfl ?_
    refine t_valG rfl rfl (fun w hx => r_eql rfl rfl rfl) rfl rfl ?_
    refine t_valG rfl rfl (fun w hx => r_move (v := (.bool _)) rfl) rfl rfl ?_
    refine t_valG rfl (hd) (fun w hx => r_move (v := (.int _ _)) rfl) rfl rfl ?_
    refine t_valG rfl (hd) (fun w hx => r_loadBW tg24 rfl (Bk.hp hbb3 (H.ext hx)) rfl) rfl rfl ?_
    refine t_valG rfl (hd) (fun w hx => r_loadBW tg24 rfl (Bk.hp hbb15 (H.ext hx)) rfl) rfl rfl ?_
    refine t_callG rfl (hd) (l := [(.int _ _), (.agg (List.toArray _)), (.agg (List.toArray _))]) rfl rfl is31 rfl (fun w hx hF => (pow_c _ _ _ hA (by first | assumption | exact low_lt m | exact two256_pos) _).mono (fun _ _ ⟨he, hx⟩ => ⟨he, hx⟩)) ?_
    refine t_valG rfl (hd) (fun w hx => r_loadBW tg24 rfl (Bk.hp hbb22 (H.ext hx)) rfl) rfl rfl ?_
    refine t_valG rfl (hd) (fun w hx => r_nenum (t := false) u24 u22 sz22 ag22 eg24 rfl rfl (by first | exact Nat.mod_lt _ two256_pos | exact Mod.lt (mod_modN _) | assumption | exact onceN_lt (by assumption) | exact Nat.lt_trans (Nat.mod_lt _ (mod_modN _).pos) (mod_modN _).lt | exact ofV_lt2 _ _ | exact invV_lt2 _ _ | exact lt_lit (by decide)) (by first | exact Nat.mod_lt _ two256_pos | exact Mod.lt (mod_modN _) | assumption | exact onceN_lt (by assumption) | exact Nat.lt_trans (Nat.mod_lt _ (mod_modN _).pos) (mod_modN _).lt | exact ofV_lt2 _ _ | exact invV_lt2 _ _ | exact lt_lit (by decide)) (neF (fermat_low hd))) rfl rfl ?_
    refine t_valG rfl rfl (fun w hx => r_pickt (v := (.bool _)) rfl (hd) rfl) rfl rfl ?_
    refine t_val (fun w hx => r_pickf (v := (.bool _)) rfl rfl rfl) rfl rfl ?_
    refine t_nil (fun w30 hx hF hA => ?_)
    replace H := H.ext hx
    clear hx hF hA
    refine wpList_nil ?_; refine on_norm ?_
    refine x_norm ?_; refine hK26 _ _ ?_; try clear hK26 K26
    refine c_false rfl rfl ?_
    refine wp_skip ?_
    refine x_norm ?_; refine hK25 _ _ ?_; try clear hK25 K25
    refine wp_seq_k ?_; intro K31 hK31
    refine wp_seq_k ?_; intro K32 hK32
    refine wp_region_lit ?_
    refine p_val (r_addrA u24 sz22 rfl (k := .i64) (i := 0) rfl rfl (by decide) (by decide)) ?_
    refine p_val (r_loadB1 (v := .int .u64 (lm B 0)) to22 rfl (Bk.hp hbb5 H) (rfl)) ?_
    refine p_val (r_eql rfl rfl rfl) ?_
    refine wpList_nil ?_
    refine x_norm ?_; refine hK32 _ _ ?_; try clear hK32 K32
    refine c_split (t := _) rfl (fun hc_9 => ?_) (fun hc_9 => ?_)
    · skip
      refine wp_seq_k ?_; intro K34 hK34
      refine wp_region_lit ?_
      refine p_val (r_assign (v := (.bool _)) rfl) ?_
      refine wpList_nil ?_
      refine x_norm ?_; refine hK34 _ _ ?_; try clear hK34 K34
      refine wp_ret ?_
      refine x_ret ?_
      refine e_1 rfl (q_tmp (v := (.bool _)) rfl) ?_
      exact ⟨rfl, E.trans H.below⟩
    · skip
      have hla := low_add hB hc_9
      have hB1 := hla.2
      refine wp_skip ?_
      refine x_norm ?_; refine hK31 _ _ ?_; try clear hK31 K31
      refine wp_seq_k ?_; intro K35 hK35
      refine wp_region_lit ?_
      refine p_val (r_loadBW tg24 rfl (Bk.hp hbb5 H) rfl) ?_
      refine p_alloc (l := [.int .u64 0, .int .u64 0, .int .u64 0, .int .u64 0]) H tz24 rfl ?_; clear H; intro w37 b36 H
      refine p_storeW tg24 H rfl (k := 0) rfl rfl rfl rfl rfl ?_; clear H; intro w38 H
      refine wpList_nil ?_
      refine x_norm ?_; refine hK35 _ _ ?_; try clear hK35 K35
      refine wp_seq_k ?_; intro K39 hK39
      refine wp_region_lit ?_
      refine p_val (r_addrA u24 sz22 rfl (k := .i64) (i := 0) rfl rfl (by decide) (by decide)) ?_
      refine p_val (r_load1 (v := .int .u64 (lm B 0)) to22 H rfl (k := 0) rfl (rfl)) ?_
      refine p_val (r_add rfl rfl rfl) ?_
      refine p_val (r_addrA u24 sz22 rfl (k := .i64) (i := 0) rfl rfl (by decide) (by decide)) ?_
      refine p_store1 (cs := _) (v := (.int _ _)) to22 H rfl (k := 0) rfl rfl rfl (rfl) ?_; clear H; intro w40 H
      rw [hla.1] at H
      refine wpList_nil ?_
      refine x_norm ?_; refine hK39 _ _ ?_; try clear hK39 K39
      refine wp_seq_k ?_; intro K41 hK41
      have hbb36 := HP.bk H (k := 0) rfl
      have hB := H.below; replace E := Ext.trans E hB
      replace hbb22 := Bk.ext hbb22 hB
      replace hbb15 := Bk.ext hbb15 hB
      replace hbb11 := Bk.ext hbb11 hB
      replace hbb5 := Bk.ext hbb5 hB
      replace hbb3 := Bk.ext hbb3 hB
      clear hB; replace H := HP.restart H
      apply wp_region_ext 21 (kinds [(3, .inl _), (8, .inl _), (10, .inl _), (16, .inl _)]) rfl rfl (by kernel_rfl); intro vs43
      simp only [List.take_succ_cons, List.take_zero, List.drop_succ_cons, List.drop_zero]
      replace H := H.drew
      refine t_val (fun w hx => r_move (v := (.int _ _)) rfl) rfl rfl ?_
      refine t_val (fun w hx => r_loadBW tg24 rfl (Bk.hp hbb3 (H.ext hx)) rfl) rfl rfl ?_
      refine t_val (fun w hx => r_loadBW tg24 rfl (Bk.hp hbb36 (H.ext hx)) rfl) rfl rfl ?_
      refine t_call (l := [(.int _ _), (.agg (List.toArray _)), (.agg (List.toArray _))]) rfl rfl is31 rfl (fun w hx hF => (pow_c _ _ _ hA (by first | assumption | exact low_lt m | exact two256_pos) _).mono (fun _ _ ⟨he, hx⟩ => ⟨he, hx⟩)) ?_
      refine t_val (fun w hx => r_move (v := (.int _ _)) rfl) rfl rfl ?_
      refine t_val (fun w hx => r_move (v := (.int _ _)) rfl) rfl rfl ?_
      refine t_val (fun w hx => r_loadBW tg24 rfl (Bk.hp hbb3 (H.ext hx)) rfl) rfl rfl ?_
      refine t_val (fun w hx => r_loadBW tg24 rfl (Bk.hp hbb5 (H.ext hx)) rfl) rfl rfl ?_
      refine t_call (l := [(.int _ _), (.agg (List.toArray _)), (.agg (List.toArray _))]) rfl rfl is31 rfl (fun w hx hF => (pow_c _ _ _ hA (by first | assumption | exact low_lt m | exact two256_pos) _).mono (fun _ _ ⟨he, hx⟩ => ⟨he, hx⟩)) ?_
      refine t_val (fun w hx => r_loadBW tg24 rfl (Bk.hp hbb3 (H.ext hx)) rfl) rfl rfl ?_
      refine t_call (l := [(.int _ _), (.agg (List.toArray _)), (.agg (List.toArray _))]) rfl rfl is25 rfl (fun w hx hF => (mul_c _ _ _ (by first | exact Nat.mod_lt _ two256_pos | exact Mod.lt (mod_modN _) | assumption | exact onceN_lt (by assumption) | exact Nat.lt_trans (Nat.mod_lt _ (mod_modN _).pos) (mod_modN _).lt | exact ofV_lt2 _ _ | exact invV_lt2 _ _ | exact lt_lit (by decide)) (by first | exact Nat.mod_lt _ two256_pos | exact Mod.lt (mod_modN _) | assumption | exact onceN_lt (by assumption) | exact Nat.lt_trans (Nat.mod_lt _ (mod_modN _).pos) (mod_modN _).lt | exact ofV_lt2 _ _ | exact invV_lt2 _ _ | exact lt_lit (by decide)) _).mono (fun _ _ ⟨he, hx⟩ => ⟨he, hx⟩)) ?_
      refine t_val (fun w hx => r_eqnum (t := true) u24 u22 sz22 ag22 eg24 rfl rfl (by first | exact Nat.mod_lt _ two256_pos | exact Mod.lt (mod_modN _) | assumption | exact onceN_lt (by assumption) | exact Nat.lt_trans (Nat.mod_lt _ (mod_modN _).pos) (mod_modN _).lt | exact ofV_lt2 _ _ | exact invV_lt2 _ _ | exact lt_lit (by decide)) (by first | exact Nat.mod_lt _ two256_pos | exact Mod.lt (mod_modN _) | assumption | exact onceN_lt (by assumption) | exact Nat.lt_trans (Nat.mod_lt _ (mod_modN _).pos) (mod_modN _).lt | exact ofV_lt2 _ _ | exact invV_lt2 _ _ | exact lt_lit (by decide)) (eqT (by rw [Nat.mod_mul_mod, Nat.pow_succ]))) rfl rfl ?_
      refine t_val (fun w hx => r_move (v := (.bool _)) rfl) rfl rfl ?_
      refine t_valG rfl rfl (fun w hx => r_move (v := (.int _ _)) rfl) rfl rfl ?_
      refine t_valG rfl rfl (fun w hx => r_loadBW tg24 rfl (Bk.hp hbb3 (H.ext hx)) rfl) rfl rfl ?_
      refine t_valG rfl rfl (fun w hx => r_as (l' := numL 0) (r_build (vals := []) (l := [_, _, _, _]) tb24 rfl rfl) (num_0)) rfl rfl ?_
      refine t_callG rfl rfl (l := [(.int _ _), (.agg (List.toArray _)), (.agg (List.toArray _))]) rfl rfl is31 rfl (fun w hx hF => (pow_c _ _ _ hA (by first | assumption | exact low_lt m | exact two256_pos) _).mono (fun _ _ ⟨he, hx⟩ => ⟨he, hx⟩)) ?_
      refine t_valG rfl rfl (fun w hx => r_as (l' := numL 1) (r_build (vals := [(0, (.int _ _))]) (l := [_, _, _, _]) tb24 rfl rfl) (num_lit 1 (by decide))) rfl rfl ?_
      refine t_valG rfl rfl (fun w hx => r_eqnum (t := true) u24 u22 sz22 ag22 eg24 rfl rfl (by first | exact Nat.mod_lt _ two256_pos | exact Mod.lt (mod_modN _) | assumption | exact onceN_lt (by assumption) | exact Nat.lt_trans (Nat.mod_lt _ (mod_modN _).pos) (mod_modN _).lt | exact ofV_lt2 _ _ | exact invV_lt2 _ _ | exact lt_lit (by decide)) (by first | exact Nat.mod_lt _ two256_pos | exact Mod.lt (mod_modN _) | assumption | exact onceN_lt (by assumption) | exact Nat.lt_trans (Nat.mod_lt _ (mod_modN _).pos) (mod_modN _).lt | exact ofV_lt2 _ _ | exact invV_lt2 _ _ | exact lt_lit (by decide)) (eqT (by rw [Nat.pow_zero, Nat.mod_eq_of_lt (one_lt_modN m)]))) rfl rfl ?_
      refine t_val (fun w hx => r_pickt (v := (.bool _)) rfl rfl rfl) rfl rfl ?_
      refine t_val (fun w hx => r_assign (v := (.bool _)) rfl) rfl rfl ?_
      refine t_nil (fun w44 hx hF hA => ?_)
      replace H := H.ext hx
      clear hx hF hA
      refine wpList_nil ?_; refine on_norm ?_
      refine x_norm ?_; refine hK41 _ _ ?_; try clear hK41 K41
      refine wp_ret ?_
      refine e_1 rfl (q_tmp (v := (.bool _)) rfl) ?_
      exact ⟨rfl, E.trans H.below⟩
  · skip
    have hB := H.below; replace E := Ext.trans E hB
    replace hbb22 := Bk.ext hbb22 hB
    replace hbb15 := Bk.ext hbb15 hB
    replace hbb11 := Bk.ext hbb11 hB
    replace hbb5 := Bk.ext hbb5 hB
    replace hbb3 := Bk.ext hbb3 hB
    clear hB; replace H := HP.restart H
    apply wp_region_ext 21 (kinds [(3, .inl _), (7, .inl _)]) rfl rfl (by kernel_rfl); intro vs46
    simp only [List.take_succ_cons, List.take_zero, List.drop_succ_cons, List.drop_zero]
    replace H := H.drew
    refine t_val (fun w hx => r_move (v := (.int _ _)) rfl) rfl rfl ?_
    refine t_val (fun w hx => r_loadBW tg24 rfl (Bk.hp hbb3 (H.ext hx)) rfl) rfl rfl ?_
    refine t_val (fun w hx => r_loadBW tg24 rfl (Bk.hp hbb11 (H.ext hx)) rfl) rfl rfl ?_
    refine t_call (l := [(.int _ _), (.agg (List.toArray _)), (.agg (List.toArray _))]) rfl rfl is31 rfl (fun w hx hF => (pow_c _ _ _ hA (by first | assumption | exact low_lt m | exact two256_pos) _).mono (fun _ _ ⟨he, hx⟩ => ⟨he, hx⟩)) ?_
    refine t_val (fun w hx => r_move (v := (.int _ _)) rfl) rfl rfl ?_
    refine t_val (fun w hx => r_loadBW tg24 rfl (Bk.hp hbb3 (H.ext hx)) rfl) rfl rfl ?_
    refine t_val (fun w hx => r_as (l' := numL 0) (r_build (vals := []) (l := [_, _, _, _]) tb24 rfl rfl) (num_0)) rfl rfl ?_
    refine t_call (l := [(.int _ _), (.agg (List.toArray _)), (.agg (List.toArray _))]) rfl rfl is21 rfl (fun w hx hF => (add_c _ _ _ (by first | exact Nat.mod_lt _ two256_pos | exact Mod.lt (mod_modN _) | assumption | exact onceN_lt (by assumption) | exact Nat.lt_trans (Nat.mod_lt _ (mod_modN _).pos) (mod_modN _).lt | exact ofV_lt2 _ _ | exact invV_lt2 _ _ | exact lt_lit (by decide)) (by first | exact Nat.mod_lt _ two256_pos | exact Mod.lt (mod_modN _) | assumption | exact onceN_lt (by assumption) | exact Nat.lt_trans (Nat.mod_lt _ (mod_modN _).pos) (mod_modN _).lt | exact ofV_lt2 _ _ | exact invV_lt2 _ _ | exact lt_lit (by decide)) _).mono (fun _ _ ⟨he, hx⟩ => ⟨he, hx⟩)) ?_
    refine t_val (fun w hx => r_nenum (t := false) u24 u22 sz22 ag22 eg24 rfl rfl (by first | exact Nat.mod_lt _ two256_pos | exact Mod.lt (mod_modN _) | assumption | exact onceN_lt (by assumption) | exact Nat.lt_trans (Nat.mod_lt _ (mod_modN _).pos) (mod_modN _).lt | exact ofV_lt2 _ _ | exact invV_lt2 _ _ | exact lt_lit (by decide)) (by first | exact Nat.mod_lt _ two256_pos | exact Mod.lt (mod_modN _) | assumption | exact onceN_lt (by assumption) | exact Nat.lt_trans (Nat.mod_lt _ (mod_modN _).pos) (mod_modN _).lt | exact ofV_lt2 _ _ | exact invV_lt2 _ _ | exact lt_lit (by decide)) (neF (by rw [(pr_modN m).fermat, Nat.add_zero]))) rfl rfl ?_
    refine t_val (fun w hx => r_move (v := (.bool _)) rfl) rfl rfl ?_
    refine t_valG rfl rfl (fun w hx => r_move (v := (.int _ _)) rfl) rfl rfl ?_
    refine t_valG rfl rfl (fun w hx => r_eql rfl rfl rfl) rfl rfl ?_
    refine t_valG rfl rfl (fun w hx => r_move (v := (.bool _)) rfl) rfl rfl ?_
    refine t_skip rfl (hd) rfl ?_
    rw [put_fr]
    refine t_skip rfl (hd) rfl ?_
    rw [put_fr]
    refine t_skip rfl (hd) rfl ?_
    rw [put_fr]
    refine t_skip rfl (hd) rfl ?_
    rw [put_fr]
    refine t_skip rfl (hd) rfl ?_
    rw [put_fr]
    refine t_skip rfl (hd) rfl ?_
    rw [put_fr]
    refine t_valG rfl rfl (fun w hx => r_pickf (v := (.bool _)) rfl (hd) rfl) rfl rfl ?_
    refine t_val (fun w hx => r_pickf (v := (.bool _)) rfl rfl rfl) rfl rfl ?_
    refine t_nil (fun w48 hx hF hA => ?_)
    replace H := H.ext hx
    clear hx hF hA
    refine wpList_nil ?_; refine on_norm ?_
    refine x_norm ?_; refine hK26 _ _ ?_; try clear hK26 K26
    refine c_false rfl rfl ?_
    refine wp_skip ?_
    refine x_norm ?_; refine hK25 _ _ ?_; try clear hK25 K25
    refine wp_seq_k ?_; intro K49 hK49
    refine wp_seq_k ?_; intro K50 hK50
    refine wp_region_lit ?_
    refine p_val (r_addrA u24 sz22 rfl (k := .i64) (i := 0) rfl rfl (by decide) (by decide)) ?_
    refine p_val (r_loadB1 (v := .int .u64 (lm B 0)) to22 rfl (Bk.hp hbb5 H) (rfl)) ?_
    refine p_val (r_eql rfl rfl rfl) ?_
    refine wpList_nil ?_
    refine x_norm ?_; refine hK50 _ _ ?_; try clear hK50 K50
    refine c_split (t := _) rfl (fun hc_9 => ?_) (fun hc_9 => ?_)
    · skip
      refine wp_seq_k ?_; intro K52 hK52
      refine wp_region_lit ?_
      refine p_val (r_assign (v := (.bool _)) rfl) ?_
      refine wpList_nil ?_
      refine x_norm ?_; refine hK52 _ _ ?_; try clear hK52 K52
      refine wp_ret ?_
      refine x_ret ?_
      refine e_1 rfl (q_tmp (v := (.bool _)) rfl) ?_
      exact ⟨rfl, E.trans H.below⟩
    · skip
      have hla := low_add hB hc_9
      have hB1 := hla.2
      refine wp_skip ?_
      refine x_norm ?_; refine hK49 _ _ ?_; try clear hK49 K49
      refine wp_seq_k ?_; intro K53 hK53
      refine wp_region_lit ?_
      refine p_val (r_loadBW tg24 rfl (Bk.hp hbb5 H) rfl) ?_
      refine p_alloc (l := [.int .u64 0, .int .u64 0, .int .u64 0, .int .u64 0]) H tz24 rfl ?_; clear H; intro w55 b54 H
      refine p_storeW tg24 H rfl (k := 0) rfl rfl rfl rfl rfl ?_; clear H; intro w56 H
      refine wpList_nil ?_
      refine x_norm ?_; refine hK53 _ _ ?_; try clear hK53 K53
      refine wp_seq_k ?_; intro K57 hK57
      refine wp_region_lit ?_
      refine p_val (r_addrA u24 sz22 rfl (k := .i64) (i := 0) rfl rfl (by decide) (by decide)) ?_
      refine p_val (r_load1 (v := .int .u64 (lm B 0)) to22 H rfl (k := 0) rfl (rfl)) ?_
      refine p_val (r_add rfl rfl rfl) ?_
      refine p_val (r_addrA u24 sz22 rfl (k := .i64) (i := 0) rfl rfl (by decide) (by decide)) ?_
      refine p_store1 (cs := _) (v := (.int _ _)) to22 H rfl (k := 0) rfl rfl rfl (rfl) ?_; clear H; intro w58 H
      rw [hla.1] at H
      refine wpList_nil ?_
      refine x_norm ?_; refine hK57 _ _ ?_; try clear hK57 K57
      refine wp_seq_k ?_; intro K59 hK59
      have hbb54 := HP.bk H (k := 0) rfl
      have hB := H.below; replace E := Ext.trans E hB
      replace hbb22 := Bk.ext hbb22 hB
      replace hbb15 := Bk.ext hbb15 hB
      replace hbb11 := Bk.ext hbb11 hB
      replace hbb5 := Bk.ext hbb5 hB
      replace hbb3 := Bk.ext hbb3 hB
      clear hB; replace H := HP.restart H
      apply wp_region_ext 21 (kinds [(3, .inl _), (8, .inl _), (10, .inl _), (16, .inl _)]) rfl rfl (by kernel_rfl); intro vs61
      simp only [List.take_succ_cons, List.take_zero, List.drop_succ_cons, List.drop_zero]
      replace H := H.drew
      refine t_val (fun w hx => r_move (v := (.int _ _)) rfl) rfl rfl ?_
      refine t_val (fun w hx => r_loadBW tg24 rfl (Bk.hp hbb3 (H.ext hx)) rfl) rfl rfl ?_
      refine t_val (fun w hx => r_loadBW tg24 rfl (Bk.hp hbb54 (H.ext hx)) rfl) rfl rfl ?_
      refine t_call (l := [(.int _ _), (.agg (List.toArray _)), (.agg (List.toArray _))]) rfl rfl is31 rfl (fun w hx hF => (pow_c _ _ _ hA (by first | assumption | exact low_lt m | exact two256_pos) _).mono (fun _ _ ⟨he, hx⟩ => ⟨he, hx⟩)) ?_
      refine t_val (fun w hx => r_move (v := (.int _ _)) rfl) rfl rfl ?_
      refine t_val (fun w hx => r_move (v := (.int _ _)) rfl) rfl rfl ?_
      refine t_val (fun w hx => r_loadBW tg24 rfl (Bk.hp hbb3 (H.ext hx)) rfl) rfl rfl ?_
      refine t_val (fun w hx => r_loadBW tg24 rfl (Bk.hp hbb5 (H.ext hx)) rfl) rfl rfl ?_
      refine t_call (l := [(.int _ _), (.agg (List.toArray _)), (.agg (List.toArray _))]) rfl rfl is31 rfl (fun w hx hF => (pow_c _ _ _ hA (by first | assumption | exact low_lt m | exact two256_pos) _).mono (fun _ _ ⟨he, hx⟩ => ⟨he, hx⟩)) ?_
      refine t_val (fun w hx => r_loadBW tg24 rfl (Bk.hp hbb3 (H.ext hx)) rfl) rfl rfl ?_
      refine t_call (l := [(.int _ _), (.agg (List.toArray _)), (.agg (List.toArray _))]) rfl rfl is25 rfl (fun w hx hF => (mul_c _ _ _ (by first | exact Nat.mod_lt _ two256_pos | exact Mod.lt (mod_modN _) | assumption | exact onceN_lt (by assumption) | exact Nat.lt_trans (Nat.mod_lt _ (mod_modN _).pos) (mod_modN _).lt | exact ofV_lt2 _ _ | exact invV_lt2 _ _ | exact lt_lit (by decide)) (by first | exact Nat.mod_lt _ two256_pos | exact Mod.lt (mod_modN _) | assumption | exact onceN_lt (by assumption) | exact Nat.lt_trans (Nat.mod_lt _ (mod_modN _).pos) (mod_modN _).lt | exact ofV_lt2 _ _ | exact invV_lt2 _ _ | exact lt_lit (by decide)) _).mono (fun _ _ ⟨he, hx⟩ => ⟨he, hx⟩)) ?_
      refine t_val (fun w hx => r_eqnum (t := true) u24 u22 sz22 ag22 eg24 rfl rfl (by first | exact Nat.mod_lt _ two256_pos | exact Mod.lt (mod_modN _) | assumption | exact onceN_lt (by assumption) | exact Nat.lt_trans (Nat.mod_lt _ (mod_modN _).pos) (mod_modN _).lt | exact ofV_lt2 _ _ | exact invV_lt2 _ _ | exact lt_lit (by decide)) (by first | exact Nat.mod_lt _ two256_pos | exact Mod.lt (mod_modN _) | assumption | exact onceN_lt (by assumption) | exact Nat.lt_trans (Nat.mod_lt _ (mod_modN _).pos) (mod_modN _).lt | exact ofV_lt2 _ _ | exact invV_lt2 _ _ | exact lt_lit (by decide)) (eqT (by rw [Nat.mod_mul_mod, Nat.pow_succ]))) rfl rfl ?_
      refine t_val (fun w hx => r_move (v := (.bool _)) rfl) rfl rfl ?_
      refine t_valG rfl rfl (fun w hx => r_move (v := (.int _ _)) rfl) rfl rfl ?_
      refine t_valG rfl rfl (fun w hx => r_loadBW tg24 rfl (Bk.hp hbb3 (H.ext hx)) rfl) rfl rfl ?_
      refine t_valG rfl rfl (fun w hx => r_as (l' := numL 0) (r_build (vals := []) (l := [_, _, _, _]) tb24 rfl rfl) (num_0)) rfl rfl ?_
      refine t_callG rfl rfl (l := [(.int _ _), (.agg (List.toArray _)), (.agg (List.toArray _))]) rfl rfl is31 rfl (fun w hx hF => (pow_c _ _ _ hA (by first | assumption | exact low_lt m | exact two256_pos) _).mono (fun _ _ ⟨he, hx⟩ => ⟨he, hx⟩)) ?_
      refine t_valG rfl rfl (fun w hx => r_as (l' := numL 1) (r_build (vals := [(0, (.int _ _))]) (l := [_, _, _, _]) tb24 rfl rfl) (num_lit 1 (by decide))) rfl rfl ?_
      refine t_valG rfl rfl (fun w hx => r_eqnum (t := true) u24 u22 sz22 ag22 eg24 rfl rfl (by first | exact Nat.mod_lt _ two256_pos | exact Mod.lt (mod_modN _) | assumption | exact onceN_lt (by assumption) | exact Nat.lt_trans (Nat.mod_lt _ (mod_modN _).pos) (mod_modN _).lt | exact ofV_lt2 _ _ | exact invV_lt2 _ _ | exact lt_lit (by decide)) (by first | exact Nat.mod_lt _ two256_pos | exact Mod.lt (mod_modN _) | assumption | exact onceN_lt (by assumption) | exact Nat.lt_trans (Nat.mod_lt _ (mod_modN _).pos) (mod_modN _).lt | exact ofV_lt2 _ _ | exact invV_lt2 _ _ | exact lt_lit (by decide)) (eqT (by rw [Nat.pow_zero, Nat.mod_eq_of_lt (one_lt_modN m)]))) rfl rfl ?_
      refine t_val (fun w hx => r_pickt (v := (.bool _)) rfl rfl rfl) rfl rfl ?_
      refine t_val (fun w hx => r_assign (v := (.bool _)) rfl) rfl rfl ?_
      refine t_nil (fun w62 hx hF hA => ?_)
      replace H := H.ext hx
      clear hx hF hA
      refine wpList_nil ?_; refine on_norm ?_
      refine x_norm ?_; refine hK59 _ _ ?_; try clear hK59 K59
      refine wp_ret ?_
      refine e_1 rfl (q_tmp (v := (.bool _)) rfl) ?_
      exact ⟨rfl, E.trans H.below⟩

set_option maxRecDepth 4000 in
theorem fieldBack_c (m : Int) (l1 l2 : List UInt8) (h1 : l1.length < 1152921504606846976) (h2 : l2.length < 1152921504606846976) (w : World) :
    Calls Try.prog 9 #[.int .i64 m, str l1, str l2] w fun e w' => e = .returned (.bool true) ∧ Ext w w' := by
  refine enter (n := 81) Try.func9 rfl rfl rfl ?_
  have H := HP.start w
  have E := Below.refl w.heap.size w
  have hpl := (mod_modN m).lt
  have hp := modN_pos m
  have hX1 := Nat.mod_lt (bval l1) hp
  have hX2 := Nat.mod_lt (bval l2) hp
  have hbv := of_beV hX1
  refine wp_seq_k ?_; intro K1 hK1
  refine wp_region_lit ?_
  refine p_val (r_assign (v := (.bool _)) rfl) ?_
  refine wpList_nil ?_
  refine x_norm ?_; refine hK1 _ _ ?_; try clear hK1 K1
  refine wp_seq_k ?_; intro K2 hK2
  refine wp_region_lit ?_
  refine p_val (r_move (v := (.int _ _)) rfl) ?_
  refine p_val (r_move (v := (str l1)) rfl) ?_
  refine p_call (l := [(.int _ _), (str l1)]) is33 rfl ?_
  refine (of_c _ _ (by first | omega | (rw [be_length]; decide)) _).mono ?_; rintro _ w3 ⟨rfl, hx⟩; replace H := H.ext hx; clear hx
  refine p_val (r_move (v := (.tuple _)) rfl) ?_
  refine p_val (r_extract (v := (.agg (List.toArray _))) rfl rfl) ?_
  refine p_val (r_extract (v := (.int _ _)) rfl rfl) ?_
  refine p_alloc (l := [.int .u64 0, .int .u64 0, .int .u64 0, .int .u64 0]) H tz24 rfl ?_; clear H; intro w5 b4 H
  refine p_storeW tg24 H rfl (k := 0) rfl rfl rfl rfl rfl ?_; clear H; intro w6 H
  refine p_val (r_assign (v := (.int _ _)) rfl) ?_
  refine wpList_nil ?_
  refine x_norm ?_; refine hK2 _ _ ?_; try clear hK2 K2
  refine wp_seq_k ?_; intro K7 hK7
  refine wp_seq_k ?_; intro K8 hK8
  have hbb4 := HP.bk H (k := 0) rfl
  have hB := H.below; replace E := Ext.trans E hB
  clear hB; replace H := HP.restart H
  rcases Bool.eq_false_or_eq_true (ofOK m l1) with hc | hc
  · skip
    have hi := of_t hc
    have hB := H.below; replace E := Ext.trans E hB
    replace hbb4 := Bk.ext hbb4 hB
    clear hB; replace H := HP.restart H
    refine wp_region_lit ?_
    refine p_call (l := []) is17 rfl ?_
    refine (awake6_c _).mono ?_; rintro _ w9 ⟨rfl, hx⟩; replace H := H.ext hx; clear hx
    refine p_val (r_not (t := false) rfl rfl) ?_
    refine p_val (r_move (v := (.bool _)) rfl) ?_
    refine p_want rfl rfl ?_
    refine p_val (r_move (v := (.int _ _)) rfl) ?_
    refine p_want rfl rfl ?_
    refine p_val (r_eql (t := true) rfl rfl (by rw [hi.2]; rfl)) ?_
    refine p_want rfl rfl ?_
    refine p_val (r_move (v := (.bool _)) rfl) ?_
    refine p_want rfl rfl ?_
    refine p_val (r_loadBW tg24 rfl (Bk.hp hbb4 H) rfl) ?_
    refine p_want rfl rfl ?_
    refine p_call (l := [(.agg (List.toArray _))]) is36 rfl ?_
    refine (bytes_c _ _).mono ?_; rintro _ w10 ⟨rfl, hx⟩; replace H := H.ext hx; clear hx
    refine p_want rfl rfl ?_
    refine p_val (r_move (v := (str l1)) rfl) ?_
    refine p_want rfl rfl ?_
    refine p_val (r_neT (t := false) rfl rfl (neTs (be_ofV hc))) ?_
    refine p_want rfl rfl ?_
    refine p_val (r_pickt (v := (.bool _)) rfl rfl rfl) ?_
    refine p_val (r_pickf (v := (.bool _)) rfl rfl rfl) ?_
    refine wpList_nil ?_
    refine x_norm ?_; refine hK8 _ _ ?_; try clear hK8 K8
    refine c_false rfl rfl ?_
    refine wp_skip ?_
    refine x_norm ?_; refine hK7 _ _ ?_; try clear hK7 K7
    refine wp_seq_k ?_; intro K11 hK11
    refine wp_region_lit ?_
    refine p_val (r_move (v := (.int _ _)) rfl) ?_
    refine p_val (r_move (v := (str l1)) rfl) ?_
    refine p_call (l := [(.int _ _), (str l1)]) is38 rfl ?_
    refine (reduce_c _ _ (by first | omega | (rw [List.length_append]; omega)) _).mono ?_; rintro _ w12 ⟨rfl, hx⟩; replace H := H.ext hx; clear hx
    refine p_val (r_move (v := (.int _ _)) rfl) ?_
    refine p_val (r_move (v := (str l2)) rfl) ?_
    refine p_call (l := [(.int _ _), (str l2)]) is38 rfl ?_
    refine (reduce_c _ _ (by first | omega | (rw [List.length_append]; omega)) _).mono ?_; rintro _ w13 ⟨rfl, hx⟩; replace H := H.ext hx; clear hx
    refine p_alloc (l := [.int .u64 0, .int .u64 0, .int .u64 0, .int .u64 0]) H tz24 rfl ?_; clear H; intro w15 b14 H
    refine p_alloc (l := [.int .u64 0, .int .u64 0, .int .u64 0, .int .u64 0]) H tz24 rfl ?_; clear H; intro w17 b16 H
    refine p_storeW tg24 H rfl (k := 1) rfl rfl rfl rfl rfl ?_; clear H; intro w18 H
    refine p_storeW tg24 H rfl (k := 0) rfl rfl rfl rfl rfl ?_; clear H; intro w19 H
    refine wpList_nil ?_
    refine x_norm ?_; refine hK11 _ _ ?_; try clear hK11 K11
    refine wp_seq_k ?_; intro K20 hK20
    have hbb16 := HP.bk H (k := 0) rfl
    have hbb14 := HP.bk H (k := 1) rfl
    have hB := H.below; replace E := Ext.trans E hB
    replace hbb4 := Bk.ext hbb4 hB
    clear hB; replace H := HP.restart H
    refine wp_region_lit ?_
    refine p_val (r_move (v := (.int _ _)) rfl) ?_
    refine p_val (r_loadBW tg24 rfl (Bk.hp hbb14 H) rfl) ?_
    refine p_call (l := [(.agg (List.toArray _))]) is36 rfl ?_
    refine (bytes_c _ _).mono ?_; rintro _ w21 ⟨rfl, hx⟩; replace H := H.ext hx; clear hx
    refine p_call (l := [(.int _ _), (str _)]) is33 rfl ?_
    refine (of_c _ _ (by first | omega | (rw [be_length]; decide)) _).mono ?_; rintro _ w22 ⟨rfl, hx⟩; replace H := H.ext hx; clear hx
    refine p_val (r_move (v := (.tuple _)) rfl) ?_
    refine p_val (r_extract (v := (.agg (List.toArray _))) rfl rfl) ?_
    refine p_val (r_extract (v := (.int _ _)) rfl rfl) ?_
    refine p_alloc (l := [.int .u64 0, .int .u64 0, .int .u64 0, .int .u64 0]) H tz24 rfl ?_; clear H; intro w24 b23 H
    refine p_storeW tg24 H rfl (k := 0) rfl rfl rfl rfl rfl ?_; clear H; intro w25 H
    refine p_val (r_assign (v := (.int _ _)) rfl) ?_
    refine wpList_nil ?_
    refine x_norm ?_; refine hK20 _ _ ?_; try clear hK20 K20
    refine wp_seq_k ?_; intro K26 hK26
    refine wp_seq_k ?_; intro K27 hK27
    have hbb23 := HP.bk H (k := 0) rfl
    have hB := H.below; replace E := Ext.trans E hB
    replace hbb4 := Bk.ext hbb4 hB
    replace hbb16 := Bk.ext hbb16 hB
    replace hbb14 := Bk.ext hbb14 hB
    clear hB; replace H := HP.restart H
    refine wp_region_lit ?_
    refine p_val (r_move (v := (.int _ _)) rfl) ?_
    refine p_val (r_neq (t := false) rfl rfl (by rw [hbv.2]; rfl)) ?_
    refine p_val (r_move (v := (.bool _)) rfl) ?_
    refine p_want rfl rfl ?_
    refine p_val (r_loadBW tg24 rfl (Bk.hp hbb23 H) rfl) ?_
    refine p_want rfl rfl ?_
    refine p_val (r_loadBW tg24 rfl (Bk.hp hbb14 H) rfl) ?_
    refine p_want rfl rfl ?_
    refine p_val (r_nenum (t := false) u24 u22 sz22 ag22 eg24 rfl rfl (by first | exact Nat.mod_lt _ two256_pos | exact Mod.lt (mod_modN _) | assumption | exact onceN_lt (by assumption) | exact Nat.lt_trans (Nat.mod_lt _ (mod_modN _).pos) (mod_modN _).lt | exact ofV_lt2 _ _ | exact invV_lt2 _ _ | exact lt_lit (by decide)) (by first | exact Nat.mod_lt _ two256_pos | exact Mod.lt (mod_modN _) | assumption | exact onceN_lt (by assumption) | exact Nat.lt_trans (Nat.mod_lt _ (mod_modN _).pos) (mod_modN _).lt | exact ofV_lt2 _ _ | exact invV_lt2 _ _ | exact lt_lit (by decide)) (neF hbv.1)) ?_
    refine p_val (r_pickf (v := (.bool _)) rfl rfl rfl) ?_
    refine p_val (r_move (v := (.bool _)) rfl) ?_
    refine p_want rfl rfl ?_
    refine p_val (r_move (v := (.int _ _)) rfl) ?_
    refine p_want rfl rfl ?_
    refine p_val (r_eql (t := true) rfl rfl (by rw [hi.2]; rfl)) ?_
    refine p_want rfl rfl ?_
    refine p_val (r_move (v := (.bool _)) rfl) ?_
    refine p_want rfl rfl ?_
    refine p_val (r_loadBW tg24 rfl (Bk.hp hbb14 H) rfl) ?_
    refine p_want rfl rfl ?_
    refine p_val (r_loadBW tg24 rfl (Bk.hp hbb4 H) rfl) ?_
    refine p_want rfl rfl ?_
    refine p_val (r_nenum (t := false) u24 u22 sz22 ag22 eg24 rfl rfl (by first | exact Nat.mod_lt _ two256_pos | exact Mod.lt (mod_modN _) | assumption | exact onceN_lt (by assumption) | exact Nat.lt_trans (Nat.mod_lt _ (mod_modN _).pos) (mod_modN _).lt | exact ofV_lt2 _ _ | exact invV_lt2 _ _ | exact lt_lit (by decide)) (by first | exact Nat.mod_lt _ two256_pos | exact Mod.lt (mod_modN _) | assumption | exact onceN_lt (by assumption) | exact Nat.lt_trans (Nat.mod_lt _ (mod_modN _).pos) (mod_modN _).lt | exact ofV_lt2 _ _ | exact invV_lt2 _ _ | exact lt_lit (by decide)) (neF (by rw [hi.1, Nat.mod_eq_of_lt (of_32 hc).2]))) ?_
    refine p_want rfl rfl ?_
    refine p_val (r_pickt (v := (.bool _)) rfl rfl rfl) ?_
    refine p_val (r_pickf (v := (.bool _)) rfl rfl rfl) ?_
    refine wpList_nil ?_
    refine x_norm ?_; refine hK27 _ _ ?_; try clear hK27 K27
    refine c_false rfl rfl ?_
    refine wp_skip ?_
    refine x_norm ?_; refine hK26 _ _ ?_; try clear hK26 K26
    refine wp_seq_k ?_; intro K28 hK28
    refine wp_region_lit ?_
    refine p_val (r_move (v := (.int _ _)) rfl) ?_
    refine p_val (r_as (l' := numL 256) (r_build (vals := [(0, (.int _ _))]) (l := [_, _, _, _]) tb24 rfl rfl) (num_lit 256 (by decide))) ?_
    refine p_val (r_move (v := (str l2)) rfl) ?_
    refine p_val (r_lenT (N := _) u9 rfl (rfl)) ?_
    refine p_val (r_conv (r := ((l2.length : Nat) : Int)) u3 u22 rfl (wrapS rfl (Nat.lt_trans h2 (by decide)))) ?_
    refine p_val (r_as (l' := numL l2.length) (r_build (vals := [(0, (.int _ _))]) (l := [_, _, _, _]) tb24 rfl rfl) (num_lit _ (by omega))) ?_
    refine p_call (l := [(.int _ _), (.agg (List.toArray _)), (.agg (List.toArray _))]) is31 rfl ?_
    refine (pow_c _ _ _ (lt_lit (by decide)) (Nat.lt_trans h2 (by decide)) _).mono ?_; rintro _ w29 ⟨rfl, hx⟩; replace H := H.ext hx; clear hx
    refine p_alloc (l := [.int .u64 0, .int .u64 0, .int .u64 0, .int .u64 0]) H tz24 rfl ?_; clear H; intro w31 b30 H
    refine p_storeW tg24 H rfl (k := 0) rfl rfl rfl rfl rfl ?_; clear H; intro w32 H
    refine wpList_nil ?_
    refine x_norm ?_; refine hK28 _ _ ?_; try clear hK28 K28
    refine wp_seq_k ?_; intro K33 hK33
    have hbb30 := HP.bk H (k := 0) rfl
    have hB := H.below; replace E := Ext.trans E hB
    replace hbb4 := Bk.ext hbb4 hB
    replace hbb16 := Bk.ext hbb16 hB
    replace hbb14 := Bk.ext hbb14 hB
    replace hbb23 := Bk.ext hbb23 hB
    clear hB; replace H := HP.restart H
    apply wp_region_ext 14 (kinds [(4, .inl _), (9, .inl _), (11, .inl _)]) rfl rfl (by kernel_rfl); intro vs35
    simp only [List.take_succ_cons, List.take_zero, List.drop_succ_cons, List.drop_zero]
    replace H := H.drew
    refine t_val (fun w hx => r_move (v := (.int _ _)) rfl) rfl rfl ?_
    refine t_val (fun w hx => r_move (v := (str l1)) rfl) rfl rfl ?_
    refine t_val (fun w hx => r_move (v := (str l2)) rfl) rfl rfl ?_
    refine t_val (fun w hx => r_cat (r := _) rfl rfl (by first | omega | (simp; omega)) (rfl)) rfl rfl ?_
    refine t_call (l := [(.int _ _), (str _)]) rfl rfl is38 rfl (fun w hx hF => (reduce_c _ _ (by first | omega | (rw [List.length_append]; omega)) _).mono (fun _ _ ⟨he, hx⟩ => ⟨he, hx⟩)) ?_
    refine t_val (fun w hx => r_move (v := (.int _ _)) rfl) rfl rfl ?_
    refine t_val (fun w hx => r_move (v := (.int _ _)) rfl) rfl rfl ?_
    refine t_val (fun w hx => r_loadBW tg24 rfl (Bk.hp hbb14 (H.ext hx)) rfl) rfl rfl ?_
    refine t_val (fun w hx => r_loadBW tg24 rfl (Bk.hp hbb30 (H.ext hx)) rfl) rfl rfl ?_
    refine t_call (l := [(.int _ _), (.agg (List.toArray _)), (.agg (List.toArray _))]) rfl rfl is25 rfl (fun w hx hF => (mul_c _ _ _ (by first | exact Nat.mod_lt _ two256_pos | exact Mod.lt (mod_modN _) | assumption | exact onceN_lt (by assumption) | exact Nat.lt_trans (Nat.mod_lt _ (mod_modN _).pos) (mod_modN _).lt | exact ofV_lt2 _ _ | exact invV_lt2 _ _ | exact lt_lit (by decide)) (by first | exact Nat.mod_lt _ two256_pos | exact Mod.lt (mod_modN _) | assumption | exact onceN_lt (by assumption) | exact Nat.lt_trans (Nat.mod_lt _ (mod_modN _).pos) (mod_modN _).lt | exact ofV_lt2 _ _ | exact invV_lt2 _ _ | exact lt_lit (by decide)) _).mono (fun _ _ ⟨he, hx⟩ => ⟨he, hx⟩)) ?_
    refine t_val (fun w hx => r_loadBW tg24 rfl (Bk.hp hbb16 (H.ext hx)) rfl) rfl rfl ?_
    refine t_call (l := [(.int _ _), (.agg (List.toArray _)), (.agg (List.toArray _))]) rfl rfl is21 rfl (fun w hx hF => (add_c _ _ _ (by first | exact Nat.mod_lt _ two256_pos | exact Mod.lt (mod_modN _) | assumption | exact onceN_lt (by assumption) | exact Nat.lt_trans (Nat.mod_lt _ (mod_modN _).pos) (mod_modN _).lt | exact ofV_lt2 _ _ | exact invV_lt2 _ _ | exact lt_lit (by decide)) (by first | exact Nat.mod_lt _ two256_pos | exact Mod.lt (mod_modN _) | assumption | exact onceN_lt (by assumption) | exact Nat.lt_trans (Nat.mod_lt _ (mod_modN _).pos) (mod_modN _).lt | exact ofV_lt2 _ _ | exact invV_lt2 _ _ | exact lt_lit (by decide)) _).mono (fun _ _ ⟨he, hx⟩ => ⟨he, hx⟩)) ?_
    refine t_val (fun w hx => r_eqnum (t := true) u24 u22 sz22 ag22 eg24 rfl rfl (by first | exact Nat.mod_lt _ two256_pos | exact Mod.lt (mod_modN _) | assumption | exact onceN_lt (by assumption) | exact Nat.lt_trans (Nat.mod_lt _ (mod_modN _).pos) (mod_modN _).lt | exact ofV_lt2 _ _ | exact invV_lt2 _ _ | exact lt_lit (by decide)) (by first | exact Nat.mod_lt _ two256_pos | exact Mod.lt (mod_modN _) | assumption | exact onceN_lt (by assumption) | exact Nat.lt_trans (Nat.mod_lt _ (mod_modN _).pos) (mod_modN _).lt | exact ofV_lt2 _ _ | exact invV_lt2 _ _ | exact lt_lit (by decide)) (eqT (back_eq _ _ _))) rfl rfl ?_
    refine t_val (fun w hx => r_assign (v := (.bool _)) rfl) rfl rfl ?_
    refine t_nil (fun w36 hx hF hA => ?_)
    replace H := H.ext hx
    clear hx hF hA
    refine wpList_nil ?_; refine on_norm ?_
    refine x_norm ?_; refine hK33 _ _ ?_; try clear hK33 K33
    refine wp_ret ?_
    refine e_1 rfl (q_tmp (v := (.bool _)) rfl) ?_
    exact ⟨rfl, E.trans H.below⟩
  · skip
    have hi := of_f hc
    have hB := H.below; replace E := Ext.trans E hB
    replace hbb4 := Bk.ext hbb4 hB
    clear hB; replace H := HP.restart H
    refine wp_region_lit ?_
    refine p_call (l := []) is17 rfl ?_
    refine (awake6_c _).mono ?_; rintro _ w37 ⟨rfl, hx⟩; replace H := H.ext hx; clear hx
    refine p_val (r_not (t := false) rfl rfl) ?_
    refine p_val (r_move (v := (.bool _)) rfl) ?_
    refine p_want rfl rfl ?_
    refine p_val (r_move (v := (.int _ _)) rfl) ?_
    refine p_want rfl rfl ?_
    refine p_val (r_eql (t := false) rfl rfl (by rw [hi.2]; rfl)) ?_
    refine p_want rfl rfl ?_
    refine p_val (r_move (v := (.bool _)) rfl) ?_
    refine p_skip rfl rfl ?_
    rw [put_fr]
    refine p_skip rfl rfl ?_
    rw [put_fr]
    refine p_skip rfl rfl ?_
    rw [put_fr]
    refine p_skip rfl rfl ?_
    rw [put_fr]
    refine p_want rfl rfl ?_
    refine p_val (r_pickf (v := (.bool _)) rfl rfl rfl) ?_
    refine p_val (r_pickf (v := (.bool _)) rfl rfl rfl) ?_
    refine wpList_nil ?_
    refine x_norm ?_; refine hK8 _ _ ?_; try clear hK8 K8
    refine c_false rfl rfl ?_
    refine wp_skip ?_
    refine x_norm ?_; refine hK7 _ _ ?_; try clear hK7 K7
    refine wp_seq_k ?_; intro K38 hK38
    refine wp_region_lit ?_
    refine p_val (r_move (v := (.int _ _)) rfl) ?_
    refine p_val (r_move (v := (str l1)) rfl) ?_
    refine p_call (l := [(.int _ _), (str l1)]) is38 rfl ?_
    refine (reduce_c _ _ (by first | omega | (rw [List.length_append]; omega)) _).mono ?_; rintro _ w39 ⟨rfl, hx⟩; replace H := H.ext hx; clear hx
    refine p_val (r_move (v := (.int _ _)) rfl) ?_
    refine p_val (r_move (v := (str l2)) rfl) ?_
    refine p_call (l := [(.int _ _), (str l2)]) is38 rfl ?_
    refine (reduce_c _ _ (by first | omega | (rw [List.length_append]; omega)) _).mono ?_; rintro _ w40 ⟨rfl, hx⟩; replace H := H.ext hx; clear hx
    refine p_alloc (l := [.int .u64 0, .int .u64 0, .int .u64 0, .int .u64 0]) H tz24 rfl ?_; clear H; intro w42 b41 H
    refine p_alloc (l := [.int .u64 0, .int .u64 0, .int .u64 0, .int .u64 0]) H tz24 rfl ?_; clear H; intro w44 b43 H
    refine p_storeW tg24 H rfl (k := 1) rfl rfl rfl rfl rfl ?_; clear H; intro w45 H
    refine p_storeW tg24 H rfl (k := 0) rfl rfl rfl rfl rfl ?_; clear H; intro w46 H
    refine wpList_nil ?_
    refine x_norm ?_; refine hK38 _ _ ?_; try clear hK38 K38
    refine wp_seq_k ?_; intro K47 hK47
    have hbb43 := HP.bk H (k := 0) rfl
    have hbb41 := HP.bk H (k := 1) rfl
    have hB := H.below; replace E := Ext.trans E hB
    replace hbb4 := Bk.ext hbb4 hB
    clear hB; replace H := HP.restart H
    refine wp_region_lit ?_
    refine p_val (r_move (v := (.int _ _)) rfl) ?_
    refine p_val (r_loadBW tg24 rfl (Bk.hp hbb41 H) rfl) ?_
    refine p_call (l := [(.agg (List.toArray _))]) is36 rfl ?_
    refine (bytes_c _ _).mono ?_; rintro _ w48 ⟨rfl, hx⟩; replace H := H.ext hx; clear hx
    refine p_call (l := [(.int _ _), (str _)]) is33 rfl ?_
    refine (of_c _ _ (by first | omega | (rw [be_length]; decide)) _).mono ?_; rintro _ w49 ⟨rfl, hx⟩; replace H := H.ext hx; clear hx
    refine p_val (r_move (v := (.tuple _)) rfl) ?_
    refine p_val (r_extract (v := (.agg (List.toArray _))) rfl rfl) ?_
    refine p_val (r_extract (v := (.int _ _)) rfl rfl) ?_
    refine p_alloc (l := [.int .u64 0, .int .u64 0, .int .u64 0, .int .u64 0]) H tz24 rfl ?_; clear H; intro w51 b50 H
    refine p_storeW tg24 H rfl (k := 0) rfl rfl rfl rfl rfl ?_; clear H; intro w52 H
    refine p_val (r_assign (v := (.int _ _)) rfl) ?_
    refine wpList_nil ?_
    refine x_norm ?_; refine hK47 _ _ ?_; try clear hK47 K47
    refine wp_seq_k ?_; intro K53 hK53
    refine wp_seq_k ?_; intro K54 hK54
    have hbb50 := HP.bk H (k := 0) rfl
    have hB := H.below; replace E := Ext.trans E hB
    replace hbb4 := Bk.ext hbb4 hB
    replace hbb43 := Bk.ext hbb43 hB
    replace hbb41 := Bk.ext hbb41 hB
    clear hB; replace H := HP.restart H
    refine wp_region_lit ?_
    refine p_val (r_move (v := (.int _ _)) rfl) ?_
    refine p_val (r_neq (t := false) rfl rfl (by rw [hbv.2]; rfl)) ?_
    refine p_val (r_move (v := (.bool _)) rfl) ?_
    refine p_want rfl rfl ?_
    refine p_val (r_loadBW tg24 rfl (Bk.hp hbb50 H) rfl) ?_
    refine p_want rfl rfl ?_
    refine p_val (r_loadBW tg24 rfl (Bk.hp hbb41 H) rfl) ?_
    refine p_want rfl rfl ?_
    refine p_val (r_nenum (t := false) u24 u22 sz22 ag22 eg24 rfl rfl (by first | exact Nat.mod_lt _ two256_pos | exact Mod.lt (mod_modN _) | assumption | exact onceN_lt (by assumption) | exact Nat.lt_trans (Nat.mod_lt _ (mod_modN _).pos) (mod_modN _).lt | exact ofV_lt2 _ _ | exact invV_lt2 _ _ | exact lt_lit (by decide)) (by first | exact Nat.mod_lt _ two256_pos | exact Mod.lt (mod_modN _) | assumption | exact onceN_lt (by assumption) | exact Nat.lt_trans (Nat.mod_lt _ (mod_modN _).pos) (mod_modN _).lt | exact ofV_lt2 _ _ | exact invV_lt2 _ _ | exact lt_lit (by decide)) (neF hbv.1)) ?_
    refine p_val (r_pickf (v := (.bool _)) rfl rfl rfl) ?_
    refine p_val (r_move (v := (.bool _)) rfl) ?_
    refine p_want rfl rfl ?_
    refine p_val (r_move (v := (.int _ _)) rfl) ?_
    refine p_want rfl rfl ?_
    refine p_val (r_eql (t := false) rfl rfl (by rw [hi.2]; rfl)) ?_
    refine p_want rfl rfl ?_
    refine p_val (r_move (v := (.bool _)) rfl) ?_
    refine p_skip rfl rfl ?_
    rw [put_fr]
    refine p_skip rfl rfl ?_
    rw [put_fr]
    refine p_skip rfl rfl ?_
    rw [put_fr]
    refine p_want rfl rfl ?_
    refine p_val (r_pickf (v := (.bool _)) rfl rfl rfl) ?_
    refine p_val (r_pickf (v := (.bool _)) rfl rfl rfl) ?_
    refine wpList_nil ?_
    refine x_norm ?_; refine hK54 _ _ ?_; try clear hK54 K54
    refine c_false rfl rfl ?_
    refine wp_skip ?_
    refine x_norm ?_; refine hK53 _ _ ?_; try clear hK53 K53
    refine wp_seq_k ?_; intro K55 hK55
    refine wp_region_lit ?_
    refine p_val (r_move (v := (.int _ _)) rfl) ?_
    refine p_val (r_as (l' := numL 256) (r_build (vals := [(0, (.int _ _))]) (l := [_, _, _, _]) tb24 rfl rfl) (num_lit 256 (by decide))) ?_
    refine p_val (r_move (v := (str l2)) rfl) ?_
    refine p_val (r_lenT (N := _) u9 rfl (rfl)) ?_
    refine p_val (r_conv (r := ((l2.length : Nat) : Int)) u3 u22 rfl (wrapS rfl (Nat.lt_trans h2 (by decide)))) ?_
    refine p_val (r_as (l' := numL l2.length) (r_build (vals := [(0, (.int _ _))]) (l := [_, _, _, _]) tb24 rfl rfl) (num_lit _ (by omega))) ?_
    refine p_call (l := [(.int _ _), (.agg (List.toArray _)), (.agg (List.toArray _))]) is31 rfl ?_
    refine (pow_c _ _ _ (lt_lit (by decide)) (Nat.lt_trans h2 (by decide)) _).mono ?_; rintro _ w56 ⟨rfl, hx⟩; replace H := H.ext hx; clear hx
    refine p_alloc (l := [.int .u64 0, .int .u64 0, .int .u64 0, .int .u64 0]) H tz24 rfl ?_; clear H; intro w58 b57 H
    refine p_storeW tg24 H rfl (k := 0) rfl rfl rfl rfl rfl ?_; clear H; intro w59 H
    refine wpList_nil ?_
    refine x_norm ?_; refine hK55 _ _ ?_; try clear hK55 K55
    refine wp_seq_k ?_; intro K60 hK60
    have hbb57 := HP.bk H (k := 0) rfl
    have hB := H.below; replace E := Ext.trans E hB
    replace hbb4 := Bk.ext hbb4 hB
    replace hbb43 := Bk.ext hbb43 hB
    replace hbb41 := Bk.ext hbb41 hB
    replace hbb50 := Bk.ext hbb50 hB
    clear hB; replace H := HP.restart H
    apply wp_region_ext 14 (kinds [(4, .inl _), (9, .inl _), (11, .inl _)]) rfl rfl (by kernel_rfl); intro vs62
    simp only [List.take_succ_cons, List.take_zero, List.drop_succ_cons, List.drop_zero]
    replace H := H.drew
    refine t_val (fun w hx => r_move (v := (.int _ _)) rfl) rfl rfl ?_
    refine t_val (fun w hx => r_move (v := (str l1)) rfl) rfl rfl ?_
    refine t_val (fun w hx => r_move (v := (str l2)) rfl) rfl rfl ?_
    refine t_val (fun w hx => r_cat (r := _) rfl rfl (by first | omega | (simp; omega)) (rfl)) rfl rfl ?_
    refine t_call (l := [(.int _ _), (str _)]) rfl rfl is38 rfl (fun w hx hF => (reduce_c _ _ (by first | omega | (rw [List.length_append]; omega)) _).mono (fun _ _ ⟨he, hx⟩ => ⟨he, hx⟩)) ?_
    refine t_val (fun w hx => r_move (v := (.int _ _)) rfl) rfl rfl ?_
    refine t_val (fun w hx => r_move (v := (.int _ _)) rfl) rfl rfl ?_
    refine t_val (fun w hx => r_loadBW tg24 rfl (Bk.hp hbb41 (H.ext hx)) rfl) rfl rfl ?_
    refine t_val (fun w hx => r_loadBW tg24 rfl (Bk.hp hbb57 (H.ext hx)) rfl) rfl rfl ?_
    refine t_call (l := [(.int _ _), (.agg (List.toArray _)), (.agg (List.toArray _))]) rfl rfl is25 rfl (fun w hx hF => (mul_c _ _ _ (by first | exact Nat.mod_lt _ two256_pos | exact Mod.lt (mod_modN _) | assumption | exact onceN_lt (by assumption) | exact Nat.lt_trans (Nat.mod_lt _ (mod_modN _).pos) (mod_modN _).lt | exact ofV_lt2 _ _ | exact invV_lt2 _ _ | exact lt_lit (by decide)) (by first | exact Nat.mod_lt _ two256_pos | exact Mod.lt (mod_modN _) | assumption | exact onceN_lt (by assumption) | exact Nat.lt_trans (Nat.mod_lt _ (mod_modN _).pos) (mod_modN _).lt | exact ofV_lt2 _ _ | exact invV_lt2 _ _ | exact lt_lit (by decide)) _).mono (fun _ _ ⟨he, hx⟩ => ⟨he, hx⟩)) ?_
    refine t_val (fun w hx => r_loadBW tg24 rfl (Bk.hp hbb43 (H.ext hx)) rfl) rfl rfl ?_
    refine t_call (l := [(.int _ _), (.agg (List.toArray _)), (.agg (List.toArray _))]) rfl rfl is21 rfl (fun w hx hF => (add_c _ _ _ (by first | exact Nat.mod_lt _ two256_pos | exact Mod.lt (mod_modN _) | assumption | exact onceN_lt (by assumption) | exact Nat.lt_trans (Nat.mod_lt _ (mod_modN _).pos) (mod_modN _).lt | exact ofV_lt2 _ _ | exact invV_lt2 _ _ | exact lt_lit (by decide)) (by first | exact Nat.mod_lt _ two256_pos | exact Mod.lt (mod_modN _) | assumption | exact onceN_lt (by assumption) | exact Nat.lt_trans (Nat.mod_lt _ (mod_modN _).pos) (mod_modN _).lt | exact ofV_lt2 _ _ | exact invV_lt2 _ _ | exact lt_lit (by decide)) _).mono (fun _ _ ⟨he, hx⟩ => ⟨he, hx⟩)) ?_
    refine t_val (fun w hx => r_eqnum (t := true) u24 u22 sz22 ag22 eg24 rfl rfl (by first | exact Nat.mod_lt _ two256_pos | exact Mod.lt (mod_modN _) | assumption | exact onceN_lt (by assumption) | exact Nat.lt_trans (Nat.mod_lt _ (mod_modN _).pos) (mod_modN _).lt | exact ofV_lt2 _ _ | exact invV_lt2 _ _ | exact lt_lit (by decide)) (by first | exact Nat.mod_lt _ two256_pos | exact Mod.lt (mod_modN _) | assumption | exact onceN_lt (by assumption) | exact Nat.lt_trans (Nat.mod_lt _ (mod_modN _).pos) (mod_modN _).lt | exact ofV_lt2 _ _ | exact invV_lt2 _ _ | exact lt_lit (by decide)) (eqT (back_eq _ _ _))) rfl rfl ?_
    refine t_val (fun w hx => r_assign (v := (.bool _)) rfl) rfl rfl ?_
    refine t_nil (fun w63 hx hF hA => ?_)
    replace H := H.ext hx
    clear hx hF hA
    refine wpList_nil ?_; refine on_norm ?_
    refine x_norm ?_; refine hK60 _ _ ?_; try clear hK60 K60
    refine wp_ret ?_
    refine e_1 rfl (q_tmp (v := (.bool _)) rfl) ?_
    exact ⟨rfl, E.trans H.below⟩

end Go.Proofs.Ytjmgilhlpohcmaa
