/- The walks of some functions. Conditions: as each theorem says. -/
import Derived.Test.YtjmgilhlpohcmaaLawF
namespace Go.Proofs.Ytjmgilhlpohcmaa
open Go Go.RowKit
attribute [local irreducible] wpList wpT Code.wp Calls Code.rounds lm sd sb ad ac dval subv adr u32s fl dg modN bval be
theorem u48 : Try.prog.underlying 48 = some (.array 3 24) := by kernel_rfl
theorem sz24 (w : World) : (sizeOf 24).run Try.prog w = .ok 4 w := by kernel_rfl

set_option maxRecDepth 4000 in
theorem fieldRing_c (m : Int) (A B C : Nat) (hA : A < two256) (hB : B < two256) (hC : C < two256) (w : World) :
    Calls Try.prog 7 #[.int .i64 m, .agg (numL A ++ (numL B ++ numL C)).toArray] w fun e w' => e = .returned (.bool true) ∧ Ext w w' := by
  refine enter (n := 161) Try.func7 rfl rfl rfl ?_
  have H := HP.start w
  have E := Below.refl w.heap.size w
  have hp := modN_pos m
  refine wp_seq_k ?_; intro K1 hK1
  refine wp_region_lit ?_
  refine p_box (l := (numL A ++ (numL B ++ numL C))) H rfl ?_; clear H; intro w2 b3 H
  refine p_val (r_assign (v := (.bool _)) rfl) ?_
  refine wpList_nil ?_
  refine x_norm ?_; refine hK1 _ _ ?_; try clear hK1 K1
  refine wp_seq_k ?_; intro K4 hK4
  apply wp_region_extX 9 (kinds [(6, .inr (NewAt _ [.int .u64 0, .int .u64 0, .int .u64 0, .int .u64 0] 24)), (7, .inr (NewAt _ [.int .u64 0, .int .u64 0, .int .u64 0, .int .u64 0] 24)), (8, .inr (NewAt _ [.int .u64 0, .int .u64 0, .int .u64 0, .int .u64 0] 24)), (xm, .inl undef)]) rfl rfl (by kernel_rfl); intro vs6
  simp only [List.take_succ_cons, List.take_zero, List.drop_succ_cons, List.drop_zero]
  replace H := H.drew
  refine t_val (fun w hx => r_addrA u48 sz24 rfl (k := .i64) (i := 0) rfl rfl (by decide) (by decide)) rfl rfl ?_
  refine t_val (fun w hx => r_load (l := numL A) tg24 (H.ext hx) rfl (k := 0) rfl rfl rfl) rfl rfl ?_
  refine t_floatX rfl (fun w hx => r_addrA u48 sz24 rfl (k := .i64) (i := 1) rfl rfl (by decide) (by decide)) rfl rfl ?_
  refine t_floatX rfl (fun w hx => r_load (l := numL B) tg24 (H.ext hx) rfl (k := 0) rfl rfl rfl) rfl rfl ?_
  refine t_floatX rfl (fun w hx => r_addrA u48 sz24 rfl (k := .i64) (i := 2) rfl rfl (by decide) (by decide)) rfl rfl ?_
  refine t_floatX rfl (fun w hx => r_load (l := numL C) tg24 (H.ext hx) rfl (k := 0) rfl rfl rfl) rfl rfl ?_
  refine t_alloc rfl rfl tz24 rfl ?_
  refine t_alloc rfl rfl tz24 rfl ?_
  refine t_alloc rfl rfl tz24 rfl ?_
  refine t_nilX (fun w10 hx hF hA => ?_)
  have HO := H; replace H := HP.ofE hx
  obtain ⟨b7, eb7, hbb7, hhb7⟩ := fact_rel hF 6 rfl rfl; have hnb7 := HP.neL H hbb7; replace hbb7 := Nat.le_trans H.below.size hbb7
  obtain ⟨b8, eb8, hbb8, hhb8⟩ := fact_rel hF 7 rfl rfl; have hnb8 := HP.neL H hbb8; replace hbb8 := Nat.le_trans H.below.size hbb8
  obtain ⟨b9, eb9, hbb9, hhb9⟩ := fact_rel hF 8 rfl rfl; have hnb9 := HP.neL H hbb9; replace hbb9 := Nat.le_trans H.below.size hbb9
  replace H := H.ext hx
  replace H := HP.push1 H hbb7 hnb7 hhb7
  replace H := HP.push1 H hbb8 ⟨fun e => hA 6 7 (by decide) (by decide) (by decide) rfl rfl (by rw [eb7, eb8]; exact congrArg (fun z => Value.pointer (some ⟨z, 0, none⟩)) e), hnb8⟩ hhb8
  replace H := HP.push1 H hbb9 ⟨fun e => hA 7 8 (by decide) (by decide) (by decide) rfl rfl (by rw [eb8, eb9]; exact congrArg (fun z => Value.pointer (some ⟨z, 0, none⟩)) e), ⟨fun e => hA 6 8 (by decide) (by decide) (by decide) rfl rfl (by rw [eb7, eb9]; exact congrArg (fun z => Value.pointer (some ⟨z, 0, none⟩)) e), hnb9⟩⟩ hhb9
  clear hbb7 hnb7 hhb7 hbb8 hnb8 hhb8 hbb9 hnb9 hhb9
  clear hx hF hA
  refine x_storeW tg24 H eb7 (k := 2) rfl rfl rfl rfl rfl ?_; clear H; intro w11 H
  refine x_storeW tg24 H eb8 (k := 1) rfl rfl rfl rfl rfl ?_; clear H; intro w12 H
  refine x_storeW tg24 H eb9 (k := 0) rfl rfl rfl rfl rfl ?_; clear H; intro w13 H
  refine x_nil H ?_; refine on_norm ?_; replace H := HP.join HO H; clear HO
  refine x_norm ?_; refine hK4 _ _ ?_; try clear hK4 K4
  refine wp_seq_k ?_; intro K14 hK14
  refine wp_seq_k ?_; intro K15 hK15
  have hbb9 := HP.bk H (k := 0) rfl
  have hbb8 := HP.bk H (k := 1) rfl
  have hbb7 := HP.bk H (k := 2) rfl
  have hbb3 := HP.bk H (k := 3) (cs := (numL A ++ (numL B ++ numL C))) rfl
  have hB := H.below; replace E := Ext.trans E hB
  clear hB; replace H := HP.restart H
  refine wp_region_lit ?_
  refine p_call (l := []) is17 rfl ?_
  refine (awake6_c _).mono ?_; rintro _ w16 ⟨rfl, hx⟩; replace H := H.ext hx; clear hx
  refine p_val (r_not (t := false) rfl rfl) ?_
  refine wpList_nil ?_
  refine x_norm ?_; refine hK15 _ _ ?_; try clear hK15 K15
  refine c_false rfl rfl ?_
  refine wp_skip ?_
  refine x_norm ?_; refine hK14 _ _ ?_; try clear hK14 K14
  refine wp_seq_k ?_; intro K17 hK17
  apply wp_region_ext 10 (kinds [(3, .inl _), (7, .inl _), (8, .inr (NewAt _ [.int .u64 0, .int .u64 0, .int .u64 0, .int .u64 0] 24)), (9, .inr (NewAt _ [.int .u64 0, .int .u64 0, .int .u64 0, .int .u64 0] 24))]) rfl rfl (by kernel_rfl); intro vs19
  simp only [List.take_succ_cons, List.take_zero, List.drop_succ_cons, List.drop_zero]
  replace H := H.drew
  refine t_val (fun w hx => r_move (v := (.int _ _)) rfl) rfl rfl ?_
  refine t_val (fun w hx => r_loadBW tg24 eb7 (Bk.hp hbb7 (H.ext hx)) rfl) rfl rfl ?_
  refine t_val (fun w hx => r_loadBW tg24 eb8 (Bk.hp hbb8 (H.ext hx)) rfl) rfl rfl ?_
  refine t_call (l := [(.int _ _), (.agg (List.toArray _)), (.agg (List.toArray _))]) rfl rfl is25 rfl (fun w hx hF => (mul_c _ _ _ (by first | exact Nat.mod_lt _ two256_pos | exact Mod.lt (mod_modN _) | assumption | exact onceN_lt (by assumption) | exact Nat.lt_trans (Nat.mod_lt _ (mod_modN _).pos) (mod_modN _).lt | exact ofV_lt2 _ _ | exact invV_lt2 _ _ | exact lt_lit (by decide)) (by first | exact Nat.mod_lt _ two256_pos | exact Mod.lt (mod_modN _) | assumption | exact onceN_lt (by assumption) | exact Nat.lt_trans (Nat.mod_lt _ (mod_modN _).pos) (mod_modN _).lt | exact ofV_lt2 _ _ | exact invV_lt2 _ _ | exact lt_lit (by decide)) _).mono (fun _ _ ⟨he, hx⟩ => ⟨he, hx⟩)) ?_
  refine t_val (fun w hx => r_move (v := (.int _ _)) rfl) rfl rfl ?_
  refine t_val (fun w hx => r_loadBW tg24 eb8 (Bk.hp hbb8 (H.ext hx)) rfl) rfl rfl ?_
  refine t_val (fun w hx => r_loadBW tg24 eb9 (Bk.hp hbb9 (H.ext hx)) rfl) rfl rfl ?_
  refine t_call (l := [(.int _ _), (.agg (List.toArray _)), (.agg (List.toArray _))]) rfl rfl is21 rfl (fun w hx hF => (add_c _ _ _ (by first | exact Nat.mod_lt _ two256_pos | exact Mod.lt (mod_modN _) | assumption | exact onceN_lt (by assumption) | exact Nat.lt_trans (Nat.mod_lt _ (mod_modN _).pos) (mod_modN _).lt | exact ofV_lt2 _ _ | exact invV_lt2 _ _ | exact lt_lit (by decide)) (by first | exact Nat.mod_lt _ two256_pos | exact Mod.lt (mod_modN _) | assumption | exact onceN_lt (by assumption) | exact Nat.lt_trans (Nat.mod_lt _ (mod_modN _).pos) (mod_modN _).lt | exact ofV_lt2 _ _ | exact invV_lt2 _ _ | exact lt_lit (by decide)) _).mono (fun _ _ ⟨he, hx⟩ => ⟨he, hx⟩)) ?_
  refine t_alloc rfl rfl tz24 rfl ?_
  refine t_alloc rfl rfl tz24 rfl ?_
  refine t_nil (fun w22 hx hF hA => ?_)
  obtain ⟨b20, eb20, hbb20, hhb20⟩ := fact_rel hF 8 rfl rfl; have hnb20 := HP.neL H hbb20; replace hbb20 := Nat.le_trans H.below.size hbb20
  obtain ⟨b21, eb21, hbb21, hhb21⟩ := fact_rel hF 9 rfl rfl; have hnb21 := HP.neL H hbb21; replace hbb21 := Nat.le_trans H.below.size hbb21
  replace H := H.ext hx
  replace H := HP.push1 H hbb20 hnb20 hhb20
  replace H := HP.push1 H hbb21 ⟨fun e => hA 8 9 (by decide) (by decide) (by decide) rfl rfl (by rw [eb20, eb21]; exact congrArg (fun z => Value.pointer (some ⟨z, 0, none⟩)) e), hnb21⟩ hhb21
  clear hbb20 hnb20 hhb20 hbb21 hnb21 hhb21
  clear hx hF hA
  refine p_storeW tg24 H eb20 (k := 1) rfl rfl rfl rfl rfl ?_; clear H; intro w23 H
  refine p_storeW tg24 H eb21 (k := 0) rfl rfl rfl rfl rfl ?_; clear H; intro w24 H
  refine wpList_nil ?_; refine on_norm ?_
  refine x_norm ?_; refine hK17 _ _ ?_; try clear hK17 K17
  refine wp_seq_k ?_; intro K25 hK25
  refine wp_seq_k ?_; intro K26 hK26
  have hbb21 := HP.bk H (k := 0) rfl
  have hbb20 := HP.bk H (k := 1) rfl
  have hB := H.below; replace E := Ext.trans E hB
  replace hbb9 := Bk.ext hbb9 hB
  replace hbb8 := Bk.ext hbb8 hB
  replace hbb7 := Bk.ext hbb7 hB
  replace hbb3 := Bk.ext hbb3 hB
  clear hB; replace H := HP.restart H
  apply wp_region_ext 56 (kinds [(4, .inl _), (11, .inl _), (18, .inl _), (23, .inl _), (25, .inl _), (34, .inl _), (35, .inl _), (39, .inl _), (46, .inl _), (52, .inl _), (53, .inl _)]) rfl rfl (by kernel_rfl); intro vs28
  simp only [List.take_succ_cons, List.take_zero, List.drop_succ_cons, List.drop_zero]
  replace H := H.drew
  refine t_val (fun w hx => r_loadBW tg24 eb20 (Bk.hp hbb20 (H.ext hx)) rfl) rfl rfl ?_
  refine t_val (fun w hx => r_move (v := (.int _ _)) rfl) rfl rfl ?_
  refine t_val (fun w hx => r_loadBW tg24 eb8 (Bk.hp hbb8 (H.ext hx)) rfl) rfl rfl ?_
  refine t_val (fun w hx => r_loadBW tg24 eb7 (Bk.hp hbb7 (H.ext hx)) rfl) rfl rfl ?_
  refine t_call (l := [(.int _ _), (.agg (List.toArray _)), (.agg (List.toArray _))]) rfl rfl is25 rfl (fun w hx hF => (mul_c _ _ _ (by first | exact Nat.mod_lt _ two256_pos | exact Mod.lt (mod_modN _) | assumption | exact onceN_lt (by assumption) | exact Nat.lt_trans (Nat.mod_lt _ (mod_modN _).pos) (mod_modN _).lt | exact ofV_lt2 _ _ | exact invV_lt2 _ _ | exact lt_lit (by decide)) (by first | exact Nat.mod_lt _ two256_pos | exact Mod.lt (mod_modN _) | assumption | exact onceN_lt (by assumption) | exact Nat.lt_trans (Nat.mod_lt _ (mod_modN _).pos) (mod_modN _).lt | exact ofV_lt2 _ _ | exact invV_lt2 _ _ | exact lt_lit (by decide)) _).mono (fun _ _ ⟨he, hx⟩ => ⟨he, hx⟩)) ?_
  refine t_val (fun w hx => r_nenum (t := false) u24 u22 sz22 ag22 eg24 rfl rfl (by first | exact Nat.mod_lt _ two256_pos | exact Mod.lt (mod_modN _) | assumption | exact onceN_lt (by assumption) | exact Nat.lt_trans (Nat.mod_lt _ (mod_modN _).pos) (mod_modN _).lt | exact ofV_lt2 _ _ | exact invV_lt2 _ _ | exact lt_lit (by decide)) (by first | exact Nat.mod_lt _ two256_pos | exact Mod.lt (mod_modN _) | assumption | exact onceN_lt (by assumption) | exact Nat.lt_trans (Nat.mod_lt _ (mod_modN _).pos) (mod_modN _).lt | exact ofV_lt2 _ _ | exact invV_lt2 _ _ | exact lt_lit (by decide)) (neF (by rw [Nat.mul_comm]))) rfl rfl ?_
  refine t_val (fun w hx => r_move (v := (.bool _)) rfl) rfl rfl ?_
  refine t_valG rfl rfl (fun w hx => r_loadBW tg24 eb21 (Bk.hp hbb21 (H.ext hx)) rfl) rfl rfl ?_
  refine t_valG rfl rfl (fun w hx => r_move (v := (.int _ _)) rfl) rfl rfl ?_
  refine t_valG rfl rfl (fun w hx => r_loadBW tg24 eb9 (Bk.hp hbb9 (H.ext hx)) rfl) rfl rfl ?_
  refine t_valG rfl rfl (fun w hx => r_loadBW tg24 eb8 (Bk.hp hbb8 (H.ext hx)) rfl) rfl rfl ?_
  refine t_callG rfl rfl (l := [(.int _ _), (.agg (List.toArray _)), (.agg (List.toArray _))]) rfl rfl is21 rfl (fun w hx hF => (add_c _ _ _ (by first | exact Nat.mod_lt _ two256_pos | exact Mod.lt (mod_modN _) | assumption | exact onceN_lt (by assumption) | exact Nat.lt_trans (Nat.mod_lt _ (mod_modN _).pos) (mod_modN _).lt | exact ofV_lt2 _ _ | exact invV_lt2 _ _ | exact lt_lit (by decide)) (by first | exact Nat.mod_lt _ two256_pos | exact Mod.lt (mod_modN _) | assumption | exact onceN_lt (by assumption) | exact Nat.lt_trans (Nat.mod_lt _ (mod_modN _).pos) (mod_modN _).lt | exact ofV_lt2 _ _ | exact invV_lt2 _ _ | exact lt_lit (by decide)) _).mono (fun _ _ ⟨he, hx⟩ => ⟨he, hx⟩)) ?_
  refine t_valG rfl rfl (fun w hx => r_nenum (t := false) u24 u22 sz22 ag22 eg24 rfl rfl (by first | exact Nat.mod_lt _ two256_pos | exact Mod.lt (mod_modN _) | assumption | exact onceN_lt (by assumption) | exact Nat.lt_trans (Nat.mod_lt _ (mod_modN _).pos) (mod_modN _).lt | exact ofV_lt2 _ _ | exact invV_lt2 _ _ | exact lt_lit (by decide)) (by first | exact Nat.mod_lt _ two256_pos | exact Mod.lt (mod_modN _) | assumption | exact onceN_lt (by assumption) | exact Nat.lt_trans (Nat.mod_lt _ (mod_modN _).pos) (mod_modN _).lt | exact ofV_lt2 _ _ | exact invV_lt2 _ _ | exact lt_lit (by decide)) (neF (by rw [Nat.add_comm]))) rfl rfl ?_
  refine t_val (fun w hx => r_pickf (v := (.bool _)) rfl rfl rfl) rfl rfl ?_
  refine t_val (fun w hx => r_move (v := (.bool _)) rfl) rfl rfl ?_
  refine t_valG rfl rfl (fun w hx => r_move (v := (.int _ _)) rfl) rfl rfl ?_
  refine t_valG rfl rfl (fun w hx => r_loadBW tg24 eb7 (Bk.hp hbb7 (H.ext hx)) rfl) rfl rfl ?_
  refine t_valG rfl rfl (fun w hx => r_loadBW tg24 eb21 (Bk.hp hbb21 (H.ext hx)) rfl) rfl rfl ?_
  refine t_callG rfl rfl (l := [(.int _ _), (.agg (List.toArray _)), (.agg (List.toArray _))]) rfl rfl is21 rfl (fun w hx hF => (add_c _ _ _ (by first | exact Nat.mod_lt _ two256_pos | exact Mod.lt (mod_modN _) | assumption | exact onceN_lt (by assumption) | exact Nat.lt_trans (Nat.mod_lt _ (mod_modN _).pos) (mod_modN _).lt | exact ofV_lt2 _ _ | exact invV_lt2 _ _ | exact lt_lit (by decide)) (by first | exact Nat.mod_lt _ two256_pos | exact Mod.lt (mod_modN _) | assumption | exact onceN_lt (by assumption) | exact Nat.lt_trans (Nat.mod_lt _ (mod_modN _).pos) (mod_modN _).lt | exact ofV_lt2 _ _ | exact invV_lt2 _ _ | exact lt_lit (by decide)) _).mono (fun _ _ ⟨he, hx⟩ => ⟨he, hx⟩)) ?_
  refine t_valG rfl rfl (fun w hx => r_move (v := (.int _ _)) rfl) rfl rfl ?_
  refine t_valG rfl rfl (fun w hx => r_move (v := (.int _ _)) rfl) rfl rfl ?_
  refine t_valG rfl rfl (fun w hx => r_loadBW tg24 eb7 (Bk.hp hbb7 (H.ext hx)) rfl) rfl rfl ?_
  refine t_valG rfl rfl (fun w hx => r_loadBW tg24 eb8 (Bk.hp hbb8 (H.ext hx)) rfl) rfl rfl ?_
  refine t_callG rfl rfl (l := [(.int _ _), (.agg (List.toArray _)), (.agg (List.toArray _))]) rfl rfl is21 rfl (fun w hx hF => (add_c _ _ _ (by first | exact Nat.mod_lt _ two256_pos | exact Mod.lt (mod_modN _) | assumption | exact onceN_lt (by assumption) | exact Nat.lt_trans (Nat.mod_lt _ (mod_modN _).pos) (mod_modN _).lt | exact ofV_lt2 _ _ | exact invV_lt2 _ _ | exact lt_lit (by decide)) (by first | exact Nat.mod_lt _ two256_pos | exact Mod.lt (mod_modN _) | assumption | exact onceN_lt (by assumption) | exact Nat.lt_trans (Nat.mod_lt _ (mod_modN _).pos) (mod_modN _).lt | exact ofV_lt2 _ _ | exact invV_lt2 _ _ | exact lt_lit (by decide)) _).mono (fun _ _ ⟨he, hx⟩ => ⟨he, hx⟩)) ?_
  refine t_valG rfl rfl (fun w hx => r_loadBW tg24 eb9 (Bk.hp hbb9 (H.ext hx)) rfl) rfl rfl ?_
  refine t_callG rfl rfl (l := [(.int _ _), (.agg (List.toArray _)), (.agg (List.toArray _))]) rfl rfl is21 rfl (fun w hx hF => (add_c _ _ _ (by first | exact Nat.mod_lt _ two256_pos | exact Mod.lt (mod_modN _) | assumption | exact onceN_lt (by assumption) | exact Nat.lt_trans (Nat.mod_lt _ (mod_modN _).pos) (mod_modN _).lt | exact ofV_lt2 _ _ | exact invV_lt2 _ _ | exact lt_lit (by decide)) (by first | exact Nat.mod_lt _ two256_pos | exact Mod.lt (mod_modN _) | assumption | exact onceN_lt (by assumption) | exact Nat.lt_trans (Nat.mod_lt _ (mod_modN _).pos) (mod_modN _).lt | exact ofV_lt2 _ _ | exact invV_lt2 _ _ | exact lt_lit (by decide)) _).mono (fun _ _ ⟨he, hx⟩ => ⟨he, hx⟩)) ?_
  refine t_valG rfl rfl (fun w hx => r_nenum (t := false) u24 u22 sz22 ag22 eg24 rfl rfl (by first | exact Nat.mod_lt _ two256_pos | exact Mod.lt (mod_modN _) | assumption | exact onceN_lt (by assumption) | exact Nat.lt_trans (Nat.mod_lt _ (mod_modN _).pos) (mod_modN _).lt | exact ofV_lt2 _ _ | exact invV_lt2 _ _ | exact lt_lit (by decide)) (by first | exact Nat.mod_lt _ two256_pos | exact Mod.lt (mod_modN _) | assumption | exact onceN_lt (by assumption) | exact Nat.lt_trans (Nat.mod_lt _ (mod_modN _).pos) (mod_modN _).lt | exact ofV_lt2 _ _ | exact invV_lt2 _ _ | exact lt_lit (by decide)) (neF (ring_addA _ _ _ _))) rfl rfl ?_
  refine t_val (fun w hx => r_pickf (v := (.bool _)) rfl rfl rfl) rfl rfl ?_
  refine t_val (fun w hx => r_move (v := (.bool _)) rfl) rfl rfl ?_
  refine t_valG rfl rfl (fun w hx => r_move (v := (.int _ _)) rfl) rfl rfl ?_
  refine t_valG rfl rfl (fun w hx => r_loadBW tg24 eb7 (Bk.hp hbb7 (H.ext hx)) rfl) rfl rfl ?_
  refine t_valG rfl rfl (fun w hx => r_move (v := (.int _ _)) rfl) rfl rfl ?_
  refine t_valG rfl rfl (fun w hx => r_loadBW tg24 eb8 (Bk.hp hbb8 (H.ext hx)) rfl) rfl rfl ?_
  refine t_valG rfl rfl (fun w hx => r_loadBW tg24 eb9 (Bk.hp hbb9 (H.ext hx)) rfl) rfl rfl ?_
  refine t_callG rfl rfl (l := [(.int _ _), (.agg (List.toArray _)), (.agg (List.toArray _))]) rfl rfl is25 rfl (fun w hx hF => (mul_c _ _ _ (by first | exact Nat.mod_lt _ two256_pos | exact Mod.lt (mod_modN _) | assumption | exact onceN_lt (by assumption) | exact Nat.lt_trans (Nat.mod_lt _ (mod_modN _).pos) (mod_modN _).lt | exact ofV_lt2 _ _ | exact invV_lt2 _ _ | exact lt_lit (by decide)) (by first | exact Nat.mod_lt _ two256_pos | exact Mod.lt (mod_modN _) | assumption | exact onceN_lt (by assumption) | exact Nat.lt_trans (Nat.mod_lt _ (mod_modN _).pos) (mod_modN _).lt | exact ofV_lt2 _ _ | exact invV_lt2 _ _ | exact lt_lit (by decide)) _).mono (fun _ _ ⟨he, hx⟩ => ⟨he, hx⟩)) ?_
  refine t_callG rfl rfl (l := [(.int _ _), (.agg (List.toArray _)), (.agg (List.toArray _))]) rfl rfl is25 rfl (fun w hx hF => (mul_c _ _ _ (by first | exact Nat.mod_lt _ two256_pos | exact Mod.lt (mod_modN _) | assumption | exact onceN_lt (by assumption) | exact Nat.lt_trans (Nat.mod_lt _ (mod_modN _).pos) (mod_modN _).lt | exact ofV_lt2 _ _ | exact invV_lt2 _ _ | exact lt_lit (by decide)) (by first | exact Nat.mod_lt _ two256_pos | exact Mod.lt (mod_modN _) | assumption | exact onceN_lt (by assumption) | exact Nat.lt_trans (Nat.mod_lt _ (mod_modN _).pos) (mod_modN _).lt | exact ofV_lt2 _ _ | exact invV_lt2 _ _ | exact lt_lit (by decide)) _).mono (fun _ _ ⟨he, hx⟩ => ⟨he, hx⟩)) ?_
  refine t_valG rfl rfl (fun w hx => r_move (v := (.int _ _)) rfl) rfl rfl ?_
  refine t_valG rfl rfl (fun w hx => r_loadBW tg24 eb20 (Bk.hp hbb20 (H.ext hx)) rfl) rfl rfl ?_
  refine t_valG rfl rfl (fun w hx => r_loadBW tg24 eb9 (Bk.hp hbb9 (H.ext hx)) rfl) rfl rfl ?_
  refine t_callG rfl rfl (l := [(.int _ _), (.agg (List.toArray _)), (.agg (List.toArray _))]) rfl rfl is25 rfl (fun w hx hF => (mul_c _ _ _ (by first | exact Nat.mod_lt _ two256_pos | exact Mod.lt (mod_modN _) | assumption | exact onceN_lt (by assumption) | exact Nat.lt_trans (Nat.mod_lt _ (mod_modN _).pos) (mod_modN _).lt | exact ofV_lt2 _ _ | exact invV_lt2 _ _ | exact lt_lit (by decide)) (by first | exact Nat.mod_lt _ two256_pos | exact Mod.lt (mod_modN _) | assumption | exact onceN_lt (by assumption) | exact Nat.lt_trans (Nat.mod_lt _ (mod_modN _).pos) (mod_modN _).lt | exact ofV_lt2 _ _ | exact invV_lt2 _ _ | exact lt_lit (by decide)) _).mono (fun _ _ ⟨he, hx⟩ => ⟨he, hx⟩)) ?_
  refine t_valG rfl rfl (fun w hx => r_nenum (t := false) u24 u22 sz22 ag22 eg24 rfl rfl (by first | exact Nat.mod_lt _ two256_pos | exact Mod.lt (mod_modN _) | assumption | exact onceN_lt (by assumption) | exact Nat.lt_trans (Nat.mod_lt _ (mod_modN _).pos) (mod_modN _).lt | exact ofV_lt2 _ _ | exact invV_lt2 _ _ | exact lt_lit (by decide)) (by first | exact Nat.mod_lt _ two256_pos | exact Mod.lt (mod_modN _) | assumption | exact onceN_lt (by assumption) | exact Nat.lt_trans (Nat.mod_lt _ (mod_modN _).pos) (mod_modN _).lt | exact ofV_lt2 _ _ | exact invV_lt2 _ _ | exact lt_lit (by decide)) (neF (ring_mulA _ _ _ _))) rfl rfl ?_
  refine t_val (fun w hx => r_pickf (v := (.bool _)) rfl rfl rfl) rfl rfl ?_
  refine t_val (fun w hx => r_move (v := (.bool _)) rfl) rfl rfl ?_
  refine t_valG rfl rfl (fun w hx => r_move (v := (.int _ _)) rfl) rfl rfl ?_
  refine t_valG rfl rfl (fun w hx => r_loadBW tg24 eb7 (Bk.hp hbb7 (H.ext hx)) rfl) rfl rfl ?_
  refine t_valG rfl rfl (fun w hx => r_loadBW tg24 eb21 (Bk.hp hbb21 (H.ext hx)) rfl) rfl rfl ?_
  refine t_callG rfl rfl (l := [(.int _ _), (.agg (List.toArray _)), (.agg (List.toArray _))]) rfl rfl is25 rfl (fun w hx hF => (mul_c _ _ _ (by first | exact Nat.mod_lt _ two256_pos | exact Mod.lt (mod_modN _) | assumption | exact onceN_lt (by assumption) | exact Nat.lt_trans (Nat.mod_lt _ (mod_modN _).pos) (mod_modN _).lt | exact ofV_lt2 _ _ | exact invV_lt2 _ _ | exact lt_lit (by decide)) (by first | exact Nat.mod_lt _ two256_pos | exact Mod.lt (mod_modN _) | assumption | exact onceN_lt (by assumption) | exact Nat.lt_trans (Nat.mod_lt _ (mod_modN _).pos) (mod_modN _).lt | exact ofV_lt2 _ _ | exact invV_lt2 _ _ | exact lt_lit (by decide)) _).mono (fun _ _ ⟨he, hx⟩ => ⟨he, hx⟩)) ?_
  refine t_valG rfl rfl (fun w hx => r_move (v := (.int _ _)) rfl) rfl rfl ?_
  refine t_valG rfl rfl (fun w hx => r_loadBW tg24 eb20 (Bk.hp hbb20 (H.ext hx)) rfl) rfl rfl ?_
  refine t_valG rfl rfl (fun w hx => r_move (v := (.int _ _)) rfl) rfl rfl ?_
  refine t_valG rfl rfl (fun w hx => r_loadBW tg24 eb7 (Bk.hp hbb7 (H.ext hx)) rfl) rfl rfl ?_
  refine t_valG rfl rfl (fun w hx => r_loadBW tg24 eb9 (Bk.hp hbb9 (H.ext hx)) rfl) rfl rfl ?_
  refine t_callG rfl rfl (l := [(.int _ _), (.agg (List.toArray _)), (.agg (List.toArray _))]) rfl rfl is25 rfl (fun w hx hF => (mul_c _ _ _ (by first | exact Nat.mod_lt _ two256_pos | exact Mod.lt (mod_modN _) | assumption | exact onceN_lt (by assumption) | exact Nat.lt_trans (Nat.mod_lt _ (mod_modN _).pos) (mod_modN _).lt | exact ofV_lt2 _ _ | exact invV_lt2 _ _ | exact lt_lit (by decide)) (by first | exact Nat.mod_lt _ two256_pos | exact Mod.lt (mod_modN _) | assumption | exact onceN_lt (by assumption) | exact Nat.lt_trans (Nat.mod_lt _ (mod_modN _).pos) (mod_modN _).lt | exact ofV_lt2 _ _ | exact invV_lt2 _ _ | exact lt_lit (by decide)) _).mono (fun _ _ ⟨he, hx⟩ => ⟨he, hx⟩)) ?_
  refine t_callG rfl rfl (l := [(.int _ _), (.agg (List.toArray _)), (.agg (List.toArray _))]) rfl rfl is21 rfl (fun w hx hF => (add_c _ _ _ (by first | exact Nat.mod_lt _ two256_pos | exact Mod.lt (mod_modN _) | assumption | exact onceN_lt (by assumption) | exact Nat.lt_trans (Nat.mod_lt _ (mod_modN _).pos) (mod_modN _).lt | exact ofV_lt2 _ _ | exact invV_lt2 _ _ | exact lt_lit (by decide)) (by first | exact Nat.mod_lt _ two256_pos | exact Mod.lt (mod_modN _) | assumption | exact onceN_lt (by assumption) | exact Nat.lt_trans (Nat.mod_lt _ (mod_modN _).pos) (mod_modN _).lt | exact ofV_lt2 _ _ | exact invV_lt2 _ _ | exact lt_lit (by decide)) _).mono (fun _ _ ⟨he, hx⟩ => ⟨he, hx⟩)) ?_
  refine t_valG rfl rfl (fun w hx => r_nenum (t := false) u24 u22 sz22 ag22 eg24 rfl rfl (by first | exact Nat.mod_lt _ two256_pos | exact Mod.lt (mod_modN _) | assumption | exact onceN_lt (by assumption) | exact Nat.lt_trans (Nat.mod_lt _ (mod_modN _).pos) (mod_modN _).lt | exact ofV_lt2 _ _ | exact invV_lt2 _ _ | exact lt_lit (by decide)) (by first | exact Nat.mod_lt _ two256_pos | exact Mod.lt (mod_modN _) | assumption | exact onceN_lt (by assumption) | exact Nat.lt_trans (Nat.mod_lt _ (mod_modN _).pos) (mod_modN _).lt | exact ofV_lt2 _ _ | exact invV_lt2 _ _ | exact lt_lit (by decide)) (neF (ring_dist _ _ _ _))) rfl rfl ?_
  refine t_val (fun w hx => r_pickf (v := (.bool _)) rfl rfl rfl) rfl rfl ?_
  refine t_nil (fun w29 hx hF hA => ?_)
  replace H := H.ext hx
  clear hx hF hA
  refine wpList_nil ?_; refine on_norm ?_
  refine x_norm ?_; refine hK26 _ _ ?_; try clear hK26 K26
  refine c_false rfl rfl ?_
  refine wp_skip ?_
  refine x_norm ?_; refine hK25 _ _ ?_; try clear hK25 K25
  refine wp_seq_k ?_; intro K30 hK30
  refine wp_region_lit ?_
  refine p_val (r_move (v := (.int _ _)) rfl) ?_
  refine p_val (r_loadBW tg24 eb7 (Bk.hp hbb7 H) rfl) ?_
  refine p_val (r_as (l' := numL 0) (r_build (vals := []) (l := [_, _, _, _]) tb24 rfl rfl) (num_0)) ?_
  refine p_call (l := [(.int _ _), (.agg (List.toArray _)), (.agg (List.toArray _))]) is21 rfl ?_
  refine (add_c _ _ _ (by first | exact Nat.mod_lt _ two256_pos | exact Mod.lt (mod_modN _) | assumption | exact onceN_lt (by assumption) | exact Nat.lt_trans (Nat.mod_lt _ (mod_modN _).pos) (mod_modN _).lt | exact ofV_lt2 _ _ | exact invV_lt2 _ _ | exact lt_lit (by decide)) (by first | exact Nat.mod_lt _ two256_pos | exact Mod.lt (mod_modN _) | assumption | exact onceN_lt (by assumption) | exact Nat.lt_trans (Nat.mod_lt _ (mod_modN _).pos) (mod_modN _).lt | exact ofV_lt2 _ _ | exact invV_lt2 _ _ | exact lt_lit (by decide)) _).mono ?_; rintro _ w31 ⟨rfl, hx⟩; replace H := H.ext hx; clear hx
  refine p_alloc (l := [.int .u64 0, .int .u64 0, .int .u64 0, .int .u64 0]) H tz24 rfl ?_; clear H; intro w33 b32 H
  refine p_storeW tg24 H rfl (k := 0) rfl rfl rfl rfl rfl ?_; clear H; intro w34 H
  refine wpList_nil ?_
  refine x_norm ?_; refine hK30 _ _ ?_; try clear hK30 K30
  refine wp_seq_k ?_; intro K35 hK35
  refine wp_seq_k ?_; intro K36 hK36
  have hbb32 := HP.bk H (k := 0) rfl
  have hB := H.below; replace E := Ext.trans E hB
  replace hbb9 := Bk.ext hbb9 hB
  replace hbb8 := Bk.ext hbb8 hB
  replace hbb7 := Bk.ext hbb7 hB
  replace hbb3 := Bk.ext hbb3 hB
  replace hbb21 := Bk.ext hbb21 hB
  replace hbb20 := Bk.ext hbb20 hB
  clear hB; replace H := HP.restart H
  apply wp_region_ext 35 (kinds [(4, .inl _), (6, .inl _), (14, .inl _), (15, .inl _), (23, .inl _), (31, .inl _)]) rfl rfl (by kernel_rfl); intro vs38
  simp only [List.take_succ_cons, List.take_zero, List.drop_succ_cons, List.drop_zero]
  replace H := H.drew
  refine t_val (fun w hx => r_move (v := (.int _ _)) rfl) rfl rfl ?_
  refine t_val (fun w hx => r_move (v := (.int _ _)) rfl) rfl rfl ?_
  refine t_val (fun w hx => r_loadBW tg24 eb7 (Bk.hp hbb7 (H.ext hx)) rfl) rfl rfl ?_
  refine t_val (fun w hx => r_loadBW tg24 eb8 (Bk.hp hbb8 (H.ext hx)) rfl) rfl rfl ?_
  refine t_call (l := [(.int _ _), (.agg (List.toArray _)), (.agg (List.toArray _))]) rfl rfl is21 rfl (fun w hx hF => (add_c _ _ _ (by first | exact Nat.mod_lt _ two256_pos | exact Mod.lt (mod_modN _) | assumption | exact onceN_lt (by assumption) | exact Nat.lt_trans (Nat.mod_lt _ (mod_modN _).pos) (mod_modN _).lt | exact ofV_lt2 _ _ | exact invV_lt2 _ _ | exact lt_lit (by decide)) (by first | exact Nat.mod_lt _ two256_pos | exact Mod.lt (mod_modN _) | assumption | exact onceN_lt (by assumption) | exact Nat.lt_trans (Nat.mod_lt _ (mod_modN _).pos) (mod_modN _).lt | exact ofV_lt2 _ _ | exact invV_lt2 _ _ | exact lt_lit (by decide)) _).mono (fun _ _ ⟨he, hx⟩ => ⟨he, hx⟩)) ?_
  refine t_val (fun w hx => r_loadBW tg24 eb8 (Bk.hp hbb8 (H.ext hx)) rfl) rfl rfl ?_
  refine t_call (l := [(.int _ _), (.agg (List.toArray _)), (.agg (List.toArray _))]) rfl rfl is23 rfl (fun w hx hF => (sub_c _ _ _ (by first | exact Nat.mod_lt _ two256_pos | exact Mod.lt (mod_modN _) | assumption | exact onceN_lt (by assumption) | exact Nat.lt_trans (Nat.mod_lt _ (mod_modN _).pos) (mod_modN _).lt | exact ofV_lt2 _ _ | exact invV_lt2 _ _ | exact lt_lit (by decide)) (by first | exact Nat.mod_lt _ two256_pos | exact Mod.lt (mod_modN _) | assumption | exact onceN_lt (by assumption) | exact Nat.lt_trans (Nat.mod_lt _ (mod_modN _).pos) (mod_modN _).lt | exact ofV_lt2 _ _ | exact invV_lt2 _ _ | exact lt_lit (by decide)) _).mono (fun _ _ ⟨he, hx⟩ => ⟨he, hx⟩)) ?_
  refine t_val (fun w hx => r_loadBW tg24 rfl (Bk.hp hbb32 (H.ext hx)) rfl) rfl rfl ?_
  refine t_val (fun w hx => r_nenum (t := false) u24 u22 sz22 ag22 eg24 rfl rfl (by first | exact Nat.mod_lt _ two256_pos | exact Mod.lt (mod_modN _) | assumption | exact onceN_lt (by assumption) | exact Nat.lt_trans (Nat.mod_lt _ (mod_modN _).pos) (mod_modN _).lt | exact ofV_lt2 _ _ | exact invV_lt2 _ _ | exact lt_lit (by decide)) (by first | exact Nat.mod_lt _ two256_pos | exact Mod.lt (mod_modN _) | assumption | exact onceN_lt (by assumption) | exact Nat.lt_trans (Nat.mod_lt _ (mod_modN _).pos) (mod_modN _).lt | exact ofV_lt2 _ _ | exact invV_lt2 _ _ | exact lt_lit (by decide)) (neF (ring_sub hp))) rfl rfl ?_
  refine t_val (fun w hx => r_move (v := (.bool _)) rfl) rfl rfl ?_
  refine t_valG rfl rfl (fun w hx => r_move (v := (.int _ _)) rfl) rfl rfl ?_
  refine t_valG rfl rfl (fun w hx => r_loadBW tg24 eb7 (Bk.hp hbb7 (H.ext hx)) rfl) rfl rfl ?_
  refine t_valG rfl rfl (fun w hx => r_move (v := (.int _ _)) rfl) rfl rfl ?_
  refine t_valG rfl rfl (fun w hx => r_loadBW tg24 eb7 (Bk.hp hbb7 (H.ext hx)) rfl) rfl rfl ?_
  refine t_callG rfl rfl (l := [(.int _ _), (.agg (List.toArray _))]) rfl rfl is27 rfl (fun w hx hF => (neg_c _ _ (by first | exact Nat.mod_lt _ two256_pos | exact Mod.lt (mod_modN _) | assumption | exact onceN_lt (by assumption) | exact Nat.lt_trans (Nat.mod_lt _ (mod_modN _).pos) (mod_modN _).lt | exact ofV_lt2 _ _ | exact invV_lt2 _ _ | exact lt_lit (by decide)) _).mono (fun _ _ ⟨he, hx⟩ => ⟨he, hx⟩)) ?_
  refine t_callG rfl rfl (l := [(.int _ _), (.agg (List.toArray _)), (.agg (List.toArray _))]) rfl rfl is21 rfl (fun w hx hF => (add_c _ _ _ (by first | exact Nat.mod_lt _ two256_pos | exact Mod.lt (mod_modN _) | assumption | exact onceN_lt (by assumption) | exact Nat.lt_trans (Nat.mod_lt _ (mod_modN _).pos) (mod_modN _).lt | exact ofV_lt2 _ _ | exact invV_lt2 _ _ | exact lt_lit (by decide)) (by first | exact Nat.mod_lt _ two256_pos | exact Mod.lt (mod_modN _) | assumption | exact onceN_lt (by assumption) | exact Nat.lt_trans (Nat.mod_lt _ (mod_modN _).pos) (mod_modN _).lt | exact ofV_lt2 _ _ | exact invV_lt2 _ _ | exact lt_lit (by decide)) _).mono (fun _ _ ⟨he, hx⟩ => ⟨he, hx⟩)) ?_
  refine t_valG rfl rfl (fun w hx => r_as (l' := numL 0) (r_build (vals := []) (l := [_, _, _, _]) tb24 rfl rfl) (num_0)) rfl rfl ?_
  refine t_valG rfl rfl (fun w hx => r_nenum (t := false) u24 u22 sz22 ag22 eg24 rfl rfl (by first | exact Nat.mod_lt _ two256_pos | exact Mod.lt (mod_modN _) | assumption | exact onceN_lt (by assumption) | exact Nat.lt_trans (Nat.mod_lt _ (mod_modN _).pos) (mod_modN _).lt | exact ofV_lt2 _ _ | exact invV_lt2 _ _ | exact lt_lit (by decide)) (by first | exact Nat.mod_lt _ two256_pos | exact Mod.lt (mod_modN _) | assumption | exact onceN_lt (by assumption) | exact Nat.lt_trans (Nat.mod_lt _ (mod_modN _).pos) (mod_modN _).lt | exact ofV_lt2 _ _ | exact invV_lt2 _ _ | exact lt_lit (by decide)) (neF (ring_neg hp))) rfl rfl ?_
  refine t_val (fun w hx => r_pickf (v := (.bool _)) rfl rfl rfl) rfl rfl ?_
  refine t_val (fun w hx => r_move (v := (.bool _)) rfl) rfl rfl ?_
  refine t_valG rfl rfl (fun w hx => r_move (v := (.int _ _)) rfl) rfl rfl ?_
  refine t_valG rfl rfl (fun w hx => r_loadBW tg24 eb7 (Bk.hp hbb7 (H.ext hx)) rfl) rfl rfl ?_
  refine t_valG rfl rfl (fun w hx => r_as (l' := numL 1) (r_build (vals := [(0, (.int _ _))]) (l := [_, _, _, _]) tb24 rfl rfl) (num_lit 1 (by decide))) rfl rfl ?_
  refine t_callG rfl rfl (l := [(.int _ _), (.agg (List.toArray _)), (.agg (List.toArray _))]) rfl rfl is25 rfl (fun w hx hF => (mul_c _ _ _ (by first | exact Nat.mod_lt _ two256_pos | exact Mod.lt (mod_modN _) | assumption | exact onceN_lt (by assumption) | exact Nat.lt_trans (Nat.mod_lt _ (mod_modN _).pos) (mod_modN _).lt | exact ofV_lt2 _ _ | exact invV_lt2 _ _ | exact lt_lit (by decide)) (by first | exact Nat.mod_lt _ two256_pos | exact Mod.lt (mod_modN _) | assumption | exact onceN_lt (by assumption) | exact Nat.lt_trans (Nat.mod_lt _ (mod_modN _).pos) (mod_modN _).lt | exact ofV_lt2 _ _ | exact invV_lt2 _ _ | exact lt_lit (by decide)) _).mono (fun _ _ ⟨he, hx⟩ => ⟨he, hx⟩)) ?_
  refine t_valG rfl rfl (fun w hx => r_loadBW tg24 rfl (Bk.hp hbb32 (H.ext hx)) rfl) rfl rfl ?_
  refine t_valG rfl rfl (fun w hx => r_nenum (t := false) u24 u22 sz22 ag22 eg24 rfl rfl (by first | exact Nat.mod_lt _ two256_pos | exact Mod.lt (mod_modN _) | assumption | exact onceN_lt (by assumption) | exact Nat.lt_trans (Nat.mod_lt _ (mod_modN _).pos) (mod_modN _).lt | exact ofV_lt2 _ _ | exact invV_lt2 _ _ | exact lt_lit (by decide)) (by first | exact Nat.mod_lt _ two256_pos | exact Mod.lt (mod_modN _) | assumption | exact onceN_lt (by assumption) | exact Nat.lt_trans (Nat.mod_lt _ (mod_modN _).pos) (mod_modN _).lt | exact ofV_lt2 _ _ | exact invV_lt2 _ _ | exact lt_lit (by decide)) (neF (ring_one _ _))) rfl rfl ?_
  refine t_val (fun w hx => r_pickf (v := (.bool _)) rfl rfl rfl) rfl rfl ?_
  refine t_val (fun w hx => r_move (v := (.bool _)) rfl) rfl rfl ?_
  refine t_valG rfl rfl (fun w hx => r_move (v := (.int _ _)) rfl) rfl rfl ?_
  refine t_valG rfl rfl (fun w hx => r_loadBW tg24 eb7 (Bk.hp hbb7 (H.ext hx)) rfl) rfl rfl ?_
  refine t_valG rfl rfl (fun w hx => r_as (l' := numL 0) (r_build (vals := []) (l := [_, _, _, _]) tb24 rfl rfl) (num_0)) rfl rfl ?_
  refine t_callG rfl rfl (l := [(.int _ _), (.agg (List.toArray _)), (.agg (List.toArray _))]) rfl rfl is25 rfl (fun w hx hF => (mul_c _ _ _ (by first | exact Nat.mod_lt _ two256_pos | exact Mod.lt (mod_modN _) | assumption | exact onceN_lt (by assumption) | exact Nat.lt_trans (Nat.mod_lt _ (mod_modN _).pos) (mod_modN _).lt | exact ofV_lt2 _ _ | exact invV_lt2 _ _ | exact lt_lit (by decide)) (by first | exact Nat.mod_lt _ two256_pos | exact Mod.lt (mod_modN _) | assumption | exact onceN_lt (by assumption) | exact Nat.lt_trans (Nat.mod_lt _ (mod_modN _).pos) (mod_modN _).lt | exact ofV_lt2 _ _ | exact invV_lt2 _ _ | exact lt_lit (by decide)) _).mono (fun _ _ ⟨he, hx⟩ => ⟨he, hx⟩)) ?_
  refine t_valG rfl rfl (fun w hx => r_as (l' := numL 0) (r_build (vals := []) (l := [_, _, _, _]) tb24 rfl rfl) (num_0)) rfl rfl ?_
  refine t_valG rfl rfl (fun w hx => r_nenum (t := false) u24 u22 sz22 ag22 eg24 rfl rfl (by first | exact Nat.mod_lt _ two256_pos | exact Mod.lt (mod_modN _) | assumption | exact onceN_lt (by assumption) | exact Nat.lt_trans (Nat.mod_lt _ (mod_modN _).pos) (mod_modN _).lt | exact ofV_lt2 _ _ | exact invV_lt2 _ _ | exact lt_lit (by decide)) (by first | exact Nat.mod_lt _ two256_pos | exact Mod.lt (mod_modN _) | assumption | exact onceN_lt (by assumption) | exact Nat.lt_trans (Nat.mod_lt _ (mod_modN _).pos) (mod_modN _).lt | exact ofV_lt2 _ _ | exact invV_lt2 _ _ | exact lt_lit (by decide)) (neF (by rw [Nat.mul_zero, Nat.zero_mod]))) rfl rfl ?_
  refine t_val (fun w hx => r_pickf (v := (.bool _)) rfl rfl rfl) rfl rfl ?_
  refine t_nil (fun w39 hx hF hA => ?_)
  replace H := H.ext hx
  clear hx hF hA
  refine wpList_nil ?_; refine on_norm ?_
  refine x_norm ?_; refine hK36 _ _ ?_; try clear hK36 K36
  refine c_false rfl rfl ?_
  refine wp_skip ?_
  refine x_norm ?_; refine hK35 _ _ ?_; try clear hK35 K35
  refine wp_seq_k ?_; intro K40 hK40
  refine wp_region_lit ?_
  refine p_val (r_move (v := (.int _ _)) rfl) ?_
  refine p_val (r_loadBW tg24 eb7 (Bk.hp hbb7 H) rfl) ?_
  refine p_call (l := [(.int _ _), (.agg (List.toArray _))]) is28 rfl ?_
  refine (inv_c _ _ (by first | exact Nat.mod_lt _ two256_pos | exact Mod.lt (mod_modN _) | assumption | exact onceN_lt (by assumption) | exact Nat.lt_trans (Nat.mod_lt _ (mod_modN _).pos) (mod_modN _).lt | exact ofV_lt2 _ _ | exact invV_lt2 _ _ | exact lt_lit (by decide)) _).mono ?_; rintro _ w41 ⟨rfl, hx⟩; replace H := H.ext hx; clear hx
  refine p_val (r_move (v := (.tuple _)) rfl) ?_
  refine p_val (r_extract (v := (.agg (List.toArray _))) rfl rfl) ?_
  refine p_val (r_extract (v := (.int _ _)) rfl rfl) ?_
  refine p_alloc (l := [.int .u64 0, .int .u64 0, .int .u64 0, .int .u64 0]) H tz24 rfl ?_; clear H; intro w43 b42 H
  refine p_storeW tg24 H rfl (k := 0) rfl rfl rfl rfl rfl ?_; clear H; intro w44 H
  refine p_val (r_assign (v := (.int _ _)) rfl) ?_
  refine wpList_nil ?_
  refine x_norm ?_; refine hK40 _ _ ?_; try clear hK40 K40
  refine wp_seq_k ?_; intro K45 hK45
  refine wp_seq_k ?_; intro K46 hK46
  have hbb42 := HP.bk H (k := 0) rfl
  have hB := H.below; replace E := Ext.trans E hB
  replace hbb9 := Bk.ext hbb9 hB
  replace hbb8 := Bk.ext hbb8 hB
  replace hbb7 := Bk.ext hbb7 hB
  replace hbb3 := Bk.ext hbb3 hB
  replace hbb21 := Bk.ext hbb21 hB
  replace hbb20 := Bk.ext hbb20 hB
  replace hbb32 := Bk.ext hbb32 hB
  clear hB; replace H := HP.restart H
  rcases Bool.eq_false_or_eq_true (decide (A % modN m = 0)) with hc | hc
  · skip
    have h0 : A % modN m = 0 := of_decide_eq_true hc
    have hi := inv_t h0
    have hB := H.below; replace E := Ext.trans E hB
    replace hbb9 := Bk.ext hbb9 hB
    replace hbb8 := Bk.ext hbb8 hB
    replace hbb7 := Bk.ext hbb7 hB
    replace hbb3 := Bk.ext hbb3 hB
    replace hbb21 := Bk.ext hbb21 hB
    replace hbb20 := Bk.ext hbb20 hB
    replace hbb32 := Bk.ext hbb32 hB
    replace hbb42 := Bk.ext hbb42 hB
    clear hB; replace H := HP.restart H
    refine wp_region_lit ?_
    refine p_val (r_loadBW tg24 rfl (Bk.hp hbb32 H) rfl) ?_
    refine p_val (r_as (l' := numL 0) (r_build (vals := []) (l := [_, _, _, _]) tb24 rfl rfl) (num_0)) ?_
    refine p_val (r_eqnum (t := true) u24 u22 sz22 ag22 eg24 rfl rfl (by first | exact Nat.mod_lt _ two256_pos | exact Mod.lt (mod_modN _) | assumption | exact onceN_lt (by assumption) | exact Nat.lt_trans (Nat.mod_lt _ (mod_modN _).pos) (mod_modN _).lt | exact ofV_lt2 _ _ | exact invV_lt2 _ _ | exact lt_lit (by decide)) (by first | exact Nat.mod_lt _ two256_pos | exact Mod.lt (mod_modN _) | assumption | exact onceN_lt (by assumption) | exact Nat.lt_trans (Nat.mod_lt _ (mod_modN _).pos) (mod_modN _).lt | exact ofV_lt2 _ _ | exact invV_lt2 _ _ | exact lt_lit (by decide)) (eqT (by rw [Nat.add_zero]; exact h0))) ?_
    refine wpList_nil ?_
    refine x_norm ?_; refine hK46 _ _ ?_; try clear hK46 K46
    refine c_true rfl rfl ?_
    refine wp_seq_k ?_; intro K47 hK47
    refine wp_region_lit ?_
    refine p_val (r_move (v := (.int _ _)) rfl) ?_
    refine p_val (r_eql (t := true) rfl rfl (by rw [hi.2]; rfl)) ?_
    refine p_val (r_assign (v := (.bool _)) rfl) ?_
    refine wpList_nil ?_
    refine x_norm ?_; refine hK47 _ _ ?_; try clear hK47 K47
    refine wp_ret ?_
    refine x_ret ?_
    refine e_1 rfl (q_tmp (v := (.bool _)) rfl) ?_
    exact ⟨rfl, E.trans H.below⟩
  · skip
    have h0 : A % modN m ≠ 0 := of_decide_eq_false hc
    have hi := inv_f h0
    have hB := H.below; replace E := Ext.trans E hB
    replace hbb9 := Bk.ext hbb9 hB
    replace hbb8 := Bk.ext hbb8 hB
    replace hbb7 := Bk.ext hbb7 hB
    replace hbb3 := Bk.ext hbb3 hB
    replace hbb21 := Bk.ext hbb21 hB
    replace hbb20 := Bk.ext hbb20 hB
    replace hbb32 := Bk.ext hbb32 hB
    replace hbb42 := Bk.ext hbb42 hB
    clear hB; replace H := HP.restart H
    refine wp_region_lit ?_
    refine p_val (r_loadBW tg24 rfl (Bk.hp hbb32 H) rfl) ?_
    refine p_val (r_as (l' := numL 0) (r_build (vals := []) (l := [_, _, _, _]) tb24 rfl rfl) (num_0)) ?_
    refine p_val (r_eqnum (t := false) u24 u22 sz22 ag22 eg24 rfl rfl (by first | exact Nat.mod_lt _ two256_pos | exact Mod.lt (mod_modN _) | assumption | exact onceN_lt (by assumption) | exact Nat.lt_trans (Nat.mod_lt _ (mod_modN _).pos) (mod_modN _).lt | exact ofV_lt2 _ _ | exact invV_lt2 _ _ | exact lt_lit (by decide)) (by first | exact Nat.mod_lt _ two256_pos | exact Mod.lt (mod_modN _) | assumption | exact onceN_lt (by assumption) | exact Nat.lt_trans (Nat.mod_lt _ (mod_modN _).pos) (mod_modN _).lt | exact ofV_lt2 _ _ | exact invV_lt2 _ _ | exact lt_lit (by decide)) (by rw [Nat.add_zero]; exact beq_false_of_ne h0)) ?_
    refine wpList_nil ?_
    refine x_norm ?_; refine hK46 _ _ ?_; try clear hK46 K46
    refine c_false rfl rfl ?_
    refine wp_skip ?_
    refine x_norm ?_; refine hK45 _ _ ?_; try clear hK45 K45
    refine wp_seq_k ?_; intro K48 hK48
    rcases Bool.eq_false_or_eq_true ((A * B % modN m != 1)) with hd | hd
    · skip
      apply wp_region_ext 27 (kinds [(6, .inl _), (14, .inl _)]) rfl rfl (by kernel_rfl); intro vs50
      simp only [List.take_succ_cons, List.take_zero, List.drop_succ_cons, List.drop_zero]
      replace H := H.drew
      refine t_val (fun w hx => r_move (v := (.int _ _)) rfl) rfl rfl ?_
      refine t_val (fun w hx => r_eql (t := true) rfl rfl (by rw [hi.2]; rfl)) rfl rfl ?_
      refine t_val (fun w hx => r_move (v := (.bool _)) rfl) rfl rfl ?_
      refine t_valG rfl rfl (fun w hx => r_move (v := (.int _ _)) rfl) rfl rfl ?_
      refine t_valG rfl rfl (fun w hx => r_loadBW tg24 eb7 (Bk.hp hbb7 (H.ext hx)) rfl) rfl rfl ?_
      refine t_valG rfl rfl (fun w hx => r_loadBW tg24 rfl (Bk.hp hbb42 (H.ext hx)) rfl) rfl rfl ?_
      refine t_callG rfl rfl (l := [(.int _ _), (.agg (List.toArray _)), (.agg (List.toArray _))]) rfl rfl is25 rfl (fun w hx hF => (mul_c _ _ _ (by first | exact Nat.mod_lt _ two256_pos | exact Mod.lt (mod_modN _) | assumption | exact onceN_lt (by assumption) | exact Nat.lt_trans (Nat.mod_lt _ (mod_modN _).pos) (mod_modN _).lt | exact ofV_lt2 _ _ | exact invV_lt2 _ _ | exact lt_lit (by decide)) (by first | exact Nat.mod_lt _ two256_pos | exact Mod.lt (mod_modN _) | assumption | exact onceN_lt (by assumption) | exact Nat.lt_trans (Nat.mod_lt _ (mod_modN _).pos) (mod_modN _).lt | exact ofV_lt2 _ _ | exact invV_lt2 _ _ | exact lt_lit (by decide)) _).mono (fun _ _ ⟨he, hx⟩ => ⟨he, hx⟩)) ?_
      refine t_valG rfl rfl (fun w hx => r_as (l' := numL 1) (r_build (vals := [(0, (.int _ _))]) (l := [_, _, _, _]) tb24 rfl rfl) (num_lit 1 (by decide))) rfl rfl ?_
      refine t_valG rfl rfl (fun w hx => r_eqnum (t := true) u24 u22 sz22 ag22 eg24 rfl rfl (by first | exact Nat.mod_lt _ two256_pos | exact Mod.lt (mod_modN _) | assumption | exact onceN_lt (by assumption) | exact Nat.lt_trans (Nat.mod_lt _ (mod_modN _).pos) (mod_modN _).lt | exact ofV_lt2 _ _ | exact invV_lt2 _ _ | exact lt_lit (by decide)) (by first | exact Nat.mod_lt _ two256_pos | exact Mod.lt (mod_modN _) | assumption | exact onceN_lt (by assumption) | exact Nat.lt_trans (Nat.mod_lt _ (mod_modN _).pos) (mod_modN _).lt | exact ofV_lt2 _ _ | exact invV_lt2 _ _ | exact lt_lit (by decide)) (eqT (inv_mul h0))) rfl rfl ?_
      refine t_val (fun w hx => r_pickt (v := (.bool _)) rfl rfl rfl) rfl rfl ?_
      refine t_val (fun w hx => r_move (v := (.bool _)) rfl) rfl rfl ?_
      refine t_valG rfl rfl (fun w hx => r_move (v := (.int _ _)) rfl) rfl rfl ?_
      refine t_valG rfl rfl (fun w hx => r_loadBW tg24 eb7 (Bk.hp hbb7 (H.ext hx)) rfl) rfl rfl ?_
      refine t_valG rfl rfl (fun w hx => r_loadBW tg24 eb8 (Bk.hp hbb8 (H.ext hx)) rfl) rfl rfl ?_
      refine t_callG rfl rfl (l := [(.int _ _), (.agg (List.toArray _)), (.agg (List.toArray _))]) rfl rfl is25 rfl (fun w hx hF => (mul_c _ _ _ (by first | exact Nat.mod_lt _ two256_pos | exact Mod.lt (mod_modN _) | assumption | exact onceN_lt (by assumption) | exact Nat.lt_trans (Nat.mod_lt _ (mod_modN _).pos) (mod_modN _).lt | exact ofV_lt2 _ _ | exact invV_lt2 _ _ | exact lt_lit (by decide)) (by first | exact Nat.mod_lt _ two256_pos | exact Mod.lt (mod_modN _) | assumption | exact onceN_lt (by assumption) | exact Nat.lt_trans (Nat.mod_lt _ (mod_modN _).pos) (mod_modN _).lt | exact ofV_lt2 _ _ | exact invV_lt2 _ _ | exact lt_lit (by decide)) _).mono (fun _ _ ⟨he, hx⟩ => ⟨he, hx⟩)) ?_
      refine t_valG rfl rfl (fun w hx => r_as (l' := numL 1) (r_build (vals := [(0, (.int _ _))]) (l := [_, _, _, _]) tb24 rfl rfl) (num_lit 1 (by decide))) rfl rfl ?_
      refine t_valG rfl rfl (fun w hx => r_nenum u24 u22 sz22 ag22 eg24 rfl rfl (by first | exact Nat.mod_lt _ two256_pos | exact Mod.lt (mod_modN _) | assumption | exact onceN_lt (by assumption) | exact Nat.lt_trans (Nat.mod_lt _ (mod_modN _).pos) (mod_modN _).lt | exact ofV_lt2 _ _ | exact invV_lt2 _ _ | exact lt_lit (by decide)) (by first | exact Nat.mod_lt _ two256_pos | exact Mod.lt (mod_modN _) | assumption | exact onceN_lt (by assumption) | exact Nat.lt_trans (Nat.mod_lt _ (mod_modN _).pos) (mod_modN _).lt | exact ofV_lt2 _ _ | exact invV_lt2 _ _ | exact lt_lit (by decide)) rfl) rfl rfl ?_
      refine t_valG rfl rfl (fun w hx => r_move (v := (.bool _)) rfl) rfl rfl ?_
      refine t_skip rfl (hd) rfl ?_
      rw [put_fr]
      refine t_skip rfl (hd) rfl ?_
      rw [put_fr]
      refine t_skip rfl (hd) rfl ?_
      rw [put_fr]
      refine t_skip rfl (hd) rfl ?_
      rw [put_fr]
      refine t_skip rfl (hd) rfl ?_
      rw [put_fr]
      refine t_skip rfl (hd) rfl ?_
      rw [put_fr]
      refine t_valG rfl rfl (fun w hx => r_pickt (v := (.bool _)) rfl (hd) rfl) rfl rfl ?_
      refine t_val (fun w hx => r_pickt (v := (.bool _)) rfl rfl rfl) rfl rfl ?_
      refine t_val (fun w hx => r_assign (v := (.bool _)) rfl) rfl rfl ?_
      refine t_nil (fun w52 hx hF hA => ?_)
      replace H := H.ext hx
      clear hx hF hA
      refine wpList_nil ?_; refine on_norm ?_
      refine x_norm ?_; refine hK48 _ _ ?_; try clear hK48 K48
      refine wp_ret ?_
      refine e_1 rfl (q_tmp (v := (.bool _)) rfl) ?_
      exact ⟨by first | rfl | rw [hd], E.trans H.below⟩
    · skip
      apply wp_region_ext 27 (kinds [(6, .inl _), (14, .inl _), (21, .inl _)]) rfl rfl (by kernel_rfl); intro vs54
      simp only [List.take_succ_cons, List.take_zero, List.drop_succ_cons, List.drop_zero]
      replace H := H.drew
      refine t_val (fun w hx => r_move (v := (.int _ _)) rfl) rfl rfl ?_
      refine t_val (fun w hx => r_eql (t := true) rfl rfl (by rw [hi.2]; rfl)) rfl rfl ?_
      refine t_val (fun w hx => r_move (v := (.bool _)) rfl) rfl rfl ?_
      refine t_valG rfl rfl (fun w hx => r_move (v := (.int _ _)) rfl) rfl rfl ?_
      refine t_valG rfl rfl (fun w hx => r_loadBW tg24 eb7 (Bk.hp hbb7 (H.ext hx)) rfl) rfl rfl ?_
      refine t_valG rfl rfl (fun w hx => r_loadBW tg24 rfl (Bk.hp hbb42 (H.ext hx)) rfl) rfl rfl ?_
      refine t_callG rfl rfl (l := [(.int _ _), (.agg (List.toArray _)), (.agg (List.toArray _))]) rfl rfl is25 rfl (fun w hx hF => (mul_c _ _ _ (by first | exact Nat.mod_lt _ two256_pos | exact Mod.lt (mod_modN _) | assumption | exact onceN_lt (by assumption) | exact Nat.lt_trans (Nat.mod_lt _ (mod_modN _).pos) (mod_modN _).lt | exact ofV_lt2 _ _ | exact invV_lt2 _ _ | exact lt_lit (by decide)) (by first | exact Nat.mod_lt _ two256_pos | exact Mod.lt (mod_modN _) | assumption | exact onceN_lt (by assumption) | exact Nat.lt_trans (Nat.mod_lt _ (mod_modN _).pos) (mod_modN _).lt | exact ofV_lt2 _ _ | exact invV_lt2 _ _ | exact lt_lit (by decide)) _).mono (fun _ _ ⟨he, hx⟩ => ⟨he, hx⟩)) ?_
      refine t_valG rfl rfl (fun w hx => r_as (l' := numL 1) (r_build (vals := [(0, (.int _ _))]) (l := [_, _, _, _]) tb24 rfl rfl) (num_lit 1 (by decide))) rfl rfl ?_
      refine t_valG rfl rfl (fun w hx => r_eqnum (t := true) u24 u22 sz22 ag22 eg24 rfl rfl (by first | exact Nat.mod_lt _ two256_pos | exact Mod.lt (mod_modN _) | assumption | exact onceN_lt (by assumption) | exact Nat.lt_trans (Nat.mod_lt _ (mod_modN _).pos) (mod_modN _).lt | exact ofV_lt2 _ _ | exact invV_lt2 _ _ | exact lt_lit (by decide)) (by first | exact Nat.mod_lt _ two256_pos | exact Mod.lt (mod_modN _) | assumption | exact onceN_lt (by assumption) | exact Nat.lt_trans (Nat.mod_lt _ (mod_modN _).pos) (mod_modN _).lt | exact ofV_lt2 _ _ | exact invV_lt2 _ _ | exact lt_lit (by decide)) (eqT (inv_mul h0))) rfl rfl ?_
      refine t_val (fun w hx => r_pickt (v := (.bool _)) rfl rfl rfl) rfl rfl ?_
      refine t_val (fun w hx => r_move (v := (.bool _)) rfl) rfl rfl ?_
      refine t_valG rfl rfl (fun w hx => r_move (v := (.int _ _)) rfl) rfl rfl ?_
      refine t_valG rfl rfl (fun w hx => r_loadBW tg24 eb7 (Bk.hp hbb7 (H.ext hx)) rfl) rfl rfl ?_
      refine t_valG rfl rfl (fun w hx => r_loadBW tg24 eb8 (Bk.hp hbb8 (H.ext hx)) rfl) rfl rfl ?_
      refine t_callG rfl rfl (l := [(.int _ _), (.agg (List.toArray _)), (.agg (List.toArray _))]) rfl rfl is25 rfl (fun w hx hF => (mul_c _ _ _ (by first | exact Nat.mod_lt _ two256_pos | exact Mod.lt (mod_modN _) | assumption | exact onceN_lt (by assumption) | exact Nat.lt_trans (Nat.mod_lt _ (mod_modN _).pos) (mod_modN _).lt | exact ofV_lt2 _ _ | exact invV_lt2 _ _ | exact lt_lit (by decide)) (by first | exact Nat.mod_lt _ two256_pos | exact Mod.lt (mod_modN _) | assumption | exact onceN_lt (by assumption) | exact Nat.lt_trans (Nat.mod_lt _ (mod_modN _).pos) (mod_modN _).lt | exact ofV_lt2 _ _ | exact invV_lt2 _ _ | exact lt_lit (by decide)) _).mono (fun _ _ ⟨he, hx⟩ => ⟨he, hx⟩)) ?_
      refine t_valG rfl rfl (fun w hx => r_as (l' := numL 1) (r_build (vals := [(0, (.int _ _))]) (l := [_, _, _, _]) tb24 rfl rfl) (num_lit 1 (by decide))) rfl rfl ?_
      refine t_valG rfl rfl (fun w hx => r_nenum u24 u22 sz22 ag22 eg24 rfl rfl (by first | exact Nat.mod_lt _ two256_pos | exact Mod.lt (mod_modN _) | assumption | exact onceN_lt (by assumption) | exact Nat.lt_trans (Nat.mod_lt _ (mod_modN _).pos) (mod_modN _).lt | exact ofV_lt2 _ _ | exact invV_lt2 _ _ | exact lt_lit (by decide)) (by first | exact Nat.mod_lt _ two256_pos | exact Mod.lt (mod_modN _) | assumption | exact onceN_lt (by assumption) | exact Nat.lt_trans (Nat.mod_lt _ (mod_modN _).pos) (mod_modN _).lt | exact ofV_lt2 _ _ | exact invV_lt2 _ _ | exact lt_lit (by decide)) rfl) rfl rfl ?_
      refine t_valG rfl rfl (fun w hx => r_move (v := (.bool _)) rfl) rfl rfl ?_
      refine t_valG rfl (hd) (fun w hx => r_move (v := (.int _ _)) rfl) rfl rfl ?_
      refine t_valG rfl (hd) (fun w hx => r_loadBW tg24 eb8 (Bk.hp hbb8 (H.ext hx)) rfl) rfl rfl ?_
      refine t_valG rfl (hd) (fun w hx => r_as (l' := numL 0) (r_build (vals := []) (l := [_, _, _, _]) tb24 rfl rfl) (num_0)) rfl rfl ?_
      refine t_callG rfl (hd) (l := [(.int _ _), (.agg (List.toArray _)), (.agg (List.toArray _))]) rfl rfl is21 rfl (fun w hx hF => (add_c _ _ _ (by first | exact Nat.mod_lt _ two256_pos | exact Mod.lt (mod_modN _) | assumption | exact onceN_lt (by assumption) | exact Nat.lt_trans (Nat.mod_lt _ (mod_modN _).pos) (mod_modN _).lt | exact ofV_lt2 _ _ | exact invV_lt2 _ _ | exact lt_lit (by decide)) (by first | exact Nat.mod_lt _ two256_pos | exact Mod.lt (mod_modN _) | assumption | exact onceN_lt (by assumption) | exact Nat.lt_trans (Nat.mod_lt _ (mod_modN _).pos) (mod_modN _).lt | exact ofV_lt2 _ _ | exact invV_lt2 _ _ | exact lt_lit (by decide)) _).mono (fun _ _ ⟨he, hx⟩ => ⟨he, hx⟩)) ?_
      refine t_valG rfl (hd) (fun w hx => r_loadBW tg24 rfl (Bk.hp hbb42 (H.ext hx)) rfl) rfl rfl ?_
      refine t_valG rfl (hd) (fun w hx => r_eqnum (t := true) u24 u22 sz22 ag22 eg24 rfl rfl (by first | exact Nat.mod_lt _ two256_pos | exact Mod.lt (mod_modN _) | assumption | exact onceN_lt (by assumption) | exact Nat.lt_trans (Nat.mod_lt _ (mod_modN _).pos) (mod_modN _).lt | exact ofV_lt2 _ _ | exact invV_lt2 _ _ | exact lt_lit (by decide)) (by first | exact Nat.mod_lt _ two256_pos | exact Mod.lt (mod_modN _) | assumption | exact onceN_lt (by assumption) | exact Nat.lt_trans (Nat.mod_lt _ (mod_modN _).pos) (mod_modN _).lt | exact ofV_lt2 _ _ | exact invV_lt2 _ _ | exact lt_lit (by decide)) (eqT (ring_uniq h0 hd))) rfl rfl ?_
      refine t_valG rfl rfl (fun w hx => r_pickf (v := (.bool _)) rfl (hd) rfl) rfl rfl ?_
      refine t_val (fun w hx => r_pickt (v := (.bool _)) rfl rfl rfl) rfl rfl ?_
      refine t_val (fun w hx => r_assign (v := (.bool _)) rfl) rfl rfl ?_
      refine t_nil (fun w56 hx hF hA => ?_)
      replace H := H.ext hx
      clear hx hF hA
      refine wpList_nil ?_; refine on_norm ?_
      refine x_norm ?_; refine hK48 _ _ ?_; try clear hK48 K48
      refine wp_ret ?_
      refine e_1 rfl (q_tmp (v := (.bool _)) rfl) ?_
      exact ⟨by first | rfl | rw [hd], E.trans H.below⟩

end Go.Proofs.Ytjmgilhlpohcmaa
