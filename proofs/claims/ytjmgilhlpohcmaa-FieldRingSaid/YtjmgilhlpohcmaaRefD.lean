/- The walks of some functions. Conditions: as each theorem says. -/
import Derived.Test.YtjmgilhlpohcmaaRefC
import Derived.Test.YtjmgilhlpohcmaaDgd
namespace Go.Proofs.Ytjmgilhlpohcmaa
open Go Go.RowKit
attribute [local irreducible] wpList wpT Code.wp Calls Code.rounds lm sd sb ad ac dval subv adr u32s fl dg modN
theorem is26 : IsFn Try.prog 26 := isFn Try.func26 (by kernel_rfl) (by kernel_rfl)

theorem rpower_c (m : Int) (a e : Value) (A X : Nat) (w : World) (ha : Dg w a A) (he : Dg w e X) (hA : (digs A).length < 1000) (hX : (digs X).length < 1099511627776) :
    Calls Try.prog 32 #[.int .i64 m, a, e] w fun e w' => ∃ r, e = .returned r ∧ Dg w' r (A ^ X % modN m) ∧ Ext w w' := by
  refine enter (n := 37) Try.func32 rfl rfl rfl ?_
  have H := HP.start w
  have E := Below.refl w.heap.size w
  refine wp_seq_k ?_; intro K1 hK1
  refine wp_region_lit ?_
  refine p_val (r_assign (v := (.slice none 0 0)) rfl) ?_
  refine wpList_nil ?_
  refine x_norm ?_; refine hK1 _ _ ?_; try clear hK1 K1
  refine wp_seq_k ?_; intro K2 hK2
  refine wp_region_lit ?_
  refine p_bslice (N := 1) (vals := [(0, (.int _ _))]) (l := [_]) (ys := u32s (digs 1)) ts26 H rfl rfl rfl rfl (u32s_1) ?_; clear H; intro w3 bs_1_0 H
  have hone := (show Dg _ _ 1 from (Rd.ownA H (k := 0) (xs := u32s (digs 1)) (rs := []) rfl rfl rfl))
  have hB := H.below; replace E := Ext.trans E hB
  replace ha := Rd.ext ha hB
  replace he := Rd.ext he hB
  clear hB; replace H := HP.restart H
  refine p_val (r_assign (v := (sl bs_1_0 _ _ _)) rfl) ?_
  refine wpList_nil ?_
  refine x_norm ?_; refine hK2 _ _ ?_; try clear hK2 K2
  refine wp_seq_k ?_; intro K4 hK4
  refine wp_seq_k ?_; intro K5 hK5
  refine wp_region_lit ?_
  refine p_val (r_move (v := (e)) rfl) ?_
  refine p_val (r_lenR (N := (digs X).length) ts26 rfl (Rd.hp he H) (u32s_length _)) ?_
  refine p_val (r_mul (r := ((16 * (digs X).length : Nat) : Int)) rfl rfl ((wr64 (by omega) (by omega)).trans (by omega))) ?_
  refine p_val (r_sub rfl rfl (wr64 (by omega) (by omega))) ?_
  refine p_val (r_assign (v := (.int _ _)) rfl) ?_
  refine wpList_nil ?_
  refine x_norm ?_; refine hK5 _ _ ?_; try clear hK5 K5
  refine wp_block ?_
  refine loopF [7, 8, 14, 15, 16, 17, 18, 19, 20, 21, 22, 23, 24, 25, 26, 27, 28, 29, 30, 31, 32, 33, 34, 35] (fun γ μ w' => ∃ (k : Nat) (o : Value), k = γ ∧ look μ 8 = .int .i64 ((k : Int) - 1) ∧ look μ 7 = o ∧ HP w3 w' [] ∧ (k ≤ 16 * (digs X).length) ∧ (Dg w' o (A ^ (X / 2 ^ k) % modN m))) (16 * (digs X).length) ⟨16 * (digs X).length, _, rfl, rfl, rfl, H, Nat.le_refl _, by rw [pow_init]; exact hone⟩ ?_
  clear H
  intro g9 m6 w7 hk8 hI; obtain ⟨k, o, rfl, hl10, hl11, H, hk, ho⟩ := hI
  have EL0 := H.below; replace E := Ext.trans E EL0; replace H := HP.restart H
  replace ha := Rd.ext ha EL0
  replace he := Rd.ext he EL0
  replace hone := Rd.ext hone EL0
  refine wp_seq_k ?_; intro K12 hK12
  refine wp_seq_k ?_; intro K13 hK13
  refine wp_region_lit ?_
  refine p_val (r_move (v := (.int _ _)) hl10) ?_
  refine p_val (r_geq rfl rfl rfl) ?_
  refine wpList_nil ?_
  refine x_norm ?_; refine hK13 _ _ ?_; try clear hK13 K13
  refine c_split (t := _) rfl (fun hc_3 => ?_) (fun hc_3 => ?_)
  · skip
    have hk0 : 0 < k := by have := of_decide_eq_true hc_3; omega
    have hlo := len_mod (A ^ (X / 2 ^ k)) m
    have hlo2 := len_mod (A ^ (X / 2 ^ k) % modN m * (A ^ (X / 2 ^ k) % modN m)) m
    refine wp_skip ?_
    refine x_norm ?_; refine hK12 _ _ ?_; try clear hK12 K12
    refine wp_seq_k ?_; intro K15 hK15
    refine wp_block ?_
    refine wp_seq_k ?_; intro K16 hK16
    refine wp_region_lit ?_
    refine p_val (r_move (v := (.int _ _)) (hk8 0 rfl)) ?_
    refine p_val (r_move (v := (o)) hl11) ?_
    refine p_val (r_move (v := (o)) hl11) ?_
    refine p_call (l := [(.int _ _), (o), (o)]) is26 rfl ?_
    refine (rproduct_c _ _ _ _ _ _ (Rd.hp ho H) (Rd.hp ho H) (by first | assumption | omega) (by first | assumption | omega)).mono ?_; rintro _ w17 ⟨r_5_3, rfl, hr_5_3, hx⟩; replace H := H.ext hx; clear hx
    have hB := H.below; replace E := Ext.trans E hB
    replace ha := Rd.ext ha hB
    replace he := Rd.ext he hB
    replace ho := Rd.ext ho hB
    replace hone := Rd.ext hone hB
    replace EL0 := Ext.trans EL0 hB
    clear hB; replace H := HP.restart H
    refine p_val (r_assign (v := _) rfl) ?_
    refine wpList_nil ?_
    refine x_norm ?_; refine hK16 _ _ ?_; try clear hK16 K16
    refine wp_seq_k ?_; intro K18 hK18
    refine wp_region_lit ?_
    refine p_val (r_move (v := (e)) (hk8 2 rfl)) ?_
    refine p_val (r_move (v := (.int _ _)) hl10) ?_
    refine p_val (r_quo (r := (((k - 1) / 16 : Nat) : Int)) rfl rfl (by decide) (quoI (d := 16) hk0 (by decide) (by omega))) ?_
    refine p_val (r_addrR (i := (k - 1) / 16) ts26 rfl rfl (Rd.hp he H) (rfl) (by rw [u32s_length]; omega)) ?_
    refine p_val (r_loadR (u := .int .u32 (dg X ((k - 1) / 16) : Int)) to76 rfl (Rd.hp he H) (u32s_dg (by omega))) ?_
    refine p_val (r_move (v := (.int _ _)) hl10) ?_
    refine p_val (r_rem (r := (((k - 1) % 16 : Nat) : Int)) rfl rfl (by decide) (remI (d := 16) hk0)) ?_
    refine p_val (r_shr (r := ((dg X ((k - 1) / 16) / 2 ^ ((k - 1) % 16) : Nat) : Int)) rfl rfl (by omega) (shrN (Nat.le_trans (Nat.le_of_lt (Nat.mod_lt _ (by decide))) (show 16 ≤ IntKind.u32.bits by decide)))) ?_
    refine p_val (r_bits (bo := .and) (by simp) (r := ((X / 2 ^ (k - 1) % 2 : Nat) : Int)) rfl rfl (bit_and X (k - 1))) ?_
    refine p_val (r_eql rfl rfl rfl) ?_
    refine wpList_nil ?_
    refine x_norm ?_; refine hK18 _ _ ?_; try clear hK18 K18
    refine c_split (t := _) rfl (fun hc_6 => ?_) (fun hc_6 => ?_)
    · skip
      have hbit := bit_t hc_6
      refine wp_region_lit ?_
      refine p_val (r_move (v := (.int _ _)) (hk8 0 rfl)) ?_
      refine p_val (r_move (v := _) rfl) ?_
      refine p_val (r_move (v := (a)) (hk8 1 rfl)) ?_
      refine p_call (l := [(.int _ _), _, (a)]) is26 rfl ?_
      refine (rproduct_c _ _ _ _ _ _ (Rd.hp hr_5_3 H) (Rd.hp ha H) (by first | assumption | omega) (by first | assumption | omega)).mono ?_; rintro _ w20 ⟨r_7_3, rfl, hr_7_3, hx⟩; replace H := H.ext hx; clear hx
      have hB := H.below; replace E := Ext.trans E hB
      replace ha := Rd.ext ha hB
      replace he := Rd.ext he hB
      replace ho := Rd.ext ho hB
      replace hone := Rd.ext hone hB
      replace hr_5_3 := Rd.ext hr_5_3 hB
      replace EL0 := Ext.trans EL0 hB
      clear hB; replace H := HP.restart H
      refine p_val (r_assign (v := _) rfl) ?_
      refine wpList_nil ?_
      refine b_norm ?_
      refine x_norm ?_; refine hK15 _ _ ?_; try clear hK15 K15
      refine wp_region_lit ?_
      refine p_val (r_move (v := (.int _ _)) hl10) ?_
      refine p_val (r_sub rfl rfl (wr64 (by omega) (by omega))) ?_
      refine p_val (r_assign (v := (.int _ _)) rfl) ?_
      refine wpList_nil ?_
      refine x_norm ?_
      replace H := HP.of (Ext.trans EL0 H.below)
      exact ⟨_, _, (by omega), rfl, (by repeat (first | exact hk8 | refine keep_cons rfl ?_)), k - 1, r_7_3, rfl, congrArg (Value.int .i64) (by omega), rfl, H, by omega, by rw [← pow_b1 hk0 hbit]; exact hr_7_3⟩
    · skip
      have hbit := bit_f hc_6
      refine wp_skip ?_
      refine b_norm ?_
      refine x_norm ?_; refine hK15 _ _ ?_; try clear hK15 K15
      refine wp_region_lit ?_
      refine p_val (r_move (v := (.int _ _)) hl10) ?_
      refine p_val (r_sub rfl rfl (wr64 (by omega) (by omega))) ?_
      refine p_val (r_assign (v := (.int _ _)) rfl) ?_
      refine wpList_nil ?_
      refine x_norm ?_
      replace H := HP.of (Ext.trans EL0 H.below)
      exact ⟨_, _, (by omega), rfl, (by repeat (first | exact hk8 | refine keep_cons rfl ?_)), k - 1, r_5_3, rfl, congrArg (Value.int .i64) (by omega), rfl, H, by omega, by rw [← pow_b0 hk0 hbit]; exact hr_5_3⟩
  · skip
    have hk0 : k = 0 := by have := of_decide_eq_false hc_3; omega
    refine wp_exit ?_
    refine x_exit ?_
    refine x_exit ?_
    refine b_hit ?_
    refine x_norm ?_; refine hK4 _ _ ?_; try clear hK4 K4
    refine wp_seq_k ?_; intro K21 hK21
    refine wp_region_lit ?_
    refine p_val (r_move (v := (o)) hl11) ?_
    refine p_val (r_assign (v := (o)) rfl) ?_
    refine wpList_nil ?_
    refine x_norm ?_; refine hK21 _ _ ?_; try clear hK21 K21
    refine wp_ret ?_
    refine e_1 rfl (q_tmp (v := (o)) rfl) ?_
    subst hk0
    rw [Nat.pow_zero, Nat.div_one] at ho
    exact ⟨_, rfl, ho, E.trans H.below⟩

end Go.Proofs.Ytjmgilhlpohcmaa
