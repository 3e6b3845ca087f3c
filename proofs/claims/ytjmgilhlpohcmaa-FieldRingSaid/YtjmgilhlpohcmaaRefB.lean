/- The walks of some functions. Conditions: as each theorem says. -/
import Derived.Test.YtjmgilhlpohcmaaRefA
import Derived.Test.YtjmgilhlpohcmaaDgb
namespace Go.Proofs.Ytjmgilhlpohcmaa
open Go Go.RowKit
attribute [local irreducible] wpList wpT Code.wp Calls Code.rounds lm sd sb ad ac dval subv adr u32s fl dg
theorem is58 : IsFn Try.prog 58 := isFn Try.func58 (by kernel_rfl) (by kernel_rfl)
theorem is59 : IsFn Try.prog 59 := isFn Try.func59 (by kernel_rfl) (by kernel_rfl)
theorem is65 : IsFn Try.prog 65 := isFn Try.func65 (by kernel_rfl) (by kernel_rfl)
theorem is66 : IsFn Try.prog 66 := isFn Try.func66 (by kernel_rfl) (by kernel_rfl)

theorem half_c (a : Value) (A : Nat) (w : World) (ha : Dg w a A) (hA : (digs A).length < 1099511627776) :
    Calls Try.prog 66 #[a] w fun e w' => ∃ r, e = .returned r ∧ Dg w' r (A / 2) ∧ Ext w w' := by
  refine enter (n := 33) Try.func66 rfl rfl rfl ?_
  have H := HP.start w
  have E := Below.refl w.heap.size w
  refine wp_seq_k ?_; intro K1 hK1
  refine wp_region_lit ?_
  refine p_val (r_assign (v := (.slice none 0 0)) rfl) ?_
  refine wpList_nil ?_
  refine x_norm ?_; refine hK1 _ _ ?_; try clear hK1 K1
  refine wp_seq_k ?_; intro K2 hK2
  refine wp_region_lit ?_
  refine p_val (r_move (v := (a)) rfl) ?_
  refine p_val (r_lenR (N := (digs A).length) ts26 rfl (Rd.hp ha H) (u32s_length _)) ?_
  refine p_make (N := (digs A).length) (ys := u32s (List.replicate (digs A).length 0)) ts26 H rfl rfl (rfl) (by omega) (by omega) (u32s_rep _) ?_; clear H; intro w3 bm_1_2 H
  refine p_val (r_assign (v := (.slice _ _ _)) rfl) ?_
  refine wpList_nil ?_
  refine x_norm ?_; refine hK2 _ _ ?_; try clear hK2 K2
  refine wp_seq_k ?_; intro K4 hK4
  refine wp_region_lit ?_
  refine p_val (r_assign (v := (.int _ _)) rfl) ?_
  refine wpList_nil ?_
  refine x_norm ?_; refine hK4 _ _ ?_; try clear hK4 K4
  refine wp_seq_k ?_; intro K5 hK5
  refine wp_seq_k ?_; intro K6 hK6
  refine wp_region_lit ?_
  refine p_val (r_move (v := (a)) rfl) ?_
  refine p_val (r_lenR (N := (digs A).length) ts26 rfl (Rd.hp ha H) (u32s_length _)) ?_
  refine p_val (r_sub rfl rfl (wr64 (by omega) (by omega))) ?_
  refine p_val (r_assign (v := (.int _ _)) rfl) ?_
  refine wpList_nil ?_
  refine x_norm ?_; refine hK6 _ _ ?_; try clear hK6 K6
  refine wp_block ?_
  refine loopF [4, 5, 6, 13, 14, 15, 16, 17, 18, 19, 20, 21, 22, 23, 24, 25, 26, 27, 28, 29, 30] (fun γ μ w' => ∃ (k c : Nat) (ol : List Nat), k = γ ∧ look μ 5 = .int .i64 ((k : Int) - 1) ∧ look μ 4 = .int .u32 (c : Int) ∧ HP w w' [(bm_1_2, u32s ol ++ [], 76)] ∧ (k ≤ (digs A).length) ∧ (ol.length = (digs A).length) ∧ (DL ol) ∧ (c = A / 65536 ^ k % 2) ∧ (dval (ol.drop k) = A / 65536 ^ k / 2)) ((digs A).length) ⟨(digs A).length, 0, List.replicate (digs A).length 0, rfl, rfl, rfl, H, Nat.le_refl _, by simp, by intro d hd; rw [List.eq_of_mem_replicate hd]; decide, by rw [above_top (Nat.le_refl _)], by rw [above_top (Nat.le_refl _)]; simp [dval]⟩ ?_
  clear H
  intro g10 m7 w8 hk9 hI; obtain ⟨k, c, ol, rfl, hl11, hl12, H, hk, hl, hd, hc, hv⟩ := hI
  have hc1 : c ≤ 1 := by omega
  have hdd := dg_lt A (k - 1)
  refine wp_seq_k ?_; intro K13 hK13
  refine wp_seq_k ?_; intro K14 hK14
  refine wp_region_lit ?_
  refine p_val (r_move (v := (.int _ _)) hl11) ?_
  refine p_val (r_geq rfl rfl rfl) ?_
  refine wpList_nil ?_
  refine x_norm ?_; refine hK14 _ _ ?_; try clear hK14 K14
  refine c_split (t := _) rfl (fun hc_4 => ?_) (fun hc_4 => ?_)
  · skip
    have hk0 : 0 < k := by have := of_decide_eq_true hc_4; omega
    refine wp_skip ?_
    refine x_norm ?_; refine hK13 _ _ ?_; try clear hK13 K13
    refine wp_seq_k ?_; intro K16 hK16
    refine wp_block ?_
    refine wp_seq_k ?_; intro K17 hK17
    refine wp_region_lit ?_
    refine p_val (r_move (v := (.int _ _)) hl12) ?_
    refine p_val (r_shl (r := ((c * 65536 : Nat) : Int)) rfl rfl (by decide) (shl16 hc1)) ?_
    refine p_val (r_move (v := (a)) (hk9 0 rfl)) ?_
    refine p_val (r_move (v := (.int _ _)) hl11) ?_
    refine p_val (r_addrR (i := k - 1) ts26 rfl rfl (Rd.hp ha H) (by omega) (by rw [u32s_length]; omega)) ?_
    refine p_val (r_loadR (u := .int .u32 (dg A (k - 1) : Int)) to76 rfl (Rd.hp ha H) (u32s_dg (by omega))) ?_
    refine p_val (r_bits (bo := .or) (by simp) (r := (((c * 65536 + dg A (k - 1)) : Nat) : Int)) rfl rfl (or16 hc1 hdd)) ?_
    refine p_val (r_assign (v := (.int _ _)) rfl) ?_
    refine wpList_nil ?_
    refine x_norm ?_; refine hK17 _ _ ?_; try clear hK17 K17
    refine wp_seq_k ?_; intro K18 hK18
    refine wp_region_lit ?_
    refine p_val (r_move (v := (.slice _ _ _)) (hk9 3 rfl)) ?_
    refine p_val (r_move (v := (.int _ _)) hl11) ?_
    refine p_val (r_move (v := (.int _ _)) rfl) ?_
    refine p_val (r_shr (r := (((c * 65536 + dg A (k - 1)) / 2 : Nat) : Int)) rfl rfl (by decide) (shr1)) ?_
    refine p_val (r_addrS (i := k - 1) ts26 rfl rfl (by omega) (by rw [u32s_length, List.length_replicate]; omega)) ?_
    refine p_storeO (i := k - 1) (xs := u32s ol) (rs := []) (ys := u32s (ol.set (k - 1) ((c * 65536 + dg A (k - 1)) / 2))) to76 H rfl (k := 0) rfl rfl rfl (by rw [u32s_length, hl]; omega) (u32s_set _ _ _) ?_; clear H; intro w19 H
    refine wpList_nil ?_
    refine x_norm ?_; refine hK18 _ _ ?_; try clear hK18 K18
    refine wp_region_lit ?_
    refine p_val (r_move (v := (.int _ _)) rfl) ?_
    refine p_val (r_bits (bo := .and) (by simp) (r := (((c * 65536 + dg A (k - 1)) % 2 : Nat) : Int)) rfl rfl (and1 (by omega))) ?_
    refine p_val (r_assign (v := (.int _ _)) rfl) ?_
    refine wpList_nil ?_
    refine b_norm ?_
    refine x_norm ?_; refine hK16 _ _ ?_; try clear hK16 K16
    refine wp_region_lit ?_
    refine p_val (r_move (v := (.int _ _)) hl11) ?_
    refine p_val (r_sub rfl rfl (wr64 (by omega) (by omega))) ?_
    refine p_val (r_assign (v := (.int _ _)) rfl) ?_
    refine wpList_nil ?_
    refine x_norm ?_
    exact ⟨_, _, (by omega), rfl, (by repeat (first | exact hk9 | refine keep_cons rfl ?_)), k - 1, (c * 65536 + dg A (k - 1)) % 2, ol.set (k - 1) ((c * 65536 + dg A (k - 1)) / 2), rfl, congrArg (Value.int .i64) (by omega), rfl, H, by omega, by rw [List.length_set, hl], fun d hd' => by rcases List.mem_or_eq_of_mem_set hd' with h | h; exact hd d h; omega, (half_step hk0 (by omega) hc hv).1, (half_step hk0 (by omega) hc hv).2⟩
  · skip
    have hk0 : k = 0 := by have := of_decide_eq_false hc_4; omega
    refine wp_exit ?_
    refine x_exit ?_
    refine x_exit ?_
    refine b_hit ?_
    refine x_norm ?_; refine hK5 _ _ ?_; try clear hK5 K5
    refine wp_seq_k ?_; intro K20 hK20
    refine wp_region_lit ?_
    refine p_val (r_move (v := (.slice _ _ _)) (hk9 3 rfl)) ?_
    refine p_call (l := [(.slice _ _ _)]) is55 rfl ?_
    refine (trim_c _ _ _ (Rd.ownA H (k := 0) (xs := u32s ol) (rs := []) rfl (by rw [u32s_length, u32s_length, List.length_replicate, hl]) (by rw [List.append_nil, List.append_nil, u32s_length, u32s_length, List.length_replicate, hl])) hd (by omega)).mono ?_; rintro _ w21 ⟨r_9_1, rfl, hr_9_1, hx⟩; replace H := H.ext hx; clear hx
    refine p_val (r_assign (v := _) rfl) ?_
    refine wpList_nil ?_
    refine x_norm ?_; refine hK20 _ _ ?_; try clear hK20 K20
    refine wp_ret ?_
    refine e_1 rfl (q_tmp (v := _) rfl) ?_
    subst hk0
    rw [List.drop_zero, Nat.pow_zero, Nat.div_one] at hv
    rw [hv] at hr_9_1
    exact ⟨_, rfl, hr_9_1, E.trans H.below⟩

theorem odd_c (a : Value) (A : Nat) (w : World) (ha : Dg w a A) (hA : (digs A).length < 1099511627776) :
    Calls Try.prog 65 #[a] w fun e w' => e = .returned (.bool (decide (A % 2 = 1))) ∧ Ext w w' := by
  refine enter (n := 13) Try.func65 rfl rfl rfl ?_
  have H := HP.start w
  have E := Below.refl w.heap.size w
  refine wp_seq_k ?_; intro K1 hK1
  refine wp_region_lit ?_
  refine p_val (r_assign (v := (.bool _)) rfl) ?_
  refine wpList_nil ?_
  refine x_norm ?_; refine hK1 _ _ ?_; try clear hK1 K1
  refine wp_seq_k ?_; intro K2 hK2
  refine wp_region_lit ?_
  refine p_val (r_move (v := (a)) rfl) ?_
  refine p_val (r_lenR (N := (digs A).length) ts26 rfl (Rd.hp ha H) (u32s_length _)) ?_
  refine p_val (r_gtr rfl rfl rfl) ?_
  refine p_val (r_move (v := (.bool _)) rfl) ?_
  refine p_gs (j := 3) rfl (fun hb_1_3 => ?_) (fun hb_1_3 => ?_)
  · skip
    have hg := of_decide_eq_true hb_1_3
    refine p_want rfl hb_1_3 ?_
    refine p_val (r_move (v := (a)) rfl) ?_
    refine p_want rfl hb_1_3 ?_
    refine p_val (r_addrR (i := 0) ts26 rfl rfl (Rd.hp ha H) (rfl) (by rw [u32s_length]; omega)) ?_
    refine p_want rfl hb_1_3 ?_
    refine p_val (r_loadR (u := .int .u32 (dg A 0 : Int)) to76 rfl (Rd.hp ha H) (u32s_dg (by omega))) ?_
    refine p_want rfl hb_1_3 ?_
    refine p_val (r_rem (r := ((dg A 0 % 2 : Nat) : Int)) rfl rfl (by decide) (rem2 _)) ?_
    refine p_want rfl hb_1_3 ?_
    refine p_val (r_eql rfl rfl rfl) ?_
    refine p_val (r_pickt (v := (.bool _)) rfl hb_1_3 rfl) ?_
    refine p_val (r_assign (v := (.bool _)) rfl) ?_
    refine wpList_nil ?_
    refine x_norm ?_; refine hK2 _ _ ?_; try clear hK2 K2
    refine wp_ret ?_
    refine e_1 rfl (q_tmp (v := (.bool _)) rfl) ?_
    exact ⟨by rw [odd_fin (A := A) (by omega)], E.trans H.below⟩
  · skip
    have hg := of_decide_eq_false hb_1_3
    refine p_skip rfl hb_1_3 ?_
    rw [put_fr]
    refine p_skip rfl hb_1_3 ?_
    rw [put_fr]
    refine p_skip rfl hb_1_3 ?_
    rw [put_fr]
    refine p_skip rfl hb_1_3 ?_
    rw [put_fr]
    refine p_skip rfl hb_1_3 ?_
    rw [put_fr]
    refine p_val (r_pickf (v := (.bool _)) rfl hb_1_3 rfl) ?_
    refine p_val (r_assign (v := (.bool _)) rfl) ?_
    refine wpList_nil ?_
    refine x_norm ?_; refine hK2 _ _ ?_; try clear hK2 K2
    refine wp_ret ?_
    refine e_1 rfl (q_tmp (v := (.bool _)) rfl) ?_
    exact ⟨by rw [odd_fin0 (A := A) (by omega)], E.trans H.below⟩

theorem halved_c (a b : Value) (A B : Nat) (w : World) (ha : Dg w a A) (hb : Dg w b B) (hA : (digs A).length < 549755813888) (hB : (digs B).length < 549755813888) :
    Calls Try.prog 67 #[a, b] w fun e w' => ∃ r, e = .returned r ∧ Dg w' r ((if A % 2 = 1 then A + B else A) / 2) ∧ Ext w w' := by
  refine enter (n := 12) Try.func67 rfl rfl rfl ?_
  have H := HP.start w
  have E := Below.refl w.heap.size w
  refine wp_seq_k ?_; intro K1 hK1
  refine wp_region_lit ?_
  refine p_val (r_assign (v := (.slice none 0 0)) rfl) ?_
  refine wpList_nil ?_
  refine x_norm ?_; refine hK1 _ _ ?_; try clear hK1 K1
  refine wp_seq_k ?_; intro K2 hK2
  refine wp_seq_k ?_; intro K3 hK3
  refine wp_region_lit ?_
  refine p_val (r_move (v := (a)) rfl) ?_
  refine p_call (l := [(a)]) is65 rfl ?_
  refine (odd_c _ _ _ (Rd.hp ha H) (by first | assumption | omega)).mono ?_; rintro _ w4 ⟨rfl, hx⟩; replace H := H.ext hx; clear hx
  refine wpList_nil ?_
  refine x_norm ?_; refine hK3 _ _ ?_; try clear hK3 K3
  refine c_split (t := _) rfl (fun hc_1 => ?_) (fun hc_1 => ?_)
  · skip
    have hg := of_decide_eq_true hc_1
    have hAB : (digs (A + B)).length < 1099511627776 := lenAdd hA hB
    refine wp_region_lit ?_
    refine p_val (r_move (v := (a)) rfl) ?_
    refine p_val (r_move (v := (b)) rfl) ?_
    refine p_call (l := [(a), (b)]) is58 rfl ?_
    refine (radd_c _ _ _ _ _ (Rd.hp ha H) (Rd.hp hb H) (by first | assumption | omega) (by first | assumption | omega)).mono ?_; rintro _ w6 ⟨r_2_2, rfl, hr_2_2, hx⟩; replace H := H.ext hx; clear hx
    have hB := H.below; replace E := Ext.trans E hB
    replace ha := Rd.ext ha hB
    replace hb := Rd.ext hb hB
    clear hB; replace H := HP.restart H
    refine p_val (r_assign (v := _) rfl) ?_
    refine wpList_nil ?_
    refine x_norm ?_; refine hK2 _ _ ?_; try clear hK2 K2
    refine wp_seq_k ?_; intro K7 hK7
    refine wp_region_lit ?_
    refine p_val (r_move (v := _) rfl) ?_
    refine p_call (l := [_]) is66 rfl ?_
    refine (half_c _ _ _ (Rd.hp hr_2_2 H) (by first | assumption | omega)).mono ?_; rintro _ w8 ⟨r_3_1, rfl, hr_3_1, hx⟩; replace H := H.ext hx; clear hx
    have hB := H.below; replace E := Ext.trans E hB
    replace ha := Rd.ext ha hB
    replace hb := Rd.ext hb hB
    replace hr_2_2 := Rd.ext hr_2_2 hB
    clear hB; replace H := HP.restart H
    refine p_val (r_assign (v := _) rfl) ?_
    refine wpList_nil ?_
    refine x_norm ?_; refine hK7 _ _ ?_; try clear hK7 K7
    refine wp_ret ?_
    refine e_1 rfl (q_tmp (v := _) rfl) ?_
    rw [if_pos hg]
    exact ⟨_, rfl, hr_3_1, E.trans H.below⟩
  · skip
    have hg := of_decide_eq_false hc_1
    refine wp_skip ?_
    refine x_norm ?_; refine hK2 _ _ ?_; try clear hK2 K2
    refine wp_seq_k ?_; intro K9 hK9
    refine wp_region_lit ?_
    refine p_val (r_move (v := (a)) rfl) ?_
    refine p_call (l := [(a)]) is66 rfl ?_
    refine (half_c _ _ _ (Rd.hp ha H) (by first | assumption | omega)).mono ?_; rintro _ w10 ⟨r_3_1, rfl, hr_3_1, hx⟩; replace H := H.ext hx; clear hx
    have hB := H.below; replace E := Ext.trans E hB
    replace ha := Rd.ext ha hB
    replace hb := Rd.ext hb hB
    clear hB; replace H := HP.restart H
    refine p_val (r_assign (v := _) rfl) ?_
    refine wpList_nil ?_
    refine x_norm ?_; refine hK9 _ _ ?_; try clear hK9 K9
    refine wp_ret ?_
    refine e_1 rfl (q_tmp (v := _) rfl) ?_
    rw [if_neg hg]
    exact ⟨_, rfl, hr_3_1, E.trans H.below⟩

theorem rless_c (a b m : Value) (A B M : Nat) (w : World) (ha : Dg w a A) (hb : Dg w b B) (hm : Dg w m M) (hA : (digs A).length < 274877906944) (hB : (digs B).length < 274877906944) (hM : (digs M).length < 274877906944) (hle : B ≤ A + M) :
    Calls Try.prog 68 #[a, b, m] w fun e w' => ∃ r, e = .returned r ∧ Dg w' r ((if A < B then A + M else A) - B) ∧ Ext w w' := by
  refine enter (n := 17) Try.func68 rfl rfl rfl ?_
  have H := HP.start w
  have E := Below.refl w.heap.size w
  refine wp_seq_k ?_; intro K1 hK1
  refine wp_region_lit ?_
  refine p_val (r_assign (v := (.slice none 0 0)) rfl) ?_
  refine wpList_nil ?_
  refine x_norm ?_; refine hK1 _ _ ?_; try clear hK1 K1
  refine wp_seq_k ?_; intro K2 hK2
  refine wp_seq_k ?_; intro K3 hK3
  refine wp_region_lit ?_
  refine p_val (r_move (v := (a)) rfl) ?_
  refine p_val (r_move (v := (b)) rfl) ?_
  refine p_call (l := [(a), (b)]) is35 rfl ?_
  refine (cmp_c _ _ _ _ _ (Rd.hp ha H) (Rd.hp hb H) (by first | assumption | exact digs_DL _) (by first | assumption | exact digs_DL _) (by first | assumption | omega) (by first | assumption | omega)).mono ?_; rintro _ w4 ⟨rfl, hx⟩; replace H := H.ext hx; clear hx
  refine p_val (r_lss rfl rfl rfl) ?_
  refine wpList_nil ?_
  refine x_norm ?_; refine hK3 _ _ ?_; try clear hK3 K3
  refine c_split (t := _) rfl (fun hc_1 => ?_) (fun hc_1 => ?_)
  · skip
    have hg : A < B := by have := of_decide_eq_true hc_1; rw [dval_digs, dval_digs] at this; exact cmpI_lt.1 this
    have hAB : (digs (A + M)).length < 549755813888 := lenAdd2 hA hM
    refine wp_region_lit ?_
    refine p_val (r_move (v := (a)) rfl) ?_
    refine p_val (r_move (v := (m)) rfl) ?_
    refine p_call (l := [(a), (m)]) is58 rfl ?_
    refine (radd_c _ _ _ _ _ (Rd.hp ha H) (Rd.hp hm H) (by first | assumption | omega) (by first | assumption | omega)).mono ?_; rintro _ w6 ⟨r_2_2, rfl, hr_2_2, hx⟩; replace H := H.ext hx; clear hx
    have hB := H.below; replace E := Ext.trans E hB
    replace ha := Rd.ext ha hB
    replace hb := Rd.ext hb hB
    replace hm := Rd.ext hm hB
    clear hB; replace H := HP.restart H
    refine p_val (r_assign (v := _) rfl) ?_
    refine wpList_nil ?_
    refine x_norm ?_; refine hK2 _ _ ?_; try clear hK2 K2
    refine wp_seq_k ?_; intro K7 hK7
    refine wp_region_lit ?_
    refine p_val (r_move (v := _) rfl) ?_
    refine p_val (r_move (v := (b)) rfl) ?_
    refine p_call (l := [_, (b)]) is59 rfl ?_
    refine (rsub_c _ _ _ _ _ (Rd.hp hr_2_2 H) (Rd.hp hb H) (by first | assumption | omega) (by first | assumption | omega) (by first | assumption | omega)).mono ?_; rintro _ w8 ⟨r_3_2, rfl, hr_3_2, hx⟩; replace H := H.ext hx; clear hx
    have hB := H.below; replace E := Ext.trans E hB
    replace ha := Rd.ext ha hB
    replace hb := Rd.ext hb hB
    replace hm := Rd.ext hm hB
    replace hr_2_2 := Rd.ext hr_2_2 hB
    clear hB; replace H := HP.restart H
    refine p_val (r_assign (v := _) rfl) ?_
    refine wpList_nil ?_
    refine x_norm ?_; refine hK7 _ _ ?_; try clear hK7 K7
    refine wp_ret ?_
    refine e_1 rfl (q_tmp (v := _) rfl) ?_
    rw [if_pos hg]
    exact ⟨_, rfl, hr_3_2, E.trans H.below⟩
  · skip
    have hg : ¬ A < B := by have := of_decide_eq_false hc_1; rw [dval_digs, dval_digs] at this; exact fun h => this (cmpI_lt.2 h)
    refine wp_skip ?_
    refine x_norm ?_; refine hK2 _ _ ?_; try clear hK2 K2
    refine wp_seq_k ?_; intro K9 hK9
    refine wp_region_lit ?_
    refine p_val (r_move (v := (a)) rfl) ?_
    refine p_val (r_move (v := (b)) rfl) ?_
    refine p_call (l := [(a), (b)]) is59 rfl ?_
    refine (rsub_c _ _ _ _ _ (Rd.hp ha H) (Rd.hp hb H) (by first | assumption | omega) (by first | assumption | omega) (by first | assumption | omega)).mono ?_; rintro _ w10 ⟨r_3_2, rfl, hr_3_2, hx⟩; replace H := H.ext hx; clear hx
    have hB := H.below; replace E := Ext.trans E hB
    replace ha := Rd.ext ha hB
    replace hb := Rd.ext hb hB
    replace hm := Rd.ext hm hB
    clear hB; replace H := HP.restart H
    refine p_val (r_assign (v := _) rfl) ?_
    refine wpList_nil ?_
    refine x_norm ?_; refine hK9 _ _ ?_; try clear hK9 K9
    refine wp_ret ?_
    refine e_1 rfl (q_tmp (v := _) rfl) ?_
    rw [if_neg hg]
    exact ⟨_, rfl, hr_3_2, E.trans H.below⟩

theorem rmul_c (a b : Value) (A B : Nat) (w : World) (ha : Dg w a A) (hb : Dg w b B) (hA : (digs A).length < 549755813888) (hB : (digs B).length < 549755813888) :
    Calls Try.prog 63 #[a, b] w fun e w' => ∃ r, e = .returned r ∧ Dg w' r (A * B) ∧ Ext w w' := by
  refine enter (n := 68) Try.func63 rfl rfl rfl ?_
  have H := HP.start w
  have E := Below.refl w.heap.size w
  refine wp_seq_k ?_; intro K1 hK1
  refine wp_region_lit ?_
  refine p_val (r_assign (v := (.slice none 0 0)) rfl) ?_
  refine wpList_nil ?_
  refine x_norm ?_; refine hK1 _ _ ?_; try clear hK1 K1
  refine wp_seq_k ?_; intro K2 hK2
  refine wp_region_lit ?_
  refine p_val (r_move (v := (a)) rfl) ?_
  refine p_val (r_lenR (N := (digs A).length) ts26 rfl (Rd.hp ha H) (u32s_length _)) ?_
  refine p_val (r_move (v := (b)) rfl) ?_
  refine p_val (r_lenR (N := (digs B).length) ts26 rfl (Rd.hp hb H) (u32s_length _)) ?_
  refine p_val (r_add (r := ((((digs A).length + (digs B).length) : Nat) : Int)) rfl rfl ((wr64 (by omega) (by omega)).trans (by omega))) ?_
  refine p_make (N := ((digs A).length + (digs B).length)) (ys := u32s (fl (fun _ => 0) ((digs A).length + (digs B).length))) ts26 H rfl rfl (rfl) (by omega) (by omega) (u32s_fl _) ?_; clear H; intro w3 bm_1_5 H
  refine p_val (r_assign (v := (.slice _ _ _)) rfl) ?_
  refine wpList_nil ?_
  refine x_norm ?_; refine hK2 _ _ ?_; try clear hK2 K2
  refine wp_seq_k ?_; intro K4 hK4
  refine wp_seq_k ?_; intro K5 hK5
  refine wp_region_lit ?_
  refine p_val (r_assign (v := (.int _ _)) rfl) ?_
  refine wpList_nil ?_
  refine x_norm ?_; refine hK5 _ _ ?_; try clear hK5 K5
  refine wp_block ?_
  refine loopF [6, 7, 8, 15, 16, 17, 18, 19, 20, 21, 22, 23, 24, 25, 26, 27, 28, 29, 30, 31, 32, 33, 34, 35, 36, 37, 38, 39, 40, 41, 42, 43, 44, 45, 46, 47, 48, 49, 50, 51, 52, 53, 54, 55, 56, 57, 58, 59, 60, 61, 62, 63, 64, 65] (fun γ μ w' => ∃ (i : Nat) (f : Nat → Nat), (digs A).length - i = γ ∧ look μ 6 = .int .i64 (i : Int) ∧ HP w w' [(bm_1_5, u32s (fl f ((digs A).length + (digs B).length)) ++ [], 76)] ∧ (i ≤ (digs A).length) ∧ (∀ p, f p < 65536) ∧ (∀ p, i + (digs B).length ≤ p → f p = 0) ∧ (dval (fl f ((digs A).length + (digs B).length)) = A % 65536 ^ i * B)) ((digs A).length) ⟨0, fun _ => 0, rfl, rfl, H, Nat.zero_le _, fun _ => Nat.zero_lt_succ _, fun _ _ => rfl, by rw [dval_fl_zero (fun _ _ => rfl), Nat.pow_zero, Nat.mod_one, Nat.zero_mul]⟩ ?_
  clear H
  intro g9 m6 w7 hk8 hI; obtain ⟨i, f, rfl, hl10, H, hi, hf, hz, hv⟩ := hI
  refine wp_seq_k ?_; intro K11 hK11
  refine wp_seq_k ?_; intro K12 hK12
  refine wp_region_lit ?_
  refine p_val (r_move (v := (.int _ _)) hl10) ?_
  refine p_val (r_move (v := (a)) (hk8 0 rfl)) ?_
  refine p_val (r_lenR (N := (digs A).length) ts26 rfl (Rd.hp ha H) (u32s_length _)) ?_
  refine p_val (r_lss rfl rfl rfl) ?_
  refine wpList_nil ?_
  refine x_norm ?_; refine hK12 _ _ ?_; try clear hK12 K12
  refine c_split (t := _) rfl (fun hc_3 => ?_) (fun hc_3 => ?_)
  · skip
    have hgA := of_decide_eq_true hc_3
    refine wp_skip ?_
    refine x_norm ?_; refine hK11 _ _ ?_; try clear hK11 K11
    refine wp_seq_k ?_; intro K14 hK14
    refine wp_block ?_
    refine wp_seq_k ?_; intro K15 hK15
    refine wp_region_lit ?_
    refine p_val (r_assign (v := (.int _ _)) rfl) ?_
    refine wpList_nil ?_
    refine x_norm ?_; refine hK15 _ _ ?_; try clear hK15 K15
    refine wp_seq_k ?_; intro K16 hK16
    refine wp_seq_k ?_; intro K17 hK17
    refine wp_region_lit ?_
    refine p_val (r_assign (v := (.int _ _)) rfl) ?_
    refine wpList_nil ?_
    refine x_norm ?_; refine hK17 _ _ ?_; try clear hK17 K17
    refine wp_block ?_
    refine loopF [7, 8, 21, 22, 23, 24, 25, 26, 27, 28, 29, 30, 31, 32, 33, 34, 35, 36, 37, 38, 39, 40, 41, 42, 43, 44, 45, 46, 47, 48, 49, 50, 51, 52, 53, 54, 55, 56, 57] (fun γ μ w' => ∃ (k c : Nat) (g : Nat → Nat), (digs B).length - k = γ ∧ look μ 8 = .int .i64 (k : Int) ∧ look μ 7 = .int .u64 (c : Int) ∧ HP w w' [(bm_1_5, u32s (fl g ((digs A).length + (digs B).length)) ++ [], 76)] ∧ (k ≤ (digs B).length) ∧ (c < 65536) ∧ (∀ p, g p < 65536) ∧ (∀ p, i + k ≤ p → g p = f p) ∧ (dval (fl g ((digs A).length + (digs B).length)) + c * 65536 ^ (i + k) = dval (fl f ((digs A).length + (digs B).length)) + dg A i * (B % 65536 ^ k) * 65536 ^ i)) ((digs B).length) ⟨0, 0, f, rfl, rfl, rfl, H, Nat.zero_le _, by decide, hf, fun _ _ => rfl, by rw [Nat.pow_zero, Nat.mod_one]; simp⟩ ?_
    clear H
    intro g21 m18 w19 hk20 hI; obtain ⟨k, c, g, rfl, hl22, hl23, H, hk, hc, hg, hz', hv'⟩ := hI
    have hmb := mul_bound hc (hg (i + k)) (dg_lt A i) (dg_lt B k)
    refine wp_seq_k ?_; intro K24 hK24
    refine wp_seq_k ?_; intro K25 hK25
    refine wp_region_lit ?_
    refine p_val (r_move (v := (.int _ _)) hl22) ?_
    refine p_val (r_move (v := (b)) ((hk20 1 rfl).trans (hk8 1 rfl))) ?_
    refine p_val (r_lenR (N := (digs B).length) ts26 rfl (Rd.hp hb H) (u32s_length _)) ?_
    refine p_val (r_lss rfl rfl rfl) ?_
    refine wpList_nil ?_
    refine x_norm ?_; refine hK25 _ _ ?_; try clear hK25 K25
    refine c_split (t := _) rfl (fun hc_7 => ?_) (fun hc_7 => ?_)
    · skip
      have hgB := of_decide_eq_true hc_7
      refine wp_skip ?_
      refine x_norm ?_; refine hK24 _ _ ?_; try clear hK24 K24
      refine wp_seq_k ?_; intro K27 hK27
      refine wp_block ?_
      refine wp_seq_k ?_; intro K28 hK28
      apply wp_region_ext 21 (kinds []) rfl rfl (by kernel_rfl); intro vs30
      simp only [List.take_succ_cons, List.take_zero, List.drop_succ_cons, List.drop_zero]
      replace H := H.drew
      refine t_val (fun w hx => r_move (v := (.int _ _)) hl23) rfl rfl ?_
      refine t_val (fun w hx => r_move (v := (.slice _ _ _)) ((hk20 5 rfl).trans (hk8 5 rfl))) rfl rfl ?_
      refine t_val (fun w hx => r_move (v := (.int _ _)) ((hk20 6 rfl).trans hl10)) rfl rfl ?_
      refine t_val (fun w hx => r_move (v := (.int _ _)) hl22) rfl rfl ?_
      refine t_val (fun w hx => r_add (r := ((i + k : Nat) : Int)) rfl rfl ((wr64 (by omega) (by omega)).trans (by omega))) rfl rfl ?_
      refine t_val (fun w hx => r_addrS (i := i + k) ts26 rfl rfl (rfl) (by rw [u32s_fl_length]; omega)) rfl rfl ?_
      refine t_val (fun w hx => r_loadO (i := i + k) (xs := u32s (fl g ((digs A).length + (digs B).length))) (rs := []) (u := .int .u32 (g (i + k) : Int)) to76 (H.ext hx) rfl (k := 0) rfl (u32s_fl_get g (by omega))) rfl rfl ?_
      refine t_val (fun w hx => r_conv (r := (g (i + k) : Int)) u76 u22 rfl (to64 (hg _))) rfl rfl ?_
      refine t_val (fun w hx => r_move (v := (a)) ((hk20 0 rfl).trans (hk8 0 rfl))) rfl rfl ?_
      refine t_val (fun w hx => r_move (v := (.int _ _)) ((hk20 6 rfl).trans hl10)) rfl rfl ?_
      refine t_val (fun w hx => r_addrR (i := i) ts26 rfl rfl (Rd.hp ha (H.ext hx)) (rfl) (by rw [u32s_length]; omega)) rfl rfl ?_
      refine t_val (fun w hx => r_loadR (u := .int .u32 (dg A i : Int)) to76 rfl (Rd.hp ha (H.ext hx)) (u32s_dg (by omega))) rfl rfl ?_
      refine t_val (fun w hx => r_conv (r := (dg A i : Int)) u76 u22 rfl (to64 (dg_lt _ _))) rfl rfl ?_
      refine t_val (fun w hx => r_move (v := (b)) ((hk20 1 rfl).trans (hk8 1 rfl))) rfl rfl ?_
      refine t_val (fun w hx => r_move (v := (.int _ _)) hl22) rfl rfl ?_
      refine t_val (fun w hx => r_addrR (i := k) ts26 rfl rfl (Rd.hp hb (H.ext hx)) (rfl) (by rw [u32s_length]; omega)) rfl rfl ?_
      refine t_val (fun w hx => r_loadR (u := .int .u32 (dg B k : Int)) to76 rfl (Rd.hp hb (H.ext hx)) (u32s_dg (by omega))) rfl rfl ?_
      refine t_val (fun w hx => r_conv (r := (dg B k : Int)) u76 u22 rfl (to64 (dg_lt _ _))) rfl rfl ?_
      refine t_val (fun w hx => r_mul (r := ((dg A i * dg B k : Nat) : Int)) rfl rfl (u64mul (by omega))) rfl rfl ?_
      refine t_val (fun w hx => r_add (r := ((g (i + k) + dg A i * dg B k : Nat) : Int)) rfl rfl (u64add (by omega) hmb.2.1)) rfl rfl ?_
      refine t_val (fun w hx => r_add (r := (((c + (g (i + k) + dg A i * dg B k)) : Nat) : Int)) rfl rfl (u64add (by omega) hmb.2.2.1)) rfl rfl ?_
      refine t_nil (fun w31 hx hF hA => ?_)
      replace H := H.ext hx
      clear hx hF hA
      refine p_val (r_assign (v := (.int _ _)) rfl) ?_
      refine wpList_nil ?_; refine on_norm ?_
      refine x_norm ?_; refine hK28 _ _ ?_; try clear hK28 K28
      refine wp_seq_k ?_; intro K32 hK32
      refine wp_region_lit ?_
      refine p_val (r_move (v := (.slice _ _ _)) ((hk20 5 rfl).trans (hk8 5 rfl))) ?_
      refine p_val (r_move (v := (.int _ _)) ((hk20 6 rfl).trans hl10)) ?_
      refine p_val (r_move (v := (.int _ _)) hl22) ?_
      refine p_val (r_add (r := ((i + k : Nat) : Int)) rfl rfl ((wr64 (by omega) (by omega)).trans (by omega))) ?_
      refine p_val (r_move (v := (.int _ _)) rfl) ?_
      refine p_val (r_bits (bo := .and) (by simp) (r := (((c + (g (i + k) + dg A i * dg B k)) % 65536 : Nat) : Int)) rfl rfl (and16w hmb.2.2.1)) ?_
      refine p_val (r_conv (r := (((c + (g (i + k) + dg A i * dg B k)) % 65536 : Nat) : Int)) u22 u76 rfl (to32 (Nat.mod_lt _ (by decide)))) ?_
      refine p_val (r_addrS (i := i + k) ts26 rfl rfl (rfl) (by rw [u32s_fl_length]; omega)) ?_
      refine p_storeO (i := i + k) (xs := u32s (fl g ((digs A).length + (digs B).length))) (rs := []) (ys := u32s (fl (fup g (i + k) ((c + (g (i + k) + dg A i * dg B k)) % 65536)) ((digs A).length + (digs B).length))) to76 H rfl (k := 0) rfl rfl rfl (by rw [u32s_fl_length]; omega) (u32s_fl_set _ _ _ _) ?_; clear H; intro w33 H
      refine wpList_nil ?_
      refine x_norm ?_; refine hK32 _ _ ?_; try clear hK32 K32
      refine wp_region_lit ?_
      refine p_val (r_move (v := (.int _ _)) rfl) ?_
      refine p_val (r_shr (r := (((c + (g (i + k) + dg A i * dg B k)) / 65536 : Nat) : Int)) rfl rfl (by decide) (shr16w)) ?_
      refine p_val (r_assign (v := (.int _ _)) rfl) ?_
      refine wpList_nil ?_
      refine b_norm ?_
      refine x_norm ?_; refine hK27 _ _ ?_; try clear hK27 K27
      refine wp_region_lit ?_
      refine p_val (r_move (v := (.int _ _)) hl22) ?_
      refine p_val (r_add (r := ((k + 1 : Nat) : Int)) rfl rfl ((wr64 (by omega) (by omega)).trans (by omega))) ?_
      refine p_val (r_assign (v := (.int _ _)) rfl) ?_
      refine wpList_nil ?_
      refine x_norm ?_
      exact ⟨_, _, (by omega), rfl, (by repeat (first | exact hk20 | refine keep_cons rfl ?_)), k + 1, (c + (g (i + k) + dg A i * dg B k)) / 65536, fup g (i + k) ((c + (g (i + k) + dg A i * dg B k)) % 65536), rfl, rfl, rfl, H, by omega, hmb.2.2.2, fup_lt hg (Nat.mod_lt _ (by decide)), fun p hp => by rw [fup_ne (by omega)]; exact hz' p (by omega), mul_in (by omega) hv'⟩
    · skip
      have hgB := of_decide_eq_false hc_7
      obtain rfl : k = (digs B).length := by omega
      refine wp_exit ?_
      refine x_exit ?_
      refine x_exit ?_
      refine b_hit ?_
      refine x_norm ?_; refine hK16 _ _ ?_; try clear hK16 K16
      refine wp_region_lit ?_
      refine p_val (r_move (v := (.slice _ _ _)) ((hk20 5 rfl).trans (hk8 5 rfl))) ?_
      refine p_val (r_move (v := (.int _ _)) ((hk20 6 rfl).trans hl10)) ?_
      refine p_val (r_move (v := (b)) ((hk20 1 rfl).trans (hk8 1 rfl))) ?_
      refine p_val (r_lenR (N := (digs B).length) ts26 rfl (Rd.hp hb H) (u32s_length _)) ?_
      refine p_val (r_add (r := ((i + (digs B).length : Nat) : Int)) rfl rfl ((wr64 (by omega) (by omega)).trans (by omega))) ?_
      refine p_val (r_move (v := (.int _ _)) hl23) ?_
      refine p_val (r_conv (r := (c : Int)) u22 u76 rfl (to32 hc)) ?_
      refine p_val (r_addrS (i := i + (digs B).length) ts26 rfl rfl (rfl) (by rw [u32s_fl_length]; omega)) ?_
      refine p_storeO (i := i + (digs B).length) (xs := u32s (fl g ((digs A).length + (digs B).length))) (rs := []) (ys := u32s (fl (fup g (i + (digs B).length) c) ((digs A).length + (digs B).length))) to76 H rfl (k := 0) rfl rfl rfl (by rw [u32s_fl_length]; omega) (u32s_fl_set _ _ _ _) ?_; clear H; intro w34 H
      refine wpList_nil ?_
      refine b_norm ?_
      refine x_norm ?_; refine hK14 _ _ ?_; try clear hK14 K14
      refine wp_region_lit ?_
      refine p_val (r_move (v := (.int _ _)) ((hk20 6 rfl).trans hl10)) ?_
      refine p_val (r_add (r := ((i + 1 : Nat) : Int)) rfl rfl ((wr64 (by omega) (by omega)).trans (by omega))) ?_
      refine p_val (r_assign (v := (.int _ _)) rfl) ?_
      refine wpList_nil ?_
      refine x_norm ?_
      exact ⟨_, _, (by omega), rfl, (by repeat (first | exact hk8 | refine keep_cons rfl ?_ | refine keep_sub hk20 rfl ?_)), i + 1, fup g (i + (digs B).length) c, rfl, rfl, H, by omega, fup_lt hg hc, fun p hp => by rw [fup_ne (by omega), hz' p (by omega), hz p (by omega)], mul_out (by omega) ((hz' _ (Nat.le_refl _)).trans (hz _ (Nat.le_refl _))) hv hv'⟩
  · skip
    have hgA := of_decide_eq_false hc_3
    refine wp_exit ?_
    refine x_exit ?_
    refine x_exit ?_
    refine b_hit ?_
    refine x_norm ?_; refine hK4 _ _ ?_; try clear hK4 K4
    refine wp_seq_k ?_; intro K35 hK35
    refine wp_region_lit ?_
    refine p_val (r_move (v := (.slice _ _ _)) (hk8 5 rfl)) ?_
    refine p_call (l := [(.slice _ _ _)]) is55 rfl ?_
    refine (trim_c _ _ _ (Rd.ownA H (k := 0) (xs := u32s (fl f ((digs A).length + (digs B).length))) (rs := []) rfl (fl_lenp _ _ _) (fl_capp _ _ _)) (DL_fl hf _) (by rw [fl_length]; omega)).mono ?_; rintro _ w36 ⟨r_13_1, rfl, hr_13_1, hx⟩; replace H := H.ext hx; clear hx
    refine p_val (r_assign (v := _) rfl) ?_
    refine wpList_nil ?_
    refine x_norm ?_; refine hK35 _ _ ?_; try clear hK35 K35
    refine wp_ret ?_
    refine e_1 rfl (q_tmp (v := _) rfl) ?_
    rw [hv, mod_len (by omega)] at hr_13_1
    exact ⟨_, rfl, hr_13_1, E.trans H.below⟩

end Go.Proofs.Ytjmgilhlpohcmaa
