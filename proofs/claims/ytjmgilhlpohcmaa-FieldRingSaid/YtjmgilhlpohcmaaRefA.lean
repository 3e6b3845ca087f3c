/- The walks of some functions. Conditions: as each theorem says. -/
import Derived.Test.YtjmgilhlpohcmaaFldB
import Derived.Test.YtjmgilhlpohcmaaDig
namespace Go.Proofs.Ytjmgilhlpohcmaa
open Go Go.RowKit
attribute [local irreducible] wpList wpT Code.wp Calls Code.rounds lm sd sb ad ac dval subv adr u32s
theorem to76 : TOne Try.prog 76 := ⟨fun _ => by kernel_rfl, fun _ => by kernel_rfl⟩
theorem u76 : Try.prog.underlying 76 = some (.int .u32) := by kernel_rfl
theorem is35 : IsFn Try.prog 35 := isFn Try.func35 (by kernel_rfl) (by kernel_rfl)
theorem is55 : IsFn Try.prog 55 := isFn Try.func55 (by kernel_rfl) (by kernel_rfl)
theorem ts26 : TSl Try.prog 26 76 (.int .u32 0) 4 := tslMk (by kernel_rfl) (by kernel_rfl) rfl

theorem trim_c (a : Value) (l : List Nat) (w : World) (ha : Rd w a (u32s l)) (hd : DL l) (hl : l.length < 1099511627776) :
    Calls Try.prog 55 #[a] w fun e w' => ∃ r, e = .returned r ∧ Dg w' r (dval l) ∧ Ext w w' := by
  refine enter (n := 21) Try.func55 rfl rfl rfl ?_
  have H := HP.start w
  have E := Below.refl w.heap.size w
  refine wp_seq_k ?_; intro K1 hK1
  refine wp_region_lit ?_
  refine p_val (r_assign (v := (.slice none 0 0)) rfl) ?_
  refine wpList_nil ?_
  refine x_norm ?_; refine hK1 _ _ ?_; try clear hK1 K1
  refine wp_seq_k ?_; intro K2 hK2
  refine wp_region_lit ?_
  refine p_val (r_move (v := (a)) rfl) ?_
  refine p_val (r_lenR (N := l.length) ts26 rfl (Rd.hp ha H) (u32s_length _)) ?_
  refine p_val (r_assign (v := (.int _ _)) rfl) ?_
  refine wpList_nil ?_
  refine x_norm ?_; refine hK2 _ _ ?_; try clear hK2 K2
  refine wp_seq_k ?_; intro K3 hK3
  refine wp_block ?_
  refine loopF [3, 6, 7, 8, 9, 10, 11, 12, 13, 14, 15, 16, 17] (fun γ μ w' => ∃ (n : Nat), n = γ ∧ look μ 3 = .int .i64 (n : Int) ∧ HP w w' [] ∧ (n ≤ l.length) ∧ ((∀ (i d : Nat), n ≤ i → l[i]? = some d → d = 0))) (l.length) ⟨l.length, rfl, rfl, H, Nat.le_refl _, fun i d hi hd => absurd (List.getElem?_eq_some_iff.1 hd).1 (by omega)⟩ ?_
  clear H
  intro g7 m4 w5 hk6 hI; obtain ⟨n, rfl, hl8, H, hn, hz⟩ := hI
  refine wp_seq_k ?_; intro K9 hK9
  refine wp_seq_k ?_; intro K10 hK10
  refine wp_region_lit ?_
  refine p_val (r_move (v := (.int _ _)) hl8) ?_
  refine p_val (r_gtr rfl rfl rfl) ?_
  refine p_val (r_move (v := (.bool _)) rfl) ?_
  refine p_gs (j := 2) rfl (fun hb_2_2 => ?_) (fun hb_2_2 => ?_)
  · skip
    have hn0 := of_decide_eq_true hb_2_2
    obtain ⟨d, hd1⟩ : ∃ d, l[n - 1]? = some d := ⟨_, List.getElem?_eq_getElem (by omega)⟩
    refine p_want rfl hb_2_2 ?_
    refine p_val (r_move (v := (a)) (hk6 0 rfl)) ?_
    refine p_want rfl hb_2_2 ?_
    refine p_val (r_move (v := (.int _ _)) hl8) ?_
    refine p_want rfl hb_2_2 ?_
    refine p_val (r_sub rfl rfl (wr64 (by omega) (by omega))) ?_
    refine p_want rfl hb_2_2 ?_
    refine p_val (r_addrR (i := n - 1) ts26 rfl rfl (Rd.hp ha H) (by omega) (by rw [u32s_length]; omega)) ?_
    refine p_want rfl hb_2_2 ?_
    refine p_val (r_loadR (u := .int .u32 (d : Int)) to76 rfl (Rd.hp ha H) (u32s_get hd1)) ?_
    refine p_want rfl hb_2_2 ?_
    refine p_val (r_eql rfl rfl rfl) ?_
    refine p_val (r_pickt (v := (.bool _)) rfl hb_2_2 rfl) ?_
    refine wpList_nil ?_
    refine x_norm ?_; refine hK10 _ _ ?_; try clear hK10 K10
    refine c_split (t := _) rfl (fun hc_2 => ?_) (fun hc_2 => ?_)
    · skip
      refine wp_skip ?_
      refine x_norm ?_; refine hK9 _ _ ?_; try clear hK9 K9
      refine wp_block ?_
      refine wp_region_lit ?_
      refine p_val (r_move (v := (.int _ _)) hl8) ?_
      refine p_val (r_sub rfl rfl (wr64 (by omega) (by omega))) ?_
      refine p_val (r_assign (v := (.int _ _)) rfl) ?_
      refine wpList_nil ?_
      refine b_norm ?_
      refine x_norm ?_
      exact ⟨_, _, (by omega), rfl, (by repeat (first | exact hk6 | refine keep_cons rfl ?_)), n - 1, rfl, congrArg (Value.int .i64) (by omega), H, by omega, trim_step hz hd1 (by have := of_decide_eq_true hc_2; omega)⟩
    · skip
      refine wp_exit ?_
      refine x_exit ?_
      refine x_exit ?_
      refine b_hit ?_
      refine x_norm ?_; refine hK3 _ _ ?_; try clear hK3 K3
      refine wp_seq_k ?_; intro K13 hK13
      refine wp_region_lit ?_
      refine p_val (r_move (v := (a)) (hk6 0 rfl)) ?_
      refine p_val (r_move (v := (.int _ _)) hl8) ?_
      refine p_val (r_sliceH (h := n) ts26 rfl rfl (rfl) (Rd.hp ha H) (by rw [u32s_length]; omega)) ?_
      refine p_val (r_assign (v := _) rfl) ?_
      refine wpList_nil ?_
      refine x_norm ?_; refine hK13 _ _ ?_; try clear hK13 K13
      refine wp_ret ?_
      refine e_1 rfl (q_tmp (v := _) rfl) ?_
      exact ⟨_, rfl, trim_fin (Rd.hp ha H) hd hn hz (.inr fun hq => by rw [hd1] at hq; injection hq with hq; have := of_decide_eq_false hc_2; omega), E.trans H.below⟩
  · skip
    have hn0 := of_decide_eq_false hb_2_2
    refine p_skip rfl hb_2_2 ?_
    rw [put_fr]
    refine p_skip rfl hb_2_2 ?_
    rw [put_fr]
    refine p_skip rfl hb_2_2 ?_
    rw [put_fr]
    refine p_skip rfl hb_2_2 ?_
    rw [put_fr]
    refine p_skip rfl hb_2_2 ?_
    rw [put_fr]
    refine p_skip rfl hb_2_2 ?_
    rw [put_fr]
    refine p_val (r_pickf (v := (.bool _)) rfl hb_2_2 rfl) ?_
    refine wpList_nil ?_
    refine x_norm ?_; refine hK10 _ _ ?_; try clear hK10 K10
    refine c_false rfl rfl ?_
    refine wp_exit ?_
    refine x_exit ?_
    refine x_exit ?_
    refine b_hit ?_
    refine x_norm ?_; refine hK3 _ _ ?_; try clear hK3 K3
    refine wp_seq_k ?_; intro K14 hK14
    refine wp_region_lit ?_
    refine p_val (r_move (v := (a)) (hk6 0 rfl)) ?_
    refine p_val (r_move (v := (.int _ _)) hl8) ?_
    refine p_val (r_sliceH (h := n) ts26 rfl rfl (rfl) (Rd.hp ha H) (by rw [u32s_length]; omega)) ?_
    refine p_val (r_assign (v := _) rfl) ?_
    refine wpList_nil ?_
    refine x_norm ?_; refine hK14 _ _ ?_; try clear hK14 K14
    refine wp_ret ?_
    refine e_1 rfl (q_tmp (v := _) rfl) ?_
    exact ⟨_, rfl, trim_fin (Rd.hp ha H) hd hn hz (.inl (by omega)), E.trans H.below⟩

theorem cmp_c (a b : Value) (la lb : List Nat) (w : World) (ha : Rd w a (u32s la)) (hb : Rd w b (u32s lb)) (da : DL la) (db : DL lb) (hla : la.length < 1099511627776) (hlb : lb.length < 1099511627776) :
    Calls Try.prog 35 #[a, b] w fun e w' => e = .returned (.int .i64 (cmpI (dval la) (dval lb))) ∧ Ext w w' := by
  refine enter (n := 45) Try.func35 rfl rfl rfl ?_
  have H := HP.start w
  have E := Below.refl w.heap.size w
  refine wp_seq_k ?_; intro K1 hK1
  refine wp_region_lit ?_
  refine p_val (r_assign (v := (.int _ _)) rfl) ?_
  refine wpList_nil ?_
  refine x_norm ?_; refine hK1 _ _ ?_; try clear hK1 K1
  refine wp_seq_k ?_; intro K2 hK2
  refine wp_region_lit ?_
  refine p_val (r_move (v := (a)) rfl) ?_
  refine p_call (l := [(a)]) is55 rfl ?_
  refine (trim_c _ _ _ (Rd.hp ha H) (by first | assumption | exact digs_DL _) (by first | assumption | omega)).mono ?_; rintro _ w3 ⟨r_1_1, rfl, hr_1_1, hx⟩; replace H := H.ext hx; clear hx
  have hB := H.below; replace E := Ext.trans E hB
  replace ha := Rd.ext ha hB
  replace hb := Rd.ext hb hB
  clear hB; replace H := HP.restart H
  refine p_val (r_move (v := (b)) rfl) ?_
  refine p_call (l := [(b)]) is55 rfl ?_
  refine (trim_c _ _ _ (Rd.hp hb H) (by first | assumption | exact digs_DL _) (by first | assumption | omega)).mono ?_; rintro _ w4 ⟨r_1_3, rfl, hr_1_3, hx⟩; replace H := H.ext hx; clear hx
  have hB := H.below; replace E := Ext.trans E hB
  replace ha := Rd.ext ha hB
  replace hb := Rd.ext hb hB
  replace hr_1_1 := Rd.ext hr_1_1 hB
  clear hB; replace H := HP.restart H
  have la1 : (digs (dval la)).length ≤ la.length := digs_len_le (dval_lt da)
  have lb1 : (digs (dval lb)).length ≤ lb.length := digs_len_le (dval_lt db)
  refine p_val (r_assign (v := _) rfl) ?_
  refine p_val (r_assign (v := _) rfl) ?_
  refine wpList_nil ?_
  refine x_norm ?_; refine hK2 _ _ ?_; try clear hK2 K2
  refine wp_seq_k ?_; intro K5 hK5
  refine wp_seq_k ?_; intro K6 hK6
  refine wp_region_lit ?_
  refine p_val (r_move (v := _) rfl) ?_
  refine p_val (r_lenR (N := (digs _).length) ts26 rfl (Rd.hp hr_1_1 H) (u32s_length _)) ?_
  refine p_val (r_move (v := _) rfl) ?_
  refine p_val (r_lenR (N := (digs _).length) ts26 rfl (Rd.hp hr_1_3 H) (u32s_length _)) ?_
  refine p_val (r_neq rfl rfl rfl) ?_
  refine wpList_nil ?_
  refine x_norm ?_; refine hK6 _ _ ?_; try clear hK6 K6
  refine c_split (t := _) rfl (fun hc_2 => ?_) (fun hc_2 => ?_)
  · skip
    have hlen : (digs (dval la)).length ≠ (digs (dval lb)).length := by simp at hc_2; omega
    refine wp_seq_k ?_; intro K8 hK8
    refine wp_seq_k ?_; intro K9 hK9
    refine wp_region_lit ?_
    refine p_val (r_move (v := _) rfl) ?_
    refine p_val (r_lenR (N := (digs _).length) ts26 rfl (Rd.hp hr_1_1 H) (u32s_length _)) ?_
    refine p_val (r_move (v := _) rfl) ?_
    refine p_val (r_lenR (N := (digs _).length) ts26 rfl (Rd.hp hr_1_3 H) (u32s_length _)) ?_
    refine p_val (r_lss rfl rfl rfl) ?_
    refine wpList_nil ?_
    refine x_norm ?_; refine hK9 _ _ ?_; try clear hK9 K9
    refine c_split (t := _) rfl (fun hc_3 => ?_) (fun hc_3 => ?_)
    · skip
      refine wp_seq_k ?_; intro K11 hK11
      refine wp_region_lit ?_
      refine p_val (r_assign (v := (.int _ _)) rfl) ?_
      refine wpList_nil ?_
      refine x_norm ?_; refine hK11 _ _ ?_; try clear hK11 K11
      refine wp_ret ?_
      refine x_ret ?_
      refine x_ret ?_
      refine e_1 rfl (q_tmp (v := (.int _ _)) rfl) ?_
      exact ⟨by rw [cmpI_l (cmpI_len (by have := of_decide_eq_true hc_3; omega))], E.trans H.below⟩
    · skip
      refine wp_skip ?_
      refine x_norm ?_; refine hK8 _ _ ?_; try clear hK8 K8
      refine wp_seq_k ?_; intro K12 hK12
      refine wp_region_lit ?_
      refine p_val (r_assign (v := (.int _ _)) rfl) ?_
      refine wpList_nil ?_
      refine x_norm ?_; refine hK12 _ _ ?_; try clear hK12 K12
      refine wp_ret ?_
      refine x_ret ?_
      refine e_1 rfl (q_tmp (v := (.int _ _)) rfl) ?_
      exact ⟨by rw [cmpI_g (cmpI_len (by have := of_decide_eq_false hc_3; omega))], E.trans H.below⟩
  · skip
    have hlen : (digs (dval la)).length = (digs (dval lb)).length := by simp at hc_2; omega
    refine wp_skip ?_
    refine x_norm ?_; refine hK5 _ _ ?_; try clear hK5 K5
    refine wp_seq_k ?_; intro K13 hK13
    refine wp_seq_k ?_; intro K14 hK14
    refine wp_region_lit ?_
    refine p_val (r_move (v := _) rfl) ?_
    refine p_val (r_lenR (N := (digs _).length) ts26 rfl (Rd.hp hr_1_1 H) (u32s_length _)) ?_
    refine p_val (r_sub rfl rfl (wr64 (by omega) (by omega))) ?_
    refine p_val (r_assign (v := (.int _ _)) rfl) ?_
    refine wpList_nil ?_
    refine x_norm ?_; refine hK14 _ _ ?_; try clear hK14 K14
    refine wp_block ?_
    refine loopF [4, 5, 23, 24, 25, 26, 27, 28, 29, 30, 31, 32, 33, 34, 35, 36, 37, 38, 39, 40, 41, 42, 43, 44] (fun γ μ w' => ∃ (k : Nat), k = γ ∧ look μ 5 = .int .i64 ((k : Int) - 1) ∧ HP w4 w' [] ∧ (k ≤ (digs (dval la)).length) ∧ (dval la / 65536 ^ k = dval lb / 65536 ^ k)) ((digs (dval la)).length) ⟨(digs (dval la)).length, rfl, rfl, H, Nat.le_refl _, (above_top (Nat.le_refl _)).trans (above_top (Nat.le_of_eq hlen.symm)).symm⟩ ?_
    clear H
    intro g18 m15 w16 hk17 hI; obtain ⟨k, rfl, hl19, H, hk, hq⟩ := hI
    refine wp_seq_k ?_; intro K20 hK20
    refine wp_seq_k ?_; intro K21 hK21
    refine wp_region_lit ?_
    refine p_val (r_move (v := (.int _ _)) hl19) ?_
    refine p_val (r_geq rfl rfl rfl) ?_
    refine wpList_nil ?_
    refine x_norm ?_; refine hK21 _ _ ?_; try clear hK21 K21
    refine c_split (t := _) rfl (fun hc_7 => ?_) (fun hc_7 => ?_)
    · skip
      have hk0 : 0 < k := by have := of_decide_eq_true hc_7; omega
      refine wp_skip ?_
      refine x_norm ?_; refine hK20 _ _ ?_; try clear hK20 K20
      refine wp_seq_k ?_; intro K23 hK23
      refine wp_block ?_
      refine wp_seq_k ?_; intro K24 hK24
      refine wp_seq_k ?_; intro K25 hK25
      apply wp_region_ext 9 (kinds []) rfl rfl (by kernel_rfl); intro vs27
      simp only [List.take_succ_cons, List.take_zero, List.drop_succ_cons, List.drop_zero]
      replace H := H.drew
      refine t_val (fun w hx => r_move (v := _) (hk17 0 rfl)) rfl rfl ?_
      refine t_val (fun w hx => r_move (v := (.int _ _)) hl19) rfl rfl ?_
      refine t_val (fun w hx => r_addrR (i := k - 1) ts26 rfl rfl (Rd.hp hr_1_1 (H.ext hx)) (by omega) (by rw [u32s_length]; omega)) rfl rfl ?_
      refine t_val (fun w hx => r_loadR (u := .int .u32 ((dval la / 65536 ^ (k - 1) % 65536 : Nat) : Int)) to76 rfl (Rd.hp hr_1_1 (H.ext hx)) (u32s_digs (by omega))) rfl rfl ?_
      refine t_val (fun w hx => r_move (v := _) (hk17 1 rfl)) rfl rfl ?_
      refine t_val (fun w hx => r_move (v := (.int _ _)) hl19) rfl rfl ?_
      refine t_val (fun w hx => r_addrR (i := k - 1) ts26 rfl rfl (Rd.hp hr_1_3 (H.ext hx)) (by omega) (by rw [u32s_length]; omega)) rfl rfl ?_
      refine t_val (fun w hx => r_loadR (u := .int .u32 ((dval lb / 65536 ^ (k - 1) % 65536 : Nat) : Int)) to76 rfl (Rd.hp hr_1_3 (H.ext hx)) (u32s_digs (by omega))) rfl rfl ?_
      refine t_val (fun w hx => r_lss rfl rfl rfl) rfl rfl ?_
      refine t_nil (fun w29 hx hF hA => ?_)
      replace H := H.ext hx
      clear hx hF hA
      refine wpList_nil ?_; refine on_norm ?_
      refine x_norm ?_; refine hK25 _ _ ?_; try clear hK25 K25
      refine c_split (t := _) rfl (fun hc_9 => ?_) (fun hc_9 => ?_)
      · skip
        refine wp_seq_k ?_; intro K30 hK30
        refine wp_region_lit ?_
        refine p_val (r_assign (v := (.int _ _)) rfl) ?_
        refine wpList_nil ?_
        refine x_norm ?_; refine hK30 _ _ ?_; try clear hK30 K30
        refine wp_ret ?_
        refine x_ret ?_
        refine b_ret ?_
        refine x_ret ?_
        refine x_ret ?_
        refine b_ret ?_
        refine x_ret ?_
        refine e_1 rfl (q_tmp (v := (.int _ _)) rfl) ?_
        exact ⟨by rw [cmpI_l (cmp_lt hk0 hq (of_decide_eq_true hc_9))], E.trans H.below⟩
      · skip
        refine wp_skip ?_
        refine x_norm ?_; refine hK24 _ _ ?_; try clear hK24 K24
        refine wp_seq_k ?_; intro K31 hK31
        apply wp_region_ext 9 (kinds []) rfl rfl (by kernel_rfl); intro vs33
        simp only [List.take_succ_cons, List.take_zero, List.drop_succ_cons, List.drop_zero]
        replace H := H.drew
        refine t_val (fun w hx => r_move (v := _) (hk17 0 rfl)) rfl rfl ?_
        refine t_val (fun w hx => r_move (v := (.int _ _)) hl19) rfl rfl ?_
        refine t_val (fun w hx => r_addrR (i := k - 1) ts26 rfl rfl (Rd.hp hr_1_1 (H.ext hx)) (by omega) (by rw [u32s_length]; omega)) rfl rfl ?_
        refine t_val (fun w hx => r_loadR (u := .int .u32 ((dval la / 65536 ^ (k - 1) % 65536 : Nat) : Int)) to76 rfl (Rd.hp hr_1_1 (H.ext hx)) (u32s_digs (by omega))) rfl rfl ?_
        refine t_val (fun w hx => r_move (v := _) (hk17 1 rfl)) rfl rfl ?_
        refine t_val (fun w hx => r_move (v := (.int _ _)) hl19) rfl rfl ?_
        refine t_val (fun w hx => r_addrR (i := k - 1) ts26 rfl rfl (Rd.hp hr_1_3 (H.ext hx)) (by omega) (by rw [u32s_length]; omega)) rfl rfl ?_
        refine t_val (fun w hx => r_loadR (u := .int .u32 ((dval lb / 65536 ^ (k - 1) % 65536 : Nat) : Int)) to76 rfl (Rd.hp hr_1_3 (H.ext hx)) (u32s_digs (by omega))) rfl rfl ?_
        refine t_val (fun w hx => r_gtr rfl rfl rfl) rfl rfl ?_
        refine t_nil (fun w35 hx hF hA => ?_)
        replace H := H.ext hx
        clear hx hF hA
        refine wpList_nil ?_; refine on_norm ?_
        refine x_norm ?_; refine hK31 _ _ ?_; try clear hK31 K31
        refine c_split (t := _) rfl (fun hc_11 => ?_) (fun hc_11 => ?_)
        · skip
          refine wp_seq_k ?_; intro K36 hK36
          refine wp_region_lit ?_
          refine p_val (r_assign (v := (.int _ _)) rfl) ?_
          refine wpList_nil ?_
          refine x_norm ?_; refine hK36 _ _ ?_; try clear hK36 K36
          refine wp_ret ?_
          refine b_ret ?_
          refine x_ret ?_
          refine x_ret ?_
          refine b_ret ?_
          refine x_ret ?_
          refine e_1 rfl (q_tmp (v := (.int _ _)) rfl) ?_
          exact ⟨by rw [cmpI_g (cmp_lt hk0 hq.symm (of_decide_eq_true hc_11))], E.trans H.below⟩
        · skip
          refine wp_skip ?_
          refine b_norm ?_
          refine x_norm ?_; refine hK23 _ _ ?_; try clear hK23 K23
          refine wp_region_lit ?_
          refine p_val (r_move (v := (.int _ _)) hl19) ?_
          refine p_val (r_sub rfl rfl (wr64 (by omega) (by omega))) ?_
          refine p_val (r_assign (v := (.int _ _)) rfl) ?_
          refine wpList_nil ?_
          refine x_norm ?_
          exact ⟨_, _, (by omega), rfl, (by repeat (first | exact hk17 | refine keep_cons rfl ?_)), k - 1, rfl, congrArg (Value.int .i64) (by omega), H, by omega, cmp_eq hk0 hq (of_decide_eq_false hc_9) (of_decide_eq_false hc_11)⟩
    · skip
      have hk0 : k = 0 := by have := of_decide_eq_false hc_7; omega
      refine wp_exit ?_
      refine x_exit ?_
      refine x_exit ?_
      refine b_hit ?_
      refine x_norm ?_; refine hK13 _ _ ?_; try clear hK13 K13
      refine wp_seq_k ?_; intro K37 hK37
      refine wp_region_lit ?_
      refine p_val (r_assign (v := (.int _ _)) rfl) ?_
      refine wpList_nil ?_
      refine x_norm ?_; refine hK37 _ _ ?_; try clear hK37 K37
      refine wp_ret ?_
      refine e_1 rfl (q_tmp (v := (.int _ _)) rfl) ?_
      subst hk0
      exact ⟨by rw [cmpI_e (by simpa using hq)], E.trans H.below⟩

theorem is_c (a b : Value) (A B : Nat) (w : World) (ha : Dg w a A) (hb : Dg w b B) (hA : (digs A).length < 1099511627776) (hB : (digs B).length < 1099511627776) :
    Calls Try.prog 19 #[a, b] w fun e w' => e = .returned (.bool (decide (A = B))) ∧ Ext w w' := by
  refine enter (n := 9) Try.func19 rfl rfl rfl ?_
  have H := HP.start w
  have E := Below.refl w.heap.size w
  refine wp_seq_k ?_; intro K1 hK1
  refine wp_region_lit ?_
  refine p_val (r_assign (v := (.bool _)) rfl) ?_
  refine wpList_nil ?_
  refine x_norm ?_; refine hK1 _ _ ?_; try clear hK1 K1
  refine wp_seq_k ?_; intro K2 hK2
  refine wp_region_lit ?_
  refine p_val (r_move (v := (a)) rfl) ?_
  refine p_val (r_move (v := (b)) rfl) ?_
  refine p_call (l := [(a), (b)]) is35 rfl ?_
  refine (cmp_c _ _ _ _ _ (Rd.hp ha H) (Rd.hp hb H) (by first | assumption | exact digs_DL _) (by first | assumption | exact digs_DL _) (by first | assumption | omega) (by first | assumption | omega)).mono ?_; rintro _ w3 ⟨rfl, hx⟩; replace H := H.ext hx; clear hx
  refine p_val (r_eql rfl rfl rfl) ?_
  refine p_val (r_assign (v := (.bool _)) rfl) ?_
  refine wpList_nil ?_
  refine x_norm ?_; refine hK2 _ _ ?_; try clear hK2 K2
  refine wp_ret ?_
  refine e_1 rfl (q_tmp (v := (.bool _)) rfl) ?_
  exact ⟨by rw [dval_digs, dval_digs]; rw [is_fin], E.trans H.below⟩

theorem rmodulus_c (m : Int) (w : World) :
    Calls Try.prog 20 #[.int .i64 m] w fun e w' => ∃ r, e = .returned r ∧ Dg w' r (modN m) ∧ Ext w w' := by
  refine enter (n := 7) Try.func20 rfl rfl rfl ?_
  have H := HP.start w
  have E := Below.refl w.heap.size w
  refine wp_seq_k ?_; intro K1 hK1
  refine wp_region_lit ?_
  refine p_val (r_assign (v := (.slice none 0 0)) rfl) ?_
  refine wpList_nil ?_
  refine x_norm ?_; refine hK1 _ _ ?_; try clear hK1 K1
  refine wp_seq_k ?_; intro K2 hK2
  refine wp_seq_k ?_; intro K3 hK3
  refine wp_region_lit ?_
  refine p_val (r_move (v := (.int _ _)) rfl) ?_
  refine p_val (r_eql rfl rfl rfl) ?_
  refine wpList_nil ?_
  refine x_norm ?_; refine hK3 _ _ ?_; try clear hK3 K3
  refine c_split (t := _) rfl (fun hc_1 => ?_) (fun hc_1 => ?_)
  · skip
    refine wp_seq_k ?_; intro K5 hK5
    refine wp_region_lit ?_
    refine p_bslice (N := 16) (vals := [(0, (.int _ _)), (1, (.int _ _)), (2, (.int _ _)), (3, (.int _ _)), (4, (.int _ _)), (5, (.int _ _)), (6, (.int _ _)), (7, (.int _ _)), (8, (.int _ _)), (9, (.int _ _)), (10, (.int _ _)), (11, (.int _ _)), (12, (.int _ _)), (13, (.int _ _)), (14, (.int _ _)), (15, (.int _ _))]) (l := [_, _, _, _, _, _, _, _, _, _, _, _, _, _, _, _]) (ys := u32s (digs (modN m))) ts26 H rfl rfl rfl rfl (u32s_modP (by simpa using hc_1)) ?_; clear H; intro w6 bs_2_0 H
    refine p_val (r_assign (v := (.slice _ _ _)) rfl) ?_
    refine wpList_nil ?_
    refine x_norm ?_; refine hK5 _ _ ?_; try clear hK5 K5
    refine wp_ret ?_
    refine x_ret ?_
    refine e_1 rfl (q_tmp (v := (.slice _ _ _)) rfl) ?_
    exact ⟨_, rfl, Rd.ownA H (k := 0) (rs := []) rfl rfl rfl, E.trans H.below⟩
  · skip
    refine wp_skip ?_
    refine x_norm ?_; refine hK2 _ _ ?_; try clear hK2 K2
    refine wp_seq_k ?_; intro K7 hK7
    refine wp_region_lit ?_
    refine p_bslice (N := 16) (vals := [(0, (.int _ _)), (1, (.int _ _)), (2, (.int _ _)), (3, (.int _ _)), (4, (.int _ _)), (5, (.int _ _)), (6, (.int _ _)), (7, (.int _ _)), (8, (.int _ _)), (9, (.int _ _)), (10, (.int _ _)), (11, (.int _ _)), (12, (.int _ _)), (13, (.int _ _)), (14, (.int _ _)), (15, (.int _ _))]) (l := [_, _, _, _, _, _, _, _, _, _, _, _, _, _, _, _]) (ys := u32s (digs (modN m))) ts26 H rfl rfl rfl rfl (u32s_modN (by simpa using hc_1)) ?_; clear H; intro w8 bs_3_0 H
    refine p_val (r_assign (v := (.slice _ _ _)) rfl) ?_
    refine wpList_nil ?_
    refine x_norm ?_; refine hK7 _ _ ?_; try clear hK7 K7
    refine wp_ret ?_
    refine e_1 rfl (q_tmp (v := (.slice _ _ _)) rfl) ?_
    exact ⟨_, rfl, Rd.ownA H (k := 0) (rs := []) rfl rfl rfl, E.trans H.below⟩

theorem in_c (A : Nat) (hA : A < two256) (w : World) :
    Calls Try.prog 16 #[numV A] w fun e w' => ∃ r, e = .returned r ∧ Dg w' r A ∧ Ext w w' := by
  refine enter (n := 28) Try.func16 rfl rfl rfl ?_
  have H := HP.start w
  have E := Below.refl w.heap.size w
  refine wp_seq_k ?_; intro K1 hK1
  refine wp_region_lit ?_
  refine p_box (l := numL A) H rfl ?_; clear H; intro w2 b3 H
  refine p_val (r_assign (v := (.slice none 0 0)) rfl) ?_
  refine wpList_nil ?_
  refine x_norm ?_; refine hK1 _ _ ?_; try clear hK1 K1
  refine wp_seq_k ?_; intro K4 hK4
  refine wp_region_lit ?_
  refine p_bslice (N := 0) (vals := []) (l := []) (ys := u32s (dl A (4 * 0))) ts26 H rfl rfl rfl rfl (u32s_dl0 A) ?_; clear H; intro w5 bs_1_0 H
  refine p_val (r_assign (v := (.slice _ _ _)) rfl) ?_
  refine wpList_nil ?_
  refine x_norm ?_; refine hK4 _ _ ?_; try clear hK4 K4
  refine wp_seq_k ?_; intro K6 hK6
  refine wp_seq_k ?_; intro K7 hK7
  refine wp_region_lit ?_
  refine p_val (r_assign (v := (.int _ _)) rfl) ?_
  refine wpList_nil ?_
  refine x_norm ?_; refine hK7 _ _ ?_; try clear hK7 K7
  refine wp_block ?_
  refine loopF [3, 4, 5, 7, 8, 9, 10, 11, 12, 13, 14, 15, 16, 17, 18, 19, 20, 21, 22, 23, 24, 25] (fun γ μ w' => ∃ (i : Nat) (b : Nat) (rs : List Value), 4 - i = γ ∧ look μ 4 = .int .i64 (i : Int) ∧ look μ 3 = sl b 0 (u32s (dl A (4 * i))).length (u32s (dl A (4 * i)) ++ rs).length ∧ HP w w' [(b, u32s (dl A (4 * i)) ++ rs, 76), (b3, numL A, 24)] ∧ (i ≤ 4)) (4) ⟨0, _, [], rfl, rfl, rfl, H, by omega⟩ ?_
  clear H
  intro g11 m8 w9 hk10 hI; obtain ⟨i, b, rs, rfl, hl12, hl13, H, hi⟩ := hI
  refine wp_seq_k ?_; intro K14 hK14
  refine wp_seq_k ?_; intro K15 hK15
  refine wp_region_lit ?_
  refine p_val (r_move (v := (.int _ _)) hl12) ?_
  refine p_val (r_lss rfl rfl rfl) ?_
  refine wpList_nil ?_
  refine x_norm ?_; refine hK15 _ _ ?_; try clear hK15 K15
  refine c_split (t := _) rfl (fun hc_3 => ?_) (fun hc_3 => ?_)
  · skip
    have hi4 := of_decide_eq_true hc_3
    refine wp_skip ?_
    refine x_norm ?_; refine hK14 _ _ ?_; try clear hK14 K14
    refine wp_seq_k ?_; intro K17 hK17
    refine wp_block ?_
    refine wp_seq_k ?_; intro K18 hK18
    refine wp_region_lit ?_
    refine p_val (r_assign (v := (.int _ _)) rfl) ?_
    refine wpList_nil ?_
    refine x_norm ?_; refine hK18 _ _ ?_; try clear hK18 K18
    refine wp_block ?_
    refine loopF [3, 5, 11, 12, 13, 14, 15, 16, 17, 18, 19, 20, 21, 22, 23, 24, 25] (fun γ μ w' => ∃ (k : Nat) (b' : Nat) (rs' : List Value), 4 - k = γ ∧ look μ 5 = .int .i64 (k : Int) ∧ look μ 3 = sl b' 0 (u32s (dl A (4 * i + k))).length (u32s (dl A (4 * i + k)) ++ rs').length ∧ HP w w' [(b', u32s (dl A (4 * i + k)) ++ rs', 76), (b3, numL A, 24)] ∧ (k ≤ 4)) (4) ⟨0, b, rs, rfl, rfl, hl13, H, by omega⟩ ?_
    clear H
    intro g22 m19 w20 hk21 hI; obtain ⟨k, b', rs', rfl, hl23, hl24, H, hk⟩ := hI
    refine wp_seq_k ?_; intro K25 hK25
    refine wp_seq_k ?_; intro K26 hK26
    refine wp_region_lit ?_
    refine p_val (r_move (v := (.int _ _)) hl23) ?_
    refine p_val (r_lss rfl rfl rfl) ?_
    refine wpList_nil ?_
    refine x_norm ?_; refine hK26 _ _ ?_; try clear hK26 K26
    refine c_split (t := _) rfl (fun hc_6 => ?_) (fun hc_6 => ?_)
    · skip
      have hk4 := of_decide_eq_true hc_6
      refine wp_skip ?_
      refine x_norm ?_; refine hK25 _ _ ?_; try clear hK25 K25
      refine wp_seq_k ?_; intro K28 hK28
      refine wp_block ?_
      refine wp_region_lit ?_
      refine p_val (r_move (v := (.slice _ _ _)) hl24) ?_
      refine p_val (r_move (v := (.int _ _)) ((hk21 4 rfl).trans hl12)) ?_
      refine p_val (r_addrA (i := i) u24 sz22 ((hk21 1 rfl).trans (hk10 1 rfl)) rfl (rfl) (by omega) (by omega)) ?_
      refine p_val (r_load1 (v := .int .u64 (lm A i)) to22 H rfl (k := 1) rfl (by rw [Nat.zero_add, Nat.mul_one]; exact numL_piece A i (by omega))) ?_
      refine p_val (r_move (v := (.int _ _)) hl23) ?_
      refine p_val (r_mul (r := ((16 * k : Nat) : Int)) rfl rfl ((wr64 (by omega) (by omega)).trans (by omega))) ?_
      refine p_val (r_shr (r := ((A / 2 ^ (64 * i) % 2 ^ 64 / 2 ^ (16 * k) : Nat) : Int)) rfl rfl (by omega) (in_shr A i k (by omega))) ?_
      refine p_val (r_bits (bo := .and) (by simp) (r := ((dg A (4 * i + k) : Nat) : Int)) rfl rfl (in_and A i k (by omega))) ?_
      refine p_val (r_conv (r := ((dg A (4 * i + k) : Nat) : Int)) u22 u76 rfl (wrapS rfl (Nat.lt_of_lt_of_le (dg_lt _ _) (by decide)))) ?_
      refine p_bslice (N := 1) (vals := [(0, (.int _ _))]) (l := [_]) (ys := [_]) ts26 H rfl rfl rfl rfl (rfl) ?_; clear H; intro w29 bs_8_9 H
      refine p_append (ys := u32s (dl A (4 * i + (k + 1)))) (xs := u32s (dl A (4 * i + k))) (rs := rs') ts26 H rfl (k := 1) rfl rfl rfl rfl (Rd.ownA H (k := 0) (xs := [_]) (rs := []) rfl rfl rfl) (onesI) (dl_snoc A (4 * i + k)) (by rw [u32s_length, dl_length]; omega) ?_; clear H; intro w30 bb_8_10 rs_8_10 H
      refine p_val (r_assign (v := (.slice _ _ _)) rfl) ?_
      refine wpList_nil ?_
      refine b_norm ?_
      refine x_norm ?_; refine hK28 _ _ ?_; try clear hK28 K28
      refine wp_region_lit ?_
      refine p_val (r_move (v := (.int _ _)) hl23) ?_
      refine p_val (r_add (r := ((k + 1 : Nat) : Int)) rfl rfl ((wr64 (by omega) (by omega)).trans (by omega))) ?_
      refine p_val (r_assign (v := (.int _ _)) rfl) ?_
      refine wpList_nil ?_
      refine x_norm ?_
      replace H := H.tail
      exact ⟨_, _, (by omega), rfl, (by repeat (first | exact hk21 | refine keep_cons rfl ?_)), k + 1, bb_8_10, rs_8_10, rfl, rfl, rfl, H, by omega⟩
    · skip
      have hk4 := of_decide_eq_false hc_6
      obtain rfl : k = 4 := by omega
      refine wp_exit ?_
      refine x_exit ?_
      refine x_exit ?_
      refine b_hit ?_
      refine b_norm ?_
      refine x_norm ?_; refine hK17 _ _ ?_; try clear hK17 K17
      refine wp_region_lit ?_
      refine p_val (r_move (v := (.int _ _)) ((hk21 4 rfl).trans hl12)) ?_
      refine p_val (r_add (r := ((i + 1 : Nat) : Int)) rfl rfl ((wr64 (by omega) (by omega)).trans (by omega))) ?_
      refine p_val (r_assign (v := (.int _ _)) rfl) ?_
      refine wpList_nil ?_
      refine x_norm ?_
      exact ⟨_, _, (by omega), rfl, (by repeat (first | exact hk10 | refine keep_cons rfl ?_ | refine keep_sub hk21 rfl ?_)), i + 1, b', rs', rfl, rfl, hl24, H, by omega⟩
  · skip
    have hi4 := of_decide_eq_false hc_3
    have hi5 : i = 4 := by omega
    have hdl := DL_dl A (4 * i)
    have hln : (dl A (4 * i)).length < 1099511627776 := by rw [dl_length]; omega
    refine wp_exit ?_
    refine x_exit ?_
    refine x_exit ?_
    refine b_hit ?_
    refine x_norm ?_; refine hK6 _ _ ?_; try clear hK6 K6
    refine wp_seq_k ?_; intro K31 hK31
    refine wp_region_lit ?_
    refine p_val (r_move (v := (.slice _ _ _)) hl13) ?_
    refine p_call (l := [(.slice _ _ _)]) is55 rfl ?_
    refine (trim_c _ _ _ (Rd.ownA H (k := 0) (xs := u32s (dl A (4 * i))) (rs := rs) rfl rfl rfl) (by first | assumption | exact digs_DL _) (by first | assumption | omega)).mono ?_; rintro _ w32 ⟨r_9_1, rfl, hr_9_1, hx⟩; replace H := H.ext hx; clear hx
    refine p_val (r_assign (v := _) rfl) ?_
    refine wpList_nil ?_
    refine x_norm ?_; refine hK31 _ _ ?_; try clear hK31 K31
    refine wp_ret ?_
    refine e_1 rfl (q_tmp (v := _) rfl) ?_
    rw [in_fin hA hi5] at hr_9_1
    exact ⟨_, rfl, hr_9_1, E.trans H.below⟩

theorem radd_c (a b : Value) (A B : Nat) (w : World) (ha : Dg w a A) (hb : Dg w b B) (hA : (digs A).length < 549755813888) (hB : (digs B).length < 549755813888) :
    Calls Try.prog 58 #[a, b] w fun e w' => ∃ r, e = .returned r ∧ Dg w' r (A + B) ∧ Ext w w' := by
  refine enter (n := 53) Try.func58 rfl rfl rfl ?_
  have H := HP.start w
  have E := Below.refl w.heap.size w
  refine wp_seq_k ?_; intro K1 hK1
  refine wp_region_lit ?_
  refine p_val (r_assign (v := (.slice none 0 0)) rfl) ?_
  refine wpList_nil ?_
  refine x_norm ?_; refine hK1 _ _ ?_; try clear hK1 K1
  refine wp_seq_k ?_; intro K2 hK2
  refine wp_region_lit ?_
  refine p_bslice (N := 0) (vals := []) (l := []) (ys := u32s []) ts26 H rfl rfl rfl rfl (u32s_nil) ?_; clear H; intro w3 bs_1_0 H
  refine p_val (r_assign (v := (.slice _ _ _)) rfl) ?_
  refine wpList_nil ?_
  refine x_norm ?_; refine hK2 _ _ ?_; try clear hK2 K2
  refine wp_seq_k ?_; intro K4 hK4
  refine wp_region_lit ?_
  refine p_val (r_assign (v := (.int _ _)) rfl) ?_
  refine wpList_nil ?_
  refine x_norm ?_; refine hK4 _ _ ?_; try clear hK4 K4
  refine wp_seq_k ?_; intro K5 hK5
  refine wp_seq_k ?_; intro K6 hK6
  refine wp_region_lit ?_
  refine p_val (r_assign (v := (.int _ _)) rfl) ?_
  refine wpList_nil ?_
  refine x_norm ?_; refine hK6 _ _ ?_; try clear hK6 K6
  refine wp_block ?_
  refine loopF [5, 6, 7, 9, 10, 11, 12, 13, 14, 15, 16, 17, 18, 19, 20, 21, 22, 23, 24, 25, 26, 27, 28, 29, 30, 31, 32, 33, 34, 35, 36, 37, 38, 39, 40, 41, 42, 43, 44, 45, 46, 47] (fun γ μ w' => ∃ (i c : Nat) (ls : List Nat) (bo : Nat) (rs : List Value), (digs A).length + (digs B).length - i = γ ∧ look μ 7 = .int .i64 (i : Int) ∧ look μ 6 = .int .u32 (c : Int) ∧ look μ 5 = sl bo 0 (u32s ls).length (u32s ls ++ rs).length ∧ HP w w' [(bo, u32s ls ++ rs, 76)] ∧ (ls.length = i) ∧ (DL ls) ∧ (c ≤ 1) ∧ (dval ls + c * 65536 ^ i = A % 65536 ^ i + B % 65536 ^ i) ∧ (i ≤ (digs A).length ∨ i ≤ (digs B).length)) ((digs A).length + (digs B).length) ⟨0, 0, [], _, [], rfl, rfl, rfl, rfl, H, rfl, DL.nil, by omega, by simp [dval, Nat.mod_one], by omega⟩ ?_
  clear H
  intro g10 m7 w8 hk9 hI; obtain ⟨i, c, ls, bo, rs, rfl, hl11, hl12, hl13, H, hl, hd, hc, hv, hi⟩ := hI
  have hda := dg_lt A i
  have hdb := dg_lt B i
  refine wp_seq_k ?_; intro K14 hK14
  refine wp_seq_k ?_; intro K15 hK15
  refine wp_region_lit ?_
  refine p_val (r_move (v := (.int _ _)) hl11) ?_
  refine p_val (r_move (v := (a)) (hk9 0 rfl)) ?_
  refine p_val (r_lenR (N := (digs A).length) ts26 rfl (Rd.hp ha H) (u32s_length _)) ?_
  refine p_val (r_lss rfl rfl rfl) ?_
  refine p_val (r_move (v := (.bool _)) rfl) ?_
  refine p_gs (j := 4) rfl (fun hb_4_4 => ?_) (fun hb_4_4 => ?_)
  · skip
    have hg1 := of_decide_eq_true hb_4_4
    refine p_skip rfl hb_4_4 ?_
    rw [put_fr]
    refine p_skip rfl hb_4_4 ?_
    rw [put_fr]
    refine p_skip rfl hb_4_4 ?_
    rw [put_fr]
    refine p_skip rfl hb_4_4 ?_
    rw [put_fr]
    refine p_val (r_pickt (v := (.bool _)) rfl hb_4_4 rfl) ?_
    refine wpList_nil ?_
    refine x_norm ?_; refine hK15 _ _ ?_; try clear hK15 K15
    refine c_true rfl rfl ?_
    refine wp_skip ?_
    refine x_norm ?_; refine hK14 _ _ ?_; try clear hK14 K14
    refine wp_seq_k ?_; intro K17 hK17
    refine wp_block ?_
    refine wp_seq_k ?_; intro K18 hK18
    refine wp_seq_k ?_; intro K19 hK19
    refine wp_region_lit ?_
    refine p_val (r_move (v := (.int _ _)) hl11) ?_
    refine p_val (r_move (v := (a)) (hk9 0 rfl)) ?_
    refine p_val (r_lenR (N := (digs A).length) ts26 rfl (Rd.hp ha H) (u32s_length _)) ?_
    refine p_val (r_lss rfl rfl rfl) ?_
    refine wpList_nil ?_
    refine x_norm ?_; refine hK19 _ _ ?_; try clear hK19 K19
    refine c_split (t := _) rfl (fun hc_6 => ?_) (fun hc_6 => ?_)
    · skip
      have hgA := of_decide_eq_true hc_6
      refine wp_region_lit ?_
      refine p_val (r_move (v := (.int _ _)) hl12) ?_
      refine p_val (r_move (v := (a)) (hk9 0 rfl)) ?_
      refine p_val (r_move (v := (.int _ _)) hl11) ?_
      refine p_val (r_addrR (i := i) ts26 rfl rfl (Rd.hp ha H) (rfl) (by rw [u32s_length]; omega)) ?_
      refine p_val (r_loadR (u := .int .u32 (dg A i : Int)) to76 rfl (Rd.hp ha H) (u32s_dg (by omega))) ?_
      refine p_val (r_add (r := ((c + dg A i : Nat) : Int)) rfl rfl (u32add (by omega) (by omega))) ?_
      refine p_val (r_assign (v := (.int _ _)) rfl) ?_
      refine wpList_nil ?_
      refine x_norm ?_; refine hK18 _ _ ?_; try clear hK18 K18
      refine wp_seq_k ?_; intro K21 hK21
      refine wp_seq_k ?_; intro K22 hK22
      refine wp_region_lit ?_
      refine p_val (r_move (v := (.int _ _)) hl11) ?_
      refine p_val (r_move (v := (b)) (hk9 1 rfl)) ?_
      refine p_val (r_lenR (N := (digs B).length) ts26 rfl (Rd.hp hb H) (u32s_length _)) ?_
      refine p_val (r_lss rfl rfl rfl) ?_
      refine wpList_nil ?_
      refine x_norm ?_; refine hK22 _ _ ?_; try clear hK22 K22
      refine c_split (t := _) rfl (fun hc_8 => ?_) (fun hc_8 => ?_)
      · skip
        have hgB := of_decide_eq_true hc_8
        refine wp_region_lit ?_
        refine p_val (r_move (v := (.int _ _)) rfl) ?_
        refine p_val (r_move (v := (b)) (hk9 1 rfl)) ?_
        refine p_val (r_move (v := (.int _ _)) hl11) ?_
        refine p_val (r_addrR (i := i) ts26 rfl rfl (Rd.hp hb H) (rfl) (by rw [u32s_length]; omega)) ?_
        refine p_val (r_loadR (u := .int .u32 (dg B i : Int)) to76 rfl (Rd.hp hb H) (u32s_dg (by omega))) ?_
        refine p_val (r_add (r := ((c + dg A i + dg B i : Nat) : Int)) rfl rfl (u32add (by omega) (by omega))) ?_
        refine p_val (r_assign (v := (.int _ _)) rfl) ?_
        refine wpList_nil ?_
        refine x_norm ?_; refine hK21 _ _ ?_; try clear hK21 K21
        refine wp_seq_k ?_; intro K24 hK24
        refine wp_region_lit ?_
        refine p_val (r_move (v := (.slice _ _ _)) hl13) ?_
        refine p_val (r_move (v := (.int _ _)) rfl) ?_
        refine p_val (r_bits (bo := .and) (by simp) (r := (((c + dg A i + dg B i) % 65536 : Nat) : Int)) rfl rfl (and16 (by omega) (by omega))) ?_
        refine p_bslice (N := 1) (vals := [(0, (.int _ _))]) (l := [_]) (ys := [_]) ts26 H rfl rfl rfl rfl (rfl) ?_; clear H; intro w25 bs_10_3 H
        refine p_append (ys := u32s (ls ++ [(c + dg A i + dg B i) % 65536])) (xs := u32s ls) (rs := rs) ts26 H rfl (k := 1) rfl rfl rfl rfl (Rd.ownA H (k := 0) (xs := [_]) (rs := []) rfl rfl rfl) (onesI) (u32s_snoc _ _) (by rw [u32s_length, List.length_append, hl]; simp only [List.length_cons, List.length_nil]; omega) ?_; clear H; intro w26 bb_10_4 rs_10_4 H
        refine p_val (r_assign (v := (.slice _ _ _)) rfl) ?_
        refine wpList_nil ?_
        refine x_norm ?_; refine hK24 _ _ ?_; try clear hK24 K24
        refine wp_region_lit ?_
        refine p_val (r_move (v := (.int _ _)) rfl) ?_
        refine p_val (r_shr (r := (((c + dg A i + dg B i) / 65536 : Nat) : Int)) rfl rfl (by decide) (shr16 (by omega))) ?_
        refine p_val (r_assign (v := (.int _ _)) rfl) ?_
        refine wpList_nil ?_
        refine b_norm ?_
        refine x_norm ?_; refine hK17 _ _ ?_; try clear hK17 K17
        refine wp_region_lit ?_
        refine p_val (r_move (v := (.int _ _)) hl11) ?_
        refine p_val (r_add (r := ((i + 1 : Nat) : Int)) rfl rfl ((wr64 (by omega) (by omega)).trans (by omega))) ?_
        refine p_val (r_assign (v := (.int _ _)) rfl) ?_
        refine wpList_nil ?_
        refine x_norm ?_
        replace H := H.tail
        exact ⟨_, _, (by omega), rfl, (by repeat (first | exact hk9 | refine keep_cons rfl ?_)), i + 1, (c + dg A i + dg B i) / 65536, ls ++ [(c + dg A i + dg B i) % 65536], bb_10_4, rs_10_4, rfl, rfl, rfl, rfl, H, by rw [List.length_append, hl]; rfl, hd.snoc (Nat.mod_lt _ (by decide)), by omega, add_step hl hv, by omega⟩
      · skip
        have hgB := of_decide_eq_false hc_8
        have hzB := dg_top (A := B) (i := i) (by omega)
        refine wp_skip ?_
        refine x_norm ?_; refine hK21 _ _ ?_; try clear hK21 K21
        refine wp_seq_k ?_; intro K27 hK27
        refine wp_region_lit ?_
        refine p_val (r_move (v := (.slice _ _ _)) hl13) ?_
        refine p_val (r_move (v := (.int _ _)) rfl) ?_
        refine p_val (r_bits (bo := .and) (by simp) (r := (((c + dg A i + dg B i) % 65536 : Nat) : Int)) rfl rfl (and16 (by omega) (by omega))) ?_
        refine p_bslice (N := 1) (vals := [(0, (.int _ _))]) (l := [_]) (ys := [_]) ts26 H rfl rfl rfl rfl (rfl) ?_; clear H; intro w28 bs_10_3 H
        refine p_append (ys := u32s (ls ++ [(c + dg A i + dg B i) % 65536])) (xs := u32s ls) (rs := rs) ts26 H rfl (k := 1) rfl rfl rfl rfl (Rd.ownA H (k := 0) (xs := [_]) (rs := []) rfl rfl rfl) (onesI) (u32s_snoc _ _) (by rw [u32s_length, List.length_append, hl]; simp only [List.length_cons, List.length_nil]; omega) ?_; clear H; intro w29 bb_10_4 rs_10_4 H
        refine p_val (r_assign (v := (.slice _ _ _)) rfl) ?_
        refine wpList_nil ?_
        refine x_norm ?_; refine hK27 _ _ ?_; try clear hK27 K27
        refine wp_region_lit ?_
        refine p_val (r_move (v := (.int _ _)) rfl) ?_
        refine p_val (r_shr (r := (((c + dg A i + dg B i) / 65536 : Nat) : Int)) rfl rfl (by decide) (shr16 (by omega))) ?_
        refine p_val (r_assign (v := (.int _ _)) rfl) ?_
        refine wpList_nil ?_
        refine b_norm ?_
        refine x_norm ?_; refine hK17 _ _ ?_; try clear hK17 K17
        refine wp_region_lit ?_
        refine p_val (r_move (v := (.int _ _)) hl11) ?_
        refine p_val (r_add (r := ((i + 1 : Nat) : Int)) rfl rfl ((wr64 (by omega) (by omega)).trans (by omega))) ?_
        refine p_val (r_assign (v := (.int _ _)) rfl) ?_
        refine wpList_nil ?_
        refine x_norm ?_
        replace H := H.tail
        exact ⟨_, _, (by omega), rfl, (by repeat (first | exact hk9 | refine keep_cons rfl ?_)), i + 1, (c + dg A i + dg B i) / 65536, ls ++ [(c + dg A i + dg B i) % 65536], bb_10_4, rs_10_4, rfl, rfl, rfl, rfl, H, by rw [List.length_append, hl]; rfl, hd.snoc (Nat.mod_lt _ (by decide)), by omega, add_step hl hv, by omega⟩
    · skip
      have hgA := of_decide_eq_false hc_6
      have hzA := dg_top (A := A) (i := i) (by omega)
      refine wp_skip ?_
      refine x_norm ?_; refine hK18 _ _ ?_; try clear hK18 K18
      refine wp_seq_k ?_; intro K30 hK30
      refine wp_seq_k ?_; intro K31 hK31
      refine wp_region_lit ?_
      refine p_val (r_move (v := (.int _ _)) hl11) ?_
      refine p_val (r_move (v := (b)) (hk9 1 rfl)) ?_
      refine p_val (r_lenR (N := (digs B).length) ts26 rfl (Rd.hp hb H) (u32s_length _)) ?_
      refine p_val (r_lss rfl rfl rfl) ?_
      refine wpList_nil ?_
      refine x_norm ?_; refine hK31 _ _ ?_; try clear hK31 K31
      refine c_split (t := _) rfl (fun hc_8 => ?_) (fun hc_8 => ?_)
      · skip
        have hgB := of_decide_eq_true hc_8
        refine wp_region_lit ?_
        refine p_val (r_move (v := (.int _ _)) hl12) ?_
        refine p_val (r_move (v := (b)) (hk9 1 rfl)) ?_
        refine p_val (r_move (v := (.int _ _)) hl11) ?_
        refine p_val (r_addrR (i := i) ts26 rfl rfl (Rd.hp hb H) (rfl) (by rw [u32s_length]; omega)) ?_
        refine p_val (r_loadR (u := .int .u32 (dg B i : Int)) to76 rfl (Rd.hp hb H) (u32s_dg (by omega))) ?_
        refine p_val (r_add (r := ((c + dg A i + dg B i : Nat) : Int)) rfl rfl (u32add (by omega) (by omega))) ?_
        refine p_val (r_assign (v := (.int _ _)) rfl) ?_
        refine wpList_nil ?_
        refine x_norm ?_; refine hK30 _ _ ?_; try clear hK30 K30
        refine wp_seq_k ?_; intro K33 hK33
        refine wp_region_lit ?_
        refine p_val (r_move (v := (.slice _ _ _)) hl13) ?_
        refine p_val (r_move (v := (.int _ _)) rfl) ?_
        refine p_val (r_bits (bo := .and) (by simp) (r := (((c + dg A i + dg B i) % 65536 : Nat) : Int)) rfl rfl (and16 (by omega) (by omega))) ?_
        refine p_bslice (N := 1) (vals := [(0, (.int _ _))]) (l := [_]) (ys := [_]) ts26 H rfl rfl rfl rfl (rfl) ?_; clear H; intro w34 bs_10_3 H
        refine p_append (ys := u32s (ls ++ [(c + dg A i + dg B i) % 65536])) (xs := u32s ls) (rs := rs) ts26 H rfl (k := 1) rfl rfl rfl rfl (Rd.ownA H (k := 0) (xs := [_]) (rs := []) rfl rfl rfl) (onesI) (u32s_snoc _ _) (by rw [u32s_length, List.length_append, hl]; simp only [List.length_cons, List.length_nil]; omega) ?_; clear H; intro w35 bb_10_4 rs_10_4 H
        refine p_val (r_assign (v := (.slice _ _ _)) rfl) ?_
        refine wpList_nil ?_
        refine x_norm ?_; refine hK33 _ _ ?_; try clear hK33 K33
        refine wp_region_lit ?_
        refine p_val (r_move (v := (.int _ _)) rfl) ?_
        refine p_val (r_shr (r := (((c + dg A i + dg B i) / 65536 : Nat) : Int)) rfl rfl (by decide) (shr16 (by omega))) ?_
        refine p_val (r_assign (v := (.int _ _)) rfl) ?_
        refine wpList_nil ?_
        refine b_norm ?_
        refine x_norm ?_; refine hK17 _ _ ?_; try clear hK17 K17
        refine wp_region_lit ?_
        refine p_val (r_move (v := (.int _ _)) hl11) ?_
        refine p_val (r_add (r := ((i + 1 : Nat) : Int)) rfl rfl ((wr64 (by omega) (by omega)).trans (by omega))) ?_
        refine p_val (r_assign (v := (.int _ _)) rfl) ?_
        refine wpList_nil ?_
        refine x_norm ?_
        replace H := H.tail
        exact ⟨_, _, (by omega), rfl, (by repeat (first | exact hk9 | refine keep_cons rfl ?_)), i + 1, (c + dg A i + dg B i) / 65536, ls ++ [(c + dg A i + dg B i) % 65536], bb_10_4, rs_10_4, rfl, rfl, rfl, rfl, H, by rw [List.length_append, hl]; rfl, hd.snoc (Nat.mod_lt _ (by decide)), by omega, add_step hl hv, by omega⟩
      · skip
        have hgB := of_decide_eq_false hc_8
        have hzB := dg_top (A := B) (i := i) (by omega)
        refine wp_skip ?_
        refine x_norm ?_; refine hK30 _ _ ?_; try clear hK30 K30
        refine wp_seq_k ?_; intro K36 hK36
        refine wp_region_lit ?_
        refine p_val (r_move (v := (.slice _ _ _)) hl13) ?_
        refine p_val (r_move (v := (.int _ _)) hl12) ?_
        refine p_val (r_bits (bo := .and) (by simp) (r := (((c + dg A i + dg B i) % 65536 : Nat) : Int)) rfl rfl (and16 (by omega) (by omega))) ?_
        refine p_bslice (N := 1) (vals := [(0, (.int _ _))]) (l := [_]) (ys := [_]) ts26 H rfl rfl rfl rfl (rfl) ?_; clear H; intro w37 bs_10_3 H
        refine p_append (ys := u32s (ls ++ [(c + dg A i + dg B i) % 65536])) (xs := u32s ls) (rs := rs) ts26 H rfl (k := 1) rfl rfl rfl rfl (Rd.ownA H (k := 0) (xs := [_]) (rs := []) rfl rfl rfl) (onesI) (u32s_snoc _ _) (by rw [u32s_length, List.length_append, hl]; simp only [List.length_cons, List.length_nil]; omega) ?_; clear H; intro w38 bb_10_4 rs_10_4 H
        refine p_val (r_assign (v := (.slice _ _ _)) rfl) ?_
        refine wpList_nil ?_
        refine x_norm ?_; refine hK36 _ _ ?_; try clear hK36 K36
        refine wp_region_lit ?_
        refine p_val (r_move (v := (.int _ _)) hl12) ?_
        refine p_val (r_shr (r := (((c + dg A i + dg B i) / 65536 : Nat) : Int)) rfl rfl (by decide) (shr16 (by omega))) ?_
        refine p_val (r_assign (v := (.int _ _)) rfl) ?_
        refine wpList_nil ?_
        refine b_norm ?_
        refine x_norm ?_; refine hK17 _ _ ?_; try clear hK17 K17
        refine wp_region_lit ?_
        refine p_val (r_move (v := (.int _ _)) hl11) ?_
        refine p_val (r_add (r := ((i + 1 : Nat) : Int)) rfl rfl ((wr64 (by omega) (by omega)).trans (by omega))) ?_
        refine p_val (r_assign (v := (.int _ _)) rfl) ?_
        refine wpList_nil ?_
        refine x_norm ?_
        replace H := H.tail
        exact ⟨_, _, (by omega), rfl, (by repeat (first | exact hk9 | refine keep_cons rfl ?_)), i + 1, (c + dg A i + dg B i) / 65536, ls ++ [(c + dg A i + dg B i) % 65536], bb_10_4, rs_10_4, rfl, rfl, rfl, rfl, H, by rw [List.length_append, hl]; rfl, hd.snoc (Nat.mod_lt _ (by decide)), by omega, add_step hl hv, by omega⟩
  · skip
    have hg1 := of_decide_eq_false hb_4_4
    refine p_want rfl hb_4_4 ?_
    refine p_val (r_move (v := (.int _ _)) hl11) ?_
    refine p_want rfl hb_4_4 ?_
    refine p_val (r_move (v := (b)) (hk9 1 rfl)) ?_
    refine p_want rfl hb_4_4 ?_
    refine p_val (r_lenR (N := (digs B).length) ts26 rfl (Rd.hp hb H) (u32s_length _)) ?_
    refine p_want rfl hb_4_4 ?_
    refine p_val (r_lss rfl rfl rfl) ?_
    refine p_val (r_pickf (v := (.bool _)) rfl hb_4_4 rfl) ?_
    refine wpList_nil ?_
    refine x_norm ?_; refine hK15 _ _ ?_; try clear hK15 K15
    refine c_split (t := _) rfl (fun hc_4 => ?_) (fun hc_4 => ?_)
    · skip
      have hg2 := of_decide_eq_true hc_4
      refine wp_skip ?_
      refine x_norm ?_; refine hK14 _ _ ?_; try clear hK14 K14
      refine wp_seq_k ?_; intro K40 hK40
      refine wp_block ?_
      refine wp_seq_k ?_; intro K41 hK41
      refine wp_seq_k ?_; intro K42 hK42
      refine wp_region_lit ?_
      refine p_val (r_move (v := (.int _ _)) hl11) ?_
      refine p_val (r_move (v := (a)) (hk9 0 rfl)) ?_
      refine p_val (r_lenR (N := (digs A).length) ts26 rfl (Rd.hp ha H) (u32s_length _)) ?_
      refine p_val (r_lss rfl rfl rfl) ?_
      refine wpList_nil ?_
      refine x_norm ?_; refine hK42 _ _ ?_; try clear hK42 K42
      refine c_split (t := _) rfl (fun hc_6 => ?_) (fun hc_6 => ?_)
      · skip
        have hgA := of_decide_eq_true hc_6
        refine wp_region_lit ?_
        refine p_val (r_move (v := (.int _ _)) hl12) ?_
        refine p_val (r_move (v := (a)) (hk9 0 rfl)) ?_
        refine p_val (r_move (v := (.int _ _)) hl11) ?_
        refine p_val (r_addrR (i := i) ts26 rfl rfl (Rd.hp ha H) (rfl) (by rw [u32s_length]; omega)) ?_
        refine p_val (r_loadR (u := .int .u32 (dg A i : Int)) to76 rfl (Rd.hp ha H) (u32s_dg (by omega))) ?_
        refine p_val (r_add (r := ((c + dg A i : Nat) : Int)) rfl rfl (u32add (by omega) (by omega))) ?_
        refine p_val (r_assign (v := (.int _ _)) rfl) ?_
        refine wpList_nil ?_
        refine x_norm ?_; refine hK41 _ _ ?_; try clear hK41 K41
        refine wp_seq_k ?_; intro K44 hK44
        refine wp_seq_k ?_; intro K45 hK45
        refine wp_region_lit ?_
        refine p_val (r_move (v := (.int _ _)) hl11) ?_
        refine p_val (r_move (v := (b)) (hk9 1 rfl)) ?_
        refine p_val (r_lenR (N := (digs B).length) ts26 rfl (Rd.hp hb H) (u32s_length _)) ?_
        refine p_val (r_lss rfl rfl rfl) ?_
        refine wpList_nil ?_
        refine x_norm ?_; refine hK45 _ _ ?_; try clear hK45 K45
        refine c_split (t := _) rfl (fun hc_8 => ?_) (fun hc_8 => ?_)
        · skip
          have hgB := of_decide_eq_true hc_8
          refine wp_region_lit ?_
          refine p_val (r_move (v := (.int _ _)) rfl) ?_
          refine p_val (r_move (v := (b)) (hk9 1 rfl)) ?_
          refine p_val (r_move (v := (.int _ _)) hl11) ?_
          refine p_val (r_addrR (i := i) ts26 rfl rfl (Rd.hp hb H) (rfl) (by rw [u32s_length]; omega)) ?_
          refine p_val (r_loadR (u := .int .u32 (dg B i : Int)) to76 rfl (Rd.hp hb H) (u32s_dg (by omega))) ?_
          refine p_val (r_add (r := ((c + dg A i + dg B i : Nat) : Int)) rfl rfl (u32add (by omega) (by omega))) ?_
          refine p_val (r_assign (v := (.int _ _)) rfl) ?_
          refine wpList_nil ?_
          refine x_norm ?_; refine hK44 _ _ ?_; try clear hK44 K44
          refine wp_seq_k ?_; intro K47 hK47
          refine wp_region_lit ?_
          refine p_val (r_move (v := (.slice _ _ _)) hl13) ?_
          refine p_val (r_move (v := (.int _ _)) rfl) ?_
          refine p_val (r_bits (bo := .and) (by simp) (r := (((c + dg A i + dg B i) % 65536 : Nat) : Int)) rfl rfl (and16 (by omega) (by omega))) ?_
          refine p_bslice (N := 1) (vals := [(0, (.int _ _))]) (l := [_]) (ys := [_]) ts26 H rfl rfl rfl rfl (rfl) ?_; clear H; intro w48 bs_10_3 H
          refine p_append (ys := u32s (ls ++ [(c + dg A i + dg B i) % 65536])) (xs := u32s ls) (rs := rs) ts26 H rfl (k := 1) rfl rfl rfl rfl (Rd.ownA H (k := 0) (xs := [_]) (rs := []) rfl rfl rfl) (onesI) (u32s_snoc _ _) (by rw [u32s_length, List.length_append, hl]; simp only [List.length_cons, List.length_nil]; omega) ?_; clear H; intro w49 bb_10_4 rs_10_4 H
          refine p_val (r_assign (v := (.slice _ _ _)) rfl) ?_
          refine wpList_nil ?_
          refine x_norm ?_; refine hK47 _ _ ?_; try clear hK47 K47
          refine wp_region_lit ?_
          refine p_val (r_move (v := (.int _ _)) rfl) ?_
          refine p_val (r_shr (r := (((c + dg A i + dg B i) / 65536 : Nat) : Int)) rfl rfl (by decide) (shr16 (by omega))) ?_
          refine p_val (r_assign (v := (.int _ _)) rfl) ?_
          refine wpList_nil ?_
          refine b_norm ?_
          refine x_norm ?_; refine hK40 _ _ ?_; try clear hK40 K40
          refine wp_region_lit ?_
          refine p_val (r_move (v := (.int _ _)) hl11) ?_
          refine p_val (r_add (r := ((i + 1 : Nat) : Int)) rfl rfl ((wr64 (by omega) (by omega)).trans (by omega))) ?_
          refine p_val (r_assign (v := (.int _ _)) rfl) ?_
          refine wpList_nil ?_
          refine x_norm ?_
          replace H := H.tail
          exact ⟨_, _, (by omega), rfl, (by repeat (first | exact hk9 | refine keep_cons rfl ?_)), i + 1, (c + dg A i + dg B i) / 65536, ls ++ [(c + dg A i + dg B i) % 65536], bb_10_4, rs_10_4, rfl, rfl, rfl, rfl, H, by rw [List.length_append, hl]; rfl, hd.snoc (Nat.mod_lt _ (by decide)), by omega, add_step hl hv, by omega⟩
        · skip
          have hgB := of_decide_eq_false hc_8
          have hzB := dg_top (A := B) (i := i) (by omega)
          refine wp_skip ?_
          refine x_norm ?_; refine hK44 _ _ ?_; try clear hK44 K44
          refine wp_seq_k ?_; intro K50 hK50
          refine wp_region_lit ?_
          refine p_val (r_move (v := (.slice _ _ _)) hl13) ?_
          refine p_val (r_move (v := (.int _ _)) rfl) ?_
          refine p_val (r_bits (bo := .and) (by simp) (r := (((c + dg A i + dg B i) % 65536 : Nat) : Int)) rfl rfl (and16 (by omega) (by omega))) ?_
          refine p_bslice (N := 1) (vals := [(0, (.int _ _))]) (l := [_]) (ys := [_]) ts26 H rfl rfl rfl rfl (rfl) ?_; clear H; intro w51 bs_10_3 H
          refine p_append (ys := u32s (ls ++ [(c + dg A i + dg B i) % 65536])) (xs := u32s ls) (rs := rs) ts26 H rfl (k := 1) rfl rfl rfl rfl (Rd.ownA H (k := 0) (xs := [_]) (rs := []) rfl rfl rfl) (onesI) (u32s_snoc _ _) (by rw [u32s_length, List.length_append, hl]; simp only [List.length_cons, List.length_nil]; omega) ?_; clear H; intro w52 bb_10_4 rs_10_4 H
          refine p_val (r_assign (v := (.slice _ _ _)) rfl) ?_
          refine wpList_nil ?_
          refine x_norm ?_; refine hK50 _ _ ?_; try clear hK50 K50
          refine wp_region_lit ?_
          refine p_val (r_move (v := (.int _ _)) rfl) ?_
          refine p_val (r_shr (r := (((c + dg A i + dg B i) / 65536 : Nat) : Int)) rfl rfl (by decide) (shr16 (by omega))) ?_
          refine p_val (r_assign (v := (.int _ _)) rfl) ?_
          refine wpList_nil ?_
          refine b_norm ?_
          refine x_norm ?_; refine hK40 _ _ ?_; try clear hK40 K40
          refine wp_region_lit ?_
          refine p_val (r_move (v := (.int _ _)) hl11) ?_
          refine p_val (r_add (r := ((i + 1 : Nat) : Int)) rfl rfl ((wr64 (by omega) (by omega)).trans (by omega))) ?_
          refine p_val (r_assign (v := (.int _ _)) rfl) ?_
          refine wpList_nil ?_
          refine x_norm ?_
          replace H := H.tail
          exact ⟨_, _, (by omega), rfl, (by repeat (first | exact hk9 | refine keep_cons rfl ?_)), i + 1, (c + dg A i + dg B i) / 65536, ls ++ [(c + dg A i + dg B i) % 65536], bb_10_4, rs_10_4, rfl, rfl, rfl, rfl, H, by rw [List.length_append, hl]; rfl, hd.snoc (Nat.mod_lt _ (by decide)), by omega, add_step hl hv, by omega⟩
      · skip
        have hgA := of_decide_eq_false hc_6
        have hzA := dg_top (A := A) (i := i) (by omega)
        refine wp_skip ?_
        refine x_norm ?_; refine hK41 _ _ ?_; try clear hK41 K41
        refine wp_seq_k ?_; intro K53 hK53
        refine wp_seq_k ?_; intro K54 hK54
        refine wp_region_lit ?_
        refine p_val (r_move (v := (.int _ _)) hl11) ?_
        refine p_val (r_move (v := (b)) (hk9 1 rfl)) ?_
        refine p_val (r_lenR (N := (digs B).length) ts26 rfl (Rd.hp hb H) (u32s_length _)) ?_
        refine p_val (r_lss rfl rfl rfl) ?_
        refine wpList_nil ?_
        refine x_norm ?_; refine hK54 _ _ ?_; try clear hK54 K54
        refine c_split (t := _) rfl (fun hc_8 => ?_) (fun hc_8 => ?_)
        · skip
          have hgB := of_decide_eq_true hc_8
          refine wp_region_lit ?_
          refine p_val (r_move (v := (.int _ _)) hl12) ?_
          refine p_val (r_move (v := (b)) (hk9 1 rfl)) ?_
          refine p_val (r_move (v := (.int _ _)) hl11) ?_
          refine p_val (r_addrR (i := i) ts26 rfl rfl (Rd.hp hb H) (rfl) (by rw [u32s_length]; omega)) ?_
          refine p_val (r_loadR (u := .int .u32 (dg B i : Int)) to76 rfl (Rd.hp hb H) (u32s_dg (by omega))) ?_
          refine p_val (r_add (r := ((c + dg A i + dg B i : Nat) : Int)) rfl rfl (u32add (by omega) (by omega))) ?_
          refine p_val (r_assign (v := (.int _ _)) rfl) ?_
          refine wpList_nil ?_
          refine x_norm ?_; refine hK53 _ _ ?_; try clear hK53 K53
          refine wp_seq_k ?_; intro K56 hK56
          refine wp_region_lit ?_
          refine p_val (r_move (v := (.slice _ _ _)) hl13) ?_
          refine p_val (r_move (v := (.int _ _)) rfl) ?_
          refine p_val (r_bits (bo := .and) (by simp) (r := (((c + dg A i + dg B i) % 65536 : Nat) : Int)) rfl rfl (and16 (by omega) (by omega))) ?_
          refine p_bslice (N := 1) (vals := [(0, (.int _ _))]) (l := [_]) (ys := [_]) ts26 H rfl rfl rfl rfl (rfl) ?_; clear H; intro w57 bs_10_3 H
          refine p_append (ys := u32s (ls ++ [(c + dg A i + dg B i) % 65536])) (xs := u32s ls) (rs := rs) ts26 H rfl (k := 1) rfl rfl rfl rfl (Rd.ownA H (k := 0) (xs := [_]) (rs := []) rfl rfl rfl) (onesI) (u32s_snoc _ _) (by rw [u32s_length, List.length_append, hl]; simp only [List.length_cons, List.length_nil]; omega) ?_; clear H; intro w58 bb_10_4 rs_10_4 H
          refine p_val (r_assign (v := (.slice _ _ _)) rfl) ?_
          refine wpList_nil ?_
          refine x_norm ?_; refine hK56 _ _ ?_; try clear hK56 K56
          refine wp_region_lit ?_
          refine p_val (r_move (v := (.int _ _)) rfl) ?_
          refine p_val (r_shr (r := (((c + dg A i + dg B i) / 65536 : Nat) : Int)) rfl rfl (by decide) (shr16 (by omega))) ?_
          refine p_val (r_assign (v := (.int _ _)) rfl) ?_
          refine wpList_nil ?_
          refine b_norm ?_
          refine x_norm ?_; refine hK40 _ _ ?_; try clear hK40 K40
          refine wp_region_lit ?_
          refine p_val (r_move (v := (.int _ _)) hl11) ?_
          refine p_val (r_add (r := ((i + 1 : Nat) : Int)) rfl rfl ((wr64 (by omega) (by omega)).trans (by omega))) ?_
          refine p_val (r_assign (v := (.int _ _)) rfl) ?_
          refine wpList_nil ?_
          refine x_norm ?_
          replace H := H.tail
          exact ⟨_, _, (by omega), rfl, (by repeat (first | exact hk9 | refine keep_cons rfl ?_)), i + 1, (c + dg A i + dg B i) / 65536, ls ++ [(c + dg A i + dg B i) % 65536], bb_10_4, rs_10_4, rfl, rfl, rfl, rfl, H, by rw [List.length_append, hl]; rfl, hd.snoc (Nat.mod_lt _ (by decide)), by omega, add_step hl hv, by omega⟩
        · skip
          have hgB := of_decide_eq_false hc_8
          have hzB := dg_top (A := B) (i := i) (by omega)
          refine wp_skip ?_
          refine x_norm ?_; refine hK53 _ _ ?_; try clear hK53 K53
          refine wp_seq_k ?_; intro K59 hK59
          refine wp_region_lit ?_
          refine p_val (r_move (v := (.slice _ _ _)) hl13) ?_
          refine p_val (r_move (v := (.int _ _)) hl12) ?_
          refine p_val (r_bits (bo := .and) (by simp) (r := (((c + dg A i + dg B i) % 65536 : Nat) : Int)) rfl rfl (and16 (by omega) (by omega))) ?_
          refine p_bslice (N := 1) (vals := [(0, (.int _ _))]) (l := [_]) (ys := [_]) ts26 H rfl rfl rfl rfl (rfl) ?_; clear H; intro w60 bs_10_3 H
          refine p_append (ys := u32s (ls ++ [(c + dg A i + dg B i) % 65536])) (xs := u32s ls) (rs := rs) ts26 H rfl (k := 1) rfl rfl rfl rfl (Rd.ownA H (k := 0) (xs := [_]) (rs := []) rfl rfl rfl) (onesI) (u32s_snoc _ _) (by rw [u32s_length, List.length_append, hl]; simp only [List.length_cons, List.length_nil]; omega) ?_; clear H; intro w61 bb_10_4 rs_10_4 H
          refine p_val (r_assign (v := (.slice _ _ _)) rfl) ?_
          refine wpList_nil ?_
          refine x_norm ?_; refine hK59 _ _ ?_; try clear hK59 K59
          refine wp_region_lit ?_
          refine p_val (r_move (v := (.int _ _)) hl12) ?_
          refine p_val (r_shr (r := (((c + dg A i + dg B i) / 65536 : Nat) : Int)) rfl rfl (by decide) (shr16 (by omega))) ?_
          refine p_val (r_assign (v := (.int _ _)) rfl) ?_
          refine wpList_nil ?_
          refine b_norm ?_
          refine x_norm ?_; refine hK40 _ _ ?_; try clear hK40 K40
          refine wp_region_lit ?_
          refine p_val (r_move (v := (.int _ _)) hl11) ?_
          refine p_val (r_add (r := ((i + 1 : Nat) : Int)) rfl rfl ((wr64 (by omega) (by omega)).trans (by omega))) ?_
          refine p_val (r_assign (v := (.int _ _)) rfl) ?_
          refine wpList_nil ?_
          refine x_norm ?_
          replace H := H.tail
          exact ⟨_, _, (by omega), rfl, (by repeat (first | exact hk9 | refine keep_cons rfl ?_)), i + 1, (c + dg A i + dg B i) / 65536, ls ++ [(c + dg A i + dg B i) % 65536], bb_10_4, rs_10_4, rfl, rfl, rfl, rfl, H, by rw [List.length_append, hl]; rfl, hd.snoc (Nat.mod_lt _ (by decide)), by omega, add_step hl hv, by omega⟩
    · skip
      have hg2 := of_decide_eq_false hc_4
      refine wp_exit ?_
      refine x_exit ?_
      refine x_exit ?_
      refine b_hit ?_
      refine x_norm ?_; refine hK5 _ _ ?_; try clear hK5 K5
      refine wp_seq_k ?_; intro K62 hK62
      refine wp_region_lit ?_
      refine p_val (r_move (v := (.slice _ _ _)) hl13) ?_
      refine p_val (r_move (v := (.int _ _)) hl12) ?_
      refine p_bslice (N := 1) (vals := [(0, (.int _ _))]) (l := [_]) (ys := [_]) ts26 H rfl rfl rfl rfl (rfl) ?_; clear H; intro w63 bs_12_2 H
      refine p_append (ys := u32s (ls ++ [c])) (xs := u32s ls) (rs := rs) ts26 H rfl (k := 1) rfl rfl rfl rfl (Rd.ownA H (k := 0) (xs := [_]) (rs := []) rfl rfl rfl) (onesI) (u32s_snoc _ _) (by rw [u32s_length, List.length_append, hl]; simp only [List.length_cons, List.length_nil]; omega) ?_; clear H; intro w64 bb_12_3 rs_12_3 H
      refine p_call (l := [(.slice _ _ _)]) is55 rfl ?_
      refine (trim_c _ _ _ (Rd.ownA H (k := 1) (xs := u32s (ls ++ [c])) (rs := rs_12_3) rfl rfl rfl) (hd.snoc (by omega)) (by rw [List.length_append, hl]; simp only [List.length_cons, List.length_nil]; omega)).mono ?_; rintro _ w65 ⟨r_12_4, rfl, hr_12_4, hx⟩; replace H := H.ext hx; clear hx
      refine p_val (r_assign (v := _) rfl) ?_
      refine wpList_nil ?_
      refine x_norm ?_; refine hK62 _ _ ?_; try clear hK62 K62
      refine wp_ret ?_
      refine e_1 rfl (q_tmp (v := _) rfl) ?_
      rw [add_end hl (by omega) (by omega) hv] at hr_12_4
      exact ⟨_, rfl, hr_12_4, E.trans H.below⟩

theorem rsub_c (a b : Value) (A B : Nat) (w : World) (ha : Dg w a A) (hb : Dg w b B) (hBA : B ≤ A) (hA : (digs A).length < 549755813888) (hB : (digs B).length < 549755813888) :
    Calls Try.prog 59 #[a, b] w fun e w' => ∃ r, e = .returned r ∧ Dg w' r (A - B) ∧ Ext w w' := by
  refine enter (n := 43) Try.func59 rfl rfl rfl ?_
  have H := HP.start w
  have E := Below.refl w.heap.size w
  refine wp_seq_k ?_; intro K1 hK1
  refine wp_region_lit ?_
  refine p_val (r_assign (v := (.slice none 0 0)) rfl) ?_
  refine wpList_nil ?_
  refine x_norm ?_; refine hK1 _ _ ?_; try clear hK1 K1
  refine wp_seq_k ?_; intro K2 hK2
  refine wp_region_lit ?_
  refine p_bslice (N := 0) (vals := []) (l := []) (ys := u32s []) ts26 H rfl rfl rfl rfl (u32s_nil) ?_; clear H; intro w3 bs_1_0 H
  refine p_val (r_assign (v := (.slice _ _ _)) rfl) ?_
  refine wpList_nil ?_
  refine x_norm ?_; refine hK2 _ _ ?_; try clear hK2 K2
  refine wp_seq_k ?_; intro K4 hK4
  refine wp_region_lit ?_
  refine p_val (r_assign (v := (.int _ _)) rfl) ?_
  refine wpList_nil ?_
  refine x_norm ?_; refine hK4 _ _ ?_; try clear hK4 K4
  refine wp_seq_k ?_; intro K5 hK5
  refine wp_seq_k ?_; intro K6 hK6
  refine wp_region_lit ?_
  refine p_val (r_assign (v := (.int _ _)) rfl) ?_
  refine wpList_nil ?_
  refine x_norm ?_; refine hK6 _ _ ?_; try clear hK6 K6
  refine wp_block ?_
  refine loopF [5, 6, 7, 8, 10, 11, 12, 13, 14, 15, 16, 17, 18, 19, 20, 21, 22, 23, 24, 25, 26, 27, 28, 29, 30, 31, 32, 33, 34, 35, 36, 37, 38, 39, 40] (fun γ μ w' => ∃ (i c : Nat) (ls : List Nat) (bo : Nat) (rs : List Value), (digs A).length - i = γ ∧ look μ 7 = .int .i64 (i : Int) ∧ look μ 6 = .int .u32 (c : Int) ∧ look μ 5 = sl bo 0 (u32s ls).length (u32s ls ++ rs).length ∧ HP w w' [(bo, u32s ls ++ rs, 76)] ∧ (ls.length = i) ∧ (DL ls) ∧ (c ≤ 1) ∧ (dval ls + B % 65536 ^ i = A % 65536 ^ i + c * 65536 ^ i) ∧ (i ≤ (digs A).length)) ((digs A).length) ⟨0, 0, [], _, [], rfl, rfl, rfl, rfl, H, rfl, DL.nil, by omega, by simp [dval, Nat.mod_one], by omega⟩ ?_
  clear H
  intro g10 m7 w8 hk9 hI; obtain ⟨i, c, ls, bo, rs, rfl, hl11, hl12, hl13, H, hl, hd, hc, hv, hi⟩ := hI
  have hda := dg_lt A i
  have hdb := dg_lt B i
  refine wp_seq_k ?_; intro K14 hK14
  refine wp_seq_k ?_; intro K15 hK15
  refine wp_region_lit ?_
  refine p_val (r_move (v := (.int _ _)) hl11) ?_
  refine p_val (r_move (v := (a)) (hk9 0 rfl)) ?_
  refine p_val (r_lenR (N := (digs A).length) ts26 rfl (Rd.hp ha H) (u32s_length _)) ?_
  refine p_val (r_lss rfl rfl rfl) ?_
  refine wpList_nil ?_
  refine x_norm ?_; refine hK15 _ _ ?_; try clear hK15 K15
  refine c_split (t := _) rfl (fun hc_4 => ?_) (fun hc_4 => ?_)
  · skip
    have hgA := of_decide_eq_true hc_4
    refine wp_skip ?_
    refine x_norm ?_; refine hK14 _ _ ?_; try clear hK14 K14
    refine wp_seq_k ?_; intro K17 hK17
    refine wp_block ?_
    refine wp_seq_k ?_; intro K18 hK18
    refine wp_region_lit ?_
    refine p_val (r_move (v := (a)) (hk9 0 rfl)) ?_
    refine p_val (r_move (v := (.int _ _)) hl11) ?_
    refine p_val (r_addrR (i := i) ts26 rfl rfl (Rd.hp ha H) (rfl) (by rw [u32s_length]; omega)) ?_
    refine p_val (r_loadR (u := .int .u32 (dg A i : Int)) to76 rfl (Rd.hp ha H) (u32s_dg (by omega))) ?_
    refine p_val (r_add (r := ((65536 + dg A i : Nat) : Int)) rfl rfl (u32add (by omega) (by omega))) ?_
    refine p_val (r_move (v := (.int _ _)) hl12) ?_
    refine p_val (r_sub (r := ((65536 + dg A i - c : Nat) : Int)) rfl rfl (u32sub (by omega) (by omega))) ?_
    refine p_val (r_assign (v := (.int _ _)) rfl) ?_
    refine wpList_nil ?_
    refine x_norm ?_; refine hK18 _ _ ?_; try clear hK18 K18
    refine wp_seq_k ?_; intro K19 hK19
    refine wp_seq_k ?_; intro K20 hK20
    refine wp_region_lit ?_
    refine p_val (r_move (v := (.int _ _)) hl11) ?_
    refine p_val (r_move (v := (b)) (hk9 1 rfl)) ?_
    refine p_val (r_lenR (N := (digs B).length) ts26 rfl (Rd.hp hb H) (u32s_length _)) ?_
    refine p_val (r_lss rfl rfl rfl) ?_
    refine wpList_nil ?_
    refine x_norm ?_; refine hK20 _ _ ?_; try clear hK20 K20
    refine c_split (t := _) rfl (fun hc_7 => ?_) (fun hc_7 => ?_)
    · skip
      have hgB := of_decide_eq_true hc_7
      refine wp_region_lit ?_
      refine p_val (r_move (v := (.int _ _)) rfl) ?_
      refine p_val (r_move (v := (b)) (hk9 1 rfl)) ?_
      refine p_val (r_move (v := (.int _ _)) hl11) ?_
      refine p_val (r_addrR (i := i) ts26 rfl rfl (Rd.hp hb H) (rfl) (by rw [u32s_length]; omega)) ?_
      refine p_val (r_loadR (u := .int .u32 (dg B i : Int)) to76 rfl (Rd.hp hb H) (u32s_dg (by omega))) ?_
      refine p_val (r_sub (r := ((65536 + dg A i - c - dg B i : Nat) : Int)) rfl rfl (u32sub (by omega) (by omega))) ?_
      refine p_val (r_assign (v := (.int _ _)) rfl) ?_
      refine wpList_nil ?_
      refine x_norm ?_; refine hK19 _ _ ?_; try clear hK19 K19
      refine wp_seq_k ?_; intro K22 hK22
      refine wp_region_lit ?_
      refine p_val (r_move (v := (.slice _ _ _)) hl13) ?_
      refine p_val (r_move (v := (.int _ _)) rfl) ?_
      refine p_val (r_bits (bo := .and) (by simp) (r := (((65536 + dg A i - c - dg B i) % 65536 : Nat) : Int)) rfl rfl (and16 (by omega) (by omega))) ?_
      refine p_bslice (N := 1) (vals := [(0, (.int _ _))]) (l := [_]) (ys := [_]) ts26 H rfl rfl rfl rfl (rfl) ?_; clear H; intro w23 bs_9_3 H
      refine p_append (ys := u32s (ls ++ [(65536 + dg A i - c - dg B i) % 65536])) (xs := u32s ls) (rs := rs) ts26 H rfl (k := 1) rfl rfl rfl rfl (Rd.ownA H (k := 0) (xs := [_]) (rs := []) rfl rfl rfl) (onesI) (u32s_snoc _ _) (by rw [u32s_length, List.length_append, hl]; simp only [List.length_cons, List.length_nil]; omega) ?_; clear H; intro w24 bb_9_4 rs_9_4 H
      refine p_val (r_assign (v := (.slice _ _ _)) rfl) ?_
      refine wpList_nil ?_
      refine x_norm ?_; refine hK22 _ _ ?_; try clear hK22 K22
      refine wp_region_lit ?_
      refine p_val (r_move (v := (.int _ _)) rfl) ?_
      refine p_val (r_shr (r := (((65536 + dg A i - c - dg B i) / 65536 : Nat) : Int)) rfl rfl (by decide) (shr16 (by omega))) ?_
      refine p_val (r_sub (r := ((1 - (65536 + dg A i - c - dg B i) / 65536 : Nat) : Int)) rfl rfl (u32sub (by omega) (by omega))) ?_
      refine p_val (r_assign (v := (.int _ _)) rfl) ?_
      refine wpList_nil ?_
      refine b_norm ?_
      refine x_norm ?_; refine hK17 _ _ ?_; try clear hK17 K17
      refine wp_region_lit ?_
      refine p_val (r_move (v := (.int _ _)) hl11) ?_
      refine p_val (r_add (r := ((i + 1 : Nat) : Int)) rfl rfl ((wr64 (by omega) (by omega)).trans (by omega))) ?_
      refine p_val (r_assign (v := (.int _ _)) rfl) ?_
      refine wpList_nil ?_
      refine x_norm ?_
      replace H := H.tail
      exact ⟨_, _, (by omega), rfl, (by repeat (first | exact hk9 | refine keep_cons rfl ?_)), i + 1, 1 - (65536 + dg A i - c - dg B i) / 65536, ls ++ [(65536 + dg A i - c - dg B i) % 65536], bb_9_4, rs_9_4, rfl, rfl, rfl, rfl, H, by rw [List.length_append, hl]; rfl, hd.snoc (Nat.mod_lt _ (by decide)), by omega, sub_step hc hl hv, by omega⟩
    · skip
      have hgB := of_decide_eq_false hc_7
      have hzB := dg_top (A := B) (i := i) (by omega)
      refine wp_skip ?_
      refine x_norm ?_; refine hK19 _ _ ?_; try clear hK19 K19
      refine wp_seq_k ?_; intro K25 hK25
      refine wp_region_lit ?_
      refine p_val (r_move (v := (.slice _ _ _)) hl13) ?_
      refine p_val (r_move (v := (.int _ _)) rfl) ?_
      refine p_val (r_bits (bo := .and) (by simp) (r := (((65536 + dg A i - c - dg B i) % 65536 : Nat) : Int)) rfl rfl (and16 (by omega) (by omega))) ?_
      refine p_bslice (N := 1) (vals := [(0, (.int _ _))]) (l := [_]) (ys := [_]) ts26 H rfl rfl rfl rfl (rfl) ?_; clear H; intro w26 bs_9_3 H
      refine p_append (ys := u32s (ls ++ [(65536 + dg A i - c - dg B i) % 65536])) (xs := u32s ls) (rs := rs) ts26 H rfl (k := 1) rfl rfl rfl rfl (Rd.ownA H (k := 0) (xs := [_]) (rs := []) rfl rfl rfl) (onesI) (u32s_snoc _ _) (by rw [u32s_length, List.length_append, hl]; simp only [List.length_cons, List.length_nil]; omega) ?_; clear H; intro w27 bb_9_4 rs_9_4 H
      refine p_val (r_assign (v := (.slice _ _ _)) rfl) ?_
      refine wpList_nil ?_
      refine x_norm ?_; refine hK25 _ _ ?_; try clear hK25 K25
      refine wp_region_lit ?_
      refine p_val (r_move (v := (.int _ _)) rfl) ?_
      refine p_val (r_shr (r := (((65536 + dg A i - c - dg B i) / 65536 : Nat) : Int)) rfl rfl (by decide) (shr16 (by omega))) ?_
      refine p_val (r_sub (r := ((1 - (65536 + dg A i - c - dg B i) / 65536 : Nat) : Int)) rfl rfl (u32sub (by omega) (by omega))) ?_
      refine p_val (r_assign (v := (.int _ _)) rfl) ?_
      refine wpList_nil ?_
      refine b_norm ?_
      refine x_norm ?_; refine hK17 _ _ ?_; try clear hK17 K17
      refine wp_region_lit ?_
      refine p_val (r_move (v := (.int _ _)) hl11) ?_
      refine p_val (r_add (r := ((i + 1 : Nat) : Int)) rfl rfl ((wr64 (by omega) (by omega)).trans (by omega))) ?_
      refine p_val (r_assign (v := (.int _ _)) rfl) ?_
      refine wpList_nil ?_
      refine x_norm ?_
      replace H := H.tail
      exact ⟨_, _, (by omega), rfl, (by repeat (first | exact hk9 | refine keep_cons rfl ?_)), i + 1, 1 - (65536 + dg A i - c - dg B i) / 65536, ls ++ [(65536 + dg A i - c - dg B i) % 65536], bb_9_4, rs_9_4, rfl, rfl, rfl, rfl, H, by rw [List.length_append, hl]; rfl, hd.snoc (Nat.mod_lt _ (by decide)), by omega, sub_step hc hl hv, by omega⟩
  · skip
    have hgA := of_decide_eq_false hc_4
    have hln : ls.length < 1099511627776 := by omega
    refine wp_exit ?_
    refine x_exit ?_
    refine x_exit ?_
    refine b_hit ?_
    refine x_norm ?_; refine hK5 _ _ ?_; try clear hK5 K5
    refine wp_seq_k ?_; intro K28 hK28
    refine wp_region_lit ?_
    refine p_val (r_move (v := (.slice _ _ _)) hl13) ?_
    refine p_call (l := [(.slice _ _ _)]) is55 rfl ?_
    refine (trim_c _ _ _ (Rd.ownA H (k := 0) (xs := u32s ls) (rs := rs) rfl rfl rfl) (by first | assumption | exact digs_DL _) (by first | assumption | omega)).mono ?_; rintro _ w29 ⟨r_11_1, rfl, hr_11_1, hx⟩; replace H := H.ext hx; clear hx
    refine p_val (r_assign (v := _) rfl) ?_
    refine wpList_nil ?_
    refine x_norm ?_; refine hK28 _ _ ?_; try clear hK28 K28
    refine wp_ret ?_
    refine e_1 rfl (q_tmp (v := _) rfl) ?_
    rw [sub_end hd hc hl (by omega) hBA hv] at hr_11_1
    exact ⟨_, rfl, hr_11_1, E.trans H.below⟩

end Go.Proofs.Ytjmgilhlpohcmaa
