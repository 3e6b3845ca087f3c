/- The walks of some functions. Conditions: as each theorem says. -/
import Derived.Test.YtjmgilhlpohcmaaRefB
import Derived.Test.YtjmgilhlpohcmaaDgc
namespace Go.Proofs.Ytjmgilhlpohcmaa
open Go Go.RowKit
attribute [local irreducible] wpList wpT Code.wp Calls Code.rounds lm sd sb ad ac dval subv adr u32s fl dg modN
theorem is20 : IsFn Try.prog 20 := isFn Try.func20 (by kernel_rfl) (by kernel_rfl)
theorem is29 : IsFn Try.prog 29 := isFn Try.func29 (by kernel_rfl) (by kernel_rfl)
theorem is63 : IsFn Try.prog 63 := isFn Try.func63 (by kernel_rfl) (by kernel_rfl)

set_option maxRecDepth 4000 in
theorem left_c (a m : Value) (A M : Nat) (w : World) (ha : Dg w a A) (hm : Dg w m M) (hA : (digs A).length < 1099511627776) (hM : (digs M).length = 16) :
    Calls Try.prog 29 #[a, m] w fun e w' => ∃ r, e = .returned r ∧ Dg w' r (A % M) ∧ Ext w w' := by
  refine enter (n := 102) Try.func29 rfl rfl rfl ?_
  have H := HP.start w
  have E := Below.refl w.heap.size w
  have hMp : 0 < M := Nat.pos_of_ne_zero fun h0 => by subst h0; rw [digs_0] at hM; cases hM
  refine wp_seq_k ?_; intro K1 hK1
  refine wp_region_lit ?_
  refine p_val (r_assign (v := (.slice none 0 0)) rfl) ?_
  refine wpList_nil ?_
  refine x_norm ?_; refine hK1 _ _ ?_; try clear hK1 K1
  refine wp_seq_k ?_; intro K2 hK2
  refine wp_region_lit ?_
  refine p_val (r_move (v := (m)) rfl) ?_
  refine p_val (r_lenR (N := 16) ts26 rfl (Rd.hp hm H) (by rw [u32s_length]; exact hM)) ?_
  refine p_val (r_assign (v := (.int _ _)) rfl) ?_
  refine wpList_nil ?_
  refine x_norm ?_; refine hK2 _ _ ?_; try clear hK2 K2
  refine wp_seq_k ?_; intro K3 hK3
  refine wp_region_lit ?_
  refine p_val (r_move (v := (.int _ _)) rfl) ?_
  refine p_val (r_add (r := ((17 : Nat) : Int)) rfl rfl ((wr64 (by omega) (by omega)).trans (by omega))) ?_
  refine p_make (N := 17) (ys := u32s (fl (fun _ => 0) 17)) ts26 H rfl rfl (rfl) (by omega) (by omega) (u32s_fl _) ?_; clear H; intro w4 bm_2_2 H
  refine p_val (r_assign (v := (.slice _ _ _)) rfl) ?_
  refine wpList_nil ?_
  refine x_norm ?_; refine hK3 _ _ ?_; try clear hK3 K3
  refine wp_seq_k ?_; intro K5 hK5
  refine wp_seq_k ?_; intro K6 hK6
  refine wp_region_lit ?_
  refine p_val (r_move (v := (a)) rfl) ?_
  refine p_val (r_lenR (N := (digs A).length) ts26 rfl (Rd.hp ha H) (u32s_length _)) ?_
  refine p_val (r_sub rfl rfl (wr64 (by omega) (by omega))) ?_
  refine p_val (r_assign (v := (.int _ _)) rfl) ?_
  refine wpList_nil ?_
  refine x_norm ?_; refine hK6 _ _ ?_; try clear hK6 K6
  refine wp_block ?_
  refine loopF [7, 8, 9, 10, 11, 12, 13, 22, 23, 24, 25, 26, 27, 28, 29, 30, 31, 32, 33, 34, 35, 36, 37, 38, 39, 40, 41, 42, 43, 44, 45, 46, 47, 48, 49, 50, 51, 52, 53, 54, 55, 56, 57, 58, 59, 60, 61, 62, 63, 64, 65, 66, 67, 68, 69, 70, 71, 72, 73, 74, 75, 76, 77, 78, 79, 80, 81, 82, 83, 84, 85, 86, 87, 88, 89, 90, 91, 92, 93, 94, 95, 96, 97, 98, 99] (fun γ μ w' => ∃ (k : Nat) (f : Nat → Nat), k = γ ∧ look μ 7 = .int .i64 ((k : Int) - 1) ∧ HP w w' [(bm_2_2, u32s (fl f 17) ++ [], 76)] ∧ (k ≤ (digs A).length) ∧ (∀ p, f p < 65536) ∧ (dval (fl f 17) = A / 65536 ^ k % M)) ((digs A).length) ⟨(digs A).length, fun _ => 0, rfl, rfl, H, Nat.le_refl _, fun _ => Nat.zero_lt_succ _, by rw [above_top (Nat.le_refl _), dval_fl_zero (fun _ _ => rfl), Nat.zero_mod]⟩ ?_
  clear H
  intro g10 m7 w8 hk9 hI; obtain ⟨k, f, rfl, hl11, H, hk, hf, hv⟩ := hI
  refine wp_seq_k ?_; intro K12 hK12
  refine wp_seq_k ?_; intro K13 hK13
  refine wp_region_lit ?_
  refine p_val (r_move (v := (.int _ _)) hl11) ?_
  refine p_val (r_geq rfl rfl rfl) ?_
  refine wpList_nil ?_
  refine x_norm ?_; refine hK13 _ _ ?_; try clear hK13 K13
  refine c_split (t := _) rfl (fun hc_4 => ?_) (fun hc_4 => ?_)
  · skip
    have hk0 : 0 < k := by have := of_decide_eq_true hc_4; omega
    refine wp_skip ?_
    refine x_norm ?_; refine hK12 _ _ ?_; try clear hK12 K12
    refine wp_seq_k ?_; intro K15 hK15
    refine wp_block ?_
    refine wp_seq_k ?_; intro K16 hK16
    refine wp_seq_k ?_; intro K17 hK17
    refine wp_region_lit ?_
    refine p_val (r_move (v := (.int _ _)) (hk9 5 rfl)) ?_
    refine p_val (r_assign (v := (.int _ _)) rfl) ?_
    refine wpList_nil ?_
    refine x_norm ?_; refine hK17 _ _ ?_; try clear hK17 K17
    refine wp_block ?_
    refine loopF [8, 27, 28, 29, 30, 31, 32, 33, 34, 35, 36, 37, 38] (fun γ μ w' => ∃ (j : Nat) (g : Nat → Nat), j = γ ∧ look μ 8 = .int .i64 (j : Int) ∧ HP w w' [(bm_2_2, u32s (fl g 17) ++ [], 76)] ∧ (j ≤ 16) ∧ (∀ p, g p < 65536) ∧ (∀ p, p ≤ j → g p = f p) ∧ (∀ p, j < p → p < 17 → g p = f (p - 1))) (16) ⟨16, f, rfl, rfl, H, Nat.le_refl _, hf, fun _ _ => rfl, fun p h1 h2 => absurd h1 (by omega)⟩ ?_
    clear H
    intro g21 m18 w19 hk20 hI; obtain ⟨j, g, rfl, hl22, H, hj, hg, hs1, hs2⟩ := hI
    refine wp_seq_k ?_; intro K23 hK23
    refine wp_seq_k ?_; intro K24 hK24
    refine wp_region_lit ?_
    refine p_val (r_move (v := (.int _ _)) hl22) ?_
    refine p_val (r_gtr rfl rfl rfl) ?_
    refine wpList_nil ?_
    refine x_norm ?_; refine hK24 _ _ ?_; try clear hK24 K24
    refine c_split (t := _) rfl (fun hc_7 => ?_) (fun hc_7 => ?_)
    · skip
      have hj0 : 0 < j := by have := of_decide_eq_true hc_7; omega
      refine wp_skip ?_
      refine x_norm ?_; refine hK23 _ _ ?_; try clear hK23 K23
      refine wp_seq_k ?_; intro K26 hK26
      refine wp_block ?_
      refine wp_region_lit ?_
      refine p_val (r_move (v := (.slice _ _ _)) ((hk20 6 rfl).trans (hk9 6 rfl))) ?_
      refine p_val (r_move (v := (.int _ _)) hl22) ?_
      refine p_val (r_move (v := (.slice _ _ _)) ((hk20 6 rfl).trans (hk9 6 rfl))) ?_
      refine p_val (r_move (v := (.int _ _)) hl22) ?_
      refine p_val (r_sub rfl rfl (wr64 (by omega) (by omega))) ?_
      refine p_val (r_addrS (i := j - 1) ts26 rfl rfl (by omega) (by rw [u32s_fl_length]; omega)) ?_
      refine p_val (r_loadO (i := j - 1) (xs := u32s (fl g 17)) (rs := []) (u := .int .u32 (g (j - 1) : Int)) to76 H rfl (k := 0) rfl (u32s_fl_get g (by omega))) ?_
      refine p_val (r_addrS (i := j) ts26 rfl rfl (rfl) (by rw [u32s_fl_length]; omega)) ?_
      refine p_storeO (i := j) (xs := u32s (fl g 17)) (rs := []) (ys := u32s (fl (fup g j (g (j - 1))) 17)) to76 H rfl (k := 0) rfl rfl rfl (by rw [u32s_fl_length]; omega) (u32s_fl_set _ _ _ _) ?_; clear H; intro w27 H
      refine wpList_nil ?_
      refine b_norm ?_
      refine x_norm ?_; refine hK26 _ _ ?_; try clear hK26 K26
      refine wp_region_lit ?_
      refine p_val (r_move (v := (.int _ _)) hl22) ?_
      refine p_val (r_sub rfl rfl (wr64 (by omega) (by omega))) ?_
      refine p_val (r_assign (v := (.int _ _)) rfl) ?_
      refine wpList_nil ?_
      refine x_norm ?_
      exact ⟨_, _, (by omega), rfl, (by repeat (first | exact hk20 | refine keep_cons rfl ?_)), j - 1, fup g j (g (j - 1)), rfl, congrArg (Value.int .i64) (by omega), H, by omega, fup_lt hg (hg _), fun p hp => by rw [fup_ne (by omega)]; exact hs1 p (by omega), fun p h1 h2 => by by_cases hpj : p = j; subst hpj; rw [fup_at]; exact hs1 _ (by omega); rw [fup_ne hpj]; exact hs2 p (by omega) h2⟩
    · skip
      have hj0 : j = 0 := by have := of_decide_eq_false hc_7; omega
      refine wp_exit ?_
      refine x_exit ?_
      refine x_exit ?_
      refine b_hit ?_
      refine x_norm ?_; refine hK16 _ _ ?_; try clear hK16 K16
      refine wp_seq_k ?_; intro K28 hK28
      refine wp_region_lit ?_
      refine p_val (r_move (v := (.slice _ _ _)) ((hk20 6 rfl).trans (hk9 6 rfl))) ?_
      refine p_val (r_move (v := (a)) ((hk20 0 rfl).trans (hk9 0 rfl))) ?_
      refine p_val (r_move (v := (.int _ _)) ((hk20 7 rfl).trans hl11)) ?_
      refine p_val (r_addrR (i := k - 1) ts26 rfl rfl (Rd.hp ha H) (by omega) (by rw [u32s_length]; omega)) ?_
      refine p_val (r_loadR (u := .int .u32 (dg A (k - 1) : Int)) to76 rfl (Rd.hp ha H) (u32s_dg (by omega))) ?_
      refine p_val (r_addrS (i := 0) ts26 rfl rfl (rfl) (by rw [u32s_fl_length]; omega)) ?_
      refine p_storeO (i := 0) (xs := u32s (fl g 17)) (rs := []) (ys := u32s (fl (fup g 0 (dg A (k - 1))) 17)) to76 H rfl (k := 0) rfl rfl rfl (by rw [u32s_fl_length]; omega) (u32s_fl_set _ _ _ _) ?_; clear H; intro w29 H
      refine wpList_nil ?_
      refine x_norm ?_; refine hK28 _ _ ?_; try clear hK28 K28
      refine wp_block ?_
      refine loopF [9, 10, 11, 12, 13, 45, 46, 47, 48, 49, 50, 51, 52, 53, 54, 55, 56, 57, 58, 59, 60, 61, 62, 63, 64, 65, 66, 67, 68, 69, 70, 71, 72, 73, 74, 75, 76, 77, 78, 79, 80, 81, 82, 83, 84, 85, 86, 87, 88, 89, 90, 91, 92, 93, 94, 95, 96, 97, 98, 99] (fun γ μ w' => ∃ (f2 : Nat → Nat), dval (fl f2 17) = γ ∧ HP w w' [(bm_2_2, u32s (fl f2 17) ++ [], 76)] ∧ (∀ p, f2 p < 65536) ∧ (dval (fl f2 17) % M = A / 65536 ^ (k - 1) % M)) (dval (fl (fup g 0 (dg A (k - 1))) 17)) ⟨fup g 0 (dg A (k - 1)), rfl, H, fup_lt hg (dg_lt _ _), left_shift hk0 hM hMp (fun p h1 h2 => hs2 p (by omega) h2) hv⟩ ?_
      clear H
      intro g33 m30 w31 hk32 hI; obtain ⟨f2, rfl, H, hf2, hv2⟩ := hI
      refine wp_seq_k ?_; intro K34 hK34
      refine wp_seq_k ?_; intro K35 hK35
      refine wp_region_lit ?_
      refine p_val (r_move (v := (.slice _ _ _)) ((hk32 6 rfl).trans ((hk20 6 rfl).trans (hk9 6 rfl)))) ?_
      refine p_val (r_move (v := (.int _ _)) ((hk32 5 rfl).trans ((hk20 5 rfl).trans (hk9 5 rfl)))) ?_
      refine p_val (r_addrS (i := 16) ts26 rfl rfl (rfl) (by rw [u32s_fl_length]; omega)) ?_
      refine p_val (r_loadO (i := 16) (xs := u32s (fl f2 17)) (rs := []) (u := .int .u32 (f2 16 : Int)) to76 H rfl (k := 0) rfl (u32s_fl_get f2 (by omega))) ?_
      refine p_val (r_gtr rfl rfl rfl) ?_
      refine p_val (r_move (v := (.bool _)) rfl) ?_
      refine p_gs (j := 5) rfl (fun hb_11_5 => ?_) (fun hb_11_5 => ?_)
      · skip
        have hcd : 0 < f2 16 ∨ M ≤ dval (fl f2 16) := .inl (by have := of_decide_eq_true hb_11_5; omega)
        refine p_skip rfl hb_11_5 ?_
        rw [put_fr]
        refine p_skip rfl hb_11_5 ?_
        rw [put_fr]
        refine p_skip rfl hb_11_5 ?_
        rw [put_fr]
        refine p_skip rfl hb_11_5 ?_
        rw [put_fr]
        refine p_skip rfl hb_11_5 ?_
        rw [put_fr]
        refine p_skip rfl hb_11_5 ?_
        rw [put_fr]
        refine p_val (r_pickt (v := (.bool _)) rfl hb_11_5 rfl) ?_
        refine wpList_nil ?_
        refine x_norm ?_; refine hK35 _ _ ?_; try clear hK35 K35
        refine c_true rfl rfl ?_
        refine wp_skip ?_
        refine x_norm ?_; refine hK34 _ _ ?_; try clear hK34 K34
        refine wp_block ?_
        refine wp_seq_k ?_; intro K37 hK37
        refine wp_region_lit ?_
        refine p_val (r_move (v := (.slice _ _ _)) ((hk32 6 rfl).trans ((hk20 6 rfl).trans (hk9 6 rfl)))) ?_
        refine p_val (r_move (v := (.int _ _)) ((hk32 5 rfl).trans ((hk20 5 rfl).trans (hk9 5 rfl)))) ?_
        refine p_val (r_addrS (i := 16) ts26 rfl rfl (rfl) (by rw [u32s_fl_length]; omega)) ?_
        refine p_val (r_loadO (i := 16) (xs := u32s (fl f2 17)) (rs := []) (u := .int .u32 (f2 16 : Int)) to76 H rfl (k := 0) rfl (u32s_fl_get f2 (by omega))) ?_
        refine p_val (r_assign (v := (.int _ _)) rfl) ?_
        refine wpList_nil ?_
        refine x_norm ?_; refine hK37 _ _ ?_; try clear hK37 K37
        refine wp_seq_k ?_; intro K38 hK38
        refine wp_seq_k ?_; intro K39 hK39
        refine wp_region_lit ?_
        refine p_val (r_move (v := (.int _ _)) rfl) ?_
        refine p_val (r_eql rfl rfl rfl) ?_
        refine wpList_nil ?_
        refine x_norm ?_; refine hK39 _ _ ?_; try clear hK39 K39
        refine c_split (t := _) rfl (fun hc_13 => ?_) (fun hc_13 => ?_)
        · skip
          obtain ⟨t, ht1, ht2, ht3, htM⟩ : ∃ t : Nat, (1 : Int) = t ∧ t < 65536 ∧ 0 < t ∧ t * M ≤ dval (fl f2 17) := ⟨1, rfl, by decide, by decide, left_t1 hcd (by simp at hc_13; omega)⟩
          refine wp_region_lit ?_
          refine p_val (r_assign (v := (.int _ _)) rfl) ?_
          refine wpList_nil ?_
          refine x_norm ?_; refine hK38 _ _ ?_; try clear hK38 K38
          refine wp_seq_k ?_; intro K41 hK41
          refine wp_region_lit ?_
          refine p_val (r_assign (v := (.int _ _)) rfl) ?_
          refine wpList_nil ?_
          refine x_norm ?_; refine hK41 _ _ ?_; try clear hK41 K41
          refine wp_seq_k ?_; intro K42 hK42
          refine wp_region_lit ?_
          refine p_val (r_assign (v := (.int _ _)) rfl) ?_
          refine wpList_nil ?_
          refine x_norm ?_; refine hK42 _ _ ?_; try clear hK42 K42
          refine wp_block ?_
          refine loopF [10, 11, 12, 13, 64, 65, 66, 67, 68, 69, 70, 71, 72, 73, 74, 75, 76, 77, 78, 79, 80, 81, 82, 83, 84, 85, 86, 87, 88, 89, 90, 91, 92, 93, 94, 95, 96, 97, 98, 99] (fun γ μ w' => ∃ (q c : Nat) (g2 : Nat → Nat), 17 - q = γ ∧ look μ 11 = .int .i64 (q : Int) ∧ look μ 10 = .int .u64 (c : Int) ∧ HP w w' [(bm_2_2, u32s (fl g2 17) ++ [], 76)] ∧ (q ≤ 17) ∧ (c ≤ 131072) ∧ (∀ p, g2 p < 65536) ∧ (∀ p, q ≤ p → g2 p = f2 p) ∧ (dval (fl g2 q) + t * (M % 65536 ^ q) = dval (fl f2 q) + c * 65536 ^ q)) (17) ⟨0, 0, f2, rfl, rfl, rfl, H, Nat.zero_le _, Nat.zero_le _, hf2, fun _ _ => rfl, by simp [fl, Nat.mod_one]⟩ ?_
          clear H
          intro g46 m43 w44 hk45 hI; obtain ⟨q, c, g2, rfl, hl47, hl48, H, hq, hc, hg2, hge, hv3⟩ := hI
          have htm := tm_bound ht2 (dg_lt M q)
          have hgq := hg2 q
          refine wp_seq_k ?_; intro K49 hK49
          refine wp_seq_k ?_; intro K50 hK50
          refine wp_region_lit ?_
          refine p_val (r_move (v := (.int _ _)) hl47) ?_
          refine p_val (r_move (v := (.int _ _)) ((hk45 5 rfl).trans ((hk32 5 rfl).trans ((hk20 5 rfl).trans (hk9 5 rfl))))) ?_
          refine p_val (r_leq rfl rfl rfl) ?_
          refine wpList_nil ?_
          refine x_norm ?_; refine hK50 _ _ ?_; try clear hK50 K50
          refine c_split (t := _) rfl (fun hc_17 => ?_) (fun hc_17 => ?_)
          · skip
            have hq16 := of_decide_eq_true hc_17
            refine wp_skip ?_
            refine x_norm ?_; refine hK49 _ _ ?_; try clear hK49 K49
            refine wp_seq_k ?_; intro K52 hK52
            refine wp_block ?_
            refine wp_seq_k ?_; intro K53 hK53
            refine wp_region_lit ?_
            refine p_val (r_move (v := (.int _ _)) hl48) ?_
            refine p_val (r_assign (v := (.int _ _)) rfl) ?_
            refine wpList_nil ?_
            refine x_norm ?_; refine hK53 _ _ ?_; try clear hK53 K53
            refine wp_seq_k ?_; intro K54 hK54
            refine wp_seq_k ?_; intro K55 hK55
            refine wp_region_lit ?_
            refine p_val (r_move (v := (.int _ _)) hl47) ?_
            refine p_val (r_move (v := (.int _ _)) ((hk45 5 rfl).trans ((hk32 5 rfl).trans ((hk20 5 rfl).trans (hk9 5 rfl))))) ?_
            refine p_val (r_lss rfl rfl rfl) ?_
            refine wpList_nil ?_
            refine x_norm ?_; refine hK55 _ _ ?_; try clear hK55 K55
            refine c_split (t := _) rfl (fun hc_20 => ?_) (fun hc_20 => ?_)
            · skip
              have hq15 := of_decide_eq_true hc_20
              refine wp_region_lit ?_
              refine p_val (r_move (v := (.int _ _)) rfl) ?_
              refine p_val (r_move (v := (.int _ _)) (hk45 9 rfl)) ?_
              refine p_val (r_conv (r := (t : Int)) u76 u22 rfl (tconv ht1 ht2)) ?_
              refine p_val (r_move (v := (m)) ((hk45 1 rfl).trans ((hk32 1 rfl).trans ((hk20 1 rfl).trans (hk9 1 rfl))))) ?_
              refine p_val (r_move (v := (.int _ _)) hl47) ?_
              refine p_val (r_addrR (i := q) ts26 rfl rfl (Rd.hp hm H) (rfl) (by rw [u32s_length]; omega)) ?_
              refine p_val (r_loadR (u := .int .u32 (dg M q : Int)) to76 rfl (Rd.hp hm H) (u32s_dg (by omega))) ?_
              refine p_val (r_conv (r := (dg M q : Int)) u76 u22 rfl (to64 (dg_lt _ _))) ?_
              refine p_val (r_mul (r := ((t * dg M q : Nat) : Int)) rfl rfl (u64mul (by omega))) ?_
              refine p_val (r_add (r := ((c + t * dg M q : Nat) : Int)) rfl rfl (u64add (by omega) (by omega))) ?_
              refine p_val (r_assign (v := (.int _ _)) rfl) ?_
              refine wpList_nil ?_
              refine x_norm ?_; refine hK54 _ _ ?_; try clear hK54 K54
              refine wp_seq_k ?_; intro K57 hK57
              refine wp_region_lit ?_
              refine p_val (r_move (v := (.slice _ _ _)) ((hk45 6 rfl).trans ((hk32 6 rfl).trans ((hk20 6 rfl).trans (hk9 6 rfl))))) ?_
              refine p_val (r_move (v := (.int _ _)) hl47) ?_
              refine p_val (r_addrS (i := q) ts26 rfl rfl (rfl) (by rw [u32s_fl_length]; omega)) ?_
              refine p_val (r_loadO (i := q) (xs := u32s (fl g2 17)) (rs := []) (u := .int .u32 (g2 q : Int)) to76 H rfl (k := 0) rfl (u32s_fl_get g2 (by omega))) ?_
              refine p_val (r_conv (r := (g2 q : Int)) u76 u22 rfl (to64 hgq)) ?_
              refine p_val (r_add (r := ((g2 q + 1099511627776 : Nat) : Int)) rfl rfl (u64add (by omega) (by omega))) ?_
              refine p_val (r_move (v := (.int _ _)) rfl) ?_
              refine p_val (r_sub (r := (((g2 q + 1099511627776 - (c + t * dg M q)) : Nat) : Int)) rfl rfl (u64sub (by omega) (by omega))) ?_
              refine p_val (r_assign (v := (.int _ _)) rfl) ?_
              refine wpList_nil ?_
              refine x_norm ?_; refine hK57 _ _ ?_; try clear hK57 K57
              refine wp_seq_k ?_; intro K58 hK58
              refine wp_region_lit ?_
              refine p_val (r_move (v := (.slice _ _ _)) ((hk45 6 rfl).trans ((hk32 6 rfl).trans ((hk20 6 rfl).trans (hk9 6 rfl))))) ?_
              refine p_val (r_move (v := (.int _ _)) hl47) ?_
              refine p_val (r_move (v := (.int _ _)) rfl) ?_
              refine p_val (r_bits (bo := .and) (by simp) (r := (((g2 q + 1099511627776 - (c + t * dg M q)) % 65536 : Nat) : Int)) rfl rfl (and16w (by omega))) ?_
              refine p_val (r_conv (r := (((g2 q + 1099511627776 - (c + t * dg M q)) % 65536 : Nat) : Int)) u22 u76 rfl (to32 (Nat.mod_lt _ (by decide)))) ?_
              refine p_val (r_addrS (i := q) ts26 rfl rfl (rfl) (by rw [u32s_fl_length]; omega)) ?_
              refine p_storeO (i := q) (xs := u32s (fl g2 17)) (rs := []) (ys := u32s (fl (fup g2 q ((g2 q + 1099511627776 - (c + t * dg M q)) % 65536)) 17)) to76 H rfl (k := 0) rfl rfl rfl (by rw [u32s_fl_length]; omega) (u32s_fl_set _ _ _ _) ?_; clear H; intro w59 H
              refine wpList_nil ?_
              refine x_norm ?_; refine hK58 _ _ ?_; try clear hK58 K58
              refine wp_region_lit ?_
              refine p_val (r_move (v := (.int _ _)) rfl) ?_
              refine p_val (r_shr (r := (((g2 q + 1099511627776 - (c + t * dg M q)) / 65536 : Nat) : Int)) rfl rfl (by decide) (shr16w)) ?_
              refine p_val (r_sub (r := ((16777216 - (g2 q + 1099511627776 - (c + t * dg M q)) / 65536 : Nat) : Int)) rfl rfl (u64sub (by omega) (by omega))) ?_
              refine p_val (r_assign (v := (.int _ _)) rfl) ?_
              refine wpList_nil ?_
              refine b_norm ?_
              refine x_norm ?_; refine hK52 _ _ ?_; try clear hK52 K52
              refine wp_region_lit ?_
              refine p_val (r_move (v := (.int _ _)) hl47) ?_
              refine p_val (r_add (r := ((q + 1 : Nat) : Int)) rfl rfl ((wr64 (by omega) (by omega)).trans (by omega))) ?_
              refine p_val (r_assign (v := (.int _ _)) rfl) ?_
              refine wpList_nil ?_
              refine x_norm ?_
              exact ⟨_, _, (by omega), rfl, (by repeat (first | exact hk45 | refine keep_cons rfl ?_)), q + 1, 16777216 - (g2 q + 1099511627776 - (c + t * dg M q)) / 65536, fup g2 q ((g2 q + 1099511627776 - (c + t * dg M q)) % 65536), rfl, rfl, rfl, H, by omega, by omega, fup_lt hg2 (Nat.mod_lt _ (by decide)), fun p hp => by rw [fup_ne (by omega)]; exact hge p (by omega), left_step hc htm hgq (hge q (Nat.le_refl _)) hv3⟩
            · skip
              have hq15 := of_decide_eq_false hc_20
              have hz2 : t * dg M q = 0 := by rw [dg_top (by omega), Nat.mul_zero]
              refine wp_skip ?_
              refine x_norm ?_; refine hK54 _ _ ?_; try clear hK54 K54
              refine wp_seq_k ?_; intro K60 hK60
              refine wp_region_lit ?_
              refine p_val (r_move (v := (.slice _ _ _)) ((hk45 6 rfl).trans ((hk32 6 rfl).trans ((hk20 6 rfl).trans (hk9 6 rfl))))) ?_
              refine p_val (r_move (v := (.int _ _)) hl47) ?_
              refine p_val (r_addrS (i := q) ts26 rfl rfl (rfl) (by rw [u32s_fl_length]; omega)) ?_
              refine p_val (r_loadO (i := q) (xs := u32s (fl g2 17)) (rs := []) (u := .int .u32 (g2 q : Int)) to76 H rfl (k := 0) rfl (u32s_fl_get g2 (by omega))) ?_
              refine p_val (r_conv (r := (g2 q : Int)) u76 u22 rfl (to64 hgq)) ?_
              refine p_val (r_add (r := ((g2 q + 1099511627776 : Nat) : Int)) rfl rfl (u64add (by omega) (by omega))) ?_
              refine p_val (r_move (v := (.int _ _)) rfl) ?_
              refine p_val (r_sub (r := (((g2 q + 1099511627776 - (c + t * dg M q)) : Nat) : Int)) rfl rfl (u64sub (by omega) (by omega))) ?_
              refine p_val (r_assign (v := (.int _ _)) rfl) ?_
              refine wpList_nil ?_
              refine x_norm ?_; refine hK60 _ _ ?_; try clear hK60 K60
              refine wp_seq_k ?_; intro K61 hK61
              refine wp_region_lit ?_
              refine p_val (r_move (v := (.slice _ _ _)) ((hk45 6 rfl).trans ((hk32 6 rfl).trans ((hk20 6 rfl).trans (hk9 6 rfl))))) ?_
              refine p_val (r_move (v := (.int _ _)) hl47) ?_
              refine p_val (r_move (v := (.int _ _)) rfl) ?_
              refine p_val (r_bits (bo := .and) (by simp) (r := (((g2 q + 1099511627776 - (c + t * dg M q)) % 65536 : Nat) : Int)) rfl rfl (and16w (by omega))) ?_
              refine p_val (r_conv (r := (((g2 q + 1099511627776 - (c + t * dg M q)) % 65536 : Nat) : Int)) u22 u76 rfl (to32 (Nat.mod_lt _ (by decide)))) ?_
              refine p_val (r_addrS (i := q) ts26 rfl rfl (rfl) (by rw [u32s_fl_length]; omega)) ?_
              refine p_storeO (i := q) (xs := u32s (fl g2 17)) (rs := []) (ys := u32s (fl (fup g2 q ((g2 q + 1099511627776 - (c + t * dg M q)) % 65536)) 17)) to76 H rfl (k := 0) rfl rfl rfl (by rw [u32s_fl_length]; omega) (u32s_fl_set _ _ _ _) ?_; clear H; intro w62 H
              refine wpList_nil ?_
              refine x_norm ?_; refine hK61 _ _ ?_; try clear hK61 K61
              refine wp_region_lit ?_
              refine p_val (r_move (v := (.int _ _)) rfl) ?_
              refine p_val (r_shr (r := (((g2 q + 1099511627776 - (c + t * dg M q)) / 65536 : Nat) : Int)) rfl rfl (by decide) (shr16w)) ?_
              refine p_val (r_sub (r := ((16777216 - (g2 q + 1099511627776 - (c + t * dg M q)) / 65536 : Nat) : Int)) rfl rfl (u64sub (by omega) (by omega))) ?_
              refine p_val (r_assign (v := (.int _ _)) rfl) ?_
              refine wpList_nil ?_
              refine b_norm ?_
              refine x_norm ?_; refine hK52 _ _ ?_; try clear hK52 K52
              refine wp_region_lit ?_
              refine p_val (r_move (v := (.int _ _)) hl47) ?_
              refine p_val (r_add (r := ((q + 1 : Nat) : Int)) rfl rfl ((wr64 (by omega) (by omega)).trans (by omega))) ?_
              refine p_val (r_assign (v := (.int _ _)) rfl) ?_
              refine wpList_nil ?_
              refine x_norm ?_
              exact ⟨_, _, (by omega), rfl, (by repeat (first | exact hk45 | refine keep_cons rfl ?_)), q + 1, 16777216 - (g2 q + 1099511627776 - (c + t * dg M q)) / 65536, fup g2 q ((g2 q + 1099511627776 - (c + t * dg M q)) % 65536), rfl, rfl, rfl, H, by omega, by omega, fup_lt hg2 (Nat.mod_lt _ (by decide)), fun p hp => by rw [fup_ne (by omega)]; exact hge p (by omega), left_step hc htm hgq (hge q (Nat.le_refl _)) hv3⟩
          · skip
            have hq17 := of_decide_eq_false hc_17
            have hend := left_end (by omega) hM hg2 htM hv3
            refine wp_exit ?_
            refine x_exit ?_
            refine x_exit ?_
            refine b_hit ?_
            refine b_norm ?_
            refine x_norm ?_
            exact ⟨_, _, (left_lt hend ht3 hMp), rfl, (by repeat (first | exact hk32 | refine keep_cons rfl ?_ | refine keep_sub hk45 rfl ?_)), g2, rfl, H, hg2, (left_mod hend).trans hv2⟩
        · skip
          obtain ⟨t, ht1, ht2, ht3, htM⟩ : ∃ t : Nat, ((f2 16 : Nat) : Int) = t ∧ t < 65536 ∧ 0 < t ∧ t * M ≤ dval (fl f2 17) := ⟨f2 16, rfl, hf2 16, by simp at hc_13; omega, left_t2 hM⟩
          refine wp_skip ?_
          refine x_norm ?_; refine hK38 _ _ ?_; try clear hK38 K38
          refine wp_seq_k ?_; intro K63 hK63
          refine wp_region_lit ?_
          refine p_val (r_assign (v := (.int _ _)) rfl) ?_
          refine wpList_nil ?_
          refine x_norm ?_; refine hK63 _ _ ?_; try clear hK63 K63
          refine wp_seq_k ?_; intro K64 hK64
          refine wp_region_lit ?_
          refine p_val (r_assign (v := (.int _ _)) rfl) ?_
          refine wpList_nil ?_
          refine x_norm ?_; refine hK64 _ _ ?_; try clear hK64 K64
          refine wp_block ?_
          refine loopF [10, 11, 12, 13, 64, 65, 66, 67, 68, 69, 70, 71, 72, 73, 74, 75, 76, 77, 78, 79, 80, 81, 82, 83, 84, 85, 86, 87, 88, 89, 90, 91, 92, 93, 94, 95, 96, 97, 98, 99] (fun γ μ w' => ∃ (q c : Nat) (g2 : Nat → Nat), 17 - q = γ ∧ look μ 11 = .int .i64 (q : Int) ∧ look μ 10 = .int .u64 (c : Int) ∧ HP w w' [(bm_2_2, u32s (fl g2 17) ++ [], 76)] ∧ (q ≤ 17) ∧ (c ≤ 131072) ∧ (∀ p, g2 p < 65536) ∧ (∀ p, q ≤ p → g2 p = f2 p) ∧ (dval (fl g2 q) + t * (M % 65536 ^ q) = dval (fl f2 q) + c * 65536 ^ q)) (17) ⟨0, 0, f2, rfl, rfl, rfl, H, Nat.zero_le _, Nat.zero_le _, hf2, fun _ _ => rfl, by simp [fl, Nat.mod_one]⟩ ?_
          clear H
          intro g68 m65 w66 hk67 hI; obtain ⟨q, c, g2, rfl, hl69, hl70, H, hq, hc, hg2, hge, hv3⟩ := hI
          have htm := tm_bound ht2 (dg_lt M q)
          have hgq := hg2 q
          refine wp_seq_k ?_; intro K71 hK71
          refine wp_seq_k ?_; intro K72 hK72
          refine wp_region_lit ?_
          refine p_val (r_move (v := (.int _ _)) hl69) ?_
          refine p_val (r_move (v := (.int _ _)) ((hk67 5 rfl).trans ((hk32 5 rfl).trans ((hk20 5 rfl).trans (hk9 5 rfl))))) ?_
          refine p_val (r_leq rfl rfl rfl) ?_
          refine wpList_nil ?_
          refine x_norm ?_; refine hK72 _ _ ?_; try clear hK72 K72
          refine c_split (t := _) rfl (fun hc_17 => ?_) (fun hc_17 => ?_)
          · skip
            have hq16 := of_decide_eq_true hc_17
            refine wp_skip ?_
            refine x_norm ?_; refine hK71 _ _ ?_; try clear hK71 K71
            refine wp_seq_k ?_; intro K74 hK74
            refine wp_block ?_
            refine wp_seq_k ?_; intro K75 hK75
            refine wp_region_lit ?_
            refine p_val (r_move (v := (.int _ _)) hl70) ?_
            refine p_val (r_assign (v := (.int _ _)) rfl) ?_
            refine wpList_nil ?_
            refine x_norm ?_; refine hK75 _ _ ?_; try clear hK75 K75
            refine wp_seq_k ?_; intro K76 hK76
            refine wp_seq_k ?_; intro K77 hK77
            refine wp_region_lit ?_
            refine p_val (r_move (v := (.int _ _)) hl69) ?_
            refine p_val (r_move (v := (.int _ _)) ((hk67 5 rfl).trans ((hk32 5 rfl).trans ((hk20 5 rfl).trans (hk9 5 rfl))))) ?_
            refine p_val (r_lss rfl rfl rfl) ?_
            refine wpList_nil ?_
            refine x_norm ?_; refine hK77 _ _ ?_; try clear hK77 K77
            refine c_split (t := _) rfl (fun hc_20 => ?_) (fun hc_20 => ?_)
            · skip
              have hq15 := of_decide_eq_true hc_20
              refine wp_region_lit ?_
              refine p_val (r_move (v := (.int _ _)) rfl) ?_
              refine p_val (r_move (v := (.int _ _)) (hk67 9 rfl)) ?_
              refine p_val (r_conv (r := (t : Int)) u76 u22 rfl (tconv ht1 ht2)) ?_
              refine p_val (r_move (v := (m)) ((hk67 1 rfl).trans ((hk32 1 rfl).trans ((hk20 1 rfl).trans (hk9 1 rfl))))) ?_
              refine p_val (r_move (v := (.int _ _)) hl69) ?_
              refine p_val (r_addrR (i := q) ts26 rfl rfl (Rd.hp hm H) (rfl) (by rw [u32s_length]; omega)) ?_
              refine p_val (r_loadR (u := .int .u32 (dg M q : Int)) to76 rfl (Rd.hp hm H) (u32s_dg (by omega))) ?_
              refine p_val (r_conv (r := (dg M q : Int)) u76 u22 rfl (to64 (dg_lt _ _))) ?_
              refine p_val (r_mul (r := ((t * dg M q : Nat) : Int)) rfl rfl (u64mul (by omega))) ?_
              refine p_val (r_add (r := ((c + t * dg M q : Nat) : Int)) rfl rfl (u64add (by omega) (by omega))) ?_
              refine p_val (r_assign (v := (.int _ _)) rfl) ?_
              refine wpList_nil ?_
              refine x_norm ?_; refine hK76 _ _ ?_; try clear hK76 K76
              refine wp_seq_k ?_; intro K79 hK79
              refine wp_region_lit ?_
              refine p_val (r_move (v := (.slice _ _ _)) ((hk67 6 rfl).trans ((hk32 6 rfl).trans ((hk20 6 rfl).trans (hk9 6 rfl))))) ?_
              refine p_val (r_move (v := (.int _ _)) hl69) ?_
              refine p_val (r_addrS (i := q) ts26 rfl rfl (rfl) (by rw [u32s_fl_length]; omega)) ?_
              refine p_val (r_loadO (i := q) (xs := u32s (fl g2 17)) (rs := []) (u := .int .u32 (g2 q : Int)) to76 H rfl (k := 0) rfl (u32s_fl_get g2 (by omega))) ?_
              refine p_val (r_conv (r := (g2 q : Int)) u76 u22 rfl (to64 hgq)) ?_
              refine p_val (r_add (r := ((g2 q + 1099511627776 : Nat) : Int)) rfl rfl (u64add (by omega) (by omega))) ?_
              refine p_val (r_move (v := (.int _ _)) rfl) ?_
              refine p_val (r_sub (r := (((g2 q + 1099511627776 - (c + t * dg M q)) : Nat) : Int)) rfl rfl (u64sub (by omega) (by omega))) ?_
              refine p_val (r_assign (v := (.int _ _)) rfl) ?_
              refine wpList_nil ?_
              refine x_norm ?_; refine hK79 _ _ ?_; try clear hK79 K79
              refine wp_seq_k ?_; intro K80 hK80
              refine wp_region_lit ?_
              refine p_val (r_move (v := (.slice _ _ _)) ((hk67 6 rfl).trans ((hk32 6 rfl).trans ((hk20 6 rfl).trans (hk9 6 rfl))))) ?_
              refine p_val (r_move (v := (.int _ _)) hl69) ?_
              refine p_val (r_move (v := (.int _ _)) rfl) ?_
              refine p_val (r_bits (bo := .and) (by simp) (r := (((g2 q + 1099511627776 - (c + t * dg M q)) % 65536 : Nat) : Int)) rfl rfl (and16w (by omega))) ?_
              refine p_val (r_conv (r := (((g2 q + 1099511627776 - (c + t * dg M q)) % 65536 : Nat) : Int)) u22 u76 rfl (to32 (Nat.mod_lt _ (by decide)))) ?_
              refine p_val (r_addrS (i := q) ts26 rfl rfl (rfl) (by rw [u32s_fl_length]; omega)) ?_
              refine p_storeO (i := q) (xs := u32s (fl g2 17)) (rs := []) (ys := u32s (fl (fup g2 q ((g2 q + 1099511627776 - (c + t * dg M q)) % 65536)) 17)) to76 H rfl (k := 0) rfl rfl rfl (by rw [u32s_fl_length]; omega) (u32s_fl_set _ _ _ _) ?_; clear H; intro w81 H
              refine wpList_nil ?_
              refine x_norm ?_; refine hK80 _ _ ?_; try clear hK80 K80
              refine wp_region_lit ?_
              refine p_val (r_move (v := (.int _ _)) rfl) ?_
              refine p_val (r_shr (r := (((g2 q + 1099511627776 - (c + t * dg M q)) / 65536 : Nat) : Int)) rfl rfl (by decide) (shr16w)) ?_
              refine p_val (r_sub (r := ((16777216 - (g2 q + 1099511627776 - (c + t * dg M q)) / 65536 : Nat) : Int)) rfl rfl (u64sub (by omega) (by omega))) ?_
              refine p_val (r_assign (v := (.int _ _)) rfl) ?_
              refine wpList_nil ?_
              refine b_norm ?_
              refine x_norm ?_; refine hK74 _ _ ?_; try clear hK74 K74
              refine wp_region_lit ?_
              refine p_val (r_move (v := (.int _ _)) hl69) ?_
              refine p_val (r_add (r := ((q + 1 : Nat) : Int)) rfl rfl ((wr64 (by omega) (by omega)).trans (by omega))) ?_
              refine p_val (r_assign (v := (.int _ _)) rfl) ?_
              refine wpList_nil ?_
              refine x_norm ?_
              exact ⟨_, _, (by omega), rfl, (by repeat (first | exact hk67 | refine keep_cons rfl ?_)), q + 1, 16777216 - (g2 q + 1099511627776 - (c + t * dg M q)) / 65536, fup g2 q ((g2 q + 1099511627776 - (c + t * dg M q)) % 65536), rfl, rfl, rfl, H, by omega, by omega, fup_lt hg2 (Nat.mod_lt _ (by decide)), fun p hp => by rw [fup_ne (by omega)]; exact hge p (by omega), left_step hc htm hgq (hge q (Nat.le_refl _)) hv3⟩
            · skip
              have hq15 := of_decide_eq_false hc_20
              have hz2 : t * dg M q = 0 := by rw [dg_top (by omega), Nat.mul_zero]
              refine wp_skip ?_
              refine x_norm ?_; refine hK76 _ _ ?_; try clear hK76 K76
              refine wp_seq_k ?_; intro K82 hK82
              refine wp_region_lit ?_
              refine p_val (r_move (v := (.slice _ _ _)) ((hk67 6 rfl).trans ((hk32 6 rfl).trans ((hk20 6 rfl).trans (hk9 6 rfl))))) ?_
              refine p_val (r_move (v := (.int _ _)) hl69) ?_
              refine p_val (r_addrS (i := q) ts26 rfl rfl (rfl) (by rw [u32s_fl_length]; omega)) ?_
              refine p_val (r_loadO (i := q) (xs := u32s (fl g2 17)) (rs := []) (u := .int .u32 (g2 q : Int)) to76 H rfl (k := 0) rfl (u32s_fl_get g2 (by omega))) ?_
              refine p_val (r_conv (r := (g2 q : Int)) u76 u22 rfl (to64 hgq)) ?_
              refine p_val (r_add (r := ((g2 q + 1099511627776 : Nat) : Int)) rfl rfl (u64add (by omega) (by omega))) ?_
              refine p_val (r_move (v := (.int _ _)) rfl) ?_
              refine p_val (r_sub (r := (((g2 q + 1099511627776 - (c + t * dg M q)) : Nat) : Int)) rfl rfl (u64sub (by omega) (by omega))) ?_
              refine p_val (r_assign (v := (.int _ _)) rfl) ?_
              refine wpList_nil ?_
              refine x_norm ?_; refine hK82 _ _ ?_; try clear hK82 K82
              refine wp_seq_k ?_; intro K83 hK83
              refine wp_region_lit ?_
              refine p_val (r_move (v := (.slice _ _ _)) ((hk67 6 rfl).trans ((hk32 6 rfl).trans ((hk20 6 rfl).trans (hk9 6 rfl))))) ?_
              refine p_val (r_move (v := (.int _ _)) hl69) ?_
              refine p_val (r_move (v := (.int _ _)) rfl) ?_
              refine p_val (r_bits (bo := .and) (by simp) (r := (((g2 q + 1099511627776 - (c + t * dg M q)) % 65536 : Nat) : Int)) rfl rfl (and16w (by omega))) ?_
              refine p_val (r_conv (r := (((g2 q + 1099511627776 - (c + t * dg M q)) % 65536 : Nat) : Int)) u22 u76 rfl (to32 (Nat.mod_lt _ (by decide)))) ?_
              refine p_val (r_addrS (i := q) ts26 rfl rfl (rfl) (by rw [u32s_fl_length]; omega)) ?_
              refine p_storeO (i := q) (xs := u32s (fl g2 17)) (rs := []) (ys := u32s (fl (fup g2 q ((g2 q + 1099511627776 - (c + t * dg M q)) % 65536)) 17)) to76 H rfl (k := 0) rfl rfl rfl (by rw [u32s_fl_length]; omega) (u32s_fl_set _ _ _ _) ?_; clear H; intro w84 H
              refine wpList_nil ?_
              refine x_norm ?_; refine hK83 _ _ ?_; try clear hK83 K83
              refine wp_region_lit ?_
              refine p_val (r_move (v := (.int _ _)) rfl) ?_
              refine p_val (r_shr (r := (((g2 q + 1099511627776 - (c + t * dg M q)) / 65536 : Nat) : Int)) rfl rfl (by decide) (shr16w)) ?_
              refine p_val (r_sub (r := ((16777216 - (g2 q + 1099511627776 - (c + t * dg M q)) / 65536 : Nat) : Int)) rfl rfl (u64sub (by omega) (by omega))) ?_
              refine p_val (r_assign (v := (.int _ _)) rfl) ?_
              refine wpList_nil ?_
              refine b_norm ?_
              refine x_norm ?_; refine hK74 _ _ ?_; try clear hK74 K74
              refine wp_region_lit ?_
              refine p_val (r_move (v := (.int _ _)) hl69) ?_
              refine p_val (r_add (r := ((q + 1 : Nat) : Int)) rfl rfl ((wr64 (by omega) (by omega)).trans (by omega))) ?_
              refine p_val (r_assign (v := (.int _ _)) rfl) ?_
              refine wpList_nil ?_
              refine x_norm ?_
              exact ⟨_, _, (by omega), rfl, (by repeat (first | exact hk67 | refine keep_cons rfl ?_)), q + 1, 16777216 - (g2 q + 1099511627776 - (c + t * dg M q)) / 65536, fup g2 q ((g2 q + 1099511627776 - (c + t * dg M q)) % 65536), rfl, rfl, rfl, H, by omega, by omega, fup_lt hg2 (Nat.mod_lt _ (by decide)), fun p hp => by rw [fup_ne (by omega)]; exact hge p (by omega), left_step hc htm hgq (hge q (Nat.le_refl _)) hv3⟩
          · skip
            have hq17 := of_decide_eq_false hc_17
            have hend := left_end (by omega) hM hg2 htM hv3
            refine wp_exit ?_
            refine x_exit ?_
            refine x_exit ?_
            refine b_hit ?_
            refine b_norm ?_
            refine x_norm ?_
            exact ⟨_, _, (left_lt hend ht3 hMp), rfl, (by repeat (first | exact hk32 | refine keep_cons rfl ?_ | refine keep_sub hk45 rfl ?_ | refine keep_sub hk67 rfl ?_)), g2, rfl, H, hg2, (left_mod hend).trans hv2⟩
      · skip
        have hnp := of_decide_eq_false hb_11_5
        refine p_want rfl hb_11_5 ?_
        refine p_val (r_move (v := (.slice _ _ _)) ((hk32 6 rfl).trans ((hk20 6 rfl).trans (hk9 6 rfl)))) ?_
        refine p_want rfl hb_11_5 ?_
        refine p_val (r_move (v := (.int _ _)) ((hk32 5 rfl).trans ((hk20 5 rfl).trans (hk9 5 rfl)))) ?_
        refine p_want rfl hb_11_5 ?_
        refine p_val (r_sliceH (h := 16) ts26 rfl rfl (rfl) (Rd.ownA H (k := 0) (xs := u32s (fl f2 17)) (rs := []) rfl (fl_lenp _ _ _) (fl_capp _ _ _)) (by rw [u32s_fl_length]; omega)) ?_
        refine p_want rfl hb_11_5 ?_
        refine p_val (r_move (v := (m)) ((hk32 1 rfl).trans ((hk20 1 rfl).trans (hk9 1 rfl)))) ?_
        refine p_want rfl hb_11_5 ?_
        refine p_call (l := [_, (m)]) is35 rfl ?_
        refine (cmp_c _ _ _ _ _ (rd_fl (by omega) (Rd.sub (Rd.ownA H (k := 0) (xs := u32s (fl f2 17)) (rs := []) rfl (fl_lenp _ _ _) (fl_capp _ _ _)) (Nat.zero_le _) (by rw [u32s_fl_length]; omega))) (Rd.hp hm H) (DL_fl hf2 16) (digs_DL _) (by rw [fl_length]; omega) (by omega)).mono ?_; rintro _ w85 ⟨rfl, hx⟩; replace H := H.ext hx; clear hx
        refine p_want rfl hb_11_5 ?_
        refine p_val (r_geq rfl rfl rfl) ?_
        refine p_val (r_pickf (v := (.bool _)) rfl hb_11_5 rfl) ?_
        refine wpList_nil ?_
        refine x_norm ?_; refine hK35 _ _ ?_; try clear hK35 K35
        refine c_split (t := _) rfl (fun hc_11 => ?_) (fun hc_11 => ?_)
        · skip
          have hcd : 0 < f2 16 ∨ M ≤ dval (fl f2 16) := .inr (by have := of_decide_eq_true hc_11; rw [dval_digs] at this; exact cmpI_ge.1 this)
          refine wp_skip ?_
          refine x_norm ?_; refine hK34 _ _ ?_; try clear hK34 K34
          refine wp_block ?_
          refine wp_seq_k ?_; intro K87 hK87
          refine wp_region_lit ?_
          refine p_val (r_move (v := (.slice _ _ _)) ((hk32 6 rfl).trans ((hk20 6 rfl).trans (hk9 6 rfl)))) ?_
          refine p_val (r_move (v := (.int _ _)) ((hk32 5 rfl).trans ((hk20 5 rfl).trans (hk9 5 rfl)))) ?_
          refine p_val (r_addrS (i := 16) ts26 rfl rfl (rfl) (by rw [u32s_fl_length]; omega)) ?_
          refine p_val (r_loadO (i := 16) (xs := u32s (fl f2 17)) (rs := []) (u := .int .u32 (f2 16 : Int)) to76 H rfl (k := 0) rfl (u32s_fl_get f2 (by omega))) ?_
          refine p_val (r_assign (v := (.int _ _)) rfl) ?_
          refine wpList_nil ?_
          refine x_norm ?_; refine hK87 _ _ ?_; try clear hK87 K87
          refine wp_seq_k ?_; intro K88 hK88
          refine wp_seq_k ?_; intro K89 hK89
          refine wp_region_lit ?_
          refine p_val (r_move (v := (.int _ _)) rfl) ?_
          refine p_val (r_eql rfl rfl rfl) ?_
          refine wpList_nil ?_
          refine x_norm ?_; refine hK89 _ _ ?_; try clear hK89 K89
          refine c_split (t := _) rfl (fun hc_13 => ?_) (fun hc_13 => ?_)
          · skip
            obtain ⟨t, ht1, ht2, ht3, htM⟩ : ∃ t : Nat, (1 : Int) = t ∧ t < 65536 ∧ 0 < t ∧ t * M ≤ dval (fl f2 17) := ⟨1, rfl, by decide, by decide, left_t1 hcd (by simp at hc_13; omega)⟩
            refine wp_region_lit ?_
            refine p_val (r_assign (v := (.int _ _)) rfl) ?_
            refine wpList_nil ?_
            refine x_norm ?_; refine hK88 _ _ ?_; try clear hK88 K88
            refine wp_seq_k ?_; intro K91 hK91
            refine wp_region_lit ?_
            refine p_val (r_assign (v := (.int _ _)) rfl) ?_
            refine wpList_nil ?_
            refine x_norm ?_; refine hK91 _ _ ?_; try clear hK91 K91
            refine wp_seq_k ?_; intro K92 hK92
            refine wp_region_lit ?_
            refine p_val (r_assign (v := (.int _ _)) rfl) ?_
            refine wpList_nil ?_
            refine x_norm ?_; refine hK92 _ _ ?_; try clear hK92 K92
            refine wp_block ?_
            refine loopF [10, 11, 12, 13, 64, 65, 66, 67, 68, 69, 70, 71, 72, 73, 74, 75, 76, 77, 78, 79, 80, 81, 82, 83, 84, 85, 86, 87, 88, 89, 90, 91, 92, 93, 94, 95, 96, 97, 98, 99] (fun γ μ w' => ∃ (q c : Nat) (g2 : Nat → Nat), 17 - q = γ ∧ look μ 11 = .int .i64 (q : Int) ∧ look μ 10 = .int .u64 (c : Int) ∧ HP w w' [(bm_2_2, u32s (fl g2 17) ++ [], 76)] ∧ (q ≤ 17) ∧ (c ≤ 131072) ∧ (∀ p, g2 p < 65536) ∧ (∀ p, q ≤ p → g2 p = f2 p) ∧ (dval (fl g2 q) + t * (M % 65536 ^ q) = dval (fl f2 q) + c * 65536 ^ q)) (17) ⟨0, 0, f2, rfl, rfl, rfl, H, Nat.zero_le _, Nat.zero_le _, hf2, fun _ _ => rfl, by simp [fl, Nat.mod_one]⟩ ?_
            clear H
            intro g96 m93 w94 hk95 hI; obtain ⟨q, c, g2, rfl, hl97, hl98, H, hq, hc, hg2, hge, hv3⟩ := hI
            have htm := tm_bound ht2 (dg_lt M q)
            have hgq := hg2 q
            refine wp_seq_k ?_; intro K99 hK99
            refine wp_seq_k ?_; intro K100 hK100
            refine wp_region_lit ?_
            refine p_val (r_move (v := (.int _ _)) hl97) ?_
            refine p_val (r_move (v := (.int _ _)) ((hk95 5 rfl).trans ((hk32 5 rfl).trans ((hk20 5 rfl).trans (hk9 5 rfl))))) ?_
            refine p_val (r_leq rfl rfl rfl) ?_
            refine wpList_nil ?_
            refine x_norm ?_; refine hK100 _ _ ?_; try clear hK100 K100
            refine c_split (t := _) rfl (fun hc_17 => ?_) (fun hc_17 => ?_)
            · skip
              have hq16 := of_decide_eq_true hc_17
              refine wp_skip ?_
              refine x_norm ?_; refine hK99 _ _ ?_; try clear hK99 K99
              refine wp_seq_k ?_; intro K102 hK102
              refine wp_block ?_
              refine wp_seq_k ?_; intro K103 hK103
              refine wp_region_lit ?_
              refine p_val (r_move (v := (.int _ _)) hl98) ?_
              refine p_val (r_assign (v := (.int _ _)) rfl) ?_
              refine wpList_nil ?_
              refine x_norm ?_; refine hK103 _ _ ?_; try clear hK103 K103
              refine wp_seq_k ?_; intro K104 hK104
              refine wp_seq_k ?_; intro K105 hK105
              refine wp_region_lit ?_
              refine p_val (r_move (v := (.int _ _)) hl97) ?_
              refine p_val (r_move (v := (.int _ _)) ((hk95 5 rfl).trans ((hk32 5 rfl).trans ((hk20 5 rfl).trans (hk9 5 rfl))))) ?_
              refine p_val (r_lss rfl rfl rfl) ?_
              refine wpList_nil ?_
              refine x_norm ?_; refine hK105 _ _ ?_; try clear hK105 K105
              refine c_split (t := _) rfl (fun hc_20 => ?_) (fun hc_20 => ?_)
              · skip
                have hq15 := of_decide_eq_true hc_20
                refine wp_region_lit ?_
                refine p_val (r_move (v := (.int _ _)) rfl) ?_
                refine p_val (r_move (v := (.int _ _)) (hk95 9 rfl)) ?_
                refine p_val (r_conv (r := (t : Int)) u76 u22 rfl (tconv ht1 ht2)) ?_
                refine p_val (r_move (v := (m)) ((hk95 1 rfl).trans ((hk32 1 rfl).trans ((hk20 1 rfl).trans (hk9 1 rfl))))) ?_
                refine p_val (r_move (v := (.int _ _)) hl97) ?_
                refine p_val (r_addrR (i := q) ts26 rfl rfl (Rd.hp hm H) (rfl) (by rw [u32s_length]; omega)) ?_
                refine p_val (r_loadR (u := .int .u32 (dg M q : Int)) to76 rfl (Rd.hp hm H) (u32s_dg (by omega))) ?_
                refine p_val (r_conv (r := (dg M q : Int)) u76 u22 rfl (to64 (dg_lt _ _))) ?_
                refine p_val (r_mul (r := ((t * dg M q : Nat) : Int)) rfl rfl (u64mul (by omega))) ?_
                refine p_val (r_add (r := ((c + t * dg M q : Nat) : Int)) rfl rfl (u64add (by omega) (by omega))) ?_
                refine p_val (r_assign (v := (.int _ _)) rfl) ?_
                refine wpList_nil ?_
                refine x_norm ?_; refine hK104 _ _ ?_; try clear hK104 K104
                refine wp_seq_k ?_; intro K107 hK107
                refine wp_region_lit ?_
                refine p_val (r_move (v := (.slice _ _ _)) ((hk95 6 rfl).trans ((hk32 6 rfl).trans ((hk20 6 rfl).trans (hk9 6 rfl))))) ?_
                refine p_val (r_move (v := (.int _ _)) hl97) ?_
                refine p_val (r_addrS (i := q) ts26 rfl rfl (rfl) (by rw [u32s_fl_length]; omega)) ?_
                refine p_val (r_loadO (i := q) (xs := u32s (fl g2 17)) (rs := []) (u := .int .u32 (g2 q : Int)) to76 H rfl (k := 0) rfl (u32s_fl_get g2 (by omega))) ?_
                refine p_val (r_conv (r := (g2 q : Int)) u76 u22 rfl (to64 hgq)) ?_
                refine p_val (r_add (r := ((g2 q + 1099511627776 : Nat) : Int)) rfl rfl (u64add (by omega) (by omega))) ?_
                refine p_val (r_move (v := (.int _ _)) rfl) ?_
                refine p_val (r_sub (r := (((g2 q + 1099511627776 - (c + t * dg M q)) : Nat) : Int)) rfl rfl (u64sub (by omega) (by omega))) ?_
                refine p_val (r_assign (v := (.int _ _)) rfl) ?_
                refine wpList_nil ?_
                refine x_norm ?_; refine hK107 _ _ ?_; try clear hK107 K107
                refine wp_seq_k ?_; intro K108 hK108
                refine wp_region_lit ?_
                refine p_val (r_move (v := (.slice _ _ _)) ((hk95 6 rfl).trans ((hk32 6 rfl).trans ((hk20 6 rfl).trans (hk9 6 rfl))))) ?_
                refine p_val (r_move (v := (.int _ _)) hl97) ?_
                refine p_val (r_move (v := (.int _ _)) rfl) ?_
                refine p_val (r_bits (bo := .and) (by simp) (r := (((g2 q + 1099511627776 - (c + t * dg M q)) % 65536 : Nat) : Int)) rfl rfl (and16w (by omega))) ?_
                refine p_val (r_conv (r := (((g2 q + 1099511627776 - (c + t * dg M q)) % 65536 : Nat) : Int)) u22 u76 rfl (to32 (Nat.mod_lt _ (by decide)))) ?_
                refine p_val (r_addrS (i := q) ts26 rfl rfl (rfl) (by rw [u32s_fl_length]; omega)) ?_
                refine p_storeO (i := q) (xs := u32s (fl g2 17)) (rs := []) (ys := u32s (fl (fup g2 q ((g2 q + 1099511627776 - (c + t * dg M q)) % 65536)) 17)) to76 H rfl (k := 0) rfl rfl rfl (by rw [u32s_fl_length]; omega) (u32s_fl_set _ _ _ _) ?_; clear H; intro w109 H
                refine wpList_nil ?_
                refine x_norm ?_; refine hK108 _ _ ?_; try clear hK108 K108
                refine wp_region_lit ?_
                refine p_val (r_move (v := (.int _ _)) rfl) ?_
                refine p_val (r_shr (r := (((g2 q + 1099511627776 - (c + t * dg M q)) / 65536 : Nat) : Int)) rfl rfl (by decide) (shr16w)) ?_
                refine p_val (r_sub (r := ((16777216 - (g2 q + 1099511627776 - (c + t * dg M q)) / 65536 : Nat) : Int)) rfl rfl (u64sub (by omega) (by omega))) ?_
                refine p_val (r_assign (v := (.int _ _)) rfl) ?_
                refine wpList_nil ?_
                refine b_norm ?_
                refine x_norm ?_; refine hK102 _ _ ?_; try clear hK102 K102
                refine wp_region_lit ?_
                refine p_val (r_move (v := (.int _ _)) hl97) ?_
                refine p_val (r_add (r := ((q + 1 : Nat) : Int)) rfl rfl ((wr64 (by omega) (by omega)).trans (by omega))) ?_
                refine p_val (r_assign (v := (.int _ _)) rfl) ?_
                refine wpList_nil ?_
                refine x_norm ?_
                exact ⟨_, _, (by omega), rfl, (by repeat (first | exact hk95 | refine keep_cons rfl ?_)), q + 1, 16777216 - (g2 q + 1099511627776 - (c + t * dg M q)) / 65536, fup g2 q ((g2 q + 1099511627776 - (c + t * dg M q)) % 65536), rfl, rfl, rfl, H, by omega, by omega, fup_lt hg2 (Nat.mod_lt _ (by decide)), fun p hp => by rw [fup_ne (by omega)]; exact hge p (by omega), left_step hc htm hgq (hge q (Nat.le_refl _)) hv3⟩
              · skip
                have hq15 := of_decide_eq_false hc_20
                have hz2 : t * dg M q = 0 := by rw [dg_top (by omega), Nat.mul_zero]
                refine wp_skip ?_
                refine x_norm ?_; refine hK104 _ _ ?_; try clear hK104 K104
                refine wp_seq_k ?_; intro K110 hK110
                refine wp_region_lit ?_
                refine p_val (r_move (v := (.slice _ _ _)) ((hk95 6 rfl).trans ((hk32 6 rfl).trans ((hk20 6 rfl).trans (hk9 6 rfl))))) ?_
                refine p_val (r_move (v := (.int _ _)) hl97) ?_
                refine p_val (r_addrS (i := q) ts26 rfl rfl (rfl) (by rw [u32s_fl_length]; omega)) ?_
                refine p_val (r_loadO (i := q) (xs := u32s (fl g2 17)) (rs := []) (u := .int .u32 (g2 q : Int)) to76 H rfl (k := 0) rfl (u32s_fl_get g2 (by omega))) ?_
                refine p_val (r_conv (r := (g2 q : Int)) u76 u22 rfl (to64 hgq)) ?_
                refine p_val (r_add (r := ((g2 q + 1099511627776 : Nat) : Int)) rfl rfl (u64add (by omega) (by omega))) ?_
                refine p_val (r_move (v := (.int _ _)) rfl) ?_
                refine p_val (r_sub (r := (((g2 q + 1099511627776 - (c + t * dg M q)) : Nat) : Int)) rfl rfl (u64sub (by omega) (by omega))) ?_
                refine p_val (r_assign (v := (.int _ _)) rfl) ?_
                refine wpList_nil ?_
                refine x_norm ?_; refine hK110 _ _ ?_; try clear hK110 K110
                refine wp_seq_k ?_; intro K111 hK111
                refine wp_region_lit ?_
                refine p_val (r_move (v := (.slice _ _ _)) ((hk95 6 rfl).trans ((hk32 6 rfl).trans ((hk20 6 rfl).trans (hk9 6 rfl))))) ?_
                refine p_val (r_move (v := (.int _ _)) hl97) ?_
                refine p_val (r_move (v := (.int _ _)) rfl) ?_
                refine p_val (r_bits (bo := .and) (by simp) (r := (((g2 q + 1099511627776 - (c + t * dg M q)) % 65536 : Nat) : Int)) rfl rfl (and16w (by omega))) ?_
                refine p_val (r_conv (r := (((g2 q + 1099511627776 - (c + t * dg M q)) % 65536 : Nat) : Int)) u22 u76 rfl (to32 (Nat.mod_lt _ (by decide)))) ?_
                refine p_val (r_addrS (i := q) ts26 rfl rfl (rfl) (by rw [u32s_fl_length]; omega)) ?_
                refine p_storeO (i := q) (xs := u32s (fl g2 17)) (rs := []) (ys := u32s (fl (fup g2 q ((g2 q + 1099511627776 - (c + t * dg M q)) % 65536)) 17)) to76 H rfl (k := 0) rfl rfl rfl (by rw [u32s_fl_length]; omega) (u32s_fl_set _ _ _ _) ?_; clear H; intro w112 H
                refine wpList_nil ?_
                refine x_norm ?_; refine hK111 _ _ ?_; try clear hK111 K111
                refine wp_region_lit ?_
                refine p_val (r_move (v := (.int _ _)) rfl) ?_
                refine p_val (r_shr (r := (((g2 q + 1099511627776 - (c + t * dg M q)) / 65536 : Nat) : Int)) rfl rfl (by decide) (shr16w)) ?_
                refine p_val (r_sub (r := ((16777216 - (g2 q + 1099511627776 - (c + t * dg M q)) / 65536 : Nat) : Int)) rfl rfl (u64sub (by omega) (by omega))) ?_
                refine p_val (r_assign (v := (.int _ _)) rfl) ?_
                refine wpList_nil ?_
                refine b_norm ?_
                refine x_norm ?_; refine hK102 _ _ ?_; try clear hK102 K102
                refine wp_region_lit ?_
                refine p_val (r_move (v := (.int _ _)) hl97) ?_
                refine p_val (r_add (r := ((q + 1 : Nat) : Int)) rfl rfl ((wr64 (by omega) (by omega)).trans (by omega))) ?_
                refine p_val (r_assign (v := (.int _ _)) rfl) ?_
                refine wpList_nil ?_
                refine x_norm ?_
                exact ⟨_, _, (by omega), rfl, (by repeat (first | exact hk95 | refine keep_cons rfl ?_)), q + 1, 16777216 - (g2 q + 1099511627776 - (c + t * dg M q)) / 65536, fup g2 q ((g2 q + 1099511627776 - (c + t * dg M q)) % 65536), rfl, rfl, rfl, H, by omega, by omega, fup_lt hg2 (Nat.mod_lt _ (by decide)), fun p hp => by rw [fup_ne (by omega)]; exact hge p (by omega), left_step hc htm hgq (hge q (Nat.le_refl _)) hv3⟩
            · skip
              have hq17 := of_decide_eq_false hc_17
              have hend := left_end (by omega) hM hg2 htM hv3
              refine wp_exit ?_
              refine x_exit ?_
              refine x_exit ?_
              refine b_hit ?_
              refine b_norm ?_
              refine x_norm ?_
              exact ⟨_, _, (left_lt hend ht3 hMp), rfl, (by repeat (first | exact hk32 | refine keep_cons rfl ?_ | refine keep_sub hk45 rfl ?_ | refine keep_sub hk67 rfl ?_ | refine keep_sub hk95 rfl ?_)), g2, rfl, H, hg2, (left_mod hend).trans hv2⟩
          · skip
            obtain ⟨t, ht1, ht2, ht3, htM⟩ : ∃ t : Nat, ((f2 16 : Nat) : Int) = t ∧ t < 65536 ∧ 0 < t ∧ t * M ≤ dval (fl f2 17) := ⟨f2 16, rfl, hf2 16, by simp at hc_13; omega, left_t2 hM⟩
            refine wp_skip ?_
            refine x_norm ?_; refine hK88 _ _ ?_; try clear hK88 K88
            refine wp_seq_k ?_; intro K113 hK113
            refine wp_region_lit ?_
            refine p_val (r_assign (v := (.int _ _)) rfl) ?_
            refine wpList_nil ?_
            refine x_norm ?_; refine hK113 _ _ ?_; try clear hK113 K113
            refine wp_seq_k ?_; intro K114 hK114
            refine wp_region_lit ?_
            refine p_val (r_assign (v := (.int _ _)) rfl) ?_
            refine wpList_nil ?_
            refine x_norm ?_; refine hK114 _ _ ?_; try clear hK114 K114
            refine wp_block ?_
            refine loopF [10, 11, 12, 13, 64, 65, 66, 67, 68, 69, 70, 71, 72, 73, 74, 75, 76, 77, 78, 79, 80, 81, 82, 83, 84, 85, 86, 87, 88, 89, 90, 91, 92, 93, 94, 95, 96, 97, 98, 99] (fun γ μ w' => ∃ (q c : Nat) (g2 : Nat → Nat), 17 - q = γ ∧ look μ 11 = .int .i64 (q : Int) ∧ look μ 10 = .int .u64 (c : Int) ∧ HP w w' [(bm_2_2, u32s (fl g2 17) ++ [], 76)] ∧ (q ≤ 17) ∧ (c ≤ 131072) ∧ (∀ p, g2 p < 65536) ∧ (∀ p, q ≤ p → g2 p = f2 p) ∧ (dval (fl g2 q) + t * (M % 65536 ^ q) = dval (fl f2 q) + c * 65536 ^ q)) (17) ⟨0, 0, f2, rfl, rfl, rfl, H, Nat.zero_le _, Nat.zero_le _, hf2, fun _ _ => rfl, by simp [fl, Nat.mod_one]⟩ ?_
            clear H
            intro g118 m115 w116 hk117 hI; obtain ⟨q, c, g2, rfl, hl119, hl120, H, hq, hc, hg2, hge, hv3⟩ := hI
            have htm := tm_bound ht2 (dg_lt M q)
            have hgq := hg2 q
            refine wp_seq_k ?_; intro K121 hK121
            refine wp_seq_k ?_; intro K122 hK122
            refine wp_region_lit ?_
            refine p_val (r_move (v := (.int _ _)) hl119) ?_
            refine p_val (r_move (v := (.int _ _)) ((hk117 5 rfl).trans ((hk32 5 rfl).trans ((hk20 5 rfl).trans (hk9 5 rfl))))) ?_
            refine p_val (r_leq rfl rfl rfl) ?_
            refine wpList_nil ?_
            refine x_norm ?_; refine hK122 _ _ ?_; try clear hK122 K122
            refine c_split (t := _) rfl (fun hc_17 => ?_) (fun hc_17 => ?_)
            · skip
              have hq16 := of_decide_eq_true hc_17
              refine wp_skip ?_
              refine x_norm ?_; refine hK121 _ _ ?_; try clear hK121 K121
              refine wp_seq_k ?_; intro K124 hK124
              refine wp_block ?_
              refine wp_seq_k ?_; intro K125 hK125
              refine wp_region_lit ?_
              refine p_val (r_move (v := (.int _ _)) hl120) ?_
              refine p_val (r_assign (v := (.int _ _)) rfl) ?_
              refine wpList_nil ?_
              refine x_norm ?_; refine hK125 _ _ ?_; try clear hK125 K125
              refine wp_seq_k ?_; intro K126 hK126
              refine wp_seq_k ?_; intro K127 hK127
              refine wp_region_lit ?_
              refine p_val (r_move (v := (.int _ _)) hl119) ?_
              refine p_val (r_move (v := (.int _ _)) ((hk117 5 rfl).trans ((hk32 5 rfl).trans ((hk20 5 rfl).trans (hk9 5 rfl))))) ?_
              refine p_val (r_lss rfl rfl rfl) ?_
              refine wpList_nil ?_
              refine x_norm ?_; refine hK127 _ _ ?_; try clear hK127 K127
              refine c_split (t := _) rfl (fun hc_20 => ?_) (fun hc_20 => ?_)
              · skip
                have hq15 := of_decide_eq_true hc_20
                refine wp_region_lit ?_
                refine p_val (r_move (v := (.int _ _)) rfl) ?_
                refine p_val (r_move (v := (.int _ _)) (hk117 9 rfl)) ?_
                refine p_val (r_conv (r := (t : Int)) u76 u22 rfl (tconv ht1 ht2)) ?_
                refine p_val (r_move (v := (m)) ((hk117 1 rfl).trans ((hk32 1 rfl).trans ((hk20 1 rfl).trans (hk9 1 rfl))))) ?_
                refine p_val (r_move (v := (.int _ _)) hl119) ?_
                refine p_val (r_addrR (i := q) ts26 rfl rfl (Rd.hp hm H) (rfl) (by rw [u32s_length]; omega)) ?_
                refine p_val (r_loadR (u := .int .u32 (dg M q : Int)) to76 rfl (Rd.hp hm H) (u32s_dg (by omega))) ?_
                refine p_val (r_conv (r := (dg M q : Int)) u76 u22 rfl (to64 (dg_lt _ _))) ?_
                refine p_val (r_mul (r := ((t * dg M q : Nat) : Int)) rfl rfl (u64mul (by omega))) ?_
                refine p_val (r_add (r := ((c + t * dg M q : Nat) : Int)) rfl rfl (u64add (by omega) (by omega))) ?_
                refine p_val (r_assign (v := (.int _ _)) rfl) ?_
                refine wpList_nil ?_
                refine x_norm ?_; refine hK126 _ _ ?_; try clear hK126 K126
                refine wp_seq_k ?_; intro K129 hK129
                refine wp_region_lit ?_
                refine p_val (r_move (v := (.slice _ _ _)) ((hk117 6 rfl).trans ((hk32 6 rfl).trans ((hk20 6 rfl).trans (hk9 6 rfl))))) ?_
                refine p_val (r_move (v := (.int _ _)) hl119) ?_
                refine p_val (r_addrS (i := q) ts26 rfl rfl (rfl) (by rw [u32s_fl_length]; omega)) ?_
                refine p_val (r_loadO (i := q) (xs := u32s (fl g2 17)) (rs := []) (u := .int .u32 (g2 q : Int)) to76 H rfl (k := 0) rfl (u32s_fl_get g2 (by omega))) ?_
                refine p_val (r_conv (r := (g2 q : Int)) u76 u22 rfl (to64 hgq)) ?_
                refine p_val (r_add (r := ((g2 q + 1099511627776 : Nat) : Int)) rfl rfl (u64add (by omega) (by omega))) ?_
                refine p_val (r_move (v := (.int _ _)) rfl) ?_
                refine p_val (r_sub (r := (((g2 q + 1099511627776 - (c + t * dg M q)) : Nat) : Int)) rfl rfl (u64sub (by omega) (by omega))) ?_
                refine p_val (r_assign (v := (.int _ _)) rfl) ?_
                refine wpList_nil ?_
                refine x_norm ?_; refine hK129 _ _ ?_; try clear hK129 K129
                refine wp_seq_k ?_; intro K130 hK130
                refine wp_region_lit ?_
                refine p_val (r_move (v := (.slice _ _ _)) ((hk117 6 rfl).trans ((hk32 6 rfl).trans ((hk20 6 rfl).trans (hk9 6 rfl))))) ?_
                refine p_val (r_move (v := (.int _ _)) hl119) ?_
                refine p_val (r_move (v := (.int _ _)) rfl) ?_
                refine p_val (r_bits (bo := .and) (by simp) (r := (((g2 q + 1099511627776 - (c + t * dg M q)) % 65536 : Nat) : Int)) rfl rfl (and16w (by omega))) ?_
                refine p_val (r_conv (r := (((g2 q + 1099511627776 - (c + t * dg M q)) % 65536 : Nat) : Int)) u22 u76 rfl (to32 (Nat.mod_lt _ (by decide)))) ?_
                refine p_val (r_addrS (i := q) ts26 rfl rfl (rfl) (by rw [u32s_fl_length]; omega)) ?_
                refine p_storeO (i := q) (xs := u32s (fl g2 17)) (rs := []) (ys := u32s (fl (fup g2 q ((g2 q + 1099511627776 - (c + t * dg M q)) % 65536)) 17)) to76 H rfl (k := 0) rfl rfl rfl (by rw [u32s_fl_length]; omega) (u32s_fl_set _ _ _ _) ?_; clear H; intro w131 H
                refine wpList_nil ?_
                refine x_norm ?_; refine hK130 _ _ ?_; try clear hK130 K130
                refine wp_region_lit ?_
                refine p_val (r_move (v := (.int _ _)) rfl) ?_
                refine p_val (r_shr (r := (((g2 q + 1099511627776 - (c + t * dg M q)) / 65536 : Nat) : Int)) rfl rfl (by decide) (shr16w)) ?_
                refine p_val (r_sub (r := ((16777216 - (g2 q + 1099511627776 - (c + t * dg M q)) / 65536 : Nat) : Int)) rfl rfl (u64sub (by omega) (by omega))) ?_
                refine p_val (r_assign (v := (.int _ _)) rfl) ?_
                refine wpList_nil ?_
                refine b_norm ?_
                refine x_norm ?_; refine hK124 _ _ ?_; try clear hK124 K124
                refine wp_region_lit ?_
                refine p_val (r_move (v := (.int _ _)) hl119) ?_
                refine p_val (r_add (r := ((q + 1 : Nat) : Int)) rfl rfl ((wr64 (by omega) (by omega)).trans (by omega))) ?_
                refine p_val (r_assign (v := (.int _ _)) rfl) ?_
                refine wpList_nil ?_
                refine x_norm ?_
                exact ⟨_, _, (by omega), rfl, (by repeat (first | exact hk117 | refine keep_cons rfl ?_)), q + 1, 16777216 - (g2 q + 1099511627776 - (c + t * dg M q)) / 65536, fup g2 q ((g2 q + 1099511627776 - (c + t * dg M q)) % 65536), rfl, rfl, rfl, H, by omega, by omega, fup_lt hg2 (Nat.mod_lt _ (by decide)), fun p hp => by rw [fup_ne (by omega)]; exact hge p (by omega), left_step hc htm hgq (hge q (Nat.le_refl _)) hv3⟩
              · skip
                have hq15 := of_decide_eq_false hc_20
                have hz2 : t * dg M q = 0 := by rw [dg_top (by omega), Nat.mul_zero]
                refine wp_skip ?_
                refine x_norm ?_; refine hK126 _ _ ?_; try clear hK126 K126
                refine wp_seq_k ?_; intro K132 hK132
                refine wp_region_lit ?_
                refine p_val (r_move (v := (.slice _ _ _)) ((hk117 6 rfl).trans ((hk32 6 rfl).trans ((hk20 6 rfl).trans (hk9 6 rfl))))) ?_
                refine p_val (r_move (v := (.int _ _)) hl119) ?_
                refine p_val (r_addrS (i := q) ts26 rfl rfl (rfl) (by rw [u32s_fl_length]; omega)) ?_
                refine p_val (r_loadO (i := q) (xs := u32s (fl g2 17)) (rs := []) (u := .int .u32 (g2 q : Int)) to76 H rfl (k := 0) rfl (u32s_fl_get g2 (by omega))) ?_
                refine p_val (r_conv (r := (g2 q : Int)) u76 u22 rfl (to64 hgq)) ?_
                refine p_val (r_add (r := ((g2 q + 1099511627776 : Nat) : Int)) rfl rfl (u64add (by omega) (by omega))) ?_
                refine p_val (r_move (v := (.int _ _)) rfl) ?_
                refine p_val (r_sub (r := (((g2 q + 1099511627776 - (c + t * dg M q)) : Nat) : Int)) rfl rfl (u64sub (by omega) (by omega))) ?_
                refine p_val (r_assign (v := (.int _ _)) rfl) ?_
                refine wpList_nil ?_
                refine x_norm ?_; refine hK132 _ _ ?_; try clear hK132 K132
                refine wp_seq_k ?_; intro K133 hK133
                refine wp_region_lit ?_
                refine p_val (r_move (v := (.slice _ _ _)) ((hk117 6 rfl).trans ((hk32 6 rfl).trans ((hk20 6 rfl).trans (hk9 6 rfl))))) ?_
                refine p_val (r_move (v := (.int _ _)) hl119) ?_
                refine p_val (r_move (v := (.int _ _)) rfl) ?_
                refine p_val (r_bits (bo := .and) (by simp) (r := (((g2 q + 1099511627776 - (c + t * dg M q)) % 65536 : Nat) : Int)) rfl rfl (and16w (by omega))) ?_
                refine p_val (r_conv (r := (((g2 q + 1099511627776 - (c + t * dg M q)) % 65536 : Nat) : Int)) u22 u76 rfl (to32 (Nat.mod_lt _ (by decide)))) ?_
                refine p_val (r_addrS (i := q) ts26 rfl rfl (rfl) (by rw [u32s_fl_length]; omega)) ?_
                refine p_storeO (i := q) (xs := u32s (fl g2 17)) (rs := []) (ys := u32s (fl (fup g2 q ((g2 q + 1099511627776 - (c + t * dg M q)) % 65536)) 17)) to76 H rfl (k := 0) rfl rfl rfl (by rw [u32s_fl_length]; omega) (u32s_fl_set _ _ _ _) ?_; clear H; intro w134 H
                refine wpList_nil ?_
                refine x_norm ?_; refine hK133 _ _ ?_; try clear hK133 K133
                refine wp_region_lit ?_
                refine p_val (r_move (v := (.int _ _)) rfl) ?_
                refine p_val (r_shr (r := (((g2 q + 1099511627776 - (c + t * dg M q)) / 65536 : Nat) : Int)) rfl rfl (by decide) (shr16w)) ?_
                refine p_val (r_sub (r := ((16777216 - (g2 q + 1099511627776 - (c + t * dg M q)) / 65536 : Nat) : Int)) rfl rfl (u64sub (by omega) (by omega))) ?_
                refine p_val (r_assign (v := (.int _ _)) rfl) ?_
                refine wpList_nil ?_
                refine b_norm ?_
                refine x_norm ?_; refine hK124 _ _ ?_; try clear hK124 K124
                refine wp_region_lit ?_
                refine p_val (r_move (v := (.int _ _)) hl119) ?_
                refine p_val (r_add (r := ((q + 1 : Nat) : Int)) rfl rfl ((wr64 (by omega) (by omega)).trans (by omega))) ?_
                refine p_val (r_assign (v := (.int _ _)) rfl) ?_
                refine wpList_nil ?_
                refine x_norm ?_
                exact ⟨_, _, (by omega), rfl, (by repeat (first | exact hk117 | refine keep_cons rfl ?_)), q + 1, 16777216 - (g2 q + 1099511627776 - (c + t * dg M q)) / 65536, fup g2 q ((g2 q + 1099511627776 - (c + t * dg M q)) % 65536), rfl, rfl, rfl, H, by omega, by omega, fup_lt hg2 (Nat.mod_lt _ (by decide)), fun p hp => by rw [fup_ne (by omega)]; exact hge p (by omega), left_step hc htm hgq (hge q (Nat.le_refl _)) hv3⟩
            · skip
              have hq17 := of_decide_eq_false hc_17
              have hend := left_end (by omega) hM hg2 htM hv3
              refine wp_exit ?_
              refine x_exit ?_
              refine x_exit ?_
              refine b_hit ?_
              refine b_norm ?_
              refine x_norm ?_
              exact ⟨_, _, (left_lt hend ht3 hMp), rfl, (by repeat (first | exact hk32 | refine keep_cons rfl ?_ | refine keep_sub hk45 rfl ?_ | refine keep_sub hk67 rfl ?_ | refine keep_sub hk95 rfl ?_ | refine keep_sub hk117 rfl ?_)), g2, rfl, H, hg2, (left_mod hend).trans hv2⟩
        · skip
          have hlt : dval (fl f2 16) < M := Nat.lt_of_not_le fun hle => by have := of_decide_eq_false hc_11; rw [dval_digs] at this; exact this (cmpI_ge.2 hle)
          refine wp_exit ?_
          refine x_exit ?_
          refine x_exit ?_
          refine b_hit ?_
          refine b_norm ?_
          refine x_norm ?_; refine hK15 _ _ ?_; try clear hK15 K15
          refine wp_region_lit ?_
          refine p_val (r_move (v := (.int _ _)) ((hk32 7 rfl).trans ((hk20 7 rfl).trans hl11))) ?_
          refine p_val (r_sub rfl rfl (wr64 (by omega) (by omega))) ?_
          refine p_val (r_assign (v := (.int _ _)) rfl) ?_
          refine wpList_nil ?_
          refine x_norm ?_
          exact ⟨_, _, (by omega), rfl, (by repeat (first | exact hk9 | refine keep_cons rfl ?_ | refine keep_sub hk20 rfl ?_ | refine keep_sub hk32 rfl ?_ | refine keep_sub hk45 rfl ?_ | refine keep_sub hk67 rfl ?_ | refine keep_sub hk95 rfl ?_ | refine keep_sub hk117 rfl ?_)), k - 1, f2, rfl, congrArg (Value.int .i64) (by omega), H, by omega, hf2, left_out (by omega) hlt hv2⟩
  · skip
    have hk0 : k = 0 := by have := of_decide_eq_false hc_4; omega
    refine wp_exit ?_
    refine x_exit ?_
    refine x_exit ?_
    refine b_hit ?_
    refine x_norm ?_; refine hK5 _ _ ?_; try clear hK5 K5
    refine wp_seq_k ?_; intro K135 hK135
    refine wp_region_lit ?_
    refine p_val (r_move (v := (.slice _ _ _)) (hk9 6 rfl)) ?_
    refine p_call (l := [(.slice _ _ _)]) is55 rfl ?_
    refine (trim_c _ _ _ (Rd.ownA H (k := 0) (xs := u32s (fl f 17)) (rs := []) rfl (fl_lenp _ _ _) (fl_capp _ _ _)) (DL_fl hf _) (by rw [fl_length]; omega)).mono ?_; rintro _ w136 ⟨r_25_1, rfl, hr_25_1, hx⟩; replace H := H.ext hx; clear hx
    refine p_val (r_assign (v := _) rfl) ?_
    refine wpList_nil ?_
    refine x_norm ?_; refine hK135 _ _ ?_; try clear hK135 K135
    refine wp_ret ?_
    refine e_1 rfl (q_tmp (v := _) rfl) ?_
    subst hk0
    rw [hv, Nat.pow_zero, Nat.div_one] at hr_25_1
    exact ⟨_, rfl, hr_25_1, E.trans H.below⟩

theorem rsum_c (m : Int) (a b : Value) (A B : Nat) (w : World) (ha : Dg w a A) (hb : Dg w b B) (hA : (digs A).length < 1000) (hB : (digs B).length < 1000) :
    Calls Try.prog 22 #[.int .i64 m, a, b] w fun e w' => ∃ r, e = .returned r ∧ Dg w' r ((A + B) % modN m) ∧ Ext w w' := by
  refine enter (n := 13) Try.func22 rfl rfl rfl ?_
  have H := HP.start w
  have E := Below.refl w.heap.size w
  refine wp_seq_k ?_; intro K1 hK1
  refine wp_region_lit ?_
  refine p_val (r_assign (v := (.slice none 0 0)) rfl) ?_
  refine wpList_nil ?_
  refine x_norm ?_; refine hK1 _ _ ?_; try clear hK1 K1
  refine wp_seq_k ?_; intro K2 hK2
  refine wp_region_lit ?_
  refine p_val (r_move (v := (a)) rfl) ?_
  refine p_val (r_move (v := (b)) rfl) ?_
  refine p_call (l := [(a), (b)]) is58 rfl ?_
  refine (radd_c _ _ _ _ _ (Rd.hp ha H) (Rd.hp hb H) (by first | assumption | omega) (by first | assumption | omega)).mono ?_; rintro _ w3 ⟨r_1_2, rfl, hr_1_2, hx⟩; replace H := H.ext hx; clear hx
  have hB := H.below; replace E := Ext.trans E hB
  replace ha := Rd.ext ha hB
  replace hb := Rd.ext hb hB
  clear hB; replace H := HP.restart H
  refine p_val (r_move (v := (.int _ _)) rfl) ?_
  refine p_call (l := [(.int _ _)]) is20 rfl ?_
  refine (rmodulus_c _ _).mono ?_; rintro _ w4 ⟨r_1_4, rfl, hr_1_4, hx⟩; replace H := H.ext hx; clear hx
  have hB := H.below; replace E := Ext.trans E hB
  replace ha := Rd.ext ha hB
  replace hb := Rd.ext hb hB
  replace hr_1_2 := Rd.ext hr_1_2 hB
  clear hB; replace H := HP.restart H
  refine p_call (l := [_, _]) is29 rfl ?_
  refine (left_c _ _ _ _ _ (Rd.hp hr_1_2 H) (Rd.hp hr_1_4 H) (by first | assumption | omega | exact Nat.lt_of_le_of_lt (len_add (Nat.le_of_lt hA) (Nat.le_of_lt hB)) (by decide) | exact len_mulB hA hB) (len_modN _)).mono ?_; rintro _ w5 ⟨r_1_5, rfl, hr_1_5, hx⟩; replace H := H.ext hx; clear hx
  have hB := H.below; replace E := Ext.trans E hB
  replace ha := Rd.ext ha hB
  replace hb := Rd.ext hb hB
  replace hr_1_2 := Rd.ext hr_1_2 hB
  replace hr_1_4 := Rd.ext hr_1_4 hB
  clear hB; replace H := HP.restart H
  refine p_val (r_assign (v := _) rfl) ?_
  refine wpList_nil ?_
  refine x_norm ?_; refine hK2 _ _ ?_; try clear hK2 K2
  refine wp_ret ?_
  refine e_1 rfl (q_tmp (v := _) rfl) ?_
  exact ⟨_, rfl, hr_1_5, E.trans H.below⟩

theorem rproduct_c (m : Int) (a b : Value) (A B : Nat) (w : World) (ha : Dg w a A) (hb : Dg w b B) (hA : (digs A).length < 1000) (hB : (digs B).length < 1000) :
    Calls Try.prog 26 #[.int .i64 m, a, b] w fun e w' => ∃ r, e = .returned r ∧ Dg w' r ((A * B) % modN m) ∧ Ext w w' := by
  refine enter (n := 13) Try.func26 rfl rfl rfl ?_
  have H := HP.start w
  have E := Below.refl w.heap.size w
  refine wp_seq_k ?_; intro K1 hK1
  refine wp_region_lit ?_
  refine p_val (r_assign (v := (.slice none 0 0)) rfl) ?_
  refine wpList_nil ?_
  refine x_norm ?_; refine hK1 _ _ ?_; try clear hK1 K1
  refine wp_seq_k ?_; intro K2 hK2
  refine wp_region_lit ?_
  refine p_val (r_move (v := (a)) rfl) ?_
  refine p_val (r_move (v := (b)) rfl) ?_
  refine p_call (l := [(a), (b)]) is63 rfl ?_
  refine (rmul_c _ _ _ _ _ (Rd.hp ha H) (Rd.hp hb H) (by first | assumption | omega) (by first | assumption | omega)).mono ?_; rintro _ w3 ⟨r_1_2, rfl, hr_1_2, hx⟩; replace H := H.ext hx; clear hx
  have hB := H.below; replace E := Ext.trans E hB
  replace ha := Rd.ext ha hB
  replace hb := Rd.ext hb hB
  clear hB; replace H := HP.restart H
  refine p_val (r_move (v := (.int _ _)) rfl) ?_
  refine p_call (l := [(.int _ _)]) is20 rfl ?_
  refine (rmodulus_c _ _).mono ?_; rintro _ w4 ⟨r_1_4, rfl, hr_1_4, hx⟩; replace H := H.ext hx; clear hx
  have hB := H.below; replace E := Ext.trans E hB
  replace ha := Rd.ext ha hB
  replace hb := Rd.ext hb hB
  replace hr_1_2 := Rd.ext hr_1_2 hB
  clear hB; replace H := HP.restart H
  refine p_call (l := [_, _]) is29 rfl ?_
  refine (left_c _ _ _ _ _ (Rd.hp hr_1_2 H) (Rd.hp hr_1_4 H) (by first | assumption | omega | exact Nat.lt_of_le_of_lt (len_add (Nat.le_of_lt hA) (Nat.le_of_lt hB)) (by decide) | exact len_mulB hA hB) (len_modN _)).mono ?_; rintro _ w5 ⟨r_1_5, rfl, hr_1_5, hx⟩; replace H := H.ext hx; clear hx
  have hB := H.below; replace E := Ext.trans E hB
  replace ha := Rd.ext ha hB
  replace hb := Rd.ext hb hB
  replace hr_1_2 := Rd.ext hr_1_2 hB
  replace hr_1_4 := Rd.ext hr_1_4 hB
  clear hB; replace H := HP.restart H
  refine p_val (r_assign (v := _) rfl) ?_
  refine wpList_nil ?_
  refine x_norm ?_; refine hK2 _ _ ?_; try clear hK2 K2
  refine wp_ret ?_
  refine e_1 rfl (q_tmp (v := _) rfl) ?_
  exact ⟨_, rfl, hr_1_5, E.trans H.below⟩

theorem ropposite_c (m : Int) (a : Value) (A : Nat) (w : World) (ha : Dg w a A) (hA : (digs A).length < 1000) :
    Calls Try.prog 24 #[.int .i64 m, a] w fun e w' => ∃ r, e = .returned r ∧ Dg w' r ((modN m - A % modN m) % modN m) ∧ Ext w w' := by
  refine enter (n := 15) Try.func24 rfl rfl rfl ?_
  have H := HP.start w
  have E := Below.refl w.heap.size w
  have hle : A % modN m ≤ modN m := Nat.le_of_lt (Nat.mod_lt _ (mod_modN m).pos)
  have hl1 := len_modN m
  have hl2 := digs_mono hle
  have hl3 := digs_mono (Nat.sub_le (modN m) (A % modN m))
  refine wp_seq_k ?_; intro K1 hK1
  refine wp_region_lit ?_
  refine p_val (r_assign (v := (.slice none 0 0)) rfl) ?_
  refine wpList_nil ?_
  refine x_norm ?_; refine hK1 _ _ ?_; try clear hK1 K1
  refine wp_seq_k ?_; intro K2 hK2
  refine wp_region_lit ?_
  refine p_val (r_move (v := (.int _ _)) rfl) ?_
  refine p_call (l := [(.int _ _)]) is20 rfl ?_
  refine (rmodulus_c _ _).mono ?_; rintro _ w3 ⟨r_1_1, rfl, hr_1_1, hx⟩; replace H := H.ext hx; clear hx
  have hB := H.below; replace E := Ext.trans E hB
  replace ha := Rd.ext ha hB
  clear hB; replace H := HP.restart H
  refine p_val (r_move (v := (a)) rfl) ?_
  refine p_val (r_move (v := (.int _ _)) rfl) ?_
  refine p_call (l := [(.int _ _)]) is20 rfl ?_
  refine (rmodulus_c _ _).mono ?_; rintro _ w4 ⟨r_1_4, rfl, hr_1_4, hx⟩; replace H := H.ext hx; clear hx
  have hB := H.below; replace E := Ext.trans E hB
  replace ha := Rd.ext ha hB
  replace hr_1_1 := Rd.ext hr_1_1 hB
  clear hB; replace H := HP.restart H
  refine p_call (l := [(a), _]) is29 rfl ?_
  refine (left_c _ _ _ _ _ (Rd.hp ha H) (Rd.hp hr_1_4 H) (by first | assumption | omega) (by first | assumption | exact len_modN _)).mono ?_; rintro _ w5 ⟨r_1_5, rfl, hr_1_5, hx⟩; replace H := H.ext hx; clear hx
  have hB := H.below; replace E := Ext.trans E hB
  replace ha := Rd.ext ha hB
  replace hr_1_1 := Rd.ext hr_1_1 hB
  replace hr_1_4 := Rd.ext hr_1_4 hB
  clear hB; replace H := HP.restart H
  refine p_call (l := [_, _]) is59 rfl ?_
  refine (rsub_c _ _ _ _ _ (Rd.hp hr_1_1 H) (Rd.hp hr_1_5 H) (by first | assumption | omega) (by first | assumption | omega) (by first | assumption | omega)).mono ?_; rintro _ w6 ⟨r_1_6, rfl, hr_1_6, hx⟩; replace H := H.ext hx; clear hx
  have hB := H.below; replace E := Ext.trans E hB
  replace ha := Rd.ext ha hB
  replace hr_1_1 := Rd.ext hr_1_1 hB
  replace hr_1_4 := Rd.ext hr_1_4 hB
  replace hr_1_5 := Rd.ext hr_1_5 hB
  clear hB; replace H := HP.restart H
  refine p_val (r_move (v := (.int _ _)) rfl) ?_
  refine p_call (l := [(.int _ _)]) is20 rfl ?_
  refine (rmodulus_c _ _).mono ?_; rintro _ w7 ⟨r_1_8, rfl, hr_1_8, hx⟩; replace H := H.ext hx; clear hx
  have hB := H.below; replace E := Ext.trans E hB
  replace ha := Rd.ext ha hB
  replace hr_1_1 := Rd.ext hr_1_1 hB
  replace hr_1_4 := Rd.ext hr_1_4 hB
  replace hr_1_5 := Rd.ext hr_1_5 hB
  replace hr_1_6 := Rd.ext hr_1_6 hB
  clear hB; replace H := HP.restart H
  refine p_call (l := [_, _]) is29 rfl ?_
  refine (left_c _ _ _ _ _ (Rd.hp hr_1_6 H) (Rd.hp hr_1_8 H) (by first | assumption | omega) (by first | assumption | exact len_modN _)).mono ?_; rintro _ w8 ⟨r_1_9, rfl, hr_1_9, hx⟩; replace H := H.ext hx; clear hx
  have hB := H.below; replace E := Ext.trans E hB
  replace ha := Rd.ext ha hB
  replace hr_1_1 := Rd.ext hr_1_1 hB
  replace hr_1_4 := Rd.ext hr_1_4 hB
  replace hr_1_5 := Rd.ext hr_1_5 hB
  replace hr_1_6 := Rd.ext hr_1_6 hB
  replace hr_1_8 := Rd.ext hr_1_8 hB
  clear hB; replace H := HP.restart H
  refine p_val (r_assign (v := _) rfl) ?_
  refine wpList_nil ?_
  refine x_norm ?_; refine hK2 _ _ ?_; try clear hK2 K2
  refine wp_ret ?_
  refine e_1 rfl (q_tmp (v := _) rfl) ?_
  exact ⟨_, rfl, hr_1_9, E.trans H.below⟩

end Go.Proofs.Ytjmgilhlpohcmaa
