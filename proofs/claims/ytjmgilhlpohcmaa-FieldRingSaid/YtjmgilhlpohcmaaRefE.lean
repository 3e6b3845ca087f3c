/- The walks of some functions. Conditions: as each theorem says. -/
import Derived.Test.YtjmgilhlpohcmaaRefD
import Derived.Test.YtjmgilhlpohcmaaFldD
import Derived.Test.YtjmgilhlpohcmaaInv
namespace Go.Proofs.Ytjmgilhlpohcmaa
open Go Go.RowKit
attribute [local irreducible] wpList wpT Code.wp Calls Code.rounds lm sd sb ad ac dval subv adr u32s fl dg modN bval be
theorem is67 : IsFn Try.prog 67 := isFn Try.func67 (by kernel_rfl) (by kernel_rfl)
theorem is68 : IsFn Try.prog 68 := isFn Try.func68 (by kernel_rfl) (by kernel_rfl)

set_option maxRecDepth 4000 in
theorem rinverse_c (m : Int) (a : Value) (A : Nat) (w : World) (ha : Dg w a A) (hA : (digs A).length < 1000) (hA0 : A % modN m ≠ 0) :
    Calls Try.prog 30 #[.int .i64 m, a] w fun e w' => ∃ r, e = .returned r ∧ Dg w' r (A ^ (modN m - 2) % modN m) ∧ Ext w w' := by
  refine enter (n := 68) Try.func30 rfl rfl rfl ?_
  have H := HP.start w
  have E := Below.refl w.heap.size w
  have hML := len_modN m
  have h1L := len_1
  refine wp_seq_k ?_; intro K1 hK1
  refine wp_region_lit ?_
  refine p_val (r_assign (v := (.slice none 0 0)) rfl) ?_
  refine wpList_nil ?_
  refine x_norm ?_; refine hK1 _ _ ?_; try clear hK1 K1
  refine wp_seq_k ?_; intro K2 hK2
  refine wp_region_lit ?_
  refine p_val (r_move (v := (.int _ _)) rfl) ?_
  refine p_call (l := [(.int _ _)]) is20 rfl ?_
  refine (rmodulus_c _ _).mono ?_; rintro _ w3 ⟨r_1_1, rfl, hr_1_1, hx⟩; replace H := H.ext hx; clear hx
  have hB := H.below; replace E := Ext.trans E hB
  replace ha := Rd.ext ha hB
  clear hB; replace H := HP.restart H
  refine p_val (r_assign (v := _) rfl) ?_
  refine wpList_nil ?_
  refine x_norm ?_; refine hK2 _ _ ?_; try clear hK2 K2
  refine wp_seq_k ?_; intro K4 hK4
  refine wp_region_lit ?_
  refine p_val (r_move (v := (a)) rfl) ?_
  refine p_val (r_move (v := _) rfl) ?_
  refine p_call (l := [(a), _]) is29 rfl ?_
  refine (left_c _ _ _ _ _ (Rd.hp ha H) (Rd.hp hr_1_1 H) (by omega) (len_modN _)).mono ?_; rintro _ w5 ⟨r_2_2, rfl, hr_2_2, hx⟩; replace H := H.ext hx; clear hx
  have hB := H.below; replace E := Ext.trans E hB
  replace ha := Rd.ext ha hB
  replace hr_1_1 := Rd.ext hr_1_1 hB
  clear hB; replace H := HP.restart H
  refine p_val (r_move (v := _) rfl) ?_
  refine p_val (r_assign (v := _) rfl) ?_
  refine p_val (r_assign (v := _) rfl) ?_
  refine wpList_nil ?_
  refine x_norm ?_; refine hK4 _ _ ?_; try clear hK4 K4
  refine wp_seq_k ?_; intro K6 hK6
  refine wp_region_lit ?_
  refine p_bslice (N := 1) (vals := [(0, (.int _ _))]) (l := [_]) (ys := u32s (digs 1)) ts26 H rfl rfl rfl rfl (u32s_1) ?_; clear H; intro w7 bs_3_0 H
  have h1x := (show Dg _ _ 1 from (Rd.ownA H (k := 0) (xs := u32s (digs 1)) (rs := []) rfl rfl rfl))
  have hB := H.below; replace E := Ext.trans E hB
  replace ha := Rd.ext ha hB
  replace hr_1_1 := Rd.ext hr_1_1 hB
  replace hr_2_2 := Rd.ext hr_2_2 hB
  clear hB; replace H := HP.restart H
  refine p_bslice (N := 0) (vals := []) (l := []) (ys := u32s (digs 0)) ts26 H rfl rfl rfl rfl (u32s_0) ?_; clear H; intro w8 bs_3_1 H
  have h0y := (show Dg _ _ 0 from (Rd.ownA H (k := 0) (xs := u32s (digs 0)) (rs := []) rfl rfl rfl))
  have hB := H.below; replace E := Ext.trans E hB
  replace h1x := Rd.ext h1x hB
  replace ha := Rd.ext ha hB
  replace hr_1_1 := Rd.ext hr_1_1 hB
  replace hr_2_2 := Rd.ext hr_2_2 hB
  clear hB; replace H := HP.restart H
  refine p_val (r_assign (v := (sl bs_3_0 _ _ _)) rfl) ?_
  refine p_val (r_assign (v := (sl bs_3_1 _ _ _)) rfl) ?_
  refine wpList_nil ?_
  refine x_norm ?_; refine hK6 _ _ ?_; try clear hK6 K6
  refine wp_seq_k ?_; intro K9 hK9
  refine wp_block ?_
  refine loopF [6, 7, 8, 9, 18, 19, 20, 21, 22, 23, 24, 25, 26, 27, 28, 29, 30, 31, 32, 33, 34, 35, 36, 37, 38, 39, 40, 41, 42, 43, 44, 45, 46, 47, 48, 49, 50, 51, 52, 53, 54, 55, 56, 57, 58, 59, 60, 61] (fun γ μ w' => ∃ (U0 V0 X0 Y0 : Nat) (u v x y : Value), U0 + V0 = γ ∧ look μ 6 = u ∧ look μ 7 = v ∧ look μ 8 = x ∧ look μ 9 = y ∧ HP w8 w' [] ∧ (Dg w' u U0) ∧ (Dg w' v V0) ∧ (Dg w' x X0) ∧ (Dg w' y Y0) ∧ (InvI m A U0 V0 X0 Y0)) (A % modN m + modN m) ⟨A % modN m, modN m, 1, 0, _, _, _, _, rfl, rfl, rfl, rfl, rfl, H, hr_2_2, hr_1_1, h1x, h0y, InvI.init hA0⟩ ?_
  clear H
  intro g13 m10 w11 hk12 hI; obtain ⟨U0, V0, X0, Y0, u, v, x, y, rfl, hl14, hl15, hl16, hl17, H, hu, hv, hx, hy, hI⟩ := hI
  have EL0 := H.below; replace E := Ext.trans E EL0; replace H := HP.restart H
  replace h0y := Rd.ext h0y EL0
  replace h1x := Rd.ext h1x EL0
  replace ha := Rd.ext ha EL0
  replace hr_1_1 := Rd.ext hr_1_1 EL0
  replace hr_2_2 := Rd.ext hr_2_2 EL0
  have hLs := hI.len
  refine wp_seq_k ?_; intro K18 hK18
  refine wp_seq_k ?_; intro K19 hK19
  refine wp_region_lit ?_
  refine p_val (r_move (v := (u)) hl14) ?_
  refine p_bslice (N := 1) (vals := [(0, (.int _ _))]) (l := [_]) (ys := u32s (digs 1)) ts26 H rfl rfl rfl rfl (u32s_1) ?_; clear H; intro w20 bs_4_1 H
  have h1a := (show Dg _ _ 1 from (Rd.ownA H (k := 0) (xs := u32s (digs 1)) (rs := []) rfl rfl rfl))
  have hB := H.below; replace E := Ext.trans E hB
  replace h0y := Rd.ext h0y hB
  replace h1x := Rd.ext h1x hB
  replace ha := Rd.ext ha hB
  replace hr_1_1 := Rd.ext hr_1_1 hB
  replace hr_2_2 := Rd.ext hr_2_2 hB
  replace hu := Rd.ext hu hB
  replace hv := Rd.ext hv hB
  replace hx := Rd.ext hx hB
  replace hy := Rd.ext hy hB
  replace EL0 := Ext.trans EL0 hB
  clear hB; replace H := HP.restart H
  refine p_call (l := [(u), (sl bs_4_1 _ _ _)]) is35 rfl ?_
  refine (cmp_c _ _ _ _ _ (Rd.hp hu H) (Rd.hp h1a H) (by first | assumption | exact digs_DL _) (by first | assumption | exact digs_DL _) (by first | assumption | omega) (by first | assumption | omega)).mono ?_; rintro _ w21 ⟨rfl, hx⟩; replace H := H.ext hx; clear hx
  refine p_val (r_neq rfl rfl rfl) ?_
  refine p_val (r_move (v := (.bool _)) rfl) ?_
  refine p_gs (j := 4) rfl (fun hb_4_4 => ?_) (fun hb_4_4 => ?_)
  · skip
    have hU1 := cmp_ne1 hb_4_4
    refine p_want rfl hb_4_4 ?_
    refine p_val (r_move (v := (v)) hl15) ?_
    refine p_want rfl hb_4_4 ?_
    refine p_bslice (N := 1) (vals := [(0, (.int _ _))]) (l := [_]) (ys := u32s (digs 1)) ts26 H rfl rfl rfl rfl (u32s_1) ?_; clear H; intro w23 bs_4_6 H
    have h1b := (show Dg _ _ 1 from (Rd.ownA H (k := 0) (xs := u32s (digs 1)) (rs := []) rfl rfl rfl))
    have hB := H.below; replace E := Ext.trans E hB
    replace h0y := Rd.ext h0y hB
    replace h1a := Rd.ext h1a hB
    replace h1x := Rd.ext h1x hB
    replace ha := Rd.ext ha hB
    replace hr_1_1 := Rd.ext hr_1_1 hB
    replace hr_2_2 := Rd.ext hr_2_2 hB
    replace hu := Rd.ext hu hB
    replace hv := Rd.ext hv hB
    replace hx := Rd.ext hx hB
    replace hy := Rd.ext hy hB
    replace EL0 := Ext.trans EL0 hB
    clear hB; replace H := HP.restart H
    refine p_want rfl hb_4_4 ?_
    refine p_call (l := [(v), (sl bs_4_6 _ _ _)]) is35 rfl ?_
    refine (cmp_c _ _ _ _ _ (Rd.hp hv H) (Rd.hp h1b H) (by first | assumption | exact digs_DL _) (by first | assumption | exact digs_DL _) (by first | assumption | omega) (by first | assumption | omega)).mono ?_; rintro _ w24 ⟨rfl, hx⟩; replace H := H.ext hx; clear hx
    refine p_want rfl hb_4_4 ?_
    refine p_val (r_neq rfl rfl rfl) ?_
    refine p_val (r_pickt (v := (.bool _)) rfl hb_4_4 rfl) ?_
    refine wpList_nil ?_
    refine x_norm ?_; refine hK19 _ _ ?_; try clear hK19 K19
    refine c_split (t := _) rfl (fun hc_4 => ?_) (fun hc_4 => ?_)
    · skip
      have hV1 := cmp_ne1 hc_4
      refine wp_skip ?_
      refine x_norm ?_; refine hK18 _ _ ?_; try clear hK18 K18
      refine wp_block ?_
      refine wp_seq_k ?_; intro K26 hK26
      refine wp_block ?_
      refine loopF [6, 8, 28, 29, 30, 31, 32, 33, 34, 35] (fun γ μ w' => ∃ (U1 X1 : Nat) (u x : Value), U1 = γ ∧ look μ 6 = u ∧ look μ 8 = x ∧ HP w23 w' [] ∧ (Dg w' u U1) ∧ (Dg w' x X1) ∧ (InvI m A U1 V0 X1 Y0) ∧ (U1 ≤ U0) ∧ (U1 = U0 ∨ V0 % 2 = 1)) (U0) ⟨U0, X0, _, _, rfl, hl14, hl16, H, Rd.hp hu H, Rd.hp hx H, hI, Nat.le_refl _, .inl rfl⟩ ?_
      clear H
      intro g30 m27 w28 hk29 hI; obtain ⟨U1, X1, u, x, rfl, hl31, hl32, H, hu, hx, hI, hUU, hUV⟩ := hI
      have EL1 := H.below; replace E := Ext.trans E EL1; replace H := HP.restart H
      replace h0y := Rd.ext h0y EL1
      replace h1a := Rd.ext h1a EL1
      replace h1b := Rd.ext h1b EL1
      replace h1x := Rd.ext h1x EL1
      replace ha := Rd.ext ha EL1
      replace hr_1_1 := Rd.ext hr_1_1 EL1
      replace hr_2_2 := Rd.ext hr_2_2 EL1
      replace hv := Rd.ext hv EL1
      replace hy := Rd.ext hy EL1
      replace EL0 := Ext.trans EL0 EL1
      have hLs := hI.len
      refine wp_seq_k ?_; intro K33 hK33
      refine wp_seq_k ?_; intro K34 hK34
      refine wp_region_lit ?_
      refine p_val (r_move (v := (u)) hl31) ?_
      refine p_call (l := [(u)]) is65 rfl ?_
      refine (odd_c _ _ _ (Rd.hp hu H) (by first | assumption | omega)).mono ?_; rintro _ w35 ⟨rfl, hx⟩; replace H := H.ext hx; clear hx
      refine p_val (r_not (t := _) rfl rfl) ?_
      refine wpList_nil ?_
      refine x_norm ?_; refine hK34 _ _ ?_; try clear hK34 K34
      refine c_split (t := _) rfl (fun hc_5 => ?_) (fun hc_5 => ?_)
      · skip
        have hodd : U1 % 2 ≠ 1 := by simpa using hc_5
        refine wp_skip ?_
        refine x_norm ?_; refine hK33 _ _ ?_; try clear hK33 K33
        refine wp_block ?_
        refine wp_seq_k ?_; intro K37 hK37
        refine wp_region_lit ?_
        refine p_val (r_move (v := (u)) hl31) ?_
        refine p_call (l := [(u)]) is66 rfl ?_
        refine (half_c _ _ _ (Rd.hp hu H) (by first | assumption | omega)).mono ?_; rintro _ w38 ⟨r_6_1, rfl, hr_6_1, hx⟩; replace H := H.ext hx; clear hx
        have hB := H.below; replace E := Ext.trans E hB
        replace h0y := Rd.ext h0y hB
        replace h1a := Rd.ext h1a hB
        replace h1b := Rd.ext h1b hB
        replace h1x := Rd.ext h1x hB
        replace ha := Rd.ext ha hB
        replace hr_1_1 := Rd.ext hr_1_1 hB
        replace hr_2_2 := Rd.ext hr_2_2 hB
        replace hu := Rd.ext hu hB
        replace hv := Rd.ext hv hB
        replace hx := Rd.ext hx hB
        replace hy := Rd.ext hy hB
        replace EL0 := Ext.trans EL0 hB
        replace EL1 := Ext.trans EL1 hB
        clear hB; replace H := HP.restart H
        refine p_val (r_assign (v := _) rfl) ?_
        refine wpList_nil ?_
        refine x_norm ?_; refine hK37 _ _ ?_; try clear hK37 K37
        refine wp_region_lit ?_
        refine p_val (r_move (v := (x)) hl32) ?_
        refine p_val (r_move (v := _) ((hk29 5 rfl).trans (hk12 5 rfl))) ?_
        refine p_call (l := [(x), _]) is67 rfl ?_
        refine (halved_c _ _ _ _ _ (Rd.hp hx H) (Rd.hp hr_1_1 H) (by first | assumption | omega) (by first | assumption | omega)).mono ?_; rintro _ w39 ⟨r_7_2, rfl, hr_7_2, hx⟩; replace H := H.ext hx; clear hx
        have hB := H.below; replace E := Ext.trans E hB
        replace h0y := Rd.ext h0y hB
        replace h1a := Rd.ext h1a hB
        replace h1b := Rd.ext h1b hB
        replace h1x := Rd.ext h1x hB
        replace ha := Rd.ext ha hB
        replace hr_1_1 := Rd.ext hr_1_1 hB
        replace hr_2_2 := Rd.ext hr_2_2 hB
        replace hr_6_1 := Rd.ext hr_6_1 hB
        replace hu := Rd.ext hu hB
        replace hv := Rd.ext hv hB
        replace hx := Rd.ext hx hB
        replace hy := Rd.ext hy hB
        replace EL0 := Ext.trans EL0 hB
        replace EL1 := Ext.trans EL1 hB
        clear hB; replace H := HP.restart H
        refine p_val (r_assign (v := _) rfl) ?_
        refine wpList_nil ?_
        refine b_norm ?_
        refine x_norm ?_
        replace H := HP.of (Ext.trans EL1 H.below)
        exact ⟨_, _, (by have := hI.u0; omega), rfl, (by repeat (first | exact hk29 | refine keep_cons rfl ?_)), U1 / 2, hav (modN m) X1, _, _, rfl, rfl, rfl, H, hr_6_1, hr_7_2, hI.half hodd, (by omega), .inr (hI.odd hodd)⟩
      · skip
        have hodU : U1 % 2 = 1 := by simpa using hc_5
        refine wp_exit ?_
        refine x_exit ?_
        refine x_exit ?_
        refine b_hit ?_
        refine x_norm ?_; refine hK26 _ _ ?_; try clear hK26 K26
        refine wp_seq_k ?_; intro K40 hK40
        refine wp_block ?_
        refine loopF [7, 9, 36, 37, 38, 39, 40, 41, 42, 43] (fun γ μ w' => ∃ (V1 Y1 : Nat) (v y : Value), V1 = γ ∧ look μ 7 = v ∧ look μ 9 = y ∧ HP w28 w' [] ∧ (Dg w' v V1) ∧ (Dg w' y Y1) ∧ (InvI m A U1 V1 X1 Y1) ∧ (V1 ≤ V0) ∧ (V1 = V0 ∨ V0 % 2 = 0)) (V0) ⟨V0, Y0, _, _, rfl, ((hk29 7 rfl).trans hl15), ((hk29 9 rfl).trans hl17), H, Rd.hp hv H, Rd.hp hy H, hI, Nat.le_refl _, .inl rfl⟩ ?_
        clear H
        intro g44 m41 w42 hk43 hI; obtain ⟨V1, Y1, v, y, rfl, hl45, hl46, H, hv, hy, hI, hVV, hVW⟩ := hI
        have EL2 := H.below; replace E := Ext.trans E EL2; replace H := HP.restart H
        replace h0y := Rd.ext h0y EL2
        replace h1a := Rd.ext h1a EL2
        replace h1b := Rd.ext h1b EL2
        replace h1x := Rd.ext h1x EL2
        replace ha := Rd.ext ha EL2
        replace hr_1_1 := Rd.ext hr_1_1 EL2
        replace hr_2_2 := Rd.ext hr_2_2 EL2
        replace hu := Rd.ext hu EL2
        replace hx := Rd.ext hx EL2
        replace EL0 := Ext.trans EL0 EL2
        replace EL1 := Ext.trans EL1 EL2
        have hLs := hI.len
        refine wp_seq_k ?_; intro K47 hK47
        refine wp_seq_k ?_; intro K48 hK48
        refine wp_region_lit ?_
        refine p_val (r_move (v := (v)) hl45) ?_
        refine p_call (l := [(v)]) is65 rfl ?_
        refine (odd_c _ _ _ (Rd.hp hv H) (by first | assumption | omega)).mono ?_; rintro _ w49 ⟨rfl, hx⟩; replace H := H.ext hx; clear hx
        refine p_val (r_not (t := _) rfl rfl) ?_
        refine wpList_nil ?_
        refine x_norm ?_; refine hK48 _ _ ?_; try clear hK48 K48
        refine c_split (t := _) rfl (fun hc_8 => ?_) (fun hc_8 => ?_)
        · skip
          have hodd : V1 % 2 ≠ 1 := by simpa using hc_8
          refine wp_skip ?_
          refine x_norm ?_; refine hK47 _ _ ?_; try clear hK47 K47
          refine wp_block ?_
          refine wp_seq_k ?_; intro K51 hK51
          refine wp_region_lit ?_
          refine p_val (r_move (v := (v)) hl45) ?_
          refine p_call (l := [(v)]) is66 rfl ?_
          refine (half_c _ _ _ (Rd.hp hv H) (by first | assumption | omega)).mono ?_; rintro _ w52 ⟨r_9_1, rfl, hr_9_1, hx⟩; replace H := H.ext hx; clear hx
          have hB := H.below; replace E := Ext.trans E hB
          replace h0y := Rd.ext h0y hB
          replace h1a := Rd.ext h1a hB
          replace h1b := Rd.ext h1b hB
          replace h1x := Rd.ext h1x hB
          replace ha := Rd.ext ha hB
          replace hr_1_1 := Rd.ext hr_1_1 hB
          replace hr_2_2 := Rd.ext hr_2_2 hB
          replace hu := Rd.ext hu hB
          replace hv := Rd.ext hv hB
          replace hx := Rd.ext hx hB
          replace hy := Rd.ext hy hB
          replace EL0 := Ext.trans EL0 hB
          replace EL1 := Ext.trans EL1 hB
          replace EL2 := Ext.trans EL2 hB
          clear hB; replace H := HP.restart H
          refine p_val (r_assign (v := _) rfl) ?_
          refine wpList_nil ?_
          refine x_norm ?_; refine hK51 _ _ ?_; try clear hK51 K51
          refine wp_region_lit ?_
          refine p_val (r_move (v := (y)) hl46) ?_
          refine p_val (r_move (v := _) ((hk43 5 rfl).trans ((hk29 5 rfl).trans (hk12 5 rfl)))) ?_
          refine p_call (l := [(y), _]) is67 rfl ?_
          refine (halved_c _ _ _ _ _ (Rd.hp hy H) (Rd.hp hr_1_1 H) (by first | assumption | omega) (by first | assumption | omega)).mono ?_; rintro _ w53 ⟨r_10_2, rfl, hr_10_2, hx⟩; replace H := H.ext hx; clear hx
          have hB := H.below; replace E := Ext.trans E hB
          replace h0y := Rd.ext h0y hB
          replace h1a := Rd.ext h1a hB
          replace h1b := Rd.ext h1b hB
          replace h1x := Rd.ext h1x hB
          replace ha := Rd.ext ha hB
          replace hr_1_1 := Rd.ext hr_1_1 hB
          replace hr_2_2 := Rd.ext hr_2_2 hB
          replace hr_9_1 := Rd.ext hr_9_1 hB
          replace hu := Rd.ext hu hB
          replace hv := Rd.ext hv hB
          replace hx := Rd.ext hx hB
          replace hy := Rd.ext hy hB
          replace EL0 := Ext.trans EL0 hB
          replace EL1 := Ext.trans EL1 hB
          replace EL2 := Ext.trans EL2 hB
          clear hB; replace H := HP.restart H
          refine p_val (r_assign (v := _) rfl) ?_
          refine wpList_nil ?_
          refine b_norm ?_
          refine x_norm ?_
          replace H := HP.of (Ext.trans EL2 H.below)
          exact ⟨_, _, (by have := hI.v0; omega), rfl, (by repeat (first | exact hk43 | refine keep_cons rfl ?_)), V1 / 2, hav (modN m) Y1, _, _, rfl, rfl, rfl, H, hr_9_1, hr_10_2, (hI.swap.half hodd).swap, (by omega), .inr (by omega)⟩
        · skip
          have hodV : V1 % 2 = 1 := by simpa using hc_8
          have hne := hI.ne (by omega)
          refine wp_exit ?_
          refine x_exit ?_
          refine x_exit ?_
          refine b_hit ?_
          refine x_norm ?_; refine hK40 _ _ ?_; try clear hK40 K40
          refine wp_seq_k ?_; intro K54 hK54
          refine wp_region_lit ?_
          refine p_val (r_move (v := (u)) ((hk43 6 rfl).trans hl31)) ?_
          refine p_val (r_move (v := (v)) hl45) ?_
          refine p_call (l := [(u), (v)]) is35 rfl ?_
          refine (cmp_c _ _ _ _ _ (Rd.hp hu H) (Rd.hp hv H) (by first | assumption | exact digs_DL _) (by first | assumption | exact digs_DL _) (by first | assumption | omega) (by first | assumption | omega)).mono ?_; rintro _ w55 ⟨rfl, hx⟩; replace H := H.ext hx; clear hx
          refine p_val (r_geq (t := decide (V1 ≤ U1)) rfl rfl (cmp_ge1 _ _)) ?_
          refine wpList_nil ?_
          refine x_norm ?_; refine hK54 _ _ ?_; try clear hK54 K54
          refine c_split (t := _) rfl (fun hc_11 => ?_) (fun hc_11 => ?_)
          · skip
            have hvu : V1 ≤ U1 := of_decide_eq_true hc_11
            have hlt : V1 < U1 := by omega
            have hJ := hI.sub hlt
            refine wp_seq_k ?_; intro K57 hK57
            refine wp_region_lit ?_
            refine p_val (r_move (v := (u)) ((hk43 6 rfl).trans hl31)) ?_
            refine p_val (r_move (v := (v)) hl45) ?_
            refine p_call (l := [(u), (v)]) is59 rfl ?_
            refine (rsub_c _ _ _ _ _ (Rd.hp hu H) (Rd.hp hv H) (by omega) (by first | assumption | omega) (by first | assumption | omega)).mono ?_; rintro _ w58 ⟨r_12_2, rfl, hr_12_2, hx⟩; replace H := H.ext hx; clear hx
            have hB := H.below; replace E := Ext.trans E hB
            replace h0y := Rd.ext h0y hB
            replace h1a := Rd.ext h1a hB
            replace h1b := Rd.ext h1b hB
            replace h1x := Rd.ext h1x hB
            replace ha := Rd.ext ha hB
            replace hr_1_1 := Rd.ext hr_1_1 hB
            replace hr_2_2 := Rd.ext hr_2_2 hB
            replace hu := Rd.ext hu hB
            replace hv := Rd.ext hv hB
            replace hx := Rd.ext hx hB
            replace hy := Rd.ext hy hB
            replace EL0 := Ext.trans EL0 hB
            replace EL1 := Ext.trans EL1 hB
            replace EL2 := Ext.trans EL2 hB
            clear hB; replace H := HP.restart H
            refine p_val (r_assign (v := _) rfl) ?_
            refine wpList_nil ?_
            refine x_norm ?_; refine hK57 _ _ ?_; try clear hK57 K57
            refine wp_region_lit ?_
            refine p_val (r_move (v := (x)) ((hk43 8 rfl).trans hl32)) ?_
            refine p_val (r_move (v := (y)) hl46) ?_
            refine p_val (r_move (v := _) ((hk43 5 rfl).trans ((hk29 5 rfl).trans (hk12 5 rfl)))) ?_
            refine p_call (l := [(x), (y), _]) is68 rfl ?_
            refine (rless_c _ _ _ _ _ _ _ (Rd.hp hx H) (Rd.hp hy H) (Rd.hp hr_1_1 H) (by first | assumption | omega) (by first | assumption | omega) (by first | assumption | omega) (by have := hI.xl; have := hI.yl; omega)).mono ?_; rintro _ w59 ⟨r_13_3, rfl, hr_13_3, hx⟩; replace H := H.ext hx; clear hx
            have hB := H.below; replace E := Ext.trans E hB
            replace h0y := Rd.ext h0y hB
            replace h1a := Rd.ext h1a hB
            replace h1b := Rd.ext h1b hB
            replace h1x := Rd.ext h1x hB
            replace ha := Rd.ext ha hB
            replace hr_12_2 := Rd.ext hr_12_2 hB
            replace hr_1_1 := Rd.ext hr_1_1 hB
            replace hr_2_2 := Rd.ext hr_2_2 hB
            replace hu := Rd.ext hu hB
            replace hv := Rd.ext hv hB
            replace hx := Rd.ext hx hB
            replace hy := Rd.ext hy hB
            replace EL0 := Ext.trans EL0 hB
            replace EL1 := Ext.trans EL1 hB
            replace EL2 := Ext.trans EL2 hB
            clear hB; replace H := HP.restart H
            refine p_val (r_assign (v := _) rfl) ?_
            refine wpList_nil ?_
            refine b_norm ?_
            refine x_norm ?_
            replace H := HP.of (Ext.trans EL0 H.below)
            exact ⟨_, _, (by have := hI.v0; have := hJ.u0; omega), rfl, (by repeat (first | exact hk12 | refine keep_cons rfl ?_ | refine keep_sub hk29 rfl ?_ | refine keep_sub hk43 rfl ?_)), U1 - V1, V1, lev (modN m) X1 Y1, Y1, _, _, _, _, rfl, rfl, hl45, rfl, hl46, H, hr_12_2, hv, hr_13_3, hy, hI.sub (by omega)⟩
          · skip
            have hvu : ¬ V1 ≤ U1 := of_decide_eq_false hc_11
            refine wp_seq_k ?_; intro K60 hK60
            refine wp_region_lit ?_
            refine p_val (r_move (v := (v)) hl45) ?_
            refine p_val (r_move (v := (u)) ((hk43 6 rfl).trans hl31)) ?_
            refine p_call (l := [(v), (u)]) is59 rfl ?_
            refine (rsub_c _ _ _ _ _ (Rd.hp hv H) (Rd.hp hu H) (by omega) (by first | assumption | omega) (by first | assumption | omega)).mono ?_; rintro _ w61 ⟨r_14_2, rfl, hr_14_2, hx⟩; replace H := H.ext hx; clear hx
            have hB := H.below; replace E := Ext.trans E hB
            replace h0y := Rd.ext h0y hB
            replace h1a := Rd.ext h1a hB
            replace h1b := Rd.ext h1b hB
            replace h1x := Rd.ext h1x hB
            replace ha := Rd.ext ha hB
            replace hr_1_1 := Rd.ext hr_1_1 hB
            replace hr_2_2 := Rd.ext hr_2_2 hB
            replace hu := Rd.ext hu hB
            replace hv := Rd.ext hv hB
            replace hx := Rd.ext hx hB
            replace hy := Rd.ext hy hB
            replace EL0 := Ext.trans EL0 hB
            replace EL1 := Ext.trans EL1 hB
            replace EL2 := Ext.trans EL2 hB
            clear hB; replace H := HP.restart H
            refine p_val (r_assign (v := _) rfl) ?_
            refine wpList_nil ?_
            refine x_norm ?_; refine hK60 _ _ ?_; try clear hK60 K60
            refine wp_region_lit ?_
            refine p_val (r_move (v := (y)) hl46) ?_
            refine p_val (r_move (v := (x)) ((hk43 8 rfl).trans hl32)) ?_
            refine p_val (r_move (v := _) ((hk43 5 rfl).trans ((hk29 5 rfl).trans (hk12 5 rfl)))) ?_
            refine p_call (l := [(y), (x), _]) is68 rfl ?_
            refine (rless_c _ _ _ _ _ _ _ (Rd.hp hy H) (Rd.hp hx H) (Rd.hp hr_1_1 H) (by first | assumption | omega) (by first | assumption | omega) (by first | assumption | omega) (by have := hI.xl; have := hI.yl; omega)).mono ?_; rintro _ w62 ⟨r_15_3, rfl, hr_15_3, hx⟩; replace H := H.ext hx; clear hx
            have hB := H.below; replace E := Ext.trans E hB
            replace h0y := Rd.ext h0y hB
            replace h1a := Rd.ext h1a hB
            replace h1b := Rd.ext h1b hB
            replace h1x := Rd.ext h1x hB
            replace ha := Rd.ext ha hB
            replace hr_14_2 := Rd.ext hr_14_2 hB
            replace hr_1_1 := Rd.ext hr_1_1 hB
            replace hr_2_2 := Rd.ext hr_2_2 hB
            replace hu := Rd.ext hu hB
            replace hv := Rd.ext hv hB
            replace hx := Rd.ext hx hB
            replace hy := Rd.ext hy hB
            replace EL0 := Ext.trans EL0 hB
            replace EL1 := Ext.trans EL1 hB
            replace EL2 := Ext.trans EL2 hB
            clear hB; replace H := HP.restart H
            refine p_val (r_assign (v := _) rfl) ?_
            refine wpList_nil ?_
            refine b_norm ?_
            refine x_norm ?_
            replace H := HP.of (Ext.trans EL0 H.below)
            exact ⟨_, _, (by have := hI.u0; omega), rfl, (by repeat (first | exact hk12 | refine keep_cons rfl ?_ | refine keep_sub hk29 rfl ?_ | refine keep_sub hk43 rfl ?_)), U1, V1 - U1, X1, lev (modN m) Y1 X1, _, _, _, _, rfl, ((hk43 6 rfl).trans hl31), rfl, ((hk43 8 rfl).trans hl32), rfl, H, hu, hr_14_2, hx, hr_15_3, (hI.swap.sub (by omega)).swap⟩
    · skip
      have hV1 := cmp_eq1 hc_4
      refine wp_exit ?_
      refine x_exit ?_
      refine x_exit ?_
      refine b_hit ?_
      refine x_norm ?_; refine hK9 _ _ ?_; try clear hK9 K9
      refine wp_seq_k ?_; intro K63 hK63
      refine wp_seq_k ?_; intro K64 hK64
      refine wp_region_lit ?_
      refine p_val (r_move (v := (u)) hl14) ?_
      refine p_bslice (N := 1) (vals := [(0, (.int _ _))]) (l := [_]) (ys := u32s (digs 1)) ts26 H rfl rfl rfl rfl (u32s_1) ?_; clear H; intro w65 bs_16_1 H
      have h1c := (show Dg _ _ 1 from (Rd.ownA H (k := 0) (xs := u32s (digs 1)) (rs := []) rfl rfl rfl))
      have hB := H.below; replace E := Ext.trans E hB
      replace h0y := Rd.ext h0y hB
      replace h1a := Rd.ext h1a hB
      replace h1b := Rd.ext h1b hB
      replace h1x := Rd.ext h1x hB
      replace ha := Rd.ext ha hB
      replace hr_1_1 := Rd.ext hr_1_1 hB
      replace hr_2_2 := Rd.ext hr_2_2 hB
      replace hu := Rd.ext hu hB
      replace hv := Rd.ext hv hB
      replace hx := Rd.ext hx hB
      replace hy := Rd.ext hy hB
      replace EL0 := Ext.trans EL0 hB
      clear hB; replace H := HP.restart H
      refine p_call (l := [(u), (sl bs_16_1 _ _ _)]) is35 rfl ?_
      refine (cmp_c _ _ _ _ _ (Rd.hp hu H) (Rd.hp h1c H) (by first | assumption | exact digs_DL _) (by first | assumption | exact digs_DL _) (by first | assumption | omega) (by first | assumption | omega)).mono ?_; rintro _ w66 ⟨rfl, hx⟩; replace H := H.ext hx; clear hx
      refine p_val (r_eql rfl rfl rfl) ?_
      refine wpList_nil ?_
      refine x_norm ?_; refine hK64 _ _ ?_; try clear hK64 K64
      refine c_split (t := _) rfl (fun hc_16 => ?_) (fun hc_16 => ?_)
      · skip
        have hE := cmp_eq1' hc_16
        refine wp_seq_k ?_; intro K68 hK68
        refine wp_region_lit ?_
        refine p_val (r_move (v := (x)) hl16) ?_
        refine p_val (r_assign (v := (x)) rfl) ?_
        refine wpList_nil ?_
        refine x_norm ?_; refine hK68 _ _ ?_; try clear hK68 K68
        refine wp_ret ?_
        refine x_ret ?_
        refine e_1 rfl (q_tmp (v := (x)) rfl) ?_
        exact absurd hE hU1
      · skip
        have hE := cmp_ne1' hc_16
        refine wp_skip ?_
        refine x_norm ?_; refine hK63 _ _ ?_; try clear hK63 K63
        refine wp_seq_k ?_; intro K69 hK69
        refine wp_region_lit ?_
        refine p_val (r_move (v := (y)) hl17) ?_
        refine p_val (r_assign (v := (y)) rfl) ?_
        refine wpList_nil ?_
        refine x_norm ?_; refine hK69 _ _ ?_; try clear hK69 K69
        refine wp_ret ?_
        refine e_1 rfl (q_tmp (v := (y)) rfl) ?_
        rw [← hI.swap.fin hA0 hV1]
        exact ⟨_, rfl, Rd.hp hy H, E.trans H.below⟩
  · skip
    have hU1 := cmp_eq1 hb_4_4
    refine p_skip rfl hb_4_4 ?_
    rw [put_fr]
    refine p_skip rfl hb_4_4 ?_
    rw [put_fr]
    refine p_skip rfl hb_4_4 ?_
    rw [put_fr]
    refine p_skip rfl hb_4_4 ?_
    rw [put_fr]
    refine p_val (r_pickf (v := (.bool _)) rfl hb_4_4 rfl) ?_
    refine wpList_nil ?_
    refine x_norm ?_; refine hK19 _ _ ?_; try clear hK19 K19
    refine c_false rfl rfl ?_
    refine wp_exit ?_
    refine x_exit ?_
    refine x_exit ?_
    refine b_hit ?_
    refine x_norm ?_; refine hK9 _ _ ?_; try clear hK9 K9
    refine wp_seq_k ?_; intro K70 hK70
    refine wp_seq_k ?_; intro K71 hK71
    refine wp_region_lit ?_
    refine p_val (r_move (v := (u)) hl14) ?_
    refine p_bslice (N := 1) (vals := [(0, (.int _ _))]) (l := [_]) (ys := u32s (digs 1)) ts26 H rfl rfl rfl rfl (u32s_1) ?_; clear H; intro w72 bs_16_1 H
    have h1c := (show Dg _ _ 1 from (Rd.ownA H (k := 0) (xs := u32s (digs 1)) (rs := []) rfl rfl rfl))
    have hB := H.below; replace E := Ext.trans E hB
    replace h0y := Rd.ext h0y hB
    replace h1a := Rd.ext h1a hB
    replace h1x := Rd.ext h1x hB
    replace ha := Rd.ext ha hB
    replace hr_1_1 := Rd.ext hr_1_1 hB
    replace hr_2_2 := Rd.ext hr_2_2 hB
    replace hu := Rd.ext hu hB
    replace hv := Rd.ext hv hB
    replace hx := Rd.ext hx hB
    replace hy := Rd.ext hy hB
    replace EL0 := Ext.trans EL0 hB
    clear hB; replace H := HP.restart H
    refine p_call (l := [(u), (sl bs_16_1 _ _ _)]) is35 rfl ?_
    refine (cmp_c _ _ _ _ _ (Rd.hp hu H) (Rd.hp h1c H) (by first | assumption | exact digs_DL _) (by first | assumption | exact digs_DL _) (by first | assumption | omega) (by first | assumption | omega)).mono ?_; rintro _ w73 ⟨rfl, hx⟩; replace H := H.ext hx; clear hx
    refine p_val (r_eql rfl rfl rfl) ?_
    refine wpList_nil ?_
    refine x_norm ?_; refine hK71 _ _ ?_; try clear hK71 K71
    refine c_split (t := _) rfl (fun hc_16 => ?_) (fun hc_16 => ?_)
    · skip
      have hE := cmp_eq1' hc_16
      refine wp_seq_k ?_; intro K75 hK75
      refine wp_region_lit ?_
      refine p_val (r_move (v := (x)) hl16) ?_
      refine p_val (r_assign (v := (x)) rfl) ?_
      refine wpList_nil ?_
      refine x_norm ?_; refine hK75 _ _ ?_; try clear hK75 K75
      refine wp_ret ?_
      refine x_ret ?_
      refine e_1 rfl (q_tmp (v := (x)) rfl) ?_
      rw [← hI.fin hA0 hE]
      exact ⟨_, rfl, Rd.hp hx H, E.trans H.below⟩
    · skip
      have hE := cmp_ne1' hc_16
      refine wp_skip ?_
      refine x_norm ?_; refine hK70 _ _ ?_; try clear hK70 K70
      refine wp_seq_k ?_; intro K76 hK76
      refine wp_region_lit ?_
      refine p_val (r_move (v := (y)) hl17) ?_
      refine p_val (r_assign (v := (y)) rfl) ?_
      refine wpList_nil ?_
      refine x_norm ?_; refine hK76 _ _ ?_; try clear hK76 K76
      refine wp_ret ?_
      refine e_1 rfl (q_tmp (v := (y)) rfl) ?_
      exact absurd hU1 hE

set_option maxRecDepth 4000 in
theorem read_c (l : List UInt8) (w : World) (hl : l.length < 1099511627776) :
    Calls Try.prog 34 #[str l] w fun e w' => ∃ r, e = .returned r ∧ Dg w' r (bval l) ∧ Ext w w' := by
  refine enter (n := 42) Try.func34 rfl rfl rfl ?_
  have H := HP.start w
  have E := Below.refl w.heap.size w
  refine wp_seq_k ?_; intro K1 hK1
  refine wp_region_lit ?_
  refine p_val (r_assign (v := (.slice none 0 0)) rfl) ?_
  refine wpList_nil ?_
  refine x_norm ?_; refine hK1 _ _ ?_; try clear hK1 K1
  refine wp_seq_k ?_; intro K2 hK2
  refine wp_region_lit ?_
  refine p_bslice (N := 0) (vals := []) (l := []) (ys := u32s []) ts26 H rfl rfl rfl rfl (u32s_nil) ?_; clear H; intro w3 bs_1_0 H
  refine p_val (r_assign (v := (.slice _ _ _)) rfl) ?_
  refine wpList_nil ?_
  refine x_norm ?_; refine hK2 _ _ ?_; try clear hK2 K2
  refine wp_seq_k ?_; intro K4 hK4
  refine wp_seq_k ?_; intro K5 hK5
  refine wp_region_lit ?_
  refine p_val (r_move (v := (str l)) rfl) ?_
  refine p_val (r_lenT (N := _) u9 rfl (rfl)) ?_
  refine p_val (r_sub rfl rfl (wr64 (by omega) (by omega))) ?_
  refine p_val (r_assign (v := (.int _ _)) rfl) ?_
  refine wpList_nil ?_
  refine x_norm ?_; refine hK5 _ _ ?_; try clear hK5 K5
  refine wp_block ?_
  refine loopF [3, 4, 5, 10, 11, 12, 13, 14, 15, 16, 17, 18, 19, 20, 21, 22, 23, 24, 25, 26, 27, 28, 29, 30, 31, 32, 33, 34, 35, 36, 37, 38, 39] (fun γ μ w' => ∃ (k bk : Nat) (ds : List Nat) (rs : List Value), l.length - k = γ ∧ look μ 4 = .int .i64 ((l.length : Int) - 1 - (k : Int)) ∧ look μ 3 = sl bk 0 (u32s ds).length (u32s ds ++ rs).length ∧ HP w w' [(bk, u32s ds ++ rs, 76)] ∧ (k ≤ l.length) ∧ (DL ds) ∧ (ds.length = (k + 1) / 2) ∧ (dval ds = bval (l.drop (l.length - k)))) (l.length) ⟨0, _, [], [], rfl, congrArg (Value.int .i64) (by omega), rfl, H, Nat.zero_le _, DL.nil, rfl, by rw [Nat.sub_zero, List.drop_length, bval_nil, dval_nil]⟩ ?_
  clear H
  intro g9 m6 w7 hk8 hI; obtain ⟨k, bk, ds, rs, rfl, hl10, hl11, H, hk, hd, hz, hv⟩ := hI
  refine wp_seq_k ?_; intro K12 hK12
  refine wp_seq_k ?_; intro K13 hK13
  refine wp_region_lit ?_
  refine p_val (r_move (v := (.int _ _)) hl10) ?_
  refine p_val (r_geq rfl rfl rfl) ?_
  refine wpList_nil ?_
  refine x_norm ?_; refine hK13 _ _ ?_; try clear hK13 K13
  refine c_split (t := _) rfl (fun hc_3 => ?_) (fun hc_3 => ?_)
  · skip
    have hk1 : k < l.length := by have := of_decide_eq_true hc_3; omega
    obtain ⟨b, hb⟩ : ∃ b, l[l.length - 1 - k]? = some b := ⟨_, List.getElem?_eq_getElem (by omega)⟩
    refine wp_skip ?_
    refine x_norm ?_; refine hK12 _ _ ?_; try clear hK12 K12
    refine wp_seq_k ?_; intro K15 hK15
    refine wp_block ?_
    refine wp_seq_k ?_; intro K16 hK16
    refine wp_region_lit ?_
    refine p_val (r_move (v := (str l)) (hk8 0 rfl)) ?_
    refine p_val (r_lenT (N := _) u9 rfl (rfl)) ?_
    refine p_val (r_sub (r := (l.length : Int) - 1) rfl rfl (wr64 (by omega) (by omega))) ?_
    refine p_val (r_move (v := (.int _ _)) hl10) ?_
    refine p_val (r_sub (r := ((k : Nat) : Int)) rfl rfl ((wr64 (by omega) (by omega)).trans (by omega))) ?_
    refine p_val (r_assign (v := (.int _ _)) rfl) ?_
    refine wpList_nil ?_
    refine x_norm ?_; refine hK16 _ _ ?_; try clear hK16 K16
    refine wp_seq_k ?_; intro K17 hK17
    refine wp_seq_k ?_; intro K18 hK18
    refine wp_region_lit ?_
    refine p_val (r_move (v := (.int _ _)) rfl) ?_
    refine p_val (r_rem (r := ((k % 2 : Nat) : Int)) rfl rfl (by decide) (rem2 k)) ?_
    refine p_val (r_eql rfl rfl rfl) ?_
    refine wpList_nil ?_
    refine x_norm ?_; refine hK18 _ _ ?_; try clear hK18 K18
    refine c_split (t := _) rfl (fun hc_6 => ?_) (fun hc_6 => ?_)
    · skip
      have h2 : k % 2 = 0 := by have := hc_6; simp at this; omega
      obtain ⟨hd0, hz1⟩ := read_0 hz h2
      obtain ⟨d, rfl⟩ : ∃ d, d = 0 := ⟨_, rfl⟩
      have hd1 := DL.snoc hd (show 0 < 65536 by decide)
      have hst := read_step hk1 hd1 (by rw [dval_snoc0]; exact hv) hd0 hb
      refine wp_region_lit ?_
      refine p_val (r_move (v := (.slice _ _ _)) hl11) ?_
      refine p_bslice (N := 1) (vals := [(0, (.int _ _))]) (l := [_]) (ys := u32s [0]) ts26 H rfl rfl rfl rfl (u32s_z) ?_; clear H; intro w20 bs_7_1 H
      refine p_append (ys := u32s (ds ++ [0])) (xs := u32s ds) (rs := rs) ts26 H rfl (k := 1) rfl rfl rfl rfl (Rd.ownA H (k := 0) (xs := u32s [0]) (rs := []) rfl rfl rfl) (u32s_ones _) ((u32s_append _ _).symm) (by rw [u32s_length, List.length_append, List.length_singleton]; omega) ?_; clear H; intro w21 bb_7_2 rs_7_2 H
      refine p_val (r_assign (v := (.slice _ _ _)) rfl) ?_
      refine wpList_nil ?_
      refine x_norm ?_; refine hK17 _ _ ?_; try clear hK17 K17
      apply wp_region_ext 15 (kinds []) rfl rfl (by kernel_rfl); intro vs23
      simp only [List.take_succ_cons, List.take_zero, List.drop_succ_cons, List.drop_zero]
      replace H := H.drew
      refine t_val (fun w hx => r_move (v := (.slice _ _ _)) rfl) rfl rfl ?_
      refine t_val (fun w hx => r_move (v := (.int _ _)) rfl) rfl rfl ?_
      refine t_val (fun w hx => r_quo (r := ((k / 2 : Nat) : Int)) rfl rfl (by decide) (quo2w (by omega))) rfl rfl ?_
      refine t_val (fun w hx => r_addrS (i := k / 2) ts26 rfl rfl (rfl) (by rw [u32s_length]; omega)) rfl rfl ?_
      refine t_val (fun w hx => r_loadO (i := k / 2) (xs := u32s (ds ++ [0])) (rs := rs_7_2) (u := .int .u32 (0 : Int)) to76 (H.ext hx) rfl (k := 1) rfl (u32s_get hd0)) rfl rfl ?_
      refine t_val (fun w hx => r_move (v := (str l)) (hk8 0 rfl)) rfl rfl ?_
      refine t_val (fun w hx => r_move (v := (.int _ _)) hl10) rfl rfl ?_
      refine t_val (fun w hx => r_idxT (i := l.length - 1 - k) (u := b) u9 rfl rfl (by omega) (hb)) rfl rfl ?_
      refine t_val (fun w hx => r_conv (r := (b.toNat : Int)) u5 u76 rfl (u8_32 b)) rfl rfl ?_
      refine t_val (fun w hx => r_move (v := (.int _ _)) rfl) rfl rfl ?_
      refine t_val (fun w hx => r_rem (r := ((k % 2 : Nat) : Int)) rfl rfl (by decide) (rem2 k)) rfl rfl ?_
      refine t_val (fun w hx => r_mul (r := ((8 * (k % 2) : Nat) : Int)) rfl rfl ((wr64 (by omega) (by omega)).trans (by omega))) rfl rfl ?_
      refine t_val (fun w hx => r_shl (r := ((b.toNat * 256 ^ (k % 2) : Nat) : Int)) rfl rfl (by omega) (read_shl k)) rfl rfl ?_
      refine t_val (fun w hx => r_bits (bo := .or) (by simp) (r := ((0 + b.toNat * 256 ^ (k % 2) : Nat) : Int)) rfl rfl (read_or k hst.1)) rfl rfl ?_
      refine t_val (fun w hx => r_addrS (i := k / 2) ts26 rfl rfl (rfl) (by rw [u32s_length]; omega)) rfl rfl ?_
      refine t_nil (fun w24 hx hF hA => ?_)
      replace H := H.ext hx
      clear hx hF hA
      refine p_storeO (i := k / 2) (xs := u32s (ds ++ [0])) (rs := rs_7_2) (ys := u32s ((ds ++ [0]).set (k / 2) (0 + b.toNat * 256 ^ (k % 2)))) to76 H rfl (k := 1) rfl rfl rfl (by rw [u32s_length]; omega) (u32s_set _ _ _) ?_; clear H; intro w25 H
      refine wpList_nil ?_; refine on_norm ?_
      refine b_norm ?_
      refine x_norm ?_; refine hK15 _ _ ?_; try clear hK15 K15
      refine wp_region_lit ?_
      refine p_val (r_move (v := (.int _ _)) hl10) ?_
      refine p_val (r_sub rfl rfl (wr64 (by omega) (by omega))) ?_
      refine p_val (r_assign (v := (.int _ _)) rfl) ?_
      refine wpList_nil ?_
      refine x_norm ?_
      replace H := H.tail
      exact ⟨_, _, (by omega), rfl, (by repeat (first | exact hk8 | refine keep_cons rfl ?_)), k + 1, bb_7_2, List.set (ds ++ [0]) (k / 2) (0 + b.toNat * 256 ^ (k % 2)), rs_7_2, rfl, congrArg (Value.int .i64) (by omega), sl_len (by simp [u32s_length]) (by simp [u32s_length]), H, by omega, hst.2.1, by rw [List.length_set]; omega, hst.2.2⟩
    · skip
      have h2 : k % 2 ≠ 0 := by have := hc_6; simp at this; omega
      obtain ⟨d, hd0⟩ := read_1 hz h2
      have hz1 : ds.length = k / 2 + 1 := by omega
      have hst := read_step hk1 hd hv hd0 hb
      refine wp_skip ?_
      refine x_norm ?_; refine hK17 _ _ ?_; try clear hK17 K17
      apply wp_region_ext 15 (kinds []) rfl rfl (by kernel_rfl); intro vs27
      simp only [List.take_succ_cons, List.take_zero, List.drop_succ_cons, List.drop_zero]
      replace H := H.drew
      refine t_val (fun w hx => r_move (v := (.slice _ _ _)) hl11) rfl rfl ?_
      refine t_val (fun w hx => r_move (v := (.int _ _)) rfl) rfl rfl ?_
      refine t_val (fun w hx => r_quo (r := ((k / 2 : Nat) : Int)) rfl rfl (by decide) (quo2w (by omega))) rfl rfl ?_
      refine t_val (fun w hx => r_addrS (i := k / 2) ts26 rfl rfl (rfl) (by rw [u32s_length]; omega)) rfl rfl ?_
      refine t_val (fun w hx => r_loadO (i := k / 2) (xs := u32s ds) (rs := rs) (u := .int .u32 ((d : Nat) : Int)) to76 (H.ext hx) rfl (k := 0) rfl (u32s_get hd0)) rfl rfl ?_
      refine t_val (fun w hx => r_move (v := (str l)) (hk8 0 rfl)) rfl rfl ?_
      refine t_val (fun w hx => r_move (v := (.int _ _)) hl10) rfl rfl ?_
      refine t_val (fun w hx => r_idxT (i := l.length - 1 - k) (u := b) u9 rfl rfl (by omega) (hb)) rfl rfl ?_
      refine t_val (fun w hx => r_conv (r := (b.toNat : Int)) u5 u76 rfl (u8_32 b)) rfl rfl ?_
      refine t_val (fun w hx => r_move (v := (.int _ _)) rfl) rfl rfl ?_
      refine t_val (fun w hx => r_rem (r := ((k % 2 : Nat) : Int)) rfl rfl (by decide) (rem2 k)) rfl rfl ?_
      refine t_val (fun w hx => r_mul (r := ((8 * (k % 2) : Nat) : Int)) rfl rfl ((wr64 (by omega) (by omega)).trans (by omega))) rfl rfl ?_
      refine t_val (fun w hx => r_shl (r := ((b.toNat * 256 ^ (k % 2) : Nat) : Int)) rfl rfl (by omega) (read_shl k)) rfl rfl ?_
      refine t_val (fun w hx => r_bits (bo := .or) (by simp) (r := ((d + b.toNat * 256 ^ (k % 2) : Nat) : Int)) rfl rfl (read_or k hst.1)) rfl rfl ?_
      refine t_val (fun w hx => r_addrS (i := k / 2) ts26 rfl rfl (rfl) (by rw [u32s_length]; omega)) rfl rfl ?_
      refine t_nil (fun w28 hx hF hA => ?_)
      replace H := H.ext hx
      clear hx hF hA
      refine p_storeO (i := k / 2) (xs := u32s ds) (rs := rs) (ys := u32s (ds.set (k / 2) (d + b.toNat * 256 ^ (k % 2)))) to76 H rfl (k := 0) rfl rfl rfl (by rw [u32s_length]; omega) (u32s_set _ _ _) ?_; clear H; intro w29 H
      refine wpList_nil ?_; refine on_norm ?_
      refine b_norm ?_
      refine x_norm ?_; refine hK15 _ _ ?_; try clear hK15 K15
      refine wp_region_lit ?_
      refine p_val (r_move (v := (.int _ _)) hl10) ?_
      refine p_val (r_sub rfl rfl (wr64 (by omega) (by omega))) ?_
      refine p_val (r_assign (v := (.int _ _)) rfl) ?_
      refine wpList_nil ?_
      refine x_norm ?_
      exact ⟨_, _, (by omega), rfl, (by repeat (first | exact hk8 | refine keep_cons rfl ?_)), k + 1, bk, ds.set (k / 2) (d + b.toNat * 256 ^ (k % 2)), rs, rfl, congrArg (Value.int .i64) (by omega), hl11.trans (sl_len (by simp [u32s_length]) (by simp [u32s_length])), H, by omega, hst.2.1, by rw [List.length_set]; omega, hst.2.2⟩
  · skip
    have hk1 : k = l.length := by have := of_decide_eq_false hc_3; omega
    refine wp_exit ?_
    refine x_exit ?_
    refine x_exit ?_
    refine b_hit ?_
    refine x_norm ?_; refine hK4 _ _ ?_; try clear hK4 K4
    refine wp_seq_k ?_; intro K30 hK30
    refine wp_region_lit ?_
    refine p_val (r_move (v := (.slice _ _ _)) hl11) ?_
    refine p_call (l := [(.slice _ _ _)]) is55 rfl ?_
    refine (trim_c _ _ _ (Rd.ownA H (k := 0) (xs := u32s ds) (rs := rs) rfl rfl rfl) hd (by omega)).mono ?_; rintro _ w31 ⟨r_9_1, rfl, hr_9_1, hx⟩; replace H := H.ext hx; clear hx
    refine p_val (r_assign (v := _) rfl) ?_
    refine wpList_nil ?_
    refine x_norm ?_; refine hK30 _ _ ?_; try clear hK30 K30
    refine wp_ret ?_
    refine e_1 rfl (q_tmp (v := _) rfl) ?_
    subst hk1
    rw [hv, Nat.sub_self, List.drop_zero] at hr_9_1
    exact ⟨_, rfl, hr_9_1, E.trans H.below⟩

set_option maxRecDepth 4000 in
theorem rbytes_c (A : Nat) (hA : A < two256) (w : World) :
    Calls Try.prog 37 #[numV A] w fun e w' => e = .returned (str (be 32 A)) ∧ Ext w w' := by
  refine enter (n := 27) Try.func37 rfl rfl rfl ?_
  have H := HP.start w
  refine wp_seq_k ?_; intro K1 hK1
  refine wp_region_lit ?_
  refine p_box (l := numL A) H rfl ?_; clear H; intro w2 b3 H
  refine p_val (r_assign (v := (str _)) rfl) ?_
  refine wpList_nil ?_
  refine x_norm ?_; refine hK1 _ _ ?_; try clear hK1 K1
  refine wp_seq_k ?_; intro K4 hK4
  refine wp_region_lit ?_
  refine p_bslice (N := 0) (vals := []) (l := []) (ys := u8s []) ts90 H rfl rfl rfl rfl (u8s_nil) ?_; clear H; intro w5 bs_1_0 H
  refine p_val (r_assign (v := (.slice _ _ _)) rfl) ?_
  refine wpList_nil ?_
  refine x_norm ?_; refine hK4 _ _ ?_; try clear hK4 K4
  refine wp_seq_k ?_; intro K6 hK6
  refine wp_seq_k ?_; intro K7 hK7
  refine wp_region_lit ?_
  refine p_val (r_assign (v := (.int _ _)) rfl) ?_
  refine wpList_nil ?_
  refine x_norm ?_; refine hK7 _ _ ?_; try clear hK7 K7
  refine wp_block ?_
  refine loopF [3, 4, 5, 7, 8, 9, 10, 11, 12, 13, 14, 15, 16, 17, 18, 19, 20, 21, 22, 23, 24] (fun γ μ w' => ∃ (k bk : Nat) (X : List UInt8) (rs : List Value), k = γ ∧ look μ 4 = .int .i64 ((k : Int) - 1) ∧ look μ 3 = sl bk 0 (u8s X).length (u8s X ++ rs).length ∧ HP w w' [(bk, u8s X ++ rs, 5), (b3, numL A, 24)] ∧ (k ≤ 4) ∧ (X = be (8 * (4 - k)) (A / 2 ^ (64 * k))) ∧ (X.length ≤ 32)) (4) ⟨4, _, [], [], rfl, rfl, rfl, H, Nat.le_refl _, (be_0 _).symm, by decide⟩ ?_
  clear H
  intro g11 m8 w9 hk10 hI; obtain ⟨k, bk, X, rs, rfl, hl12, hl13, H, hk, hX, hXl⟩ := hI
  refine wp_seq_k ?_; intro K14 hK14
  refine wp_seq_k ?_; intro K15 hK15
  refine wp_region_lit ?_
  refine p_val (r_move (v := (.int _ _)) hl12) ?_
  refine p_val (r_geq rfl rfl rfl) ?_
  refine wpList_nil ?_
  refine x_norm ?_; refine hK15 _ _ ?_; try clear hK15 K15
  refine c_split (t := _) rfl (fun hc_3 => ?_) (fun hc_3 => ?_)
  · skip
    have hk0 : 0 < k := by have := of_decide_eq_true hc_3; omega
    refine wp_skip ?_
    refine x_norm ?_; refine hK14 _ _ ?_; try clear hK14 K14
    refine wp_seq_k ?_; intro K17 hK17
    refine wp_block ?_
    refine wp_seq_k ?_; intro K18 hK18
    refine wp_region_lit ?_
    refine p_val (r_assign (v := (.int _ _)) rfl) ?_
    refine wpList_nil ?_
    refine x_norm ?_; refine hK18 _ _ ?_; try clear hK18 K18
    refine wp_block ?_
    refine wp_loop_rounds 9 ?_; rw [rounds_succ]
    refine wp_seq_k ?_; intro K19 hK19
    refine wp_seq_k ?_; intro K20 hK20
    refine wp_region_lit ?_
    refine p_val (r_move (v := (.int _ _)) rfl) ?_
    refine p_val (r_geq (t := true) rfl rfl (by decide)) ?_
    refine wpList_nil ?_
    refine x_norm ?_; refine hK20 _ _ ?_; try clear hK20 K20
    refine c_true rfl rfl ?_
    refine wp_skip ?_
    refine x_norm ?_; refine hK19 _ _ ?_; try clear hK19 K19
    refine wp_seq_k ?_; intro K21 hK21
    refine wp_block ?_
    refine wp_region_lit ?_
    refine p_val (r_move (v := (.slice _ _ _)) hl13) ?_
    refine p_val (r_move (v := (.int _ _)) hl12) ?_
    refine p_val (r_addrA (i := k - 1) u24 sz22 (hk10 1 rfl) rfl (by omega) (by omega) (by omega)) ?_
    refine p_val (r_load1 (v := .int .u64 (lm A (k - 1))) to22 H rfl (k := 1) rfl ((by rw [Nat.zero_add, Nat.mul_one]; exact numL_piece _ _ (by omega)))) ?_
    refine p_val (r_move (v := (.int _ _)) rfl) ?_
    refine p_val (r_shr (r := (((lm A (k - 1)).toNat / 2 ^ 56 : Nat) : Int)) rfl rfl (by decide) (bshr (U_lm _ _) 56 (by decide))) ?_
    refine p_val (r_bits (bo := .and) (by simp) (r := (((lm A (k - 1)).toNat / 2 ^ 56 % 256 : Nat) : Int)) rfl rfl (byte_and2 (U_lm _ _) 56)) ?_
    refine p_val (r_conv (r := ((UInt8.ofNat ((lm A (k - 1)).toNat / 2 ^ 56)).toNat : Int)) u22 u5 rfl (byte_conv _)) ?_
    refine p_bslice (N := 1) (vals := [(0, (.int _ _))]) (l := [_]) (ys := [_]) ts90 H rfl rfl rfl rfl (rfl) ?_; clear H; intro w22 bs_8_8 H
    refine p_append (ys := u8s (X ++ [UInt8.ofNat ((lm A (k - 1)).toNat / 2 ^ 56)])) (xs := u8s X) (rs := rs) ts90 H rfl (k := 1) rfl rfl rfl rfl (Rd.ownA H (k := 0) (xs := [_]) (rs := []) rfl rfl rfl) (onesI) (u8s_snoc _ _) (by simp only [u8s_length, List.length_append, List.length_cons, List.length_nil]; omega) ?_; clear H; intro w23 bb_8_9 rs_8_9 H
    refine p_val (r_assign (v := (.slice _ _ _)) rfl) ?_
    refine wpList_nil ?_
    refine b_norm ?_
    refine x_norm ?_; refine hK21 _ _ ?_; try clear hK21 K21
    refine wp_region_lit ?_
    refine p_val (r_move (v := (.int _ _)) rfl) ?_
    refine p_val (r_sub (r := 48) rfl rfl rfl) ?_
    refine p_val (r_assign (v := (.int _ _)) rfl) ?_
    refine wpList_nil ?_
    refine x_norm ?_
    rw [rounds_succ]
    refine wp_seq_k ?_; intro K24 hK24
    refine wp_seq_k ?_; intro K25 hK25
    refine wp_region_lit ?_
    refine p_val (r_move (v := (.int _ _)) rfl) ?_
    refine p_val (r_geq (t := true) rfl rfl (by decide)) ?_
    refine wpList_nil ?_
    refine x_norm ?_; refine hK25 _ _ ?_; try clear hK25 K25
    refine c_true rfl rfl ?_
    refine wp_skip ?_
    refine x_norm ?_; refine hK24 _ _ ?_; try clear hK24 K24
    refine wp_seq_k ?_; intro K26 hK26
    refine wp_block ?_
    refine wp_region_lit ?_
    refine p_val (r_move (v := (.slice _ _ _)) rfl) ?_
    refine p_val (r_move (v := (.int _ _)) hl12) ?_
    refine p_val (r_addrA (i := k - 1) u24 sz22 (hk10 1 rfl) rfl (by omega) (by omega) (by omega)) ?_
    refine p_val (r_load1 (v := .int .u64 (lm A (k - 1))) to22 H rfl (k := 2) rfl ((by rw [Nat.zero_add, Nat.mul_one]; exact numL_piece _ _ (by omega)))) ?_
    refine p_val (r_move (v := (.int _ _)) rfl) ?_
    refine p_val (r_shr (r := (((lm A (k - 1)).toNat / 2 ^ 48 : Nat) : Int)) rfl rfl (by decide) (bshr (U_lm _ _) 48 (by decide))) ?_
    refine p_val (r_bits (bo := .and) (by simp) (r := (((lm A (k - 1)).toNat / 2 ^ 48 % 256 : Nat) : Int)) rfl rfl (byte_and2 (U_lm _ _) 48)) ?_
    refine p_val (r_conv (r := ((UInt8.ofNat ((lm A (k - 1)).toNat / 2 ^ 48)).toNat : Int)) u22 u5 rfl (byte_conv _)) ?_
    refine p_bslice (N := 1) (vals := [(0, (.int _ _))]) (l := [_]) (ys := [_]) ts90 H rfl rfl rfl rfl (rfl) ?_; clear H; intro w27 bs_8_8 H
    refine p_append (ys := u8s ((X ++ [UInt8.ofNat ((lm A (k - 1)).toNat / 2 ^ 56)]) ++ [UInt8.ofNat ((lm A (k - 1)).toNat / 2 ^ 48)])) (xs := u8s (X ++ [UInt8.ofNat ((lm A (k - 1)).toNat / 2 ^ 56)])) (rs := rs_8_9) ts90 H rfl (k := 2) rfl rfl rfl rfl (Rd.ownA H (k := 0) (xs := [_]) (rs := []) rfl rfl rfl) (onesI) (u8s_snoc _ _) (by simp only [u8s_length, List.length_append, List.length_cons, List.length_nil]; omega) ?_; clear H; intro w28 bb_8_9 rs_8_9 H
    refine p_val (r_assign (v := (.slice _ _ _)) rfl) ?_
    refine wpList_nil ?_
    refine b_norm ?_
    refine x_norm ?_; refine hK26 _ _ ?_; try clear hK26 K26
    refine wp_region_lit ?_
    refine p_val (r_move (v := (.int _ _)) rfl) ?_
    refine p_val (r_sub (r := 40) rfl rfl rfl) ?_
    refine p_val (r_assign (v := (.int _ _)) rfl) ?_
    refine wpList_nil ?_
    refine x_norm ?_
    rw [rounds_succ]
    refine wp_seq_k ?_; intro K29 hK29
    refine wp_seq_k ?_; intro K30 hK30
    refine wp_region_lit ?_
    refine p_val (r_move (v := (.int _ _)) rfl) ?_
    refine p_val (r_geq (t := true) rfl rfl (by decide)) ?_
    refine wpList_nil ?_
    refine x_norm ?_; refine hK30 _ _ ?_; try clear hK30 K30
    refine c_true rfl rfl ?_
    refine wp_skip ?_
    refine x_norm ?_; refine hK29 _ _ ?_; try clear hK29 K29
    refine wp_seq_k ?_; intro K31 hK31
    refine wp_block ?_
    refine wp_region_lit ?_
    refine p_val (r_move (v := (.slice _ _ _)) rfl) ?_
    refine p_val (r_move (v := (.int _ _)) hl12) ?_
    refine p_val (r_addrA (i := k - 1) u24 sz22 (hk10 1 rfl) rfl (by omega) (by omega) (by omega)) ?_
    refine p_val (r_load1 (v := .int .u64 (lm A (k - 1))) to22 H rfl (k := 3) rfl ((by rw [Nat.zero_add, Nat.mul_one]; exact numL_piece _ _ (by omega)))) ?_
    refine p_val (r_move (v := (.int _ _)) rfl) ?_
    refine p_val (r_shr (r := (((lm A (k - 1)).toNat / 2 ^ 40 : Nat) : Int)) rfl rfl (by decide) (bshr (U_lm _ _) 40 (by decide))) ?_
    refine p_val (r_bits (bo := .and) (by simp) (r := (((lm A (k - 1)).toNat / 2 ^ 40 % 256 : Nat) : Int)) rfl rfl (byte_and2 (U_lm _ _) 40)) ?_
    refine p_val (r_conv (r := ((UInt8.ofNat ((lm A (k - 1)).toNat / 2 ^ 40)).toNat : Int)) u22 u5 rfl (byte_conv _)) ?_
    refine p_bslice (N := 1) (vals := [(0, (.int _ _))]) (l := [_]) (ys := [_]) ts90 H rfl rfl rfl rfl (rfl) ?_; clear H; intro w32 bs_8_8 H
    refine p_append (ys := u8s (((X ++ [UInt8.ofNat ((lm A (k - 1)).toNat / 2 ^ 56)]) ++ [UInt8.ofNat ((lm A (k - 1)).toNat / 2 ^ 48)]) ++ [UInt8.ofNat ((lm A (k - 1)).toNat / 2 ^ 40)])) (xs := u8s ((X ++ [UInt8.ofNat ((lm A (k - 1)).toNat / 2 ^ 56)]) ++ [UInt8.ofNat ((lm A (k - 1)).toNat / 2 ^ 48)])) (rs := rs_8_9) ts90 H rfl (k := 3) rfl rfl rfl rfl (Rd.ownA H (k := 0) (xs := [_]) (rs := []) rfl rfl rfl) (onesI) (u8s_snoc _ _) (by simp only [u8s_length, List.length_append, List.length_cons, List.length_nil]; omega) ?_; clear H; intro w33 bb_8_9 rs_8_9 H
    refine p_val (r_assign (v := (.slice _ _ _)) rfl) ?_
    refine wpList_nil ?_
    refine b_norm ?_
    refine x_norm ?_; refine hK31 _ _ ?_; try clear hK31 K31
    refine wp_region_lit ?_
    refine p_val (r_move (v := (.int _ _)) rfl) ?_
    refine p_val (r_sub (r := 32) rfl rfl rfl) ?_
    refine p_val (r_assign (v := (.int _ _)) rfl) ?_
    refine wpList_nil ?_
    refine x_norm ?_
    rw [rounds_succ]
    refine wp_seq_k ?_; intro K34 hK34
    refine wp_seq_k ?_; intro K35 hK35
    refine wp_region_lit ?_
    refine p_val (r_move (v := (.int _ _)) rfl) ?_
    refine p_val (r_geq (t := true) rfl rfl (by decide)) ?_
    refine wpList_nil ?_
    refine x_norm ?_; refine hK35 _ _ ?_; try clear hK35 K35
    refine c_true rfl rfl ?_
    refine wp_skip ?_
    refine x_norm ?_; refine hK34 _ _ ?_; try clear hK34 K34
    refine wp_seq_k ?_; intro K36 hK36
    refine wp_block ?_
    refine wp_region_lit ?_
    refine p_val (r_move (v := (.slice _ _ _)) rfl) ?_
    refine p_val (r_move (v := (.int _ _)) hl12) ?_
    refine p_val (r_addrA (i := k - 1) u24 sz22 (hk10 1 rfl) rfl (by omega) (by omega) (by omega)) ?_
    refine p_val (r_load1 (v := .int .u64 (lm A (k - 1))) to22 H rfl (k := 4) rfl ((by rw [Nat.zero_add, Nat.mul_one]; exact numL_piece _ _ (by omega)))) ?_
    refine p_val (r_move (v := (.int _ _)) rfl) ?_
    refine p_val (r_shr (r := (((lm A (k - 1)).toNat / 2 ^ 32 : Nat) : Int)) rfl rfl (by decide) (bshr (U_lm _ _) 32 (by decide))) ?_
    refine p_val (r_bits (bo := .and) (by simp) (r := (((lm A (k - 1)).toNat / 2 ^ 32 % 256 : Nat) : Int)) rfl rfl (byte_and2 (U_lm _ _) 32)) ?_
    refine p_val (r_conv (r := ((UInt8.ofNat ((lm A (k - 1)).toNat / 2 ^ 32)).toNat : Int)) u22 u5 rfl (byte_conv _)) ?_
    refine p_bslice (N := 1) (vals := [(0, (.int _ _))]) (l := [_]) (ys := [_]) ts90 H rfl rfl rfl rfl (rfl) ?_; clear H; intro w37 bs_8_8 H
    refine p_append (ys := u8s ((((X ++ [UInt8.ofNat ((lm A (k - 1)).toNat / 2 ^ 56)]) ++ [UInt8.ofNat ((lm A (k - 1)).toNat / 2 ^ 48)]) ++ [UInt8.ofNat ((lm A (k - 1)).toNat / 2 ^ 40)]) ++ [UInt8.ofNat ((lm A (k - 1)).toNat / 2 ^ 32)])) (xs := u8s (((X ++ [UInt8.ofNat ((lm A (k - 1)).toNat / 2 ^ 56)]) ++ [UInt8.ofNat ((lm A (k - 1)).toNat / 2 ^ 48)]) ++ [UInt8.ofNat ((lm A (k - 1)).toNat / 2 ^ 40)])) (rs := rs_8_9) ts90 H rfl (k := 4) rfl rfl rfl rfl (Rd.ownA H (k := 0) (xs := [_]) (rs := []) rfl rfl rfl) (onesI) (u8s_snoc _ _) (by simp only [u8s_length, List.length_append, List.length_cons, List.length_nil]; omega) ?_; clear H; intro w38 bb_8_9 rs_8_9 H
    refine p_val (r_assign (v := (.slice _ _ _)) rfl) ?_
    refine wpList_nil ?_
    refine b_norm ?_
    refine x_norm ?_; refine hK36 _ _ ?_; try clear hK36 K36
    refine wp_region_lit ?_
    refine p_val (r_move (v := (.int _ _)) rfl) ?_
    refine p_val (r_sub (r := 24) rfl rfl rfl) ?_
    refine p_val (r_assign (v := (.int _ _)) rfl) ?_
    refine wpList_nil ?_
    refine x_norm ?_
    rw [rounds_succ]
    refine wp_seq_k ?_; intro K39 hK39
    refine wp_seq_k ?_; intro K40 hK40
    refine wp_region_lit ?_
    refine p_val (r_move (v := (.int _ _)) rfl) ?_
    refine p_val (r_geq (t := true) rfl rfl (by decide)) ?_
    refine wpList_nil ?_
    refine x_norm ?_; refine hK40 _ _ ?_; try clear hK40 K40
    refine c_true rfl rfl ?_
    refine wp_skip ?_
    refine x_norm ?_; refine hK39 _ _ ?_; try clear hK39 K39
    refine wp_seq_k ?_; intro K41 hK41
    refine wp_block ?_
    refine wp_region_lit ?_
    refine p_val (r_move (v := (.slice _ _ _)) rfl) ?_
    refine p_val (r_move (v := (.int _ _)) hl12) ?_
    refine p_val (r_addrA (i := k - 1) u24 sz22 (hk10 1 rfl) rfl (by omega) (by omega) (by omega)) ?_
    refine p_val (r_load1 (v := .int .u64 (lm A (k - 1))) to22 H rfl (k := 5) rfl ((by rw [Nat.zero_add, Nat.mul_one]; exact numL_piece _ _ (by omega)))) ?_
    refine p_val (r_move (v := (.int _ _)) rfl) ?_
    refine p_val (r_shr (r := (((lm A (k - 1)).toNat / 2 ^ 24 : Nat) : Int)) rfl rfl (by decide) (bshr (U_lm _ _) 24 (by decide))) ?_
    refine p_val (r_bits (bo := .and) (by simp) (r := (((lm A (k - 1)).toNat / 2 ^ 24 % 256 : Nat) : Int)) rfl rfl (byte_and2 (U_lm _ _) 24)) ?_
    refine p_val (r_conv (r := ((UInt8.ofNat ((lm A (k - 1)).toNat / 2 ^ 24)).toNat : Int)) u22 u5 rfl (byte_conv _)) ?_
    refine p_bslice (N := 1) (vals := [(0, (.int _ _))]) (l := [_]) (ys := [_]) ts90 H rfl rfl rfl rfl (rfl) ?_; clear H; intro w42 bs_8_8 H
    refine p_append (ys := u8s (((((X ++ [UInt8.ofNat ((lm A (k - 1)).toNat / 2 ^ 56)]) ++ [UInt8.ofNat ((lm A (k - 1)).toNat / 2 ^ 48)]) ++ [UInt8.ofNat ((lm A (k - 1)).toNat / 2 ^ 40)]) ++ [UInt8.ofNat ((lm A (k - 1)).toNat / 2 ^ 32)]) ++ [UInt8.ofNat ((lm A (k - 1)).toNat / 2 ^ 24)])) (xs := u8s ((((X ++ [UInt8.ofNat ((lm A (k - 1)).toNat / 2 ^ 56)]) ++ [UInt8.ofNat ((lm A (k - 1)).toNat / 2 ^ 48)]) ++ [UInt8.ofNat ((lm A (k - 1)).toNat / 2 ^ 40)]) ++ [UInt8.ofNat ((lm A (k - 1)).toNat / 2 ^ 32)])) (rs := rs_8_9) ts90 H rfl (k := 5) rfl rfl rfl rfl (Rd.ownA H (k := 0) (xs := [_]) (rs := []) rfl rfl rfl) (onesI) (u8s_snoc _ _) (by simp only [u8s_length, List.length_append, List.length_cons, List.length_nil]; omega) ?_; clear H; intro w43 bb_8_9 rs_8_9 H
    refine p_val (r_assign (v := (.slice _ _ _)) rfl) ?_
    refine wpList_nil ?_
    refine b_norm ?_
    refine x_norm ?_; refine hK41 _ _ ?_; try clear hK41 K41
    refine wp_region_lit ?_
    refine p_val (r_move (v := (.int _ _)) rfl) ?_
    refine p_val (r_sub (r := 16) rfl rfl rfl) ?_
    refine p_val (r_assign (v := (.int _ _)) rfl) ?_
    refine wpList_nil ?_
    refine x_norm ?_
    rw [rounds_succ]
    refine wp_seq_k ?_; intro K44 hK44
    refine wp_seq_k ?_; intro K45 hK45
    refine wp_region_lit ?_
    refine p_val (r_move (v := (.int _ _)) rfl) ?_
    refine p_val (r_geq (t := true) rfl rfl (by decide)) ?_
    refine wpList_nil ?_
    refine x_norm ?_; refine hK45 _ _ ?_; try clear hK45 K45
    refine c_true rfl rfl ?_
    refine wp_skip ?_
    refine x_norm ?_; refine hK44 _ _ ?_; try clear hK44 K44
    refine wp_seq_k ?_; intro K46 hK46
    refine wp_block ?_
    refine wp_region_lit ?_
    refine p_val (r_move (v := (.slice _ _ _)) rfl) ?_
    refine p_val (r_move (v := (.int _ _)) hl12) ?_
    refine p_val (r_addrA (i := k - 1) u24 sz22 (hk10 1 rfl) rfl (by omega) (by omega) (by omega)) ?_
    refine p_val (r_load1 (v := .int .u64 (lm A (k - 1))) to22 H rfl (k := 6) rfl ((by rw [Nat.zero_add, Nat.mul_one]; exact numL_piece _ _ (by omega)))) ?_
    refine p_val (r_move (v := (.int _ _)) rfl) ?_
    refine p_val (r_shr (r := (((lm A (k - 1)).toNat / 2 ^ 16 : Nat) : Int)) rfl rfl (by decide) (bshr (U_lm _ _) 16 (by decide))) ?_
    refine p_val (r_bits (bo := .and) (by simp) (r := (((lm A (k - 1)).toNat / 2 ^ 16 % 256 : Nat) : Int)) rfl rfl (byte_and2 (U_lm _ _) 16)) ?_
    refine p_val (r_conv (r := ((UInt8.ofNat ((lm A (k - 1)).toNat / 2 ^ 16)).toNat : Int)) u22 u5 rfl (byte_conv _)) ?_
    refine p_bslice (N := 1) (vals := [(0, (.int _ _))]) (l := [_]) (ys := [_]) ts90 H rfl rfl rfl rfl (rfl) ?_; clear H; intro w47 bs_8_8 H
    refine p_append (ys := u8s ((((((X ++ [UInt8.ofNat ((lm A (k - 1)).toNat / 2 ^ 56)]) ++ [UInt8.ofNat ((lm A (k - 1)).toNat / 2 ^ 48)]) ++ [UInt8.ofNat ((lm A (k - 1)).toNat / 2 ^ 40)]) ++ [UInt8.ofNat ((lm A (k - 1)).toNat / 2 ^ 32)]) ++ [UInt8.ofNat ((lm A (k - 1)).toNat / 2 ^ 24)]) ++ [UInt8.ofNat ((lm A (k - 1)).toNat / 2 ^ 16)])) (xs := u8s (((((X ++ [UInt8.ofNat ((lm A (k - 1)).toNat / 2 ^ 56)]) ++ [UInt8.ofNat ((lm A (k - 1)).toNat / 2 ^ 48)]) ++ [UInt8.ofNat ((lm A (k - 1)).toNat / 2 ^ 40)]) ++ [UInt8.ofNat ((lm A (k - 1)).toNat / 2 ^ 32)]) ++ [UInt8.ofNat ((lm A (k - 1)).toNat / 2 ^ 24)])) (rs := rs_8_9) ts90 H rfl (k := 6) rfl rfl rfl rfl (Rd.ownA H (k := 0) (xs := [_]) (rs := []) rfl rfl rfl) (onesI) (u8s_snoc _ _) (by simp only [u8s_length, List.length_append, List.length_cons, List.length_nil]; omega) ?_; clear H; intro w48 bb_8_9 rs_8_9 H
    refine p_val (r_assign (v := (.slice _ _ _)) rfl) ?_
    refine wpList_nil ?_
    refine b_norm ?_
    refine x_norm ?_; refine hK46 _ _ ?_; try clear hK46 K46
    refine wp_region_lit ?_
    refine p_val (r_move (v := (.int _ _)) rfl) ?_
    refine p_val (r_sub (r := 8) rfl rfl rfl) ?_
    refine p_val (r_assign (v := (.int _ _)) rfl) ?_
    refine wpList_nil ?_
    refine x_norm ?_
    rw [rounds_succ]
    refine wp_seq_k ?_; intro K49 hK49
    refine wp_seq_k ?_; intro K50 hK50
    refine wp_region_lit ?_
    refine p_val (r_move (v := (.int _ _)) rfl) ?_
    refine p_val (r_geq (t := true) rfl rfl (by decide)) ?_
    refine wpList_nil ?_
    refine x_norm ?_; refine hK50 _ _ ?_; try clear hK50 K50
    refine c_true rfl rfl ?_
    refine wp_skip ?_
    refine x_norm ?_; refine hK49 _ _ ?_; try clear hK49 K49
    refine wp_seq_k ?_; intro K51 hK51
    refine wp_block ?_
    refine wp_region_lit ?_
    refine p_val (r_move (v := (.slice _ _ _)) rfl) ?_
    refine p_val (r_move (v := (.int _ _)) hl12) ?_
    refine p_val (r_addrA (i := k - 1) u24 sz22 (hk10 1 rfl) rfl (by omega) (by omega) (by omega)) ?_
    refine p_val (r_load1 (v := .int .u64 (lm A (k - 1))) to22 H rfl (k := 7) rfl ((by rw [Nat.zero_add, Nat.mul_one]; exact numL_piece _ _ (by omega)))) ?_
    refine p_val (r_move (v := (.int _ _)) rfl) ?_
    refine p_val (r_shr (r := (((lm A (k - 1)).toNat / 2 ^ 8 : Nat) : Int)) rfl rfl (by decide) (bshr (U_lm _ _) 8 (by decide))) ?_
    refine p_val (r_bits (bo := .and) (by simp) (r := (((lm A (k - 1)).toNat / 2 ^ 8 % 256 : Nat) : Int)) rfl rfl (byte_and2 (U_lm _ _) 8)) ?_
    refine p_val (r_conv (r := ((UInt8.ofNat ((lm A (k - 1)).toNat / 2 ^ 8)).toNat : Int)) u22 u5 rfl (byte_conv _)) ?_
    refine p_bslice (N := 1) (vals := [(0, (.int _ _))]) (l := [_]) (ys := [_]) ts90 H rfl rfl rfl rfl (rfl) ?_; clear H; intro w52 bs_8_8 H
    refine p_append (ys := u8s (((((((X ++ [UInt8.ofNat ((lm A (k - 1)).toNat / 2 ^ 56)]) ++ [UInt8.ofNat ((lm A (k - 1)).toNat / 2 ^ 48)]) ++ [UInt8.ofNat ((lm A (k - 1)).toNat / 2 ^ 40)]) ++ [UInt8.ofNat ((lm A (k - 1)).toNat / 2 ^ 32)]) ++ [UInt8.ofNat ((lm A (k - 1)).toNat / 2 ^ 24)]) ++ [UInt8.ofNat ((lm A (k - 1)).toNat / 2 ^ 16)]) ++ [UInt8.ofNat ((lm A (k - 1)).toNat / 2 ^ 8)])) (xs := u8s ((((((X ++ [UInt8.ofNat ((lm A (k - 1)).toNat / 2 ^ 56)]) ++ [UInt8.ofNat ((lm A (k - 1)).toNat / 2 ^ 48)]) ++ [UInt8.ofNat ((lm A (k - 1)).toNat / 2 ^ 40)]) ++ [UInt8.ofNat ((lm A (k - 1)).toNat / 2 ^ 32)]) ++ [UInt8.ofNat ((lm A (k - 1)).toNat / 2 ^ 24)]) ++ [UInt8.ofNat ((lm A (k - 1)).toNat / 2 ^ 16)])) (rs := rs_8_9) ts90 H rfl (k := 7) rfl rfl rfl rfl (Rd.ownA H (k := 0) (xs := [_]) (rs := []) rfl rfl rfl) (onesI) (u8s_snoc _ _) (by simp only [u8s_length, List.length_append, List.length_cons, List.length_nil]; omega) ?_; clear H; intro w53 bb_8_9 rs_8_9 H
    refine p_val (r_assign (v := (.slice _ _ _)) rfl) ?_
    refine wpList_nil ?_
    refine b_norm ?_
    refine x_norm ?_; refine hK51 _ _ ?_; try clear hK51 K51
    refine wp_region_lit ?_
    refine p_val (r_move (v := (.int _ _)) rfl) ?_
    refine p_val (r_sub (r := 0) rfl rfl rfl) ?_
    refine p_val (r_assign (v := (.int _ _)) rfl) ?_
    refine wpList_nil ?_
    refine x_norm ?_
    rw [rounds_succ]
    refine wp_seq_k ?_; intro K54 hK54
    refine wp_seq_k ?_; intro K55 hK55
    refine wp_region_lit ?_
    refine p_val (r_move (v := (.int _ _)) rfl) ?_
    refine p_val (r_geq (t := true) rfl rfl (by decide)) ?_
    refine wpList_nil ?_
    refine x_norm ?_; refine hK55 _ _ ?_; try clear hK55 K55
    refine c_true rfl rfl ?_
    refine wp_skip ?_
    refine x_norm ?_; refine hK54 _ _ ?_; try clear hK54 K54
    refine wp_seq_k ?_; intro K56 hK56
    refine wp_block ?_
    refine wp_region_lit ?_
    refine p_val (r_move (v := (.slice _ _ _)) rfl) ?_
    refine p_val (r_move (v := (.int _ _)) hl12) ?_
    refine p_val (r_addrA (i := k - 1) u24 sz22 (hk10 1 rfl) rfl (by omega) (by omega) (by omega)) ?_
    refine p_val (r_load1 (v := .int .u64 (lm A (k - 1))) to22 H rfl (k := 8) rfl ((by rw [Nat.zero_add, Nat.mul_one]; exact numL_piece _ _ (by omega)))) ?_
    refine p_val (r_move (v := (.int _ _)) rfl) ?_
    refine p_val (r_shr (r := (((lm A (k - 1)).toNat / 2 ^ 0 : Nat) : Int)) rfl rfl (by decide) (bshr (U_lm _ _) 0 (by decide))) ?_
    refine p_val (r_bits (bo := .and) (by simp) (r := (((lm A (k - 1)).toNat / 2 ^ 0 % 256 : Nat) : Int)) rfl rfl (byte_and2 (U_lm _ _) 0)) ?_
    refine p_val (r_conv (r := ((UInt8.ofNat ((lm A (k - 1)).toNat / 2 ^ 0)).toNat : Int)) u22 u5 rfl (byte_conv _)) ?_
    refine p_bslice (N := 1) (vals := [(0, (.int _ _))]) (l := [_]) (ys := [_]) ts90 H rfl rfl rfl rfl (rfl) ?_; clear H; intro w57 bs_8_8 H
    refine p_append (ys := u8s ((((((((X ++ [UInt8.ofNat ((lm A (k - 1)).toNat / 2 ^ 56)]) ++ [UInt8.ofNat ((lm A (k - 1)).toNat / 2 ^ 48)]) ++ [UInt8.ofNat ((lm A (k - 1)).toNat / 2 ^ 40)]) ++ [UInt8.ofNat ((lm A (k - 1)).toNat / 2 ^ 32)]) ++ [UInt8.ofNat ((lm A (k - 1)).toNat / 2 ^ 24)]) ++ [UInt8.ofNat ((lm A (k - 1)).toNat / 2 ^ 16)]) ++ [UInt8.ofNat ((lm A (k - 1)).toNat / 2 ^ 8)]) ++ [UInt8.ofNat ((lm A (k - 1)).toNat / 2 ^ 0)])) (xs := u8s (((((((X ++ [UInt8.ofNat ((lm A (k - 1)).toNat / 2 ^ 56)]) ++ [UInt8.ofNat ((lm A (k - 1)).toNat / 2 ^ 48)]) ++ [UInt8.ofNat ((lm A (k - 1)).toNat / 2 ^ 40)]) ++ [UInt8.ofNat ((lm A (k - 1)).toNat / 2 ^ 32)]) ++ [UInt8.ofNat ((lm A (k - 1)).toNat / 2 ^ 24)]) ++ [UInt8.ofNat ((lm A (k - 1)).toNat / 2 ^ 16)]) ++ [UInt8.ofNat ((lm A (k - 1)).toNat / 2 ^ 8)])) (rs := rs_8_9) ts90 H rfl (k := 8) rfl rfl rfl rfl (Rd.ownA H (k := 0) (xs := [_]) (rs := []) rfl rfl rfl) (onesI) (u8s_snoc _ _) (by simp only [u8s_length, List.length_append, List.length_cons, List.length_nil]; omega) ?_; clear H; intro w58 bb_8_9 rs_8_9 H
    refine p_val (r_assign (v := (.slice _ _ _)) rfl) ?_
    refine wpList_nil ?_
    refine b_norm ?_
    refine x_norm ?_; refine hK56 _ _ ?_; try clear hK56 K56
    refine wp_region_lit ?_
    refine p_val (r_move (v := (.int _ _)) rfl) ?_
    refine p_val (r_sub (r := -8) rfl rfl rfl) ?_
    refine p_val (r_assign (v := (.int _ _)) rfl) ?_
    refine wpList_nil ?_
    refine x_norm ?_
    rw [rounds_succ]
    refine wp_seq_k ?_; intro K59 hK59
    refine wp_seq_k ?_; intro K60 hK60
    refine wp_region_lit ?_
    refine p_val (r_move (v := (.int _ _)) rfl) ?_
    refine p_val (r_geq (t := false) rfl rfl (by decide)) ?_
    refine wpList_nil ?_
    refine x_norm ?_; refine hK60 _ _ ?_; try clear hK60 K60
    refine c_false rfl rfl ?_
    refine wp_exit ?_
    refine x_exit ?_
    refine x_exit ?_
    refine b_hit ?_
    refine b_norm ?_
    refine x_norm ?_; refine hK17 _ _ ?_; try clear hK17 K17
    refine wp_region_lit ?_
    refine p_val (r_move (v := (.int _ _)) hl12) ?_
    refine p_val (r_sub rfl rfl (wr64 (by omega) (by omega))) ?_
    refine p_val (r_assign (v := (.int _ _)) rfl) ?_
    refine wpList_nil ?_
    refine x_norm ?_
    replace H := H.tail
    replace H := H.tail
    replace H := H.tail
    replace H := H.tail
    replace H := H.tail
    replace H := H.tail
    replace H := H.tail
    replace H := H.tail
    exact ⟨_, _, (by omega), rfl, (by repeat (first | exact hk10 | refine keep_cons rfl ?_)), k - 1, bb_8_9, _, _, rfl, congrArg (Value.int .i64) (by omega), rfl, H, by omega, by rw [hX]; exact rb_step hk0 hk, by subst hX; rw [rb_step hk0 hk, be_length]; omega⟩
  · skip
    have hk0 : k = 0 := by have := of_decide_eq_false hc_3; omega
    refine wp_exit ?_
    refine x_exit ?_
    refine x_exit ?_
    refine b_hit ?_
    refine x_norm ?_; refine hK6 _ _ ?_; try clear hK6 K6
    refine wp_seq_k ?_; intro K61 hK61
    refine wp_region_lit ?_
    refine p_val (r_move (v := (.slice _ _ _)) hl13) ?_
    refine p_val (r_ofBytes (l := _) u90 u5 u9 rfl ((Rd.ownA H (k := 0) (xs := u8s X) (rs := rs) rfl rfl rfl))) ?_
    refine p_val (r_assign (v := (str _)) rfl) ?_
    refine wpList_nil ?_
    refine x_norm ?_; refine hK61 _ _ ?_; try clear hK61 K61
    refine wp_ret ?_
    refine e_1 rfl (q_tmp (v := (str _)) rfl) ?_
    subst hk0
    exact ⟨by rw [hX, Nat.mul_zero, Nat.pow_zero, Nat.div_one], H.below⟩

end Go.Proofs.Ytjmgilhlpohcmaa
