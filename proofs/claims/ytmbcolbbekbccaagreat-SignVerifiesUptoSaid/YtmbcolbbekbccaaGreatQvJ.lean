/- What some functions compute, and that they do. Conditions: as each theorem says. -/
import Derived.Test.YtmbcolbbekbccaaGreatQvI
namespace Go.Proofs.YtmbcolbbekbccaaGreat
open Go Go.RowKit
attribute [local irreducible] wpList wpT Code.wp Calls Code.rounds
theorem tg161 : TAgg Tryz.prog 161 3 := ⟨fun _ => by kernel_rfl, fun _ => by kernel_rfl⟩
theorem tz161 : TZero Tryz.prog 161 (.agg #[.slice none 0 0, .slice none 0 0, .slice none 0 0]) := fun _ => by kernel_rfl
theorem is66 : IsFn Tryz.prog 66 := isFn Tryz.func66
theorem is126 : IsFn Tryz.prog 126 := isFn Tryz.func126
theorem is127 : IsFn Tryz.prog 127 := isFn Tryz.func127
theorem is128 : IsFn Tryz.prog 128 := isFn Tryz.func128
theorem tb161 : TBuild Tryz.prog 161 (.agg #[.slice none 0 0, .slice none 0 0, .slice none 0 0]) [(0, 1), (1, 1), (2, 1)] := tbuildS (fs := fieldsOf Tryz.prog 161) (by kernel_rfl) tz161 (fun _ => by kernel_rfl)
theorem fa161_0 : TField Tryz.prog 161 0 0 := fun _ _ _ => by kernel_rfl
theorem fa161_1 : TField Tryz.prog 161 1 1 := fun _ _ _ => by kernel_rfl
theorem fa161_2 : TField Tryz.prog 161 2 2 := fun _ _ _ => by kernel_rfl
theorem tsz161 : TSz Tryz.prog 161 3 := fun _ => by kernel_rfl
def r7_long_twice_p (x0 : (List UInt32) × (List UInt32) × (List UInt32)) : Option (((List UInt32) × (List UInt32) × (List UInt32))) :=
  Option.bind (r7_times_p x0.2.1 x0.2.1) fun y1 => Option.bind (r7_times_p x0.2.2 x0.2.2) fun y2 => Option.bind (r7_times_p x0.1 y1) fun y3 => Option.bind (r7_times_p ([(4 : UInt32)] : List UInt32) y3) fun y4 => Option.bind (r7_times_p x0.1 x0.1) fun y5 => Option.bind (r7_times_p y2 y2) fun y6 => Option.bind (r7_minus_p y5 y6) fun y7 => Option.bind (r7_times_p ([(3 : UInt32)] : List UInt32) y7) fun y8 => Option.bind (r7_times_p y8 y8) fun y9 => Option.bind (r7_plus_p y4 y4) fun y10 => Option.bind (r7_minus_p y9 y10) fun y11 => Option.bind (r7_minus_p y4 y11) fun y12 => Option.bind (r7_times_p y8 y12) fun y13 => Option.bind (r7_times_p y1 y1) fun y14 => Option.bind (r7_times_p ([(8 : UInt32)] : List UInt32) y14) fun y15 => Option.bind (r7_minus_p y13 y15) fun y16 => Option.bind (r7_plus_p x0.2.1 x0.2.1) fun y17 => Option.bind (r7_times_p y17 x0.2.2) fun y18 => some ((y11, y16, y18))
theorem r7_long_twice_c {S : Mem} {w : World} (hS : Sub S w) {c0_ : List Value} {x0 : (List UInt32) × (List UInt32) × (List UInt32)} (h0_ : Rp.rep S c0_ x0) {r : ((List UInt32) × (List UInt32) × (List UInt32))} (hF : r7_long_twice_p x0 = some r) :
    Calls Tryz.prog 126 #[.agg c0_.toArray] w fun e w' => Ext w w' ∧ ∃ (c0' : List Value), e = .returned (.agg c0'.toArray) ∧ Rp.rep (gr S w w') c0' r := by
 refine enter (n := 63) Tryz.func126 rfl rfl rfl ?_
 have H := HS.start hS
 obtain ⟨c1, c2, rfl, g1, g2⟩ := elP h0_
 obtain ⟨v1, rfl, g3⟩ := elL g1
 obtain ⟨c3, c4, rfl, g4, g5⟩ := elP g2
 obtain ⟨v2, rfl, g6⟩ := elL g4
 obtain ⟨v3, rfl, g7⟩ := elL g5
 unfold r7_long_twice_p at hF
 refine sr fun K1 hK1 => p_ofb (a_box (l := ([v1] ++ ([v2] ++ ([v3])))) H rfl) fun w1 b1 H => p_ofb (a_alloc (l := ([Value.slice none 0 0] ++ ([Value.slice none 0 0] ++ ([Value.slice none 0 0])))) H tz161 rfl) fun w2 b2 H => xk hK1 <| wp_seq_k fun K2 hK2 => bn hF fun y1 e1 hF => bn hF fun y2 e2 hF => ?_
 apply wp_region_ext 10 (kindsF [(4, .inr (fun g w' => RdS (gf S w2.drew g.f w') g.v y1)), (9, .inr (fun g w' => RdS (gf S w2.drew g.f w') g.v y2))]) rfl rfl (by kernel_rfl); intro vs1
 simp only [tkS, tkZ, drS, drZ]
 replace H := H.drew
 refine tp (r_field fa161_1 rfl) <| t_v (fun w hx => h_load1 (v := v2) to63 (H.ext hx) rfl (k := 1) rfl rfl) <| tp (r_field fa161_1 rfl) <| t_v (fun w hx => h_load1 (v := v2) to63 (H.ext hx) rfl (k := 1) rfl rfl) <| t_callF (l := [v2, v2]) rfl rfl (stRd) is116 rfl (fun w hx hF => callRd hx (r7_times_c (gf_sub H.sub hx) (g6.mono (gf_le H.sub)) (g6.mono (gf_le H.sub)) e1)) ?_
 refine tp (r_field fa161_2 rfl) <| t_v (fun w hx => h_load1 (v := v3) to63 (H.ext hx) rfl (k := 1) rfl rfl) <| tp (r_field fa161_2 rfl) <| t_v (fun w hx => h_load1 (v := v3) to63 (H.ext hx) rfl (k := 1) rfl rfl) <| t_callF (l := [v3, v3]) rfl rfl (stRd) is116 rfl (fun w hx hF => callRd hx (r7_times_c (gf_sub H.sub hx) (g7.mono (gf_le H.sub)) (g7.mono (gf_le H.sub)) e2)) ?_
 refine t_nil (fun w3 hx hF hA => ?_)
 obtain ⟨F1, hd1, h01⟩ := depE hF
 have g10 := RdS.mono (fact_relF hF 4 rfl rfl) (hd1 4 rfl rfl)
 have g11 := RdS.mono (fact_relF hF 9 rfl rfl) (hd1 9 rfl rfl)
 have hle1 := gf_le (F := F1) (w := w3) H.sub; replace H := H.callF (F := F1) hx; clear hx hF hA hd1 h01; generalize gf S w2.drew F1 w3 = S1 at hle1 H g10 g11
 replace g3 := g3.mono hle1
 replace g6 := g6.mono hle1
 replace g7 := g7.mono hle1
 refine p_as (v := (vs1 4).v) rfl <| p_as (v := (vs1 9).v) rfl ?_
 refine wpList_nil ?_; refine on_norm ?_
 refine xn hK2 <| sr fun K3 hK3 => p_of2 (a_bsliceG (N := 1) (xs := ([(4 : UInt32)] : List UInt32)) (RL.cons (rpU32c (x := (4 : UInt32)) rfl) RL.nil) tn63 H rfl rfl rfl) fun w4 v4 cs1 H g12 => ?_
 replace H := hsn H
 refine p_val (r_field fa161_0 rfl) <| p_val (h_load1 (v := v1) to63 H rfl (k := 2) rfl rfl) <| p_mv (v := (vs1 4).v) rfl <| bn hF fun y3 e3 hF => p_call (l := [v1, (vs1 4).v]) is116 rfl <| (r7_times_c H.sub g3 g10 e3).mono <| H.ye fun w5 v5 S2 hle2 H g13 => ?_
 replace g3 := g3.mono hle2
 replace g6 := g6.mono hle2
 replace g7 := g7.mono hle2
 replace g10 := g10.mono hle2
 replace g11 := g11.mono hle2
 replace g12 := g12.mono hle2
 obtain ⟨S3, hle3, g14, H1⟩ := H.fixX (k := 0) rfl g12; clear H; have H := H1; clear H1
 replace g3 := g3.mono hle3
 replace g6 := g6.mono hle3
 replace g7 := g7.mono hle3
 replace g10 := g10.mono hle3
 replace g11 := g11.mono hle3
 replace g13 := g13.mono hle3
 replace H := hsn H
 refine bn hF fun y4 e4 hF => p_call (l := [v4, v5]) is116 rfl <| (r7_times_c H.sub g14 g13 e4).mono <| H.ye fun w6 v6 S4 hle4 H g15 => ?_
 replace g3 := g3.mono hle4
 replace g6 := g6.mono hle4
 replace g7 := g7.mono hle4
 replace g10 := g10.mono hle4
 replace g11 := g11.mono hle4
 replace g13 := g13.mono hle4
 replace g14 := g14.mono hle4
 refine p_as (v := v6) rfl <| xk hK3 <| sr fun K4 hK4 => p_of2 (a_bsliceG (N := 1) (xs := ([(3 : UInt32)] : List UInt32)) (RL.cons (rpU32c (x := (3 : UInt32)) rfl) RL.nil) tn63 H rfl rfl rfl) fun w7 v7 cs2 H g16 => ?_
 replace H := hsn H
 refine p_val (r_field fa161_0 rfl) <| p_val (h_load1 (v := v1) to63 H rfl (k := 2) rfl rfl) <| p_val (r_field fa161_0 rfl) <| p_val (h_load1 (v := v1) to63 H rfl (k := 2) rfl rfl) <| bn hF fun y5 e5 hF => p_call (l := [v1, v1]) is116 rfl <| (r7_times_c H.sub g3 g3 e5).mono <| H.ye fun w8 v8 S5 hle5 H g17 => ?_
 replace g3 := g3.mono hle5
 replace g6 := g6.mono hle5
 replace g7 := g7.mono hle5
 replace g10 := g10.mono hle5
 replace g11 := g11.mono hle5
 replace g15 := g15.mono hle5
 replace g16 := g16.mono hle5
 refine p_mv (v := (vs1 9).v) rfl <| p_mv (v := (vs1 9).v) rfl <| bn hF fun y6 e6 hF => p_call (l := [(vs1 9).v, (vs1 9).v]) is116 rfl <| (r7_times_c H.sub g11 g11 e6).mono <| H.ye fun w9 v9 S6 hle6 H g18 => ?_
 replace g3 := g3.mono hle6
 replace g6 := g6.mono hle6
 replace g7 := g7.mono hle6
 replace g10 := g10.mono hle6
 replace g11 := g11.mono hle6
 replace g15 := g15.mono hle6
 replace g16 := g16.mono hle6
 replace g17 := g17.mono hle6
 refine bn hF fun y7 e7 hF => p_call (l := [v8, v9]) is115 rfl <| (r7_minus_c H.sub g17 g18 e7).mono <| H.ye fun w10 v10 S7 hle7 H g19 => ?_
 replace g3 := g3.mono hle7
 replace g6 := g6.mono hle7
 replace g7 := g7.mono hle7
 replace g10 := g10.mono hle7
 replace g15 := g15.mono hle7
 replace g16 := g16.mono hle7
 replace g17 := g17.mono hle7
 replace g18 := g18.mono hle7
 obtain ⟨S8, hle8, g20, H1⟩ := H.fixX (k := 0) rfl g16; clear H; have H := H1; clear H1
 replace g3 := g3.mono hle8
 replace g6 := g6.mono hle8
 replace g7 := g7.mono hle8
 replace g10 := g10.mono hle8
 replace g15 := g15.mono hle8
 replace g19 := g19.mono hle8
 replace H := hsn H
 refine bn hF fun y8 e8 hF => p_call (l := [v7, v10]) is116 rfl <| (r7_times_c H.sub g20 g19 e8).mono <| H.ye fun w11 v11 S9 hle9 H g21 => ?_
 replace g3 := g3.mono hle9
 replace g6 := g6.mono hle9
 replace g7 := g7.mono hle9
 replace g10 := g10.mono hle9
 replace g15 := g15.mono hle9
 replace g19 := g19.mono hle9
 replace g20 := g20.mono hle9
 refine p_as (v := v11) rfl <| xk hK4 <| sr fun K5 hK5 => p_mv (v := v11) rfl <| p_mv (v := v11) rfl <| bn hF fun y9 e9 hF => p_call (l := [v11, v11]) is116 rfl <| (r7_times_c H.sub g21 g21 e9).mono <| H.ye fun w12 v12 S10 hle10 H g22 => ?_
 replace g3 := g3.mono hle10
 replace g6 := g6.mono hle10
 replace g7 := g7.mono hle10
 replace g10 := g10.mono hle10
 replace g15 := g15.mono hle10
 replace g21 := g21.mono hle10
 refine p_mv (v := v6) rfl <| p_mv (v := v6) rfl <| bn hF fun y10 e10 hF => p_call (l := [v6, v6]) is114 rfl <| (r7_plus_c H.sub g15 g15 e10).mono <| H.ye fun w13 v13 S11 hle11 H g23 => ?_
 replace g3 := g3.mono hle11
 replace g6 := g6.mono hle11
 replace g7 := g7.mono hle11
 replace g10 := g10.mono hle11
 replace g15 := g15.mono hle11
 replace g21 := g21.mono hle11
 replace g22 := g22.mono hle11
 refine bn hF fun y11 e11 hF => p_call (l := [v12, v13]) is115 rfl <| (r7_minus_c H.sub g22 g23 e11).mono <| H.ye fun w14 v14 S12 hle12 H g24 => ?_
 replace g3 := g3.mono hle12
 replace g6 := g6.mono hle12
 replace g7 := g7.mono hle12
 replace g10 := g10.mono hle12
 replace g15 := g15.mono hle12
 replace g21 := g21.mono hle12
 replace g22 := g22.mono hle12
 replace g23 := g23.mono hle12
 refine p_as (v := v14) rfl <| xk hK5 <| wp_seq_k fun K6 hK6 => bn hF fun y12 e12 hF => bn hF fun y13 e13 hF => bn hF fun y14 e14 hF => bn hF fun y15 e15 hF => bn hF fun y16 e16 hF => bn hF fun y17 e17 hF => ?_
 refine bn hF fun y18 e18 hF => ?_
 apply wp_region_ext 21 (kindsF [(4, .inr (fun g w' => RdS (gf S12 w14.drew g.f w') g.v y12)), (5, .inr (fun g w' => RdS (gf S12 w14.drew g.f w') g.v y13)), (6, .inr (fun g w' => RdS (gf S12 w14.drew g.f w') g.v ([(8 : UInt32)] : List UInt32))), (9, .inr (fun g w' => RdS (gf S12 w14.drew g.f w') g.v y14)), (10, .inr (fun g w' => RdS (gf S12 w14.drew g.f w') g.v y15)), (11, .inr (fun g w' => RdS (gf S12 w14.drew g.f w') g.v y16)), (16, .inr (fun g w' => RdS (gf S12 w14.drew g.f w') g.v y17)), (19, .inr (fun g w' => RdS (gf S12 w14.drew g.f w') g.v y18))]) rfl rfl (by kernel_rfl); intro vs2
 simp only [tkS, tkZ, drS, drZ]
 replace H := H.drew
 refine tp (r_move (v := v14) rfl) <| tp (r_move (v := v11) rfl) <| tp (r_move (v := v6) rfl) <| tp (r_move (v := v14) rfl) <| t_callF (l := [v6, v14]) rfl rfl (stRd) is115 rfl (fun w hx hF => callRd hx (r7_minus_c (gf_sub H.sub hx) (g15.mono (gf_le H.sub)) (g24.mono (gf_le H.sub)) e12)) ?_
 refine t_callF (l := [v11, (vs2 4).v]) rfl rfl (stRd) is116 rfl (fun w hx hF => callRd hx (r7_times_c (gf_sub H.sub hx) (g21.mono (gf_le H.sub)) (RdS.mono (fact_relF hF 4 rfl rfl) (dep_of hF 4 rfl rfl)) e13)) ?_
 refine t_bsl (xs := ([(8 : UInt32)] : List UInt32)) (N := 1) (vals := [(0, .int .u32 (8))]) (l := ([Value.int .u32 (8)] ++ ([] : List Value))) rfl rfl tn63 H.sub rfl rfl rfl (RL.cons (rpU32c (x := (8 : UInt32)) rfl) RL.nil) rfl <| tp (r_move (v := (vs1 4).v) rfl) <| tp (r_move (v := (vs1 4).v) rfl) ?_
 refine t_callF (l := [(vs1 4).v, (vs1 4).v]) rfl rfl (stRd) is116 rfl (fun w hx hF => callRd hx (r7_times_c (gf_sub H.sub hx) (g10.mono (gf_le H.sub)) (g10.mono (gf_le H.sub)) e14)) ?_
 refine t_callF (l := [(vs2 6).v, (vs2 9).v]) rfl rfl (stRd) is116 rfl (fun w hx hF => callRd hx (r7_times_c (gf_sub H.sub hx) (RdS.mono (fact_relF hF 6 rfl rfl) (dep_of hF 6 rfl rfl)) (RdS.mono (fact_relF hF 9 rfl rfl) (dep_of hF 9 rfl rfl)) e15)) ?_
 refine t_callF (l := [(vs2 5).v, (vs2 10).v]) rfl rfl (stRd) is115 rfl (fun w hx hF => callRd hx (r7_minus_c (gf_sub H.sub hx) (RdS.mono (fact_relF hF 5 rfl rfl) (dep_of hF 5 rfl rfl)) (RdS.mono (fact_relF hF 10 rfl rfl) (dep_of hF 10 rfl rfl)) e16)) <| tp (r_field fa161_1 rfl) <| t_v (fun w hx => h_load1 (v := v2) to63 (H.ext hx) rfl (k := 1) rfl rfl) <| tp (r_field fa161_1 rfl) ?_
 refine t_v (fun w hx => h_load1 (v := v2) to63 (H.ext hx) rfl (k := 1) rfl rfl) <| t_callF (l := [v2, v2]) rfl rfl (stRd) is114 rfl (fun w hx hF => callRd hx (r7_plus_c (gf_sub H.sub hx) (g6.mono (gf_le H.sub)) (g6.mono (gf_le H.sub)) e17)) <| tp (r_field fa161_2 rfl) <| t_v (fun w hx => h_load1 (v := v3) to63 (H.ext hx) rfl (k := 1) rfl rfl) ?_
 refine t_callF (l := [(vs2 16).v, v3]) rfl rfl (stRd) is116 rfl (fun w hx hF => callRd hx (r7_times_c (gf_sub H.sub hx) (RdS.mono (fact_relF hF 16 rfl rfl) (dep_of hF 16 rfl rfl)) (g7.mono (gf_le H.sub)) e18)) ?_
 refine t_valF (fun w hx hF => r_build (vals := [(0, v14), (1, (vs2 11).v), (2, (vs2 19).v)]) (l := ([v14] ++ ([(vs2 11).v] ++ ([(vs2 19).v])))) tb161 rfl (by simp only [fillL, lkp, RdS.cells g24, RdS.cells (fact_relF hF 11 rfl rfl), RdS.cells (fact_relF hF 19 rfl rfl)]; rfl)) rfl rfl ?_
 refine t_nil (fun w16 hx hF hA => ?_)
 obtain ⟨F2, hd2, h02⟩ := depE hF
 have g33 := RdS.mono (fact_relF hF 4 rfl rfl) (hd2 4 rfl rfl)
 have g34 := RdS.mono (fact_relF hF 5 rfl rfl) (hd2 5 rfl rfl)
 have g35 := RdS.mono (fact_relF hF 6 rfl rfl) (hd2 6 rfl rfl)
 have g36 := RdS.mono (fact_relF hF 9 rfl rfl) (hd2 9 rfl rfl)
 have g37 := RdS.mono (fact_relF hF 10 rfl rfl) (hd2 10 rfl rfl)
 have g38 := RdS.mono (fact_relF hF 11 rfl rfl) (hd2 11 rfl rfl)
 have g39 := RdS.mono (fact_relF hF 16 rfl rfl) (hd2 16 rfl rfl)
 have g40 := RdS.mono (fact_relF hF 19 rfl rfl) (hd2 19 rfl rfl)
 have hle13 := gf_le (F := F2) (w := w16) H.sub; replace H := H.callF (F := F2) hx; clear hx hF hA hd2 h02; generalize gf S12 w14.drew F2 w16 = S13 at hle13 H g33 g34 g35 g36 g37 g38 g39 g40
 replace g3 := g3.mono hle13
 replace g6 := g6.mono hle13
 replace g7 := g7.mono hle13
 replace g10 := g10.mono hle13
 replace g15 := g15.mono hle13
 replace g21 := g21.mono hle13
 replace g22 := g22.mono hle13
 replace g23 := g23.mono hle13
 replace g24 := g24.mono hle13
 refine p_ofs (a_store (k := 0) (l := ([v14] ++ ([(vs2 11).v] ++ ([(vs2 19).v])))) tsz161 H rfl rfl rfl (cells_agg _) rfl (Rp.one (rpP (rpL g24) (rpP (rpL g38) (rpL g40)))) rfl) fun w17 H => ?_
 replace H := hsn H
 refine wpList_nil ?_; refine on_norm ?_
 refine xn hK6 <| wp_ret ?_
 obtain rfl := osi hF
 refine e_1 rfl (qh_cell (l := ([v14] ++ ([(vs2 11).v] ++ ([(vs2 19).v])))) tg161 H rfl (k := 0) rfl rfl rfl) ?_
 exact ⟨H.toExt, _, rfl, Rp.mono (rpP (rpL g24) (rpP (rpL g38) (rpL g40))) H.gr⟩
def r7_long_more_p (x0 : (List UInt32) × (List UInt32) × (List UInt32)) (x1 : Bool × (List UInt32) × (List UInt32)) : Option (((List UInt32) × (List UInt32) × (List UInt32)) × Bool) :=
  Option.bind (r7_times_p x0.2.2 x0.2.2) fun y1 => Option.bind (r7_times_p x1.2.1 y1) fun y2 => Option.bind (r7_minus_p y2 x0.1) fun y3 => bif (((y3).length : Int) == 0) then (some (((([] : List UInt32), ([] : List UInt32), ([] : List UInt32)), false))) else (Option.bind (r7_times_p y1 x0.2.2) fun y4 => Option.bind (r7_times_p x1.2.2 y4) fun y5 => Option.bind (r7_minus_p y5 x0.2.1) fun y6 => Option.bind (r7_times_p y3 y3) fun y7 => Option.bind (r7_times_p y3 y7) fun y8 => Option.bind (r7_times_p x0.1 y7) fun y9 => Option.bind (r7_times_p y6 y6) fun y10 => Option.bind (r7_minus_p y10 y8) fun y11 => Option.bind (r7_plus_p y9 y9) fun y12 => Option.bind (r7_minus_p y11 y12) fun y13 => Option.bind (r7_minus_p y9 y13) fun y14 => Option.bind (r7_times_p y6 y14) fun y15 => Option.bind (r7_times_p x0.2.1 y8) fun y16 => Option.bind (r7_minus_p y15 y16) fun y17 => Option.bind (r7_times_p x0.2.2 y3) fun y18 => some (((y13, y17, y18), true)))
theorem r7_long_more_c {S : Mem} {w : World} (hS : Sub S w) {c0_ : List Value} {x0 : (List UInt32) × (List UInt32) × (List UInt32)} (h0_ : Rp.rep S c0_ x0) {c1_ : List Value} {x1 : Bool × (List UInt32) × (List UInt32)} (h1_ : Rp.rep S c1_ x1) {r : ((List UInt32) × (List UInt32) × (List UInt32)) × Bool} (hF : r7_long_more_p x0 x1 = some r) :
    Calls Tryz.prog 127 #[.agg c0_.toArray, .agg c1_.toArray] w fun e w' => Ext w w' ∧ ∃ (c0' : List Value), e = .returned (.tuple #[.agg c0'.toArray, .bool (r.2)]) ∧ Rp.rep (gr S w w') c0' r.1 := by
 refine enter (n := 74) Tryz.func127 rfl rfl rfl ?_
 have H := HS.start hS
 obtain ⟨c1, c2, rfl, g1, g2⟩ := elP h0_
 obtain ⟨v1, rfl, g3⟩ := elL g1
 obtain ⟨c3, c4, rfl, g4, g5⟩ := elP g2
 obtain ⟨v2, rfl, g6⟩ := elL g4
 obtain ⟨v3, rfl, g7⟩ := elL g5
 obtain ⟨c5, c6, rfl, g8, g9⟩ := elP h1_
 obtain rfl := elB g8
 obtain ⟨c7, c8, rfl, g10, g11⟩ := elP g9
 obtain ⟨v4, rfl, g12⟩ := elL g10
 obtain ⟨v5, rfl, g13⟩ := elL g11
 unfold r7_long_more_p at hF
 refine sr fun K1 hK1 => p_ofb (a_box (l := ([v1] ++ ([v2] ++ ([v3])))) H rfl) fun w1 b1 H => p_ofb (a_box (l := ([Value.bool (x1.1)] ++ ([v4] ++ ([v5])))) H rfl) fun w2 b2 H => p_ofb (a_alloc (l := ([Value.slice none 0 0] ++ ([Value.slice none 0 0] ++ ([Value.slice none 0 0])))) H tz161 rfl) fun w3 b3 H => asB rfl <| xk hK1 <| sr fun K2 hK2 => p_val (r_field fa161_2 rfl) ?_
 refine p_val (h_load1 (v := v3) to63 H rfl (k := 2) rfl rfl) <| p_val (r_field fa161_2 rfl) <| p_val (h_load1 (v := v3) to63 H rfl (k := 2) rfl rfl) <| bn hF fun y1 e1 hF => p_call (l := [v3, v3]) is116 rfl <| (r7_times_c H.sub g7 g7 e1).mono <| H.ye fun w4 v6 S1 hle1 H g14 => ?_
 replace g3 := g3.mono hle1
 replace g6 := g6.mono hle1
 replace g7 := g7.mono hle1
 replace g12 := g12.mono hle1
 replace g13 := g13.mono hle1
 refine p_as (v := v6) rfl <| xk hK2 <| wp_seq_k fun K3 hK3 => bn hF fun y2 e2 hF => bn hF fun y3 e3 hF => ?_
 apply wp_region_ext 7 (kindsF [(3, .inr (fun g w' => RdS (gf S1 w4.drew g.f w') g.v y2)), (6, .inr (fun g w' => RdS (gf S1 w4.drew g.f w') g.v y3))]) rfl rfl (by kernel_rfl); intro vs1
 simp only [tkS, tkZ, drS, drZ]
 replace H := H.drew
 refine tp (r_field fa65_1 rfl) <| t_v (fun w hx => h_load1 (v := v4) to63 (H.ext hx) rfl (k := 1) rfl rfl) <| tp (r_move (v := v6) rfl) <| t_callF (l := [v4, v6]) rfl rfl (stRd) is116 rfl (fun w hx hF => callRd hx (r7_times_c (gf_sub H.sub hx) (g12.mono (gf_le H.sub)) (g14.mono (gf_le H.sub)) e2)) <| tp (r_field fa161_0 rfl) ?_
 refine t_v (fun w hx => h_load1 (v := v1) to63 (H.ext hx) rfl (k := 2) rfl rfl) <| t_callF (l := [(vs1 3).v, v1]) rfl rfl (stRd) is115 rfl (fun w hx hF => callRd hx (r7_minus_c (gf_sub H.sub hx) (RdS.mono (fact_relF hF 3 rfl rfl) (dep_of hF 3 rfl rfl)) (g3.mono (gf_le H.sub)) e3)) ?_
 refine t_nil (fun w5 hx hF hA => ?_)
 obtain ⟨F1, hd1, h01⟩ := depE hF
 have g17 := RdS.mono (fact_relF hF 3 rfl rfl) (hd1 3 rfl rfl)
 have g18 := RdS.mono (fact_relF hF 6 rfl rfl) (hd1 6 rfl rfl)
 have hle2 := gf_le (F := F1) (w := w5) H.sub; replace H := H.callF (F := F1) hx; clear hx hF hA hd1 h01; generalize gf S1 w4.drew F1 w5 = S2 at hle2 H g17 g18
 replace g3 := g3.mono hle2
 replace g6 := g6.mono hle2
 replace g7 := g7.mono hle2
 replace g12 := g12.mono hle2
 replace g13 := g13.mono hle2
 replace g14 := g14.mono hle2
 refine p_as (v := (vs1 6).v) rfl ?_
 refine wpList_nil ?_; refine on_norm ?_
 refine xn hK3 <| wp_seq_k fun K4 hK4 => sr fun K5 hK5 => p_mv (v := (vs1 6).v) rfl <| p_val (r_lenR' u63 rfl g18 H.sub) <| p_val (r_eqlI rfl rfl) <| xk hK5 ?_
 refine c_split rfl (fun hc1 => ?_) (fun hc1 => ?_)
 ·replace hF := cnd_t hF hc1
  refine sr fun K6 hK6 => p_val (r_build (vals := []) (l := ([Value.slice none 0 0] ++ ([Value.slice none 0 0] ++ ([Value.slice none 0 0])))) tb161 rfl rfl) <| p_ofs (a_store (k := 0) (l := ([Value.slice none 0 0] ++ ([Value.slice none 0 0] ++ ([Value.slice none 0 0])))) tsz161 H rfl rfl rfl (cells_agg _) rfl (onz rfl) rfl) fun w6 H => ?_
  replace H := hsn H
  refine asB rfl <| xk hK6 <| wp_ret <| x_ret ?_
  obtain rfl := osi hF
  refine e_2 rfl (qh_cell (l := ([Value.slice none 0 0] ++ ([Value.slice none 0 0] ++ ([Value.slice none 0 0])))) tg161 H rfl (k := 0) rfl rfl rfl) (q_tmp rfl) ?_
  exact ⟨H.toExt, _, rfl, Rp.mono (rpP (rpL RdS.nil) (rpP (rpL RdS.nil) (rpL RdS.nil))) H.gr⟩
 ·replace hF := cnd_f hF hc1
  refine wp_skip <| xn hK4 <| wp_seq_k fun K7 hK7 => bn hF fun y4 e4 hF => bn hF fun y5 e5 hF => bn hF fun y6 e6 hF => ?_
  apply wp_region_ext 10 (kindsF [(5, .inr (fun g w' => RdS (gf S2 w5.drew g.f w') g.v y4)), (6, .inr (fun g w' => RdS (gf S2 w5.drew g.f w') g.v y5)), (9, .inr (fun g w' => RdS (gf S2 w5.drew g.f w') g.v y6))]) rfl rfl (by kernel_rfl); intro vs2
  simp only [tkS, tkZ, drS, drZ]
  replace H := H.drew
  refine tp (r_field fa65_2 rfl) <| t_v (fun w hx => h_load1 (v := v5) to63 (H.ext hx) rfl (k := 1) rfl rfl) <| tp (r_move (v := v6) rfl) <| tp (r_field fa161_2 rfl) <| t_v (fun w hx => h_load1 (v := v3) to63 (H.ext hx) rfl (k := 2) rfl rfl) ?_
  refine t_callF (l := [v6, v3]) rfl rfl (stRd) is116 rfl (fun w hx hF => callRd hx (r7_times_c (gf_sub H.sub hx) (g14.mono (gf_le H.sub)) (g7.mono (gf_le H.sub)) e4)) <| t_callF (l := [v5, (vs2 5).v]) rfl rfl (stRd) is116 rfl (fun w hx hF => callRd hx (r7_times_c (gf_sub H.sub hx) (g13.mono (gf_le H.sub)) (RdS.mono (fact_relF hF 5 rfl rfl) (dep_of hF 5 rfl rfl)) e5)) ?_
  refine tp (r_field fa161_1 rfl) <| t_v (fun w hx => h_load1 (v := v2) to63 (H.ext hx) rfl (k := 2) rfl rfl) <| t_callF (l := [(vs2 6).v, v2]) rfl rfl (stRd) is115 rfl (fun w hx hF => callRd hx (r7_minus_c (gf_sub H.sub hx) (RdS.mono (fact_relF hF 6 rfl rfl) (dep_of hF 6 rfl rfl)) (g6.mono (gf_le H.sub)) e6)) ?_
  refine t_nil (fun w7 hx hF hA => ?_)
  obtain ⟨F2, hd2, h02⟩ := depE hF
  have g22 := RdS.mono (fact_relF hF 5 rfl rfl) (hd2 5 rfl rfl)
  have g23 := RdS.mono (fact_relF hF 6 rfl rfl) (hd2 6 rfl rfl)
  have g24 := RdS.mono (fact_relF hF 9 rfl rfl) (hd2 9 rfl rfl)
  have hle3 := gf_le (F := F2) (w := w7) H.sub; replace H := H.callF (F := F2) hx; clear hx hF hA hd2 h02; generalize gf S2 w5.drew F2 w7 = S3 at hle3 H g22 g23 g24
  replace g3 := g3.mono hle3
  replace g6 := g6.mono hle3
  replace g7 := g7.mono hle3
  replace g12 := g12.mono hle3
  replace g13 := g13.mono hle3
  replace g14 := g14.mono hle3
  replace g17 := g17.mono hle3
  replace g18 := g18.mono hle3
  refine p_as (v := (vs2 9).v) rfl ?_
  refine wpList_nil ?_; refine on_norm ?_
  refine xn hK7 <| sr fun K8 hK8 => p_mv (v := (vs1 6).v) rfl <| p_mv (v := (vs1 6).v) rfl <| bn hF fun y7 e7 hF => p_call (l := [(vs1 6).v, (vs1 6).v]) is116 rfl <| (r7_times_c H.sub g18 g18 e7).mono <| H.ye fun w8 v7 S4 hle4 H g25 => ?_
  replace g3 := g3.mono hle4
  replace g6 := g6.mono hle4
  replace g7 := g7.mono hle4
  replace g12 := g12.mono hle4
  replace g13 := g13.mono hle4
  replace g18 := g18.mono hle4
  replace g24 := g24.mono hle4
  refine p_as (v := v7) rfl <| xk hK8 <| wp_seq_k fun K9 hK9 => bn hF fun y8 e8 hF => bn hF fun y9 e9 hF => ?_
  apply wp_region_ext 7 (kindsF [(2, .inr (fun g w' => RdS (gf S4 w8.drew g.f w') g.v y8)), (6, .inr (fun g w' => RdS (gf S4 w8.drew g.f w') g.v y9))]) rfl rfl (by kernel_rfl); intro vs3
  simp only [tkS, tkZ, drS, drZ]
  replace H := H.drew
  refine tp (r_move (v := (vs1 6).v) rfl) <| tp (r_move (v := v7) rfl) <| t_callF (l := [(vs1 6).v, v7]) rfl rfl (stRd) is116 rfl (fun w hx hF => callRd hx (r7_times_c (gf_sub H.sub hx) (g18.mono (gf_le H.sub)) (g25.mono (gf_le H.sub)) e8)) <| tp (r_field fa161_0 rfl) <| t_v (fun w hx => h_load1 (v := v1) to63 (H.ext hx) rfl (k := 2) rfl rfl) <| tp (r_move (v := v7) rfl) ?_
  refine t_callF (l := [v1, v7]) rfl rfl (stRd) is116 rfl (fun w hx hF => callRd hx (r7_times_c (gf_sub H.sub hx) (g3.mono (gf_le H.sub)) (g25.mono (gf_le H.sub)) e9)) ?_
  refine t_nil (fun w9 hx hF hA => ?_)
  obtain ⟨F3, hd3, h03⟩ := depE hF
  have g28 := RdS.mono (fact_relF hF 2 rfl rfl) (hd3 2 rfl rfl)
  have g29 := RdS.mono (fact_relF hF 6 rfl rfl) (hd3 6 rfl rfl)
  have hle5 := gf_le (F := F3) (w := w9) H.sub; replace H := H.callF (F := F3) hx; clear hx hF hA hd3 h03; generalize gf S4 w8.drew F3 w9 = S5 at hle5 H g28 g29
  replace g3 := g3.mono hle5
  replace g6 := g6.mono hle5
  replace g7 := g7.mono hle5
  replace g12 := g12.mono hle5
  replace g13 := g13.mono hle5
  replace g18 := g18.mono hle5
  replace g24 := g24.mono hle5
  replace g25 := g25.mono hle5
  refine p_as (v := (vs3 2).v) rfl <| p_as (v := (vs3 6).v) rfl ?_
  refine wpList_nil ?_; refine on_norm ?_
  refine xn hK9 <| sr fun K10 hK10 => p_mv (v := (vs2 9).v) rfl <| p_mv (v := (vs2 9).v) rfl <| bn hF fun y10 e10 hF => p_call (l := [(vs2 9).v, (vs2 9).v]) is116 rfl <| (r7_times_c H.sub g24 g24 e10).mono <| H.ye fun w10 v8 S6 hle6 H g30 => ?_
  replace g3 := g3.mono hle6
  replace g6 := g6.mono hle6
  replace g7 := g7.mono hle6
  replace g12 := g12.mono hle6
  replace g13 := g13.mono hle6
  replace g18 := g18.mono hle6
  replace g24 := g24.mono hle6
  replace g28 := g28.mono hle6
  replace g29 := g29.mono hle6
  refine p_mv (v := (vs3 2).v) rfl <| bn hF fun y11 e11 hF => p_call (l := [v8, (vs3 2).v]) is115 rfl <| (r7_minus_c H.sub g30 g28 e11).mono <| H.ye fun w11 v9 S7 hle7 H g31 => ?_
  replace g3 := g3.mono hle7
  replace g6 := g6.mono hle7
  replace g7 := g7.mono hle7
  replace g12 := g12.mono hle7
  replace g13 := g13.mono hle7
  replace g18 := g18.mono hle7
  replace g24 := g24.mono hle7
  replace g28 := g28.mono hle7
  replace g29 := g29.mono hle7
  replace g30 := g30.mono hle7
  refine p_mv (v := (vs3 6).v) rfl <| p_mv (v := (vs3 6).v) rfl <| bn hF fun y12 e12 hF => p_call (l := [(vs3 6).v, (vs3 6).v]) is114 rfl <| (r7_plus_c H.sub g29 g29 e12).mono <| H.ye fun w12 v10 S8 hle8 H g32 => ?_
  replace g3 := g3.mono hle8
  replace g6 := g6.mono hle8
  replace g7 := g7.mono hle8
  replace g12 := g12.mono hle8
  replace g13 := g13.mono hle8
  replace g18 := g18.mono hle8
  replace g24 := g24.mono hle8
  replace g28 := g28.mono hle8
  replace g29 := g29.mono hle8
  replace g31 := g31.mono hle8
  refine bn hF fun y13 e13 hF => p_call (l := [v9, v10]) is115 rfl <| (r7_minus_c H.sub g31 g32 e13).mono <| H.ye fun w13 v11 S9 hle9 H g33 => ?_
  replace g3 := g3.mono hle9
  replace g6 := g6.mono hle9
  replace g7 := g7.mono hle9
  replace g12 := g12.mono hle9
  replace g13 := g13.mono hle9
  replace g18 := g18.mono hle9
  replace g24 := g24.mono hle9
  replace g28 := g28.mono hle9
  replace g29 := g29.mono hle9
  replace g31 := g31.mono hle9
  replace g32 := g32.mono hle9
  refine p_as (v := v11) rfl <| xk hK10 <| wp_seq_k fun K11 hK11 => bn hF fun y14 e14 hF => bn hF fun y15 e15 hF => bn hF fun y16 e16 hF => bn hF fun y17 e17 hF => bn hF fun y18 e18 hF => ?_
  apply wp_region_ext 16 (kindsF [(4, .inr (fun g w' => RdS (gf S9 w13.drew g.f w') g.v y14)), (5, .inr (fun g w' => RdS (gf S9 w13.drew g.f w') g.v y15)), (9, .inr (fun g w' => RdS (gf S9 w13.drew g.f w') g.v y16)), (10, .inr (fun g w' => RdS (gf S9 w13.drew g.f w') g.v y17)), (14, .inr (fun g w' => RdS (gf S9 w13.drew g.f w') g.v y18))]) rfl rfl (by kernel_rfl); intro vs4
  simp only [tkS, tkZ, drS, drZ]
  replace H := H.drew
  refine tp (r_move (v := v11) rfl) <| tp (r_move (v := (vs2 9).v) rfl) <| tp (r_move (v := (vs3 6).v) rfl) <| tp (r_move (v := v11) rfl) <| t_callF (l := [(vs3 6).v, v11]) rfl rfl (stRd) is115 rfl (fun w hx hF => callRd hx (r7_minus_c (gf_sub H.sub hx) (g29.mono (gf_le H.sub)) (g33.mono (gf_le H.sub)) e14)) ?_
  refine t_callF (l := [(vs2 9).v, (vs4 4).v]) rfl rfl (stRd) is116 rfl (fun w hx hF => callRd hx (r7_times_c (gf_sub H.sub hx) (g24.mono (gf_le H.sub)) (RdS.mono (fact_relF hF 4 rfl rfl) (dep_of hF 4 rfl rfl)) e15)) <| tp (r_field fa161_1 rfl) <| t_v (fun w hx => h_load1 (v := v2) to63 (H.ext hx) rfl (k := 2) rfl rfl) <| tp (r_move (v := (vs3 2).v) rfl) ?_
  refine t_callF (l := [v2, (vs3 2).v]) rfl rfl (stRd) is116 rfl (fun w hx hF => callRd hx (r7_times_c (gf_sub H.sub hx) (g6.mono (gf_le H.sub)) (g28.mono (gf_le H.sub)) e16)) ?_
  refine t_callF (l := [(vs4 5).v, (vs4 9).v]) rfl rfl (stRd) is115 rfl (fun w hx hF => callRd hx (r7_minus_c (gf_sub H.sub hx) (RdS.mono (fact_relF hF 5 rfl rfl) (dep_of hF 5 rfl rfl)) (RdS.mono (fact_relF hF 9 rfl rfl) (dep_of hF 9 rfl rfl)) e17)) <| tp (r_field fa161_2 rfl) <| t_v (fun w hx => h_load1 (v := v3) to63 (H.ext hx) rfl (k := 2) rfl rfl) <| tp (r_move (v := (vs1 6).v) rfl) ?_
  refine t_callF (l := [v3, (vs1 6).v]) rfl rfl (stRd) is116 rfl (fun w hx hF => callRd hx (r7_times_c (gf_sub H.sub hx) (g7.mono (gf_le H.sub)) (g18.mono (gf_le H.sub)) e18)) ?_
  refine t_valF (fun w hx hF => r_build (vals := [(0, v11), (1, (vs4 10).v), (2, (vs4 14).v)]) (l := ([v11] ++ ([(vs4 10).v] ++ ([(vs4 14).v])))) tb161 rfl (by simp only [fillL, lkp, RdS.cells g33, RdS.cells (fact_relF hF 10 rfl rfl), RdS.cells (fact_relF hF 14 rfl rfl)]; rfl)) rfl rfl ?_
  refine t_nil (fun w14 hx hF hA => ?_)
  obtain ⟨F4, hd4, h04⟩ := depE hF
  have g39 := RdS.mono (fact_relF hF 4 rfl rfl) (hd4 4 rfl rfl)
  have g40 := RdS.mono (fact_relF hF 5 rfl rfl) (hd4 5 rfl rfl)
  have g41 := RdS.mono (fact_relF hF 9 rfl rfl) (hd4 9 rfl rfl)
  have g42 := RdS.mono (fact_relF hF 10 rfl rfl) (hd4 10 rfl rfl)
  have g43 := RdS.mono (fact_relF hF 14 rfl rfl) (hd4 14 rfl rfl)
  have hle10 := gf_le (F := F4) (w := w14) H.sub; replace H := H.callF (F := F4) hx; clear hx hF hA hd4 h04; generalize gf S9 w13.drew F4 w14 = S10 at hle10 H g39 g40 g41 g42 g43
  replace g3 := g3.mono hle10
  replace g6 := g6.mono hle10
  replace g7 := g7.mono hle10
  replace g12 := g12.mono hle10
  replace g13 := g13.mono hle10
  replace g18 := g18.mono hle10
  replace g24 := g24.mono hle10
  replace g28 := g28.mono hle10
  replace g29 := g29.mono hle10
  replace g31 := g31.mono hle10
  replace g32 := g32.mono hle10
  replace g33 := g33.mono hle10
  refine p_ofs (a_store (k := 0) (l := ([v11] ++ ([(vs4 10).v] ++ ([(vs4 14).v])))) tsz161 H rfl rfl rfl (cells_agg _) rfl (Rp.one (rpP (rpL g33) (rpP (rpL g42) (rpL g43)))) rfl) fun w15 H => ?_
  replace H := hsn H
  refine asB rfl ?_
  refine wpList_nil ?_; refine on_norm ?_
  refine xn hK11 <| wp_ret ?_
  obtain rfl := osi hF
  refine e_2 rfl (qh_cell (l := ([v11] ++ ([(vs4 10).v] ++ ([(vs4 14).v])))) tg161 H rfl (k := 0) rfl rfl rfl) (q_tmp rfl) ?_
  exact ⟨H.toExt, _, rfl, Rp.mono (rpP (rpL g33) (rpP (rpL g42) (rpL g43))) H.gr⟩
def r7_long_end_p (x0 : (List UInt32) × (List UInt32) × (List UInt32)) : Option ((Bool × (List UInt32) × (List UInt32))) :=
  bif (((x0.2.2).length : Int) == 0) then (some ((true, ([] : List UInt32), ([] : List UInt32)))) else (Option.bind (r6_Inverse_p 0 x0.2.2) fun y1 => Option.bind (r7_times_p y1 y1) fun y2 => Option.bind (r7_times_p x0.1 y2) fun y3 => Option.bind (r7_times_p y2 y1) fun y4 => Option.bind (r7_times_p x0.2.1 y4) fun y5 => some ((false, y3, y5)))
theorem r7_long_end_c {S : Mem} {w : World} (hS : Sub S w) {c0_ : List Value} {x0 : (List UInt32) × (List UInt32) × (List UInt32)} (h0_ : Rp.rep S c0_ x0) {r : (Bool × (List UInt32) × (List UInt32))} (hF : r7_long_end_p x0 = some r) :
    Calls Tryz.prog 128 #[.agg c0_.toArray] w fun e w' => Ext w w' ∧ ∃ (c0' : List Value), e = .returned (.agg c0'.toArray) ∧ Rp.rep (gr S w w') c0' r := by
 refine enter (n := 27) Tryz.func128 rfl rfl rfl ?_
 have H := HS.start hS
 obtain ⟨c1, c2, rfl, g1, g2⟩ := elP h0_
 obtain ⟨v1, rfl, g3⟩ := elL g1
 obtain ⟨c3, c4, rfl, g4, g5⟩ := elP g2
 obtain ⟨v2, rfl, g6⟩ := elL g4
 obtain ⟨v3, rfl, g7⟩ := elL g5
 unfold r7_long_end_p at hF
 refine sr fun K1 hK1 => p_ofb (a_box (l := ([v1] ++ ([v2] ++ ([v3])))) H rfl) fun w1 b1 H => p_ofb (a_alloc (l := ([Value.bool (false)] ++ ([Value.slice none 0 0] ++ ([Value.slice none 0 0])))) H tz65 rfl) fun w2 b2 H => xk hK1 <| wp_seq_k fun K2 hK2 => sr fun K3 hK3 => p_val (r_field fa161_2 rfl) <| p_val (h_load1 (v := v3) to63 H rfl (k := 1) rfl rfl) <| p_val (r_lenR' u63 rfl g7 H.sub) ?_
 refine p_val (r_eqlI rfl rfl) <| xk hK3 ?_
 refine c_split rfl (fun hc1 => ?_) (fun hc1 => ?_)
 ·replace hF := cnd_t hF hc1
  refine sr fun K4 hK4 => p_val (r_build (vals := [(0, .bool (true))]) (l := ([Value.bool (true)] ++ ([Value.slice none 0 0] ++ ([Value.slice none 0 0])))) tb65 rfl rfl) <| p_ofs (a_store (k := 0) (l := ([Value.bool (true)] ++ ([Value.slice none 0 0] ++ ([Value.slice none 0 0])))) tsz65 H rfl rfl rfl (cells_agg _) rfl (onz rfl) rfl) fun w3 H => ?_
  replace H := hsn H
  refine xk hK4 <| wp_ret <| x_ret ?_
  obtain rfl := osi hF
  refine e_1 rfl (qh_cell (l := ([Value.bool (true)] ++ ([Value.slice none 0 0] ++ ([Value.slice none 0 0])))) tg65 H rfl (k := 0) rfl rfl rfl) ?_
  exact ⟨H.toExt, _, rfl, Rp.mono (rpP rpB (rpP (rpL RdS.nil) (rpL RdS.nil))) H.gr⟩
 ·replace hF := cnd_f hF hc1
  refine wp_skip <| xn hK2 <| sr fun K5 hK5 => p_val (r_field fa161_2 rfl) <| p_val (h_load1 (v := v3) to63 H rfl (k := 1) rfl rfl) <| bn hF fun y1 e1 hF => p_call (l := [.int .i64 (0), v3]) is64 rfl <| (r6_Inverse_c H.sub g7 e1).mono <| H.ye fun w4 v4 S1 hle1 H g8 => ?_
  replace g3 := g3.mono hle1
  replace g6 := g6.mono hle1
  replace g7 := g7.mono hle1
  refine p_as (v := v4) rfl <| xk hK5 <| sr fun K6 hK6 => p_mv (v := v4) rfl <| p_mv (v := v4) rfl <| bn hF fun y2 e2 hF => p_call (l := [v4, v4]) is116 rfl <| (r7_times_c H.sub g8 g8 e2).mono <| H.ye fun w5 v5 S2 hle2 H g9 => ?_
  replace g3 := g3.mono hle2
  replace g6 := g6.mono hle2
  replace g7 := g7.mono hle2
  replace g8 := g8.mono hle2
  refine p_as (v := v5) rfl <| xk hK6 <| wp_seq_k fun K7 hK7 => bn hF fun y3 e3 hF => bn hF fun y4 e4 hF => bn hF fun y5 e5 hF => ?_
  apply wp_region_ext 11 (kindsF [(3, .inr (fun g w' => RdS (gf S2 w5.drew g.f w') g.v y3)), (8, .inr (fun g w' => RdS (gf S2 w5.drew g.f w') g.v y4)), (9, .inr (fun g w' => RdS (gf S2 w5.drew g.f w') g.v y5))]) rfl rfl (by kernel_rfl); intro vs1
  simp only [tkS, tkZ, drS, drZ]
  replace H := H.drew
  refine tp (r_field fa161_0 rfl) <| t_v (fun w hx => h_load1 (v := v1) to63 (H.ext hx) rfl (k := 1) rfl rfl) <| tp (r_move (v := v5) rfl) <| t_callF (l := [v1, v5]) rfl rfl (stRd) is116 rfl (fun w hx hF => callRd hx (r7_times_c (gf_sub H.sub hx) (g3.mono (gf_le H.sub)) (g9.mono (gf_le H.sub)) e3)) <| tp (r_field fa161_1 rfl) ?_
  refine t_v (fun w hx => h_load1 (v := v2) to63 (H.ext hx) rfl (k := 1) rfl rfl) <| tp (r_move (v := v5) rfl) <| tp (r_move (v := v4) rfl) <| t_callF (l := [v5, v4]) rfl rfl (stRd) is116 rfl (fun w hx hF => callRd hx (r7_times_c (gf_sub H.sub hx) (g9.mono (gf_le H.sub)) (g8.mono (gf_le H.sub)) e4)) ?_
  refine t_callF (l := [v2, (vs1 8).v]) rfl rfl (stRd) is116 rfl (fun w hx hF => callRd hx (r7_times_c (gf_sub H.sub hx) (g6.mono (gf_le H.sub)) (RdS.mono (fact_relF hF 8 rfl rfl) (dep_of hF 8 rfl rfl)) e5)) ?_
  refine t_valF (fun w hx hF => r_build (vals := [(1, (vs1 3).v), (2, (vs1 9).v)]) (l := ([Value.bool (false)] ++ ([(vs1 3).v] ++ ([(vs1 9).v])))) tb65 rfl (by simp only [fillL, lkp, RdS.cells (fact_relF hF 3 rfl rfl), RdS.cells (fact_relF hF 9 rfl rfl)]; rfl)) rfl rfl ?_
  refine t_nil (fun w6 hx hF hA => ?_)
  obtain ⟨F1, hd1, h01⟩ := depE hF
  have g13 := RdS.mono (fact_relF hF 3 rfl rfl) (hd1 3 rfl rfl)
  have g14 := RdS.mono (fact_relF hF 8 rfl rfl) (hd1 8 rfl rfl)
  have g15 := RdS.mono (fact_relF hF 9 rfl rfl) (hd1 9 rfl rfl)
  have hle3 := gf_le (F := F1) (w := w6) H.sub; replace H := H.callF (F := F1) hx; clear hx hF hA hd1 h01; generalize gf S2 w5.drew F1 w6 = S3 at hle3 H g13 g14 g15
  replace g3 := g3.mono hle3
  replace g6 := g6.mono hle3
  replace g7 := g7.mono hle3
  replace g8 := g8.mono hle3
  replace g9 := g9.mono hle3
  refine p_ofs (a_store (k := 0) (l := ([Value.bool (false)] ++ ([(vs1 3).v] ++ ([(vs1 9).v])))) tsz65 H rfl rfl rfl (cells_agg _) rfl (Rp.one (rpP rpB (rpP (rpL g13) (rpL g15)))) rfl) fun w7 H => ?_
  replace H := hsn H
  refine wpList_nil ?_; refine on_norm ?_
  refine xn hK7 <| wp_ret ?_
  obtain rfl := osi hF
  refine e_1 rfl (qh_cell (l := ([Value.bool (false)] ++ ([(vs1 3).v] ++ ([(vs1 9).v])))) tg65 H rfl (k := 0) rfl rfl rfl) ?_
  exact ⟨H.toExt, _, rfl, Rp.mono (rpP rpB (rpP (rpL g13) (rpL g15))) H.gr⟩
def r7_Point_Fast_b0 (x0 : Bool × (List UInt32) × (List UInt32)) (x1 : List UInt32) (s1 : Int × (List UInt32) × (List UInt32) × (List UInt32)) : Option ((Int × (List UInt32) × (List UInt32) × (List UInt32)) ⊕ ((List UInt32) × (List UInt32) × (List UInt32))) :=
  bif decide ((0 : Int) ≤ s1.1) then (Option.bind (Option.bind (bif decide ((0 : Int) < ((s1.2.2.2).length : Int)) then (Option.bind (r7_long_twice_p s1.2) fun y1 => some ((y1.1, y1.2.1, y1.2.2))) else (some ((s1.2.1, s1.2.2.1, s1.2.2.2)))) (fun t3 => Option.bind (idx x1 (w64 (Int.tdiv s1.1 16))) fun y2 => Option.bind (chk (decide (0 ≤ (Int.tmod s1.1 16)))) fun y3 => bif (((((i32 (shrI .u32 ((y2).toNat : Int) (Int.tmod s1.1 16))) &&& (1 : UInt32))).toNat : Int) == 0) then (some ((t3.1, t3.2.1, t3.2.2))) else (bif (((t3.2.2).length : Int) == 0) then (some ((x0.2.1, x0.2.2, ([(1 : UInt32)] : List UInt32)))) else (Option.bind (r7_long_more_p t3 x0) fun y4 => Option.bind (bif (!y4.2) then (Option.bind (r7_long_end_p t3) fun y5 => Option.bind (r7_Point_Sum_p y5 x0) fun y6 => bif y6.1 then (some ((([] : List UInt32), ([] : List UInt32), ([] : List UInt32)))) else (some ((y6.2.1, y6.2.2, ([(1 : UInt32)] : List UInt32))))) else (some ((y4.1.1, y4.1.2.1, y4.1.2.2)))) (fun t4 => some ((t4.1, t4.2.1, t4.2.2))))))) (fun t2 => some (.inl (((w64 (s1.1 - 1)), t2.1, t2.2.1, t2.2.2))))) else (some (.inr ((s1.2.1, s1.2.2.1, s1.2.2.2))))
def r7_Point_Fast_p (x0 : Bool × (List UInt32) × (List UInt32)) (x1 : List UInt32) : Option ((Bool × (List UInt32) × (List UInt32))) :=
  bif x0.1 then (some (x0)) else (Option.bind (Option.bind (iter (r7_Point_Fast_b0 x0 x1) (((w64 ((w64 ((16 : Int) * ((x1).length : Int))) - 1)), ([] : List UInt32), ([] : List UInt32), ([] : List UInt32)))) (fun e => some (e))) (fun t1 => Option.bind (r7_long_end_p t1) fun y7 => some (y7)))
theorem r7_Point_Fast_c {S : Mem} {w : World} (hS : Sub S w) {c0_ : List Value} {x0 : Bool × (List UInt32) × (List UInt32)} (h0_ : Rp.rep S c0_ x0) {v1_ : Value} {x1 : List UInt32} (h1_ : RdS S v1_ x1) {r : (Bool × (List UInt32) × (List UInt32))} (hF : r7_Point_Fast_p x0 x1 = some r) :
    Calls Tryz.prog 68 #[.agg c0_.toArray, v1_] w fun e w' => Ext w w' ∧ ∃ (c0' : List Value), e = .returned (.agg c0'.toArray) ∧ Rp.rep (gr S w w') c0' r := by
 refine enter (n := 72) Tryz.func68 rfl rfl rfl ?_
 have H := HS.start hS
 obtain ⟨c1, c2, rfl, g1, g2⟩ := elP h0_
 obtain rfl := elB g1
 obtain ⟨c3, c4, rfl, g3, g4⟩ := elP g2
 obtain ⟨v1, rfl, g5⟩ := elL g3
 obtain ⟨v2, rfl, g6⟩ := elL g4
 unfold r7_Point_Fast_p at hF
 refine sr fun K1 hK1 => p_ofb (a_box (l := ([Value.bool (x0.1)] ++ ([v1] ++ ([v2])))) H rfl) fun w1 b1 H => p_ofb (a_alloc (l := ([Value.bool (false)] ++ ([Value.slice none 0 0] ++ ([Value.slice none 0 0])))) H tz65 rfl) fun w2 b2 H => xk hK1 <| wp_seq_k fun K2 hK2 => sr fun K3 hK3 => p_val (r_field fa65_0 rfl) <| p_val (h_load1 (v := .bool (x0.1)) to4 H rfl (k := 1) rfl rfl) <| xk hK3 ?_
 refine c_split rfl (fun hc1 => ?_) (fun hc1 => ?_)
 ·replace hF := cnd_t hF hc1
  refine sr fun K4 hK4 => p_val (h_load (l := ([Value.bool (x0.1)] ++ ([v1] ++ ([v2])))) tg65 H rfl (k := 1) rfl rfl rfl) <| p_ofs (a_store (k := 0) (l := ([Value.bool (x0.1)] ++ ([v1] ++ ([v2])))) tsz65 H rfl rfl rfl (cells_agg _) rfl (Rp.one (rpP rpB (rpP (rpL g5) (rpL g6)))) rfl) fun w3 H => ?_
  replace H := hsn H
  refine xk hK4 <| wp_ret <| x_ret ?_
  obtain rfl := osi hF
  refine e_1 rfl (qh_cell (l := ([Value.bool (x0.1)] ++ ([v1] ++ ([v2])))) tg65 H rfl (k := 0) rfl rfl rfl) ?_
  exact ⟨H.toExt, _, rfl, Rp.mono (rpP rpB (rpP (rpL g5) (rpL g6))) H.gr⟩
 ·replace hF := cnd_f hF hc1
  refine wp_skip <| xn hK2 <| sr fun K5 hK5 => p_val (r_build (vals := []) (l := ([Value.slice none 0 0] ++ ([Value.slice none 0 0] ++ ([Value.slice none 0 0])))) tb161 rfl rfl) <| p_ofb (a_alloc (l := ([Value.slice none 0 0] ++ ([Value.slice none 0 0] ++ ([Value.slice none 0 0])))) H tz161 rfl) fun w4 b3 H => ?_
  refine p_ofs (a_store (k := 0) (l := ([Value.slice none 0 0] ++ ([Value.slice none 0 0] ++ ([Value.slice none 0 0])))) tsz161 H rfl rfl rfl (cells_agg _) rfl (onz rfl) rfl) fun w5 H => ?_
  replace H := hsn H
  refine xk hK5 <| wp_seq_k fun K6 hK6 => nameF fun m1 k1 => bn hF fun t1 hE1 hF1 => ?_
  have J4 : ∀ (v27 : Value) (v28 : Value) (v29 : Value) (S10 : Mem) (m10 : FM) (w23 : World), (∀ t, has (6 :: 7 :: 8 :: 9 :: rg 14 56 []) t = false → look m10 t = look m1 t) → Mem.le S S10 → HS ⟨S, [], w⟩ S10 w23 [.blk b3 (([v27] ++ ([v28] ++ ([v29])))) 161, .blk b2 (([Value.bool (false)] ++ ([Value.slice none 0 0] ++ ([Value.slice none 0 0])))) 65, .blk b1 (([Value.bool (x0.1)] ++ ([v1] ++ ([v2])))) 65] → RdS S10 v27 t1.1 → RdS S10 v28 t1.2.1 → RdS S10 v29 t1.2.2 → K6 (fr 72 m10) w23 := by
   clear H; intro v27 v28 v29 S10 m10 w23 k11 hle10 H g53 g54 g55
   replace g5 := g5.mono hle10
   replace g6 := g6.mono hle10
   replace h1_ := h1_.mono hle10
   have q22 : look m10 4 = .pointer (some ⟨b2, 0, none⟩) := (k11 4 rfl).trans (k1 4)
   have q23 : look m10 5 = .pointer (some ⟨b3, 0, none⟩) := (k11 5 rfl).trans (k1 5)
   refine hK6 _ _ <| sr fun K24 hK24 => p_val (h_load (l := ([v27] ++ ([v28] ++ ([v29])))) tg161 H q23 (k := 0) rfl rfl rfl) <| bn hF1 fun y7 e7 hF1 => p_call (l := [.agg (([v27] ++ ([v28] ++ ([v29])))).toArray]) is128 rfl <| (r7_long_end_c H.sub (rpP (rpL g53) (rpP (rpL g54) (rpL g55))) e7).mono <| H.yc fun w24 c26 S11 hle11 H g56 => ?_
   replace g5 := g5.mono hle11
   replace g6 := g6.mono hle11
   replace g53 := g53.mono hle11
   replace g54 := g54.mono hle11
   replace g55 := g55.mono hle11
   obtain ⟨c27, c28, rfl, g57, g58⟩ := elP g56
   obtain rfl := elB g57
   obtain ⟨c29, c30, rfl, g59, g60⟩ := elP g58
   obtain ⟨v30, rfl, g61⟩ := elL g59
   obtain ⟨v31, rfl, g62⟩ := elL g60
   refine p_ofs (a_store (k := 1) (l := ([Value.bool (y7.1)] ++ ([v30] ++ ([v31])))) tsz65 H q22 rfl rfl (cells_agg _) rfl (Rp.one (rpP rpB (rpP (rpL g61) (rpL g62)))) rfl) fun w25 H => ?_
   replace H := hsn H
   refine xk hK24 <| wp_ret ?_
   obtain rfl := osi hF1
   refine e_1 rfl (qh_cell (l := ([Value.bool (y7.1)] ++ ([v30] ++ ([v31])))) tg65 H q22 (k := 1) rfl rfl rfl) ?_
   exact ⟨H.toExt, _, rfl, Rp.mono (rpP rpB (rpP (rpL g61) (rpL g62))) H.gr⟩
  refine sr fun K7 hK7 => p_mv (v := v1_) (k1 1) <| p_val (r_lenR' u63 rfl h1_ H.sub) <| p_val (r_mulI rfl rfl) <| p_val (r_subI rfl rfl) <| asI rfl <| xk hK7 <| wp_block <| nameF fun m2 k2 => ?_
  refine bn hE1 fun out1 hL1 hE2 => ?_
  replace H := hsn H
  refine loopI (6 :: 7 :: 8 :: 9 :: rg 18 52 []) (fun (s1 : Int × (List UInt32) × (List UInt32) × (List UInt32)) (m3 : FM) (w6 : World) => ∃ (S1 : Mem) (v3 : Value) (v4 : Value) (v5 : Value), look m3 6 = .int .i64 (s1.1) ∧ Mem.le S S1 ∧ HS ⟨S, [], w⟩ S1 w6 [.blk b3 (([v3] ++ ([v4] ++ ([v5])))) 161, .blk b2 (([Value.bool (false)] ++ ([Value.slice none 0 0] ++ ([Value.slice none 0 0])))) 65, .blk b1 (([Value.bool (x0.1)] ++ ([v1] ++ ([v2])))) 65] ∧ RdS S1 v3 s1.2.1 ∧ RdS S1 v4 s1.2.2.1 ∧ RdS S1 v5 s1.2.2.2) hL1 ⟨_, _, _, _, (k2 6), (Mem.le_refl _), H, RdS.nil, RdS.nil, RdS.nil⟩ ?_
  clear H; intro k4 s1 m3 w6 k3 hI1 o2 hb1 hh1; obtain ⟨S1, v3, v4, v5, q1, hle1, H, g7, g8, g9⟩ := hI1
  replace g5 := g5.mono hle1
  replace g6 := g6.mono hle1
  replace h1_ := h1_.mono hle1
  have q2 : look m3 1 = v1_ := (k3 1 rfl).trans ((k2 1).trans (k1 1))
  have q3 : look m3 2 = .pointer (some ⟨b1, 0, none⟩) := (k3 2 rfl).trans ((k2 2).trans (k1 2))
  have q4 : look m3 4 = .pointer (some ⟨b2, 0, none⟩) := (k3 4 rfl).trans ((k2 4).trans (k1 4))
  have q5 : look m3 5 = .pointer (some ⟨b3, 0, none⟩) := (k3 5 rfl).trans ((k2 5).trans (k1 5))
  unfold r7_Point_Fast_b0 at hb1
  refine wp_seq_k fun K8 hK8 => sr fun K9 hK9 => p_mv q1 <| p_val (r_geqI rfl rfl) <| xk hK9 ?_
  refine c_split rfl (fun hc2 => ?_) (fun hc2 => ?_)
  ·replace hb1 := cnd_t hb1 hc2
   refine wp_skip <| xn hK8 <| wp_seq_k fun K10 hK10 => nameF fun m4 k5 => bn hb1 fun t2 hE3 hF2 => ?_
   have J3 : ∀ (v24 : Value) (v25 : Value) (v26 : Value) (S9 : Mem) (m9 : FM) (w22 : World), (∀ t, has (7 :: 8 :: 9 :: rg 22 48 []) t = false → look m9 t = look m4 t) → Mem.le S1 S9 → HS ⟨S, [], w⟩ S9 w22 [.blk b3 (([v24] ++ ([v25] ++ ([v26])))) 161, .blk b2 (([Value.bool (false)] ++ ([Value.slice none 0 0] ++ ([Value.slice none 0 0])))) 65, .blk b1 (([Value.bool (x0.1)] ++ ([v1] ++ ([v2])))) 65] → RdS S9 v24 t2.1 → RdS S9 v25 t2.2.1 → RdS S9 v26 t2.2.2 → K10 (fr 72 m9) w22 := by
    clear H; intro v24 v25 v26 S9 m9 w22 k10 hle9 H g50 g51 g52
    replace g5 := g5.mono hle9
    replace g6 := g6.mono hle9
    replace h1_ := h1_.mono hle9
    replace g7 := g7.mono hle9
    replace g8 := g8.mono hle9
    replace g9 := g9.mono hle9
    have q17 := (k10 1 rfl).trans ((k5 1).trans q2)
    have q18 := (k10 2 rfl).trans ((k5 2).trans q3)
    have q19 := (k10 4 rfl).trans ((k5 4).trans q4)
    have q20 := (k10 5 rfl).trans ((k5 5).trans q5)
    have q21 := (k10 6 rfl).trans ((k5 6).trans q1)
    refine hK10 _ _ <| wp_region_lit <| p_mv q21 <| p_val (r_subI rfl rfl) <| asI rfl <| wpList_nil <| x_norm ?_
    replace H := hsn H
    obtain rfl := osi hF2
    exact ⟨((w64 (s1.1 - 1)), t2.1, t2.2.1, t2.2.2), _, rfl, (kS k10 rfl (kN k5 (kS k3 rfl kcx))), ⟨_, _, _, _, rfl, (Mem.le_trans hle1 hle9), H, g50, g51, g52⟩, hh1⟩
   refine wp_block <| wp_seq_k fun K11 hK11 => nameF fun m5 k6 => bn hE3 fun t3 hE4 hF3 => ?_
   have J2 : ∀ (v9 : Value) (v10 : Value) (v11 : Value) (S3 : Mem) (m6 : FM) (w9 : World), (∀ t, has (rg 22 6 []) t = false → look m6 t = look m5 t) → Mem.le S1 S3 → HS ⟨S, [], w⟩ S3 w9 [.blk b3 (([v9] ++ ([v10] ++ ([v11])))) 161, .blk b2 (([Value.bool (false)] ++ ([Value.slice none 0 0] ++ ([Value.slice none 0 0])))) 65, .blk b1 (([Value.bool (x0.1)] ++ ([v1] ++ ([v2])))) 65] → RdS S3 v9 t3.1 → RdS S3 v10 t3.2.1 → RdS S3 v11 t3.2.2 → K11 (fr 72 m6) w9 := by
    clear H; intro v9 v10 v11 S3 m6 w9 k7 hle3 H g18 g19 g20
    replace g5 := g5.mono hle3
    replace g6 := g6.mono hle3
    replace h1_ := h1_.mono hle3
    replace g7 := g7.mono hle3
    replace g8 := g8.mono hle3
    replace g9 := g9.mono hle3
    have q6 := (k7 1 rfl).trans ((k6 1).trans ((k5 1).trans q2))
    have q7 := (k7 2 rfl).trans ((k6 2).trans ((k5 2).trans q3))
    have q8 := (k7 4 rfl).trans ((k6 4).trans ((k5 4).trans q4))
    have q9 := (k7 5 rfl).trans ((k6 5).trans ((k5 5).trans q5))
    have q10 := (k7 6 rfl).trans ((k6 6).trans ((k5 6).trans q1))
    refine hK11 _ _ <| wp_seq_k fun K13 hK13 => sr fun K14 hK14 => p_mv (v := v1_) q6 <| p_mv q10 <| p_val (r_quo (r := w64 (Int.tdiv s1.1 16)) rfl rfl (by decide) rfl) <| bn hF3 fun y2 e2 hF3 => ?_
    obtain ⟨b4, o5, N1, c10, cs1, hv1, hi1, hc4, hr1⟩ := h1_.get (idx_some e2).2
    refine p_val (r_addrV (i := ((w64 (Int.tdiv s1.1 16)) : Int).toNat) u63 tsz107 rfl hv1 rfl (idx_some e2).1 hi1) ?_
    obtain rfl := elU32 hr1
    refine p_val (s_load1 (p := (o5 + ((w64 (Int.tdiv s1.1 16)) : Int).toNat * 1)) (o := 0) (v := .int .u32 (((y2).toNat : Int))) to107 H.sub rfl hc4 rfl) <| p_mv q10 <| p_val (r_rem (r := Int.tmod s1.1 16) rfl rfl (by decide) rfl) <| bn hF3 fun y3 e3 hF3 => p_val (r_shr rfl rfl (Int.not_lt.2 (of_decide_eq_true (chk_some e3))) (i32_shr _ _)) ?_
    refine p_val (r_bits (bo := .and) (by simp) rfl rfl (i32_and _ (1 : UInt32))) <| p_val (r_eqlI rfl rfl) <| xk hK14 ?_
    refine c_split rfl (fun hc5 => ?_) (fun hc5 => ?_)
    ·replace hF3 := cnd_t hF3 hc5
     refine wp_exit <| x_exit <| b_hit <| x_norm ?_
     replace H := hsn H
     obtain rfl := osi hF3
     exact J3 _ _ _ _ _ _ (kS k7 rfl (kN k6 kcx)) hle3 H g18 g19 g20
    ·replace hF3 := cnd_f hF3 hc5
     refine wp_skip <| xn hK13 <| wp_seq_k fun K15 hK15 => sr fun K16 hK16 => p_val (r_field fa161_2 q9) <| p_val (h_load1 (v := v11) to63 H rfl (k := 0) rfl rfl) <| p_val (r_lenR' u63 rfl g20 H.sub) <| p_val (r_eqlI rfl rfl) <| xk hK16 ?_
     refine c_split rfl (fun hc6 => ?_) (fun hc6 => ?_)
     ·replace hF3 := cnd_t hF3 hc6
      refine sr fun K17 hK17 => p_val (r_field fa65_1 q7) <| p_val (h_load1 (v := v1) to63 H rfl (k := 2) rfl rfl) <| p_val (r_field fa65_2 q7) <| p_val (h_load1 (v := v2) to63 H rfl (k := 2) rfl rfl) <| p_of2 (a_bsliceG (N := 1) (xs := ([(1 : UInt32)] : List UInt32)) (RL.cons (rpU32c (x := (1 : UInt32)) rfl) RL.nil) tn63 H rfl rfl rfl) fun w10 v12 cs2 H g21 => ?_
      replace H := hsn H
      obtain ⟨S4, hle4, g22, H1⟩ := H.fixX (k := 0) rfl g21; clear H; have H := H1; clear H1
      replace g5 := g5.mono hle4
      replace g6 := g6.mono hle4
      replace h1_ := h1_.mono hle4
      replace g18 := g18.mono hle4
      replace g19 := g19.mono hle4
      replace g20 := g20.mono hle4
      replace H := hsn H
      refine p_val (r_build (vals := [(0, v1), (1, v2), (2, v12)]) (l := ([v1] ++ ([v2] ++ ([v12])))) tb161 rfl (by simp only [fillL, lkp, RdS.cells g5, RdS.cells g6, RdS.cells g22]; rfl)) ?_
      refine p_ofs (a_store (k := 0) (l := ([v1] ++ ([v2] ++ ([v12])))) tsz161 H q9 rfl rfl (cells_agg _) rfl (Rp.one (rpP (rpL g5) (rpP (rpL g6) (rpL g22)))) rfl) fun w11 H => ?_
      replace H := hsn H
      refine xk hK17 <| wp_exit <| x_exit <| b_hit <| x_norm ?_
      replace H := hsn H
      obtain rfl := osi hF3
      exact J3 _ _ _ _ _ _ (kS k7 rfl (kN k6 kcx)) (Mem.le_trans hle3 hle4) H g5 g6 g22
     ·replace hF3 := cnd_f hF3 hc6
      refine wp_skip <| xn hK15 <| sr fun K18 hK18 => p_val (h_load (l := ([v9] ++ ([v10] ++ ([v11])))) tg161 H q9 (k := 0) rfl rfl rfl) <| p_val (h_load (l := ([Value.bool (x0.1)] ++ ([v1] ++ ([v2])))) tg65 H q7 (k := 2) rfl rfl rfl) <| bn hF3 fun y4 e4 hF3 => p_call (l := [.agg (([v9] ++ ([v10] ++ ([v11])))).toArray, .agg (([Value.bool (x0.1)] ++ ([v1] ++ ([v2])))).toArray]) is127 rfl ?_
      refine (r7_long_more_c H.sub (rpP (rpL g18) (rpP (rpL g19) (rpL g20))) (rpP rpB (rpP (rpL g5) (rpL g6))) e4).mono <| H.yc fun w12 c11 S5 hle5 H g23 => ?_
      replace g5 := g5.mono hle5
      replace g6 := g6.mono hle5
      replace h1_ := h1_.mono hle5
      replace g18 := g18.mono hle5
      replace g19 := g19.mono hle5
      replace g20 := g20.mono hle5
      obtain ⟨c12, c13, rfl, g24, g25⟩ := elP g23
      obtain ⟨v13, rfl, g26⟩ := elL g24
      obtain ⟨c14, c15, rfl, g27, g28⟩ := elP g25
      obtain ⟨v14, rfl, g29⟩ := elL g27
      obtain ⟨v15, rfl, g30⟩ := elL g28
      refine mvU rfl <| p_val (r_extract (v := .agg (([v13] ++ ([v14] ++ ([v15])))).toArray) rfl rfl) <| p_val (r_extract (v := .bool (y4.2)) rfl rfl) <| p_ofb (a_alloc (l := ([Value.slice none 0 0] ++ ([Value.slice none 0 0] ++ ([Value.slice none 0 0])))) H tz161 rfl) fun w13 b5 H => ?_
      refine p_ofs (a_store (k := 0) (l := ([v13] ++ ([v14] ++ ([v15])))) tsz161 H rfl rfl rfl (cells_agg _) rfl (Rp.one (rpP (rpL g26) (rpP (rpL g29) (rpL g30)))) rfl) fun w14 H => ?_
      replace H := hsn H
      refine asB rfl <| xk hK18 <| wp_seq_k fun K19 hK19 => nameF fun m7 k8 => bn hF3 fun t4 hE5 hF4 => ?_
      have J1 : ∀ (v21 : Value) (v22 : Value) (v23 : Value) (S8 : Mem) (m8 : FM) (w20 : World), (∀ t, has (9 :: rg 54 15 []) t = false → look m8 t = look m7 t) → Mem.le S5 S8 → HS ⟨S, [], w⟩ S8 w20 [.blk b5 (([v21] ++ ([v22] ++ ([v23])))) 161, .blk b3 (([v9] ++ ([v10] ++ ([v11])))) 161, .blk b2 (([Value.bool (false)] ++ ([Value.slice none 0 0] ++ ([Value.slice none 0 0])))) 65, .blk b1 (([Value.bool (x0.1)] ++ ([v1] ++ ([v2])))) 65] → RdS S8 v21 t4.1 → RdS S8 v22 t4.2.1 → RdS S8 v23 t4.2.2 → K19 (fr 72 m8) w20 := by
       clear H; intro v21 v22 v23 S8 m8 w20 k9 hle8 H g47 g48 g49
       replace g5 := g5.mono hle8
       replace g6 := g6.mono hle8
       replace h1_ := h1_.mono hle8
       replace g18 := g18.mono hle8
       replace g19 := g19.mono hle8
       replace g20 := g20.mono hle8
       replace g26 := g26.mono hle8
       replace g29 := g29.mono hle8
       replace g30 := g30.mono hle8
       have q11 := (k9 1 rfl).trans ((k8 1).trans q6)
       have q12 := (k9 2 rfl).trans ((k8 2).trans q7)
       have q13 := (k9 4 rfl).trans ((k8 4).trans q8)
       have q14 := (k9 5 rfl).trans ((k8 5).trans q9)
       have q15 := (k9 6 rfl).trans ((k8 6).trans q10)
       have q16 : look m8 7 = .pointer (some ⟨b5, 0, none⟩) := (k9 7 rfl).trans (k8 7)
       refine hK19 _ _ <| wp_region_lit <| p_val (h_load (l := ([v21] ++ ([v22] ++ ([v23])))) tg161 H q16 (k := 0) rfl rfl rfl) <| p_ofs (a_store (k := 1) (l := ([v21] ++ ([v22] ++ ([v23])))) tsz161 H q14 rfl rfl (cells_agg _) rfl (Rp.one (rpP (rpL g47) (rpP (rpL g48) (rpL g49)))) rfl) fun w21 H => ?_
       replace H := hsn H
       refine wpList_nil <| b_norm <| x_norm ?_
       replace H := H.sel [1, 2, 3] rfl
       replace H := hsn H
       obtain rfl := osi hF4
       exact J3 _ _ _ _ _ _ (kS k9 rfl (kN k8 (kS k7 rfl (kN k6 kcx)))) (Mem.le_trans hle3 (Mem.le_trans hle5 hle8)) H g47 g48 g49
      refine sr fun K20 hK20 => p_mv (k8 8) <| p_val (r_not (t := (!y4.2)) rfl rfl) <| xk hK20 ?_
      refine c_split rfl (fun hc7 => ?_) (fun hc7 => ?_)
      ·replace hE5 := cnd_t hE5 hc7
       refine wp_seq_k fun K21 hK21 => bn hE5 fun y5 e5 hE5 => bn hE5 fun y6 e6 hE5 => ?_
       apply wp_region_ext 5 (kindsF [(1, .inr (fun g w' => ∃ c0', g.v = .agg c0'.toArray ∧ Rp.rep (gf S5 w14.drew g.f w') c0' y5)), (3, .inr (fun g w' => ∃ c0', g.v = .agg c0'.toArray ∧ Rp.rep (gf S5 w14.drew g.f w') c0' y6)), (4, .inr (lowR (NewAt w14.drew (([Value.bool (false)] ++ ([Value.slice none 0 0] ++ ([Value.slice none 0 0])))) 65)))]) rfl rfl (by kernel_rfl); intro vs1
       simp only [tkS, tkZ, drS, drZ]
       replace H := H.drew
       refine t_v (fun w hx => h_load (l := ([v9] ++ ([v10] ++ ([v11])))) tg161 (H.ext hx) ((k8 5).trans q9) (k := 1) rfl rfl rfl) ?_
       refine t_callF (l := [.agg (([v9] ++ ([v10] ++ ([v11])))).toArray]) rfl rfl (fun _ _ _ ⟨c0', e, h0⟩ hx => ⟨c0', e, Rp.mono h0 (gf_mono hx)⟩) is128 rfl (fun w hx hF => (r7_long_end_c (gf_sub H.sub hx) (rpP (rpL (g18.mono (gf_le H.sub))) (rpP (rpL (g19.mono (gf_le H.sub))) (rpL (g20.mono (gf_le H.sub))))) e5).mono (fun _ w' ⟨hx2, c0', he, h0⟩ => ⟨_, he, hx2, c0', rfl, Rp.mono h0 (gr_gf hx hx2)⟩)) ?_
       refine t_v (fun w hx => h_load (l := ([Value.bool (x0.1)] ++ ([v1] ++ ([v2])))) tg65 (H.ext hx) ((k8 2).trans q7) (k := 3) rfl rfl rfl) ?_
       refine t_callF (l := [(vs1 1).v, .agg (([Value.bool (x0.1)] ++ ([v1] ++ ([v2])))).toArray]) rfl rfl (fun _ _ _ ⟨c0', e, h0⟩ hx => ⟨c0', e, Rp.mono h0 (gf_mono hx)⟩) is66 rfl (fun w hx hF => by obtain ⟨c0_, e0_, h0_⟩ := (fact_relF hF 1 rfl rfl); rw [e0_]; exact (r7_Point_Sum_c (gf_sub H.sub hx) (Rp.mono h0_ (dep_of hF 1 rfl rfl)) (rpP rpB (rpP (rpL (g5.mono (gf_le H.sub))) (rpL (g6.mono (gf_le H.sub))))) e6).mono (fun _ w' ⟨hx2, c0', he, h0⟩ => ⟨_, he, hx2, c0', rfl, Rp.mono h0 (gr_gf hx hx2)⟩)) ?_
       refine t_alloc rfl rfl tz65 rfl ?_
       refine t_nil (fun w15 hx hF hA => ?_)
       obtain ⟨F1, hd1, h01⟩ := depE hF
       obtain ⟨c16, eq1, g31⟩ := fact_relF hF 1 rfl rfl
       replace g31 := Rp.mono g31 (hd1 1 rfl rfl)
       obtain ⟨c17, eq2, g32⟩ := fact_relF hF 3 rfl rfl
       replace g32 := Rp.mono g32 (hd1 3 rfl rfl)
       obtain ⟨⟨b6, eq3, hb2, hh2⟩, hn1⟩ := fact_relF hF 4 rfl rfl
       have hle6 := gf_le (F := F1) (w := w15) H.sub; replace H := (HS.adopt (H.callF (F := F1) hx) (Nat.le_trans H.fr.size hb2) (gf_none hb2 (by rw [h01]; exact noF hA (by decide) rfl eq3 hn1)) hh2 (HS.keys_lt H hb2)); clear hx hF hA hd1 h01; generalize gf S5 w14.drew F1 w15 = S6 at hle6 H g31 g32
       replace g5 := g5.mono hle6
       replace g6 := g6.mono hle6
       replace h1_ := h1_.mono hle6
       replace g18 := g18.mono hle6
       replace g19 := g19.mono hle6
       replace g20 := g20.mono hle6
       replace g26 := g26.mono hle6
       replace g29 := g29.mono hle6
       replace g30 := g30.mono hle6
       obtain ⟨c18, c19, rfl, g33, g34⟩ := elP g31
       obtain rfl := elB g33
       obtain ⟨c20, c21, rfl, g35, g36⟩ := elP g34
       obtain ⟨v16, rfl, g37⟩ := elL g35
       obtain ⟨v17, rfl, g38⟩ := elL g36
       obtain ⟨c22, c23, rfl, g39, g40⟩ := elP g32
       obtain rfl := elB g39
       obtain ⟨c24, c25, rfl, g41, g42⟩ := elP g40
       obtain ⟨v18, rfl, g43⟩ := elL g41
       obtain ⟨v19, rfl, g44⟩ := elL g42
       refine p_ofs (a_store (k := 0) (l := ([Value.bool (y6.1)] ++ ([v18] ++ ([v19])))) tsz65 H eq3 rfl eq2 (cells_agg _) rfl (Rp.one (rpP rpB (rpP (rpL g43) (rpL g44)))) rfl) fun w16 H => ?_
       replace H := hsn H
       refine wpList_nil ?_; refine on_norm ?_
       refine xn hK21 <| sr fun K22 hK22 => p_val (r_field fa65_1 eq3) <| p_val (h_load1 (v := v18) to63 H rfl (k := 0) rfl rfl) <| p_val (r_field fa65_2 eq3) <| p_val (h_load1 (v := v19) to63 H rfl (k := 0) rfl rfl) <| p_of2 (a_bsliceG (N := 1) (xs := ([(1 : UInt32)] : List UInt32)) (RL.cons (rpU32c (x := (1 : UInt32)) rfl) RL.nil) tn63 H rfl rfl rfl) fun w17 v20 cs3 H g45 => ?_
       replace H := hsn H
       obtain ⟨S7, hle7, g46, H1⟩ := H.fixX (k := 0) rfl g45; clear H; have H := H1; clear H1
       replace g5 := g5.mono hle7
       replace g6 := g6.mono hle7
       replace h1_ := h1_.mono hle7
       replace g18 := g18.mono hle7
       replace g19 := g19.mono hle7
       replace g20 := g20.mono hle7
       replace g26 := g26.mono hle7
       replace g29 := g29.mono hle7
       replace g30 := g30.mono hle7
       replace g43 := g43.mono hle7
       replace g44 := g44.mono hle7
       replace H := hsn H
       refine p_val (r_build (vals := [(0, v18), (1, v19), (2, v20)]) (l := ([v18] ++ ([v19] ++ ([v20])))) tb161 rfl (by simp only [fillL, lkp, RdS.cells g43, RdS.cells g44, RdS.cells g46]; rfl)) ?_
       refine p_ofs (a_store (k := 1) (l := ([v18] ++ ([v19] ++ ([v20])))) tsz161 H (k8 7) rfl rfl (cells_agg _) rfl (Rp.one (rpP (rpL g43) (rpP (rpL g44) (rpL g46)))) rfl) fun w18 H => ?_
       replace H := hsn H
       refine xk hK22 <| sr fun K23 hK23 => p_val (r_field fa65_0 eq3) <| p_val (h_load1 (v := .bool (y6.1)) to4 H rfl (k := 0) rfl rfl) <| xk hK23 ?_
       refine c_split rfl (fun hc8 => ?_) (fun hc8 => ?_)
       ·replace hE5 := cnd_t hE5 hc8
        refine wp_region_lit <| p_val (r_build (vals := []) (l := ([Value.slice none 0 0] ++ ([Value.slice none 0 0] ++ ([Value.slice none 0 0])))) tb161 rfl rfl) <| p_ofs (a_store (k := 1) (l := ([Value.slice none 0 0] ++ ([Value.slice none 0 0] ++ ([Value.slice none 0 0])))) tsz161 H (k8 7) rfl rfl (cells_agg _) rfl (onz rfl) rfl) fun w19 H => ?_
        replace H := hsn H
        refine wpList_nil <| x_norm ?_
        replace H := H.sel [1, 2, 3, 4] rfl
        replace H := hsn H
        obtain rfl := osi hE5
        exact J1 _ _ _ _ _ _ kcx (Mem.le_trans hle6 hle7) H RdS.nil RdS.nil RdS.nil
       ·replace hE5 := cnd_f hE5 hc8
        refine wp_skip <| x_norm ?_
        replace H := H.sel [1, 2, 3, 4] rfl
        replace H := hsn H
        obtain rfl := osi hE5
        exact J1 _ _ _ _ _ _ kcx (Mem.le_trans hle6 hle7) H g43 g44 g46
      ·replace hE5 := cnd_f hE5 hc7
       refine wp_skip <| x_norm ?_
       replace H := hsn H
       obtain rfl := osi hE5
       exact J1 _ _ _ _ _ _ kcx (Mem.le_refl _) H g26 g29 g30
   refine sr fun K12 hK12 => p_val (r_field fa161_2 ((k6 5).trans ((k5 5).trans q5))) <| p_val (h_load1 (v := v5) to63 H rfl (k := 0) rfl rfl) <| p_val (r_lenR' u63 rfl g9 H.sub) <| p_val (r_gtrI rfl rfl) <| xk hK12 ?_
   refine c_split rfl (fun hc3 => ?_) (fun hc3 => ?_)
   ·replace hE4 := cnd_t hE4 hc3
    refine wp_region_lit <| p_val (h_load (l := ([v3] ++ ([v4] ++ ([v5])))) tg161 H ((k6 5).trans ((k5 5).trans q5)) (k := 0) rfl rfl rfl) <| bn hE4 fun y1 e1 hE4 => p_call (l := [.agg (([v3] ++ ([v4] ++ ([v5])))).toArray]) is126 rfl <| (r7_long_twice_c H.sub (rpP (rpL g7) (rpP (rpL g8) (rpL g9))) e1).mono <| H.yc fun w7 c5 S2 hle2 H g10 => ?_
    replace g5 := g5.mono hle2
    replace g6 := g6.mono hle2
    replace h1_ := h1_.mono hle2
    replace g7 := g7.mono hle2
    replace g8 := g8.mono hle2
    replace g9 := g9.mono hle2
    obtain ⟨c6, c7, rfl, g11, g12⟩ := elP g10
    obtain ⟨v6, rfl, g13⟩ := elL g11
    obtain ⟨c8, c9, rfl, g14, g15⟩ := elP g12
    obtain ⟨v7, rfl, g16⟩ := elL g14
    obtain ⟨v8, rfl, g17⟩ := elL g15
    refine p_ofs (a_store (k := 0) (l := ([v6] ++ ([v7] ++ ([v8])))) tsz161 H ((k6 5).trans ((k5 5).trans q5)) rfl rfl (cells_agg _) rfl (Rp.one (rpP (rpL g13) (rpP (rpL g16) (rpL g17)))) rfl) fun w8 H => ?_
    replace H := hsn H
    refine wpList_nil <| x_norm ?_
    replace H := hsn H
    obtain rfl := osi hE4
    exact J2 _ _ _ _ _ _ kcx hle2 H g13 g16 g17
   ·replace hE4 := cnd_f hE4 hc3
    refine wp_skip <| x_norm ?_
    replace H := hsn H
    obtain rfl := osi hE4
    exact J2 _ _ _ _ _ _ kcx (Mem.le_refl _) H g7 g8 g9
  ·replace hb1 := cnd_f hb1 hc2
   refine wp_exit <| x_exit <| x_exit <| b_hit <| x_norm ?_
   replace H := hsn H
   obtain rfl := osi hb1
   obtain rfl := osi hh1
   obtain rfl := osi hE2
   exact J4 _ _ _ _ _ _ (kS k3 rfl (kN k2 kcx)) hle1 H g7 g8 g9
end Go.Proofs.YtmbcolbbekbccaaGreat
namespace Go.Proofs.YtmbcolbbekbccaaGreat
open Go Go.RowKit
attribute [local irreducible] wpList wpT Code.wp Calls Code.rounds
theorem is37 : IsFn Tryz.prog 37 := isFn Tryz.func37
theorem is58 : IsFn Tryz.prog 58 := isFn Tryz.func58
theorem is67 : IsFn Tryz.prog 67 := isFn Tryz.func67
theorem is68 : IsFn Tryz.prog 68 := isFn Tryz.func68
theorem is83 : IsFn Tryz.prog 83 := isFn Tryz.func83
def r8_fine_p (x0 : List UInt32) : Option (Bool) :=
  Option.bind (r6_Cmp_p x0 ([] : List UInt32)) fun y1 => Option.bind (bif decide ((0 : Int) < y1) then (Option.bind (r6_Modulus_p 1) fun y2 => Option.bind (r6_Cmp_p x0 y2) fun y3 => some (decide (y3 < 0))) else (some (false))) (fun t1 => some (t1))
theorem r8_fine_c {S : Mem} {w : World} (hS : Sub S w) {v0_ : Value} {x0 : List UInt32} (h0_ : RdS S v0_ x0) {r : Bool} (hF : r8_fine_p x0 = some r) :
    Calls Tryz.prog 58 #[v0_] w fun e w' => e = .returned (.bool (r)) ∧ Ext w w' := by
 refine enter (n := 13) Tryz.func58 rfl rfl rfl ?_
 have H := HS.start hS
 unfold r8_fine_p at hF
 refine sr fun K1 hK1 => asB rfl <| xk hK1 <| sr fun K2 hK2 => p_mv (v := v0_) rfl ?_
 have g1 : RL S ([] : List Value) ([] : List UInt32) := RL.nil
 refine p_of1 (a_bslice (N := 0) (vals := []) (l := ([] : List Value)) tn63 H rfl rfl rfl g1.len) fun w1 v1 H => ?_
 replace H := hsn H
 refine bn hF fun y1 e1 hF => p_call (l := [v0_, v1]) is69 rfl <| (r6_Cmp_c (subMem w1) (h0_.mono H.sub) (RdS.ofOwn H (k := 0) rfl g1) e1).mono <| H.xe fun w2 H => p_val (r_gtrI rfl rfl) <| mvB rfl <| nameL fun m1 k1 => gs_at 5 fun K3 hK3 R2 hR2 => bn hF fun t1 hE1 hF1 => ?_
 have J1 : ∀ (S2 : Mem) (m2 : FM) (w5 : World), (∀ t, has [8, 9, 10, 11, 12] t = false → look m2 t = look m1 t) → look m2 12 = .bool (t1) → Mem.le S S2 → HS ⟨S, [], w⟩ S2 w5 [.osl (v1) (([] : List UInt32)).length 1 ([] : List Value) [] 107] → K3 m2 w5 := by
  clear H; intro S2 m2 w5 k2 q1 hle2 H
  replace h0_ := h0_.mono hle2
  replace g1 := g1.mono hle2
  refine hK3 _ _ <| p_as q1 <| xk hK2 <| wp_ret ?_
  obtain rfl := osi hF1
  refine e_1 rfl (q_tmp rfl) ?_
  exact ⟨rfl, H.toExt⟩
 refine p_gs (j := 4) (gvl_at rfl rfl (k1 7)) (fun hb1 => ?_) (fun hb1 => ?_)
 ·replace hE1 := cnd_t hE1 hb1
  refine p_want (gvl_at rfl rfl (k1 7)) hb1 <| p_mv (v := v0_) (k1 0) <| p_want (gvl_at rfl rfl (k1 7)) hb1 <| bn hE1 fun y2 e2 hE1 => p_call (l := [.int .i64 (1)]) is71 rfl <| (r6_Modulus_c H.sub e2).mono <| H.ye fun w3 v2 S1 hle1 H g2 => ?_
  replace h0_ := h0_.mono hle1
  replace g1 := g1.mono hle1
  refine p_want (gvl_at rfl rfl (k1 7)) hb1 <| bn hE1 fun y3 e3 hE1 => p_call (l := [v0_, v2]) is69 rfl <| (r6_Cmp_c H.sub h0_ g2 e3).mono <| H.xe fun w4 H => p_want (gvl_at rfl rfl (k1 7)) hb1 <| p_val (r_lssI rfl rfl) <| p_val (r_pickt (v := .bool (decide (y3 < 0))) (k1 7) hb1 rfl) <| hR2 _ _ ?_
  replace H := hsn H
  obtain rfl := osi hE1
  exact J1 _ _ _ kcx rfl hle1 H
 ·replace hE1 := cnd_f hE1 hb1
  refine p_skip (gvl_at rfl rfl (k1 7)) hb1 ?_
  rw [put_fr]
  refine p_skip (gvl_at rfl rfl (k1 7)) hb1 ?_
  rw [put_fr]
  refine p_skip (gvl_at rfl rfl (k1 7)) hb1 ?_
  rw [put_fr]
  refine p_skip (gvl_at rfl rfl (k1 7)) hb1 ?_
  rw [put_fr]
  refine p_val (r_pickf (v := .bool (false)) (k1 7) hb1 rfl) <| hR2 _ _ ?_
  replace H := hsn H
  obtain rfl := osi hE1
  exact J1 _ _ _ kcx rfl (Mem.le_refl _) H
def r8_Point_p (x0 : List UInt32) : Option ((Bool × (List UInt32) × (List UInt32))) :=
  Option.bind (r7_Base_p) fun y1 => Option.bind (r7_In_p y1) fun y2 => Option.bind (r7_Point_Fast_p y2 x0) fun y3 => some (y3)
theorem r8_Point_c {S : Mem} {w : World} (hS : Sub S w) {v0_ : Value} {x0 : List UInt32} (h0_ : RdS S v0_ x0) {r : (Bool × (List UInt32) × (List UInt32))} (hF : r8_Point_p x0 = some r) :
    Calls Tryz.prog 37 #[v0_] w fun e w' => Ext w w' ∧ ∃ (c0' : List Value), e = .returned (.agg c0'.toArray) ∧ Rp.rep (gr S w w') c0' r := by
 refine enter (n := 7) Tryz.func37 rfl rfl rfl ?_
 have H := HS.start hS
 unfold r8_Point_p at hF
 refine sr fun K1 hK1 => p_ofb (a_alloc (l := ([Value.bool (false)] ++ ([Value.slice none 0 0] ++ ([Value.slice none 0 0])))) H tz65 rfl) fun w1 b1 H => xk hK1 <| sr fun K2 hK2 => bn hF fun y1 e1 hF => p_call (l := []) is83 rfl <| (r7_Base_c H.sub e1).mono <| H.xe fun w2 H => bn hF fun y2 e2 hF => p_call (l := [.agg ((cl26 y1)).toArray]) is67 rfl ?_
 refine (r7_In_c H.sub e2).mono <| H.yc fun w3 c1 S1 hle1 H g1 => ?_
 replace h0_ := h0_.mono hle1
 obtain ⟨c2, c3, rfl, g2, g3⟩ := elP g1
 obtain rfl := elB g2
 obtain ⟨c4, c5, rfl, g4, g5⟩ := elP g3
 obtain ⟨v1, rfl, g6⟩ := elL g4
 obtain ⟨v2, rfl, g7⟩ := elL g5
 refine p_mv (v := v0_) rfl <| bn hF fun y3 e3 hF => p_call (l := [.agg (([Value.bool (y2.1)] ++ ([v1] ++ ([v2])))).toArray, v0_]) is68 rfl <| (r7_Point_Fast_c H.sub (rpP rpB (rpP (rpL g6) (rpL g7))) h0_ e3).mono <| H.yc fun w4 c6 S2 hle2 H g8 => ?_
 replace h0_ := h0_.mono hle2
 replace g6 := g6.mono hle2
 replace g7 := g7.mono hle2
 obtain ⟨c7, c8, rfl, g9, g10⟩ := elP g8
 obtain rfl := elB g9
 obtain ⟨c9, c10, rfl, g11, g12⟩ := elP g10
 obtain ⟨v3, rfl, g13⟩ := elL g11
 obtain ⟨v4, rfl, g14⟩ := elL g12
 refine p_ofs (a_store (k := 0) (l := ([Value.bool (y3.1)] ++ ([v3] ++ ([v4])))) tsz65 H rfl rfl rfl (cells_agg _) rfl (Rp.one (rpP rpB (rpP (rpL g13) (rpL g14)))) rfl) fun w5 H => ?_
 replace H := hsn H
 refine xk hK2 <| wp_ret ?_
 obtain rfl := osi hF
 refine e_1 rfl (qh_cell (l := ([Value.bool (y3.1)] ++ ([v3] ++ ([v4])))) tg65 H rfl (k := 0) rfl rfl rfl) ?_
 exact ⟨H.toExt, _, rfl, Rp.mono (rpP rpB (rpP (rpL g13) (rpL g14))) H.gr⟩
end Go.Proofs.YtmbcolbbekbccaaGreat
namespace Go.Proofs.YtmbcolbbekbccaaGreat
open Go Go.RowKit
attribute [local irreducible] wpList wpT Code.wp Calls Code.rounds
def r6_Read_b0 (x0 : List UInt8) (s1 : Int × (List UInt32)) : Option ((Int × (List UInt32)) ⊕ ((List UInt32))) :=
  bif decide ((0 : Int) ≤ s1.1) then (Option.bind (bif ((Int.tmod (w64 ((w64 (((x0).length : Int) - 1)) - s1.1)) 2) == 0) then (Option.bind (app s1.2 ([(0 : UInt32)] : List UInt32)) fun y1 => some (y1)) else (some (s1.2))) (fun t2 => Option.bind (idx t2 (w64 (Int.tdiv (w64 ((w64 (((x0).length : Int) - 1)) - s1.1)) 2))) fun y2 => Option.bind (idx x0 s1.1) fun y3 => Option.bind (chk (decide (0 ≤ (w64 ((8 : Int) * (Int.tmod (w64 ((w64 (((x0).length : Int) - 1)) - s1.1)) 2)))))) fun y4 => Option.bind (idx t2 (w64 (Int.tdiv (w64 ((w64 (((x0).length : Int) - 1)) - s1.1)) 2))) fun y5 => Option.bind (setL t2 ((w64 (Int.tdiv (w64 ((w64 (((x0).length : Int) - 1)) - s1.1)) 2)) : Int) (y2 ||| (i32 (shlI .u32 (((i32 ((y3).toNat : Int))).toNat : Int) (w64 ((8 : Int) * (Int.tmod (w64 ((w64 (((x0).length : Int) - 1)) - s1.1)) 2))))))) fun y6 => some (.inl (((w64 (s1.1 - 1)), y6))))) else (some (.inr (s1.2)))
def r6_Read_p (x0 : List UInt8) : Option ((List UInt32)) :=
  Option.bind (Option.bind (iter (r6_Read_b0 x0) (((w64 (((x0).length : Int) - 1)), ([] : List UInt32)))) (fun e => some (e))) (fun t1 => Option.bind (r6_trim_p t1) fun y7 => some (y7))
theorem r6_Read_c {S : Mem} {w : World} (hS : Sub S w) {x0 : List UInt8} {r : (List UInt32)} (hF : r6_Read_p x0 = some r) :
    Calls Tryz.prog 57 #[str (x0)] w fun e w' => Ext w w' ∧ ∃ (v0' : Value), e = .returned (v0') ∧ RdS (gr S w w') v0' r := by
 refine enter (n := 42) Tryz.func57 rfl rfl rfl ?_
 have H := HS.start hS
 unfold r6_Read_p at hF
 refine sr fun K1 hK1 => asN rfl <| xk hK1 <| sr fun K2 hK2 => ?_
 have g1 : RL S ([] : List Value) ([] : List UInt32) := RL.nil
 refine p_of1 (a_bslice (N := 0) (vals := []) (l := ([] : List Value)) tn63 H rfl rfl rfl g1.len) fun w1 v1 H => ?_
 replace H := hsn H
 refine p_as (v := v1) rfl <| xk hK2 <| wp_seq_k fun K3 hK3 => nameF fun m1 k1 => bn hF fun t1 hE1 hF1 => ?_
 have J2 : ∀ (v6 : Value) (cs8 rs4 : List Value) (m6 : FM) (w8 : World), (∀ t, has (3 :: 4 :: 5 :: rg 7 33 []) t = false → look m6 t = look m1 t) → look m6 3 = v6 → HS ⟨S, [], w⟩ S w8 [.osl (v6) (t1).length 1 cs8 rs4 107] → RL S cs8 t1 → K3 (fr 42 m6) w8 := by
  clear H; intro v6 cs8 rs4 m6 w8 k7 q8 H g7
  refine hK3 _ _ <| sr fun K11 hK11 => p_mv (v := v6) q8 ?_
  obtain ⟨S1, hle1, g8, H1⟩ := H.fixX (k := 0) rfl g7; clear H; have H := H1; clear H1
  replace H := hsn H
  refine bn hF1 fun y7 e7 hF1 => p_call (l := [v6]) is84 rfl <| (r6_trim_c H.sub g8 e7).mono <| H.ye fun w9 v7 S2 hle2 H g9 => ?_
  replace g8 := g8.mono hle2
  refine p_as (v := v7) rfl <| xk hK11 <| wp_ret ?_
  obtain rfl := osi hF1
  refine e_1 rfl (q_tmp rfl) ?_
  exact ⟨H.toExt, _, rfl, RdS.mono g9 H.gr⟩
 refine sr fun K4 hK4 => p_mv (k1 0) <| p_val (r_lenT (N := (x0).length) u9 rfl rfl) <| p_val (r_subI rfl rfl) <| asI rfl <| xk hK4 <| wp_block <| nameF fun m2 k2 => bn hE1 fun out1 hL1 hE2 => ?_
 replace H := hsn H
 refine loopI (3 :: 4 :: 5 :: rg 10 30 []) (fun (s1 : Int × (List UInt32)) (m3 : FM) (w2 : World) => ∃ (v2 : Value) (cs2 rs1 : List Value), look m3 3 = v2 ∧ look m3 4 = .int .i64 (s1.1) ∧ HS ⟨S, [], w⟩ S w2 [.osl (v2) (s1.2).length 1 cs2 rs1 107] ∧ RL S cs2 s1.2) hL1 ⟨_, _, _, (show _ = (v1 : Value) from ((k2 3).trans (k1 3))), (k2 4), H, g1⟩ ?_
 clear H; intro k4 s1 m3 w2 k3 hI1 o2 hb1 hh1; obtain ⟨v2, cs2, rs1, q1, q2, H, g2⟩ := hI1
 have q3 : look m3 0 = str (x0) := (k3 0 rfl).trans ((k2 0).trans (k1 0))
 unfold r6_Read_b0 at hb1
 refine wp_seq_k fun K5 hK5 => sr fun K6 hK6 => p_mv q2 <| p_val (r_geqI rfl rfl) <| xk hK6 ?_
 refine c_split rfl (fun hc1 => ?_) (fun hc1 => ?_)
 ·replace hb1 := cnd_t hb1 hc1
  refine wp_skip <| xn hK5 <| wp_seq_k fun K7 hK7 => wp_block <| sr fun K8 hK8 => p_mv q3 <| p_val (r_lenT (N := (x0).length) u9 rfl rfl) <| p_val (r_subI rfl rfl) <| p_mv q2 ?_
  refine p_val (r_subI rfl rfl) <| asI rfl <| xk hK8 <| wp_seq_k fun K9 hK9 => nameF fun m4 k5 => bn hb1 fun t2 hE3 hF2 => ?_
  have J1 : ∀ (v5 : Value) (cs5 rs3 : List Value) (m5 : FM) (w5 : World), (∀ t, has (3 :: rg 19 6 []) t = false → look m5 t = look m4 t) → look m5 3 = v5 → HS ⟨S, [], w⟩ S w5 [.osl (v5) (t2).length 1 cs5 rs3 107] → RL S cs5 t2 → K9 (fr 42 m5) w5 := by
   clear H; intro v5 cs5 rs3 m5 w5 k6 q4 H g5
   have q5 := (k6 0 rfl).trans ((k5 0).trans q3)
   have q6 := (k6 4 rfl).trans ((k5 4).trans q2)
   have q7 : look m5 5 = .int .i64 ((w64 ((w64 (((x0).length : Int) - 1)) - s1.1))) := (k6 5 rfl).trans (k5 5)
   refine hK9 _ _ <| bn hF2 fun y2 e2 hF2 => ?_
   obtain ⟨b1, c1, hv1⟩ := H.ownAt (k := 0) rfl (idx_lt e2)
   subst hv1
   have hr1 := RL.get g5 (idx_some e2).2; generalize hghr1 : piece cs5 _ _ = cs6 at hr1
   obtain rfl := elU32 hr1
   refine bn hF2 fun y3 e3 hF2 => bn hF2 fun y4 e4 hF2 => bn hF2 fun y5 e5 hF2 => ?_
   apply wp_region_ext 15 (kindsF []) rfl rfl (by kernel_rfl); intro vs1
   simp only [tkS, tkZ, drS, drZ]
   replace H := H.drew
   refine tp (r_move (v := (sl b1 0 (t2).length c1)) q4) <| tp (r_move q7) <| tp (r_quo (r := w64 (Int.tdiv (w64 ((w64 (((x0).length : Int) - 1)) - s1.1)) 2)) rfl rfl (by decide) rfl) <| tp (r_addrV (i := ((w64 (Int.tdiv (w64 ((w64 (((x0).length : Int) - 1)) - s1.1)) 2)) : Int).toNat) u63 tsz107 rfl rfl rfl (idx_some e2).1 (idx_lt e2)) ?_
   refine t_v (fun w hx => o_load1 (v := .int .u32 (((y2).toNat : Int))) to107 (H.ext hx) (k := 0) rfl rfl (idx_lt e2) hghr1) <| tp (r_move q5) <| tp (r_move q6) <| tp (r_idxT (i := (s1.1 : Int).toNat) (u := y3) u9 rfl rfl (idx_some e3).1 (idx_some e3).2) <| tp (r_conv u5 u107 rfl (i32_wrap _)) <| tp (r_move q7) ?_
   refine tp (r_rem (r := Int.tmod (w64 ((w64 (((x0).length : Int) - 1)) - s1.1)) 2) rfl rfl (by decide) rfl) <| tp (r_mulI rfl rfl) <| tp (r_shl rfl rfl (Int.not_lt.2 (of_decide_eq_true (chk_some e4))) (i32_shl _ _)) <| tp (r_bits (bo := .or) (by simp) rfl rfl (i32_or _ _)) ?_
   refine tp (r_addrV (i := ((w64 (Int.tdiv (w64 ((w64 (((x0).length : Int) - 1)) - s1.1)) 2)) : Int).toNat) u63 tsz107 rfl (HS.ownV H (k := 0) rfl) rfl (idx_some e5).1 (idx_lt e5)) ?_
   refine t_nil (fun w6 hx hF hA => ?_)
   replace H := H.ext hx; clear hx hF hA
   refine bn hF2 fun y6 e6 hF2 => p_oft (a_storeX (k := 0) (l := [Value.int .u32 ((((y2 ||| (i32 (shlI .u32 (((i32 ((y3).toNat : Int))).toNat : Int) (w64 ((8 : Int) * (Int.tmod (w64 ((w64 (((x0).length : Int) - 1)) - s1.1)) 2))))))).toNat : Int))]) tsz107 rfl H rfl g5 rfl rfl (cells_one rfl) rpU32 e6) fun w7 cs7 H g6 => ?_
   replace H := hsn H
   refine wpList_nil ?_; refine on_norm ?_
   refine b_norm <| xn hK7 <| wp_region_lit <| p_mv q6 <| p_val (r_subI rfl rfl) <| asI rfl <| wpList_nil <| x_norm ?_
   replace H := hsn H
   obtain rfl := osi hF2
   exact ⟨((w64 (s1.1 - 1)), y6), _, rfl, (kS k6 rfl (kN k5 (kS k3 rfl kcx))), ⟨_, _, _, (show _ = (sl b1 0 (t2).length c1 : Value) from q4), rfl, H, g6⟩, hh1⟩
  refine sr fun K10 hK10 => p_mv (k5 5) <| p_val (r_rem (r := Int.tmod (w64 ((w64 (((x0).length : Int) - 1)) - s1.1)) 2) rfl rfl (by decide) rfl) <| p_val (r_eqlI rfl rfl) <| xk hK10 ?_
  refine c_split rfl (fun hc2 => ?_) (fun hc2 => ?_)
  ·replace hE3 := cnd_t hE3 hc2
   refine wp_region_lit <| p_mv (v := v2) ((k5 3).trans q1) <| p_of2 (a_bsliceG (N := 1) (xs := ([(0 : UInt32)] : List UInt32)) (RL.cons (rpU32c (x := (0 : UInt32)) rfl) RL.nil) tn63 H rfl rfl rfl) fun w3 v3 cs3 H g3 => ?_
   replace H := hsn H
   refine bn hE3 fun y1 e1 hE3 => p_of3 (a_appendX (k := 1) (v2 := v3) tn63 rfl H rfl rfl g2 rfl (H.slW (k := 0) rfl) g3 e1) fun w4 v4 cs4 rs2 H g4 => ?_
   replace H := hsn H
   replace H := H.sel [1] rfl
   replace H := hsn H
   refine p_as (v := v4) rfl <| wpList_nil <| x_norm ?_
   replace H := hsn H
   obtain rfl := osi hE3
   exact J1 _ _ _ _ _ kcx rfl H g4
  ·replace hE3 := cnd_f hE3 hc2
   refine wp_skip <| x_norm ?_
   replace H := hsn H
   obtain rfl := osi hE3
   exact J1 _ _ _ _ _ kcx (show _ = (v2 : Value) from ((k5 3).trans q1)) H g2
 ·replace hb1 := cnd_f hb1 hc1
  refine wp_exit <| x_exit <| x_exit <| b_hit <| x_norm ?_
  replace H := hsn H
  obtain rfl := osi hb1
  obtain rfl := osi hh1
  obtain rfl := osi hE2
  exact J2 _ _ _ _ _ (kS k3 rfl (kN k2 kcx)) (show _ = (v2 : Value) from q1) H g2
end Go.Proofs.YtmbcolbbekbccaaGreat
