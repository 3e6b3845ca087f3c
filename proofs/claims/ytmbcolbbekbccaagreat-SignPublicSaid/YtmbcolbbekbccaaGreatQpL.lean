/- What some functions compute, and that they do. Conditions: as each theorem says. -/
import Derived.Test.YtmbcolbbekbccaaGreatQpK
namespace Go.Proofs.YtmbcolbbekbccaaGreat
open Go Go.RowKit
attribute [local irreducible] wpList wpT Code.wp Calls Code.rounds
theorem tg65 : TAgg Tryz.prog 65 3 := ⟨fun _ => by kernel_rfl, fun _ => by kernel_rfl⟩
theorem to63 : TOne Tryz.prog 63 := ⟨fun _ => by kernel_rfl, fun _ => by kernel_rfl⟩
theorem tz65 : TZero Tryz.prog 65 (.agg #[.bool false, .slice none 0 0, .slice none 0 0]) := fun _ => by kernel_rfl
theorem is64 : IsFn Tryz.prog 64 := isFn Tryz.func64 (by kernel_rfl) (by kernel_rfl)
theorem is85 : IsFn Tryz.prog 85 := isFn Tryz.func85 (by kernel_rfl) (by kernel_rfl)
theorem is124 : IsFn Tryz.prog 124 := isFn Tryz.func124 (by kernel_rfl) (by kernel_rfl)
theorem is125 : IsFn Tryz.prog 125 := isFn Tryz.func125 (by kernel_rfl) (by kernel_rfl)
theorem tb65 : TBuild Tryz.prog 65 (.agg #[.bool false, .slice none 0 0, .slice none 0 0]) [(0, 1), (1, 1), (2, 1)] := tbuildS (fs := fieldsOf Tryz.prog 65) (by kernel_rfl) tz65 (fun _ => by kernel_rfl)
theorem fa65_0 : TField Tryz.prog 65 0 0 := fun _ _ _ => by kernel_rfl
theorem fa65_1 : TField Tryz.prog 65 1 1 := fun _ _ _ => by kernel_rfl
theorem fa65_2 : TField Tryz.prog 65 2 2 := fun _ _ _ => by kernel_rfl
theorem tsz65 : TSz Tryz.prog 65 3 := fun _ => by kernel_rfl
def seneschalref07_In_p (x0 : Qp) : Option ((Bool × (List UInt32) × (List UInt32))) :=
  Option.bind (seneschalref06_In_p x0.1) fun y1 => Option.bind (seneschalref06_In_p x0.2.1) fun y2 => some ((x0.2.2, y1, y2))
theorem seneschalref07_In_c {S : Mem} {w : World} (hS : Sub S w) {x0 : Qp} {r : (Bool × (List UInt32) × (List UInt32))} (hF : seneschalref07_In_p x0 = some r) :
    Calls Tryz.prog 67 #[.agg ((cl26 x0)).toArray] w fun e w' => Ext w w' ∧ ∃ (c0' : List Value), e = .returned (.agg c0'.toArray) ∧ Rp.rep (gr S w w') c0' r := by
 refine enter (n := 12) Tryz.func67 rfl rfl rfl ?_
 have H := HS.start hS
 unfold seneschalref07_In_p at hF
 refine sr ?_; intro K1 hK1
 refine p_ofb (a_box (l := (cl26 x0)) H rfl) ?_; clear H; intro w1 b1 H
 refine p_ofb (a_alloc (l := ([Value.bool (false)] ++ ([Value.slice none 0 0] ++ ([Value.slice none 0 0])))) H tz65 rfl) ?_; clear H; intro w2 b2 H
 refine xk hK1 ?_; clear hK1
 refine wp_seq_k ?_; intro K2 hK2
 obtain ⟨y1, e1, hF⟩ := bnd hF
 obtain ⟨y2, e2, hF⟩ := bnd hF
 apply wp_region_ext 9 (kindsF [(4, .inr (fun g w' => RdS (gf S w2.drew g.f w') g.v y1)), (7, .inr (fun g w' => RdS (gf S w2.drew g.f w') g.v y2))]) rfl rfl (by kernel_rfl); intro vs1
 simp only [tkS, tkZ, drS, drZ]
 replace H := H.drew
 refine t_v (fun w hx => r_field fa26_2 rfl) ?_
 refine t_v (fun w hx => h_load1 (v := .bool (x0.2.2)) to4 (H.ext hx) rfl (k := 1) rfl rfl) ?_
 refine t_v (fun w hx => r_field fa26_0 rfl) ?_
 refine t_v (fun w hx => h_load (l := (cl24 x0.1)) tg24 (H.ext hx) rfl (k := 1) rfl rfl rfl) ?_
 refine t_callF (l := [.agg ((cl24 x0.1)).toArray]) rfl rfl (stRd) is38 rfl (fun w hx hF => callRd hx (seneschalref06_In_c (gf_sub H.sub hx) e1)) ?_
 refine t_v (fun w hx => r_field fa26_1 rfl) ?_
 refine t_v (fun w hx => h_load (l := (cl24 x0.2.1)) tg24 (H.ext hx) rfl (k := 1) rfl rfl rfl) ?_
 refine t_callF (l := [.agg ((cl24 x0.2.1)).toArray]) rfl rfl (stRd) is38 rfl (fun w hx hF => callRd hx (seneschalref06_In_c (gf_sub H.sub hx) e2)) ?_
 refine t_valF (fun w hx hF => r_build (vals := [(0, .bool (x0.2.2)), (1, (vs1 4).v), (2, (vs1 7).v)]) (l := ([Value.bool (x0.2.2)] ++ ([(vs1 4).v] ++ ([(vs1 7).v])))) tb65 rfl (by simp only [fillL, lkp, RdS.cells (fact_relF hF 4 rfl rfl), RdS.cells (fact_relF hF 7 rfl rfl)]; rfl)) rfl rfl ?_
 refine t_nil (fun w3 hx hF hA => ?_)
 obtain ⟨F1, hd1, h01⟩ := depE hF
 have g3 := RdS.mono (fact_relF hF 4 rfl rfl) (hd1 4 rfl rfl)
 have g4 := RdS.mono (fact_relF hF 7 rfl rfl) (hd1 7 rfl rfl)
 have hle1 := gf_le (F := F1) (w := w3) H.sub; replace H := H.callF (F := F1) hx; clear hx hF hA hd1 h01; generalize gf S w2.drew F1 w3 = S1 at hle1 H g3 g4
 refine p_ofs (a_store (k := 0) (v := .agg (([Value.bool (x0.2.2)] ++ ([(vs1 4).v] ++ ([(vs1 7).v])))).toArray) (l := ([Value.bool (x0.2.2)] ++ ([(vs1 4).v] ++ ([(vs1 7).v])))) tsz65 H rfl rfl rfl (cells_agg _) rfl (Rp.one (rpP rpB (rpP (rpL g3) (rpL g4)))) rfl) ?_; clear H; intro w4 H
 replace H : HS ⟨S, [], w⟩ S1 w4 [.blk b2 (([Value.bool (x0.2.2)] ++ ([(vs1 4).v] ++ ([(vs1 7).v])))) 65, .blk b1 ((cl26 x0)) 26] := H
 refine wpList_nil ?_; refine on_norm ?_
 refine xn hK2 ?_; clear hK2
 refine wp_ret ?_
 obtain rfl := osi hF
 refine e_1 rfl (qh_cell (l := ([Value.bool (x0.2.2)] ++ ([(vs1 4).v] ++ ([(vs1 7).v])))) tg65 H rfl (k := 0) rfl rfl rfl) ?_
 exact ⟨H.toExt, _, rfl, Rp.mono (rpP rpB (rpP (rpL g3) (rpL g4))) H.gr⟩
def seneschalref07_Point_Out_p (x0 : Bool × (List UInt32) × (List UInt32)) : Option (Qp) :=
  bif x0.1 then (some ((((0 : UInt64), (0 : UInt64), (0 : UInt64), (0 : UInt64)), ((0 : UInt64), (0 : UInt64), (0 : UInt64), (0 : UInt64)), true))) else (Option.bind (seneschalref06_Out_p x0.2.1) fun y1 => Option.bind (seneschalref06_Out_p x0.2.2) fun y2 => some ((y1, y2, false)))
theorem seneschalref07_Point_Out_c {S : Mem} {w : World} (hS : Sub S w) {c0_ : List Value} {x0 : Bool × (List UInt32) × (List UInt32)} (h0_ : Rp.rep S c0_ x0) {r : Qp} (hF : seneschalref07_Point_Out_p x0 = some r) :
    Calls Tryz.prog 39 #[.agg c0_.toArray] w fun e w' => e = .returned (.agg ((cl26 r)).toArray) ∧ Ext w w' := by
 refine enter (n := 13) Tryz.func39 rfl rfl rfl ?_
 have H := HS.start hS
 obtain ⟨c1, c2, rfl, g1, g2⟩ := elP h0_
 obtain rfl := elB g1
 obtain ⟨c3, c4, rfl, g3, g4⟩ := elP g2
 obtain ⟨v1, rfl, g5⟩ := elL g3
 obtain ⟨v2, rfl, g6⟩ := elL g4
 unfold seneschalref07_Point_Out_p at hF
 refine sr ?_; intro K1 hK1
 refine p_ofb (a_box (l := ([Value.bool (x0.1)] ++ ([v1] ++ ([v2])))) H rfl) ?_; clear H; intro w1 b1 H
 refine p_ofb (a_alloc (l := (cl26 (((0 : UInt64), (0 : UInt64), (0 : UInt64), (0 : UInt64)), ((0 : UInt64), (0 : UInt64), (0 : UInt64), (0 : UInt64)), false))) H tz26 rfl) ?_; clear H; intro w2 b2 H
 refine xk hK1 ?_; clear hK1
 refine wp_seq_k ?_; intro K2 hK2
 refine sr ?_; intro K3 hK3
 refine p_val (r_field fa65_0 rfl) ?_
 refine p_val (h_load1 (v := .bool (x0.1)) to4 H rfl (k := 1) rfl rfl) ?_
 refine xk hK3 ?_; clear hK3
 refine c_split (t := x0.1) rfl (fun hc1 => ?_) (fun hc1 => ?_)
 ·replace hF := cnd_t hF hc1
  refine sr ?_; intro K4 hK4
  refine p_val (r_build (vals := [(2, .bool (true))]) (l := (cl26 (((0 : UInt64), (0 : UInt64), (0 : UInt64), (0 : UInt64)), ((0 : UInt64), (0 : UInt64), (0 : UInt64), (0 : UInt64)), true))) tb26 rfl rfl) ?_
  refine p_ofs (a_store (k := 0) (v := .agg ((cl26 (((0 : UInt64), (0 : UInt64), (0 : UInt64), (0 : UInt64)), ((0 : UInt64), (0 : UInt64), (0 : UInt64), (0 : UInt64)), true))).toArray) (l := (cl26 (((0 : UInt64), (0 : UInt64), (0 : UInt64), (0 : UInt64)), ((0 : UInt64), (0 : UInt64), (0 : UInt64), (0 : UInt64)), true))) tsz26 H rfl rfl rfl (cells_agg _) rfl (fun u hu => List.all_eq_true.1 (rfl : ((cl26 (((0 : UInt64), (0 : UInt64), (0 : UInt64), (0 : UInt64)), ((0 : UInt64), (0 : UInt64), (0 : UInt64), (0 : UInt64)), true))).all (·.oneCell') = true) u hu) rfl) ?_; clear H; intro w3 H
  replace H : HS ⟨S, [], w⟩ S w3 [.blk b2 ((cl26 (((0 : UInt64), (0 : UInt64), (0 : UInt64), (0 : UInt64)), ((0 : UInt64), (0 : UInt64), (0 : UInt64), (0 : UInt64)), true))) 26, .blk b1 (([Value.bool (x0.1)] ++ ([v1] ++ ([v2])))) 65] := H
  refine xk hK4 ?_; clear hK4
  refine wp_ret ?_
  refine x_ret ?_
  obtain rfl := osi hF
  refine e_1 rfl (qh_cell (l := (cl26 (((0 : UInt64), (0 : UInt64), (0 : UInt64), (0 : UInt64)), ((0 : UInt64), (0 : UInt64), (0 : UInt64), (0 : UInt64)), true))) tg26 H rfl (k := 0) rfl rfl rfl) ?_
  exact ⟨rfl, H.toExt⟩
 ·replace hF := cnd_f hF hc1
  refine wp_skip ?_
  refine xn hK2 ?_; clear hK2
  refine wp_seq_k ?_; intro K5 hK5
  obtain ⟨y1, e1, hF⟩ := bnd hF
  obtain ⟨y2, e2, hF⟩ := bnd hF
  apply wp_region_ext 7 (kindsF [(2, .inl (.agg ((cl24 y1)).toArray)), (5, .inl (.agg ((cl24 y2)).toArray))]) rfl rfl (by kernel_rfl); intro vs1
  simp only [tkS, tkZ, drS, drZ]
  replace H := H.drew
  refine t_v (fun w hx => r_field fa65_1 rfl) ?_
  refine t_v (fun w hx => h_load1 (v := v1) to63 (H.ext hx) rfl (k := 1) rfl rfl) ?_
  refine t_call (l := [v1]) rfl rfl is85 rfl (fun w hx hF => (seneschalref06_Out_c (H.ext hx).sub g5 e1).mono (fun _ _ ⟨he, hx⟩ => ⟨he, hx⟩)) ?_
  refine t_v (fun w hx => r_field fa65_2 rfl) ?_
  refine t_v (fun w hx => h_load1 (v := v2) to63 (H.ext hx) rfl (k := 1) rfl rfl) ?_
  refine t_call (l := [v2]) rfl rfl is85 rfl (fun w hx hF => (seneschalref06_Out_c (H.ext hx).sub g6 e2).mono (fun _ _ ⟨he, hx⟩ => ⟨he, hx⟩)) ?_
  refine t_v (fun w hx => r_build (vals := [(0, .agg ((cl24 y1)).toArray), (1, .agg ((cl24 y2)).toArray)]) (l := (cl26 (y1, y2, false))) tb26 rfl rfl) ?_
  refine t_nil (fun w4 hx hF hA => ?_)
  replace H := H.ext hx; clear hx hF hA
  refine p_ofs (a_store (k := 0) (v := .agg ((cl26 (y1, y2, false))).toArray) (l := (cl26 (y1, y2, false))) tsz26 H rfl rfl rfl (cells_agg _) rfl (fun u hu => List.all_eq_true.1 (rfl : ((cl26 (y1, y2, false))).all (·.oneCell') = true) u hu) rfl) ?_; clear H; intro w5 H
  replace H : HS ⟨S, [], w⟩ S w5 [.blk b2 ((cl26 (y1, y2, false))) 26, .blk b1 (([Value.bool (x0.1)] ++ ([v1] ++ ([v2])))) 65] := H
  refine wpList_nil ?_; refine on_norm ?_
  refine xn hK5 ?_; clear hK5
  refine wp_ret ?_
  obtain rfl := osi hF
  refine e_1 rfl (qh_cell (l := (cl26 (y1, y2, false))) tg26 H rfl (k := 0) rfl rfl rfl) ?_
  exact ⟨rfl, H.toExt⟩
def seneschalref07_Point_Opposite_p (x0 : Bool × (List UInt32) × (List UInt32)) : Option ((Bool × (List UInt32) × (List UInt32))) :=
  bif x0.1 then (some (x0)) else (Option.bind (seneschalref06_Opposite_p 0 x0.2.2) fun y1 => some ((false, x0.2.1, y1)))
theorem seneschalref07_Point_Opposite_c {S : Mem} {w : World} (hS : Sub S w) {c0_ : List Value} {x0 : Bool × (List UInt32) × (List UInt32)} (h0_ : Rp.rep S c0_ x0) {r : (Bool × (List UInt32) × (List UInt32))} (hF : seneschalref07_Point_Opposite_p x0 = some r) :
    Calls Tryz.prog 125 #[.agg c0_.toArray] w fun e w' => Ext w w' ∧ ∃ (c0' : List Value), e = .returned (.agg c0'.toArray) ∧ Rp.rep (gr S w w') c0' r := by
 refine enter (n := 12) Tryz.func125 rfl rfl rfl ?_
 have H := HS.start hS
 obtain ⟨c1, c2, rfl, g1, g2⟩ := elP h0_
 obtain rfl := elB g1
 obtain ⟨c3, c4, rfl, g3, g4⟩ := elP g2
 obtain ⟨v1, rfl, g5⟩ := elL g3
 obtain ⟨v2, rfl, g6⟩ := elL g4
 unfold seneschalref07_Point_Opposite_p at hF
 refine sr ?_; intro K1 hK1
 refine p_ofb (a_box (l := ([Value.bool (x0.1)] ++ ([v1] ++ ([v2])))) H rfl) ?_; clear H; intro w1 b1 H
 refine p_ofb (a_alloc (l := ([Value.bool (false)] ++ ([Value.slice none 0 0] ++ ([Value.slice none 0 0])))) H tz65 rfl) ?_; clear H; intro w2 b2 H
 refine xk hK1 ?_; clear hK1
 refine wp_seq_k ?_; intro K2 hK2
 refine sr ?_; intro K3 hK3
 refine p_val (r_field fa65_0 rfl) ?_
 refine p_val (h_load1 (v := .bool (x0.1)) to4 H rfl (k := 1) rfl rfl) ?_
 refine xk hK3 ?_; clear hK3
 refine c_split (t := x0.1) rfl (fun hc1 => ?_) (fun hc1 => ?_)
 ·replace hF := cnd_t hF hc1
  refine sr ?_; intro K4 hK4
  refine p_val (h_load (l := ([Value.bool (x0.1)] ++ ([v1] ++ ([v2])))) tg65 H rfl (k := 1) rfl rfl rfl) ?_
  refine p_ofs (a_store (k := 0) (v := .agg (([Value.bool (x0.1)] ++ ([v1] ++ ([v2])))).toArray) (l := ([Value.bool (x0.1)] ++ ([v1] ++ ([v2])))) tsz65 H rfl rfl rfl (cells_agg _) rfl (Rp.one (rpP rpB (rpP (rpL g5) (rpL g6)))) rfl) ?_; clear H; intro w3 H
  replace H : HS ⟨S, [], w⟩ S w3 [.blk b2 (([Value.bool (x0.1)] ++ ([v1] ++ ([v2])))) 65, .blk b1 (([Value.bool (x0.1)] ++ ([v1] ++ ([v2])))) 65] := H
  refine xk hK4 ?_; clear hK4
  refine wp_ret ?_
  refine x_ret ?_
  obtain rfl := osi hF
  refine e_1 rfl (qh_cell (l := ([Value.bool (x0.1)] ++ ([v1] ++ ([v2])))) tg65 H rfl (k := 0) rfl rfl rfl) ?_
  exact ⟨H.toExt, _, rfl, Rp.mono (rpP rpB (rpP (rpL g5) (rpL g6))) H.gr⟩
 ·replace hF := cnd_f hF hc1
  refine wp_skip ?_
  refine xn hK2 ?_; clear hK2
  refine wp_seq_k ?_; intro K5 hK5
  obtain ⟨y1, e1, hF⟩ := bnd hF
  apply wp_region_ext 6 (kindsF [(4, .inr (fun g w' => RdS (gf S w2.drew g.f w') g.v y1))]) rfl rfl (by kernel_rfl); intro vs1
  simp only [tkS, tkZ, drS, drZ]
  replace H := H.drew
  refine t_v (fun w hx => r_field fa65_1 rfl) ?_
  refine t_v (fun w hx => h_load1 (v := v1) to63 (H.ext hx) rfl (k := 1) rfl rfl) ?_
  refine t_v (fun w hx => r_field fa65_2 rfl) ?_
  refine t_v (fun w hx => h_load1 (v := v2) to63 (H.ext hx) rfl (k := 1) rfl rfl) ?_
  refine t_callF (l := [.int .i64 (0), v2]) rfl rfl (stRd) is152 rfl (fun w hx hF => callRd hx (seneschalref06_Opposite_c (gf_sub H.sub hx) (g6.mono (gf_le H.sub)) e1)) ?_
  refine t_valF (fun w hx hF => r_build (vals := [(1, v1), (2, (vs1 4).v)]) (l := ([Value.bool (false)] ++ ([v1] ++ ([(vs1 4).v])))) tb65 rfl (by simp only [fillL, lkp, RdS.cells g5, RdS.cells (fact_relF hF 4 rfl rfl)]; rfl)) rfl rfl ?_
  refine t_nil (fun w4 hx hF hA => ?_)
  obtain ⟨F1, hd1, h01⟩ := depE hF
  have g8 := RdS.mono (fact_relF hF 4 rfl rfl) (hd1 4 rfl rfl)
  have hle1 := gf_le (F := F1) (w := w4) H.sub; replace H := H.callF (F := F1) hx; clear hx hF hA hd1 h01; generalize gf S w2.drew F1 w4 = S1 at hle1 H g8
  replace g5 := RdS.mono g5 hle1
  replace g6 := RdS.mono g6 hle1
  refine p_ofs (a_store (k := 0) (v := .agg (([Value.bool (false)] ++ ([v1] ++ ([(vs1 4).v])))).toArray) (l := ([Value.bool (false)] ++ ([v1] ++ ([(vs1 4).v])))) tsz65 H rfl rfl rfl (cells_agg _) rfl (Rp.one (rpP rpB (rpP (rpL g5) (rpL g8)))) rfl) ?_; clear H; intro w5 H
  replace H : HS ⟨S, [], w⟩ S1 w5 [.blk b2 (([Value.bool (false)] ++ ([v1] ++ ([(vs1 4).v])))) 65, .blk b1 (([Value.bool (x0.1)] ++ ([v1] ++ ([v2])))) 65] := H
  refine wpList_nil ?_; refine on_norm ?_
  refine xn hK5 ?_; clear hK5
  refine wp_ret ?_
  obtain rfl := osi hF
  refine e_1 rfl (qh_cell (l := ([Value.bool (false)] ++ ([v1] ++ ([(vs1 4).v])))) tg65 H rfl (k := 0) rfl rfl rfl) ?_
  exact ⟨H.toExt, _, rfl, Rp.mono (rpP rpB (rpP (rpL g5) (rpL g8))) H.gr⟩
def seneschalref07_Point_Same_p (x0 : Bool × (List UInt32) × (List UInt32)) (x1 : Bool × (List UInt32) × (List UInt32)) : Option (Bool) :=
  Option.bind (bif x0.1 then (some (x1.1)) else (some (false))) (fun t1 => Option.bind (bif t1 then (some (true)) else (Option.bind (bif (!x0.1) then (some ((!x1.1))) else (some (false))) (fun t3 => Option.bind (bif t3 then (Option.bind (seneschalref06_Cmp_p x0.2.1 x1.2.1) fun y1 => some ((y1 == 0))) else (some (false))) (fun t4 => Option.bind (bif t4 then (Option.bind (seneschalref06_Cmp_p x0.2.2 x1.2.2) fun y2 => some ((y2 == 0))) else (some (false))) (fun t5 => some (t5)))))) (fun t2 => some (t2)))
theorem seneschalref07_Point_Same_c {S : Mem} {w : World} (hS : Sub S w) {c0_ : List Value} {x0 : Bool × (List UInt32) × (List UInt32)} (h0_ : Rp.rep S c0_ x0) {c1_ : List Value} {x1 : Bool × (List UInt32) × (List UInt32)} (h1_ : Rp.rep S c1_ x1) {r : Bool} (hF : seneschalref07_Point_Same_p x0 x1 = some r) :
    Calls Tryz.prog 124 #[.agg c0_.toArray, .agg c1_.toArray] w fun e w' => e = .returned (.bool (r)) ∧ Ext w w' := by
 refine enter (n := 37) Tryz.func124 rfl rfl rfl ?_
 have H := HS.start hS
 obtain ⟨c1, c2, rfl, g1, g2⟩ := elP h0_
 obtain rfl := elB g1
 obtain ⟨c3, c4, rfl, g3, g4⟩ := elP g2
 obtain ⟨v1, rfl, g5⟩ := elL g3
 obtain ⟨v2, rfl, g6⟩ := elL g4
 obtain ⟨c5, c6, rfl, g7, g8⟩ := elP h1_
 obtain rfl := elB g7
 obtain ⟨c7, c8, rfl, g9, g10⟩ := elP g8
 obtain ⟨v3, rfl, g11⟩ := elL g9
 obtain ⟨v4, rfl, g12⟩ := elL g10
 unfold seneschalref07_Point_Same_p at hF
 refine sr ?_; intro K1 hK1
 refine p_ofb (a_box (l := ([Value.bool (x0.1)] ++ ([v1] ++ ([v2])))) H rfl) ?_; clear H; intro w1 b1 H
 refine p_ofb (a_box (l := ([Value.bool (x1.1)] ++ ([v3] ++ ([v4])))) H rfl) ?_; clear H; intro w2 b2 H
 refine p_as (v := .bool (false)) rfl ?_
 refine xk hK1 ?_; clear hK1
 refine sr ?_; intro K2 hK2
 refine p_val (r_field fa65_0 rfl) ?_
 refine p_val (h_load1 (v := .bool (x0.1)) to4 H rfl (k := 1) rfl rfl) ?_
 refine p_mv (v := .bool (x0.1)) rfl ?_
 refine nameL fun m1 k1 => ?_
 refine gs_at 3 fun K3 hK3 R3 hR3 => ?_
 obtain ⟨t1, hE1, hF1⟩ := bnd hF
 have J5 : ∀ (m2 : FM) (w3 : World), (∀ t, has [8, 9, 10] t = false → look m2 t = look m1 t) → look m2 10 = .bool (t1) → HS ⟨S, [], w⟩ S w3 [.blk b2 (([Value.bool (x1.1)] ++ ([v3] ++ ([v4])))) 65, .blk b1 (([Value.bool (x0.1)] ++ ([v1] ++ ([v2])))) 65] → K3 m2 w3 := by
  clear H; intro m2 w3 k2 q1 H
  have q2 : look m2 2 = .pointer (some ⟨b1, 0, none⟩) := (k2 2 rfl).trans (k1 2)
  have q3 : look m2 3 = .pointer (some ⟨b2, 0, none⟩) := (k2 3 rfl).trans (k1 3)
  refine hK3 _ _ ?_
  refine p_mv q1 ?_
  refine nameL fun m3 k3 => ?_
  refine gs_at 25 fun K4 hK4 R4 hR4 => ?_
  obtain ⟨t2, hE2, hF2⟩ := bnd hF1
  have J4 : ∀ (m10 : FM) (w9 : World), (∀ t, has [12, 13, 14, 15, 16, 17, 18, 19, 20, 21, 22, 23, 24, 25, 26, 27, 28, 29, 30, 31, 32, 33, 34, 35, 36] t = false → look m10 t = look m3 t) → look m10 36 = .bool (t2) → HS ⟨S, [], w⟩ S w9 [.blk b2 (([Value.bool (x1.1)] ++ ([v3] ++ ([v4])))) 65, .blk b1 (([Value.bool (x0.1)] ++ ([v1] ++ ([v2])))) 65] → K4 m10 w9 := by
   clear H; intro m10 w9 k10 q14 H
   refine hK4 _ _ ?_
   refine p_as q14 ?_
   refine xk hK2 ?_; clear hK2
   refine wp_ret ?_
   obtain rfl := osi hF2
   refine e_1 rfl (q_tmp (v := .bool (t2)) rfl) ?_
   exact ⟨rfl, H.toExt⟩
  refine p_gs (j := 6) (gvl_at rfl rfl (k3 11)) (fun hb2 => ?_) (fun hb2 => ?_)
  ·replace hE2 := cnd_t hE2 hb2
   refine p_skip (gvl_at rfl rfl (k3 11)) hb2 ?_
   rw [put_fr]
   refine p_skip (gvl_at rfl rfl (k3 11)) hb2 ?_
   rw [put_fr]
   refine p_skip (gvl_at rfl rfl (k3 11)) hb2 ?_
   rw [put_fr]
   refine p_skip (gvl_at rfl rfl (k3 11)) hb2 ?_
   rw [put_fr]
   refine p_skipU rfl ?_
   rw [put_fr]
   refine p_skipU rfl ?_
   rw [put_fr]
   refine p_skipU rfl ?_
   rw [put_fr]
   refine p_skip (gvl_at rfl rfl (k3 11)) hb2 ?_
   rw [put_fr]
   refine p_skip (gvl_at rfl rfl (k3 11)) hb2 ?_
   rw [put_fr]
   refine p_skipU rfl ?_
   rw [put_fr]
   refine p_skipU rfl ?_
   rw [put_fr]
   refine p_skipU rfl ?_
   rw [put_fr]
   refine p_skipU rfl ?_
   rw [put_fr]
   refine p_skipU rfl ?_
   rw [put_fr]
   refine p_skipU rfl ?_
   rw [put_fr]
   refine p_skip (gvl_at rfl rfl (k3 11)) hb2 ?_
   rw [put_fr]
   refine p_skip (gvl_at rfl rfl (k3 11)) hb2 ?_
   rw [put_fr]
   refine p_skipU rfl ?_
   rw [put_fr]
   refine p_skipU rfl ?_
   rw [put_fr]
   refine p_skipU rfl ?_
   rw [put_fr]
   refine p_skipU rfl ?_
   rw [put_fr]
   refine p_skipU rfl ?_
   rw [put_fr]
   refine p_skipU rfl ?_
   rw [put_fr]
   refine p_skip (gvl_at rfl rfl (k3 11)) hb2 ?_
   rw [put_fr]
   refine p_val (r_pickt (v := .bool (true)) (k3 11) hb2 rfl) ?_
   refine hR4 _ _ ?_
   replace H : HS ⟨S, [], w⟩ S w3 [.blk b2 (([Value.bool (x1.1)] ++ ([v3] ++ ([v4])))) 65, .blk b1 (([Value.bool (x0.1)] ++ ([v1] ++ ([v2])))) 65] := H
   obtain rfl := osi hE2
   exact J4 _ _ kcx rfl H
  ·replace hE2 := cnd_f hE2 hb2
   refine p_want (gvl_at rfl rfl (k3 11)) hb2 ?_
   refine p_val (r_field fa65_0 ((k3 2).trans q2)) ?_
   refine p_want (gvl_at rfl rfl (k3 11)) hb2 ?_
   refine p_val (h_load1 (v := .bool (x0.1)) to4 H rfl (k := 1) rfl rfl) ?_
   refine p_want (gvl_at rfl rfl (k3 11)) hb2 ?_
   refine p_val (r_not (t := (!x0.1)) rfl rfl) ?_
   refine p_want (gvl_at rfl rfl (k3 11)) hb2 ?_
   refine p_mv (v := .bool ((!x0.1))) rfl ?_
   refine nameL fun m4 k4 => ?_
   refine gs_at 4 fun K5 hK5 R5 hR5 => ?_
   obtain ⟨t3, hE3, hF3⟩ := bnd hE2
   have J3 : ∀ (m5 : FM) (w4 : World), (∀ t, has [16, 17, 18, 19] t = false → look m5 t = look m4 t) → look m5 19 = .bool (t3) → HS ⟨S, [], w⟩ S w4 [.blk b2 (([Value.bool (x1.1)] ++ ([v3] ++ ([v4])))) 65, .blk b1 (([Value.bool (x0.1)] ++ ([v1] ++ ([v2])))) 65] → K5 m5 w4 := by
    clear H; intro m5 w4 k5 q4 H
    have q5 : look m5 2 = .pointer (some ⟨b1, 0, none⟩) := (k5 2 rfl).trans ((k4 2).trans ((k3 2).trans q2))
    have q6 : look m5 3 = .pointer (some ⟨b2, 0, none⟩) := (k5 3 rfl).trans ((k4 3).trans ((k3 3).trans q3))
    have q7 : look m5 11 = .bool (t1) := (k5 11 rfl).trans ((k4 11).trans (k3 11))
    refine hK5 _ _ ?_
    refine p_want (gvl_at rfl rfl q7) hb2 ?_
    refine p_mv q4 ?_
    refine nameL fun m6 k6 => ?_
    refine gs_at 7 fun K6 hK6 R6 hR6 => ?_
    obtain ⟨t4, hE4, hF4⟩ := bnd hF3
    have J2 : ∀ (m7 : FM) (w6 : World), (∀ t, has [21, 22, 23, 24, 25, 26, 27] t = false → look m7 t = look m6 t) → look m7 27 = .bool (t4) → HS ⟨S, [], w⟩ S w6 [.blk b2 (([Value.bool (x1.1)] ++ ([v3] ++ ([v4])))) 65, .blk b1 (([Value.bool (x0.1)] ++ ([v1] ++ ([v2])))) 65] → K6 m7 w6 := by
     clear H; intro m7 w6 k7 q8 H
     have q9 : look m7 2 = .pointer (some ⟨b1, 0, none⟩) := (k7 2 rfl).trans ((k6 2).trans q5)
     have q10 : look m7 3 = .pointer (some ⟨b2, 0, none⟩) := (k7 3 rfl).trans ((k6 3).trans q6)
     have q11 : look m7 11 = .bool (t1) := (k7 11 rfl).trans ((k6 11).trans q7)
     refine hK6 _ _ ?_
     refine p_want (gvl_at rfl rfl q11) hb2 ?_
     refine p_mv q8 ?_
     refine nameL fun m8 k8 => ?_
     refine gs_at 7 fun K7 hK7 R7 hR7 => ?_
     obtain ⟨t5, hE5, hF5⟩ := bnd hF4
     have J1 : ∀ (m9 : FM) (w8 : World), (∀ t, has [29, 30, 31, 32, 33, 34, 35] t = false → look m9 t = look m8 t) → look m9 35 = .bool (t5) → HS ⟨S, [], w⟩ S w8 [.blk b2 (([Value.bool (x1.1)] ++ ([v3] ++ ([v4])))) 65, .blk b1 (([Value.bool (x0.1)] ++ ([v1] ++ ([v2])))) 65] → K7 m9 w8 := by
      clear H; intro m9 w8 k9 q12 H
      have q13 : look m9 11 = .bool (t1) := (k9 11 rfl).trans ((k8 11).trans q11)
      refine hK7 _ _ ?_
      refine p_val (r_pickf (v := .bool (t5)) q13 hb2 q12) ?_
      refine hR4 _ _ ?_
      replace H : HS ⟨S, [], w⟩ S w8 [.blk b2 (([Value.bool (x1.1)] ++ ([v3] ++ ([v4])))) 65, .blk b1 (([Value.bool (x0.1)] ++ ([v1] ++ ([v2])))) 65] := H
      obtain rfl := osi hF5
      exact J4 _ _ (by (repeat (refine keep_cons rfl ?_)); refine keep_sub k9 rfl ?_; (repeat (refine keep_cons rfl ?_)); refine keep_name k8 ?_; (repeat (refine keep_cons rfl ?_)); refine keep_sub k7 rfl ?_; (repeat (refine keep_cons rfl ?_)); refine keep_name k6 ?_; (repeat (refine keep_cons rfl ?_)); refine keep_sub k5 rfl ?_; (repeat (refine keep_cons rfl ?_)); refine keep_name k4 ?_; exact kcx) rfl H
     refine p_gs (j := 23) (gvl_at rfl rfl (k8 28)) (fun hb5 => ?_) (fun hb5 => ?_)
     ·replace hE5 := cnd_t hE5 hb5
      refine p_want (gvl_at rfl rfl (k8 28)) hb5 ?_
      refine p_val (r_field fa65_2 ((k8 2).trans q9)) ?_
      refine p_want (gvl_at rfl rfl (k8 28)) hb5 ?_
      refine p_val (h_load1 (v := v2) to63 H rfl (k := 1) rfl rfl) ?_
      refine p_want (gvl_at rfl rfl (k8 28)) hb5 ?_
      refine p_val (r_field fa65_2 ((k8 3).trans q10)) ?_
      refine p_want (gvl_at rfl rfl (k8 28)) hb5 ?_
      refine p_val (h_load1 (v := v4) to63 H rfl (k := 0) rfl rfl) ?_
      refine p_want (gvl_at rfl rfl (k8 28)) hb5 ?_
      obtain ⟨y2, e2, hE5⟩ := bnd hE5
      refine p_call (l := [v2, v4]) is69 rfl ?_
      refine (seneschalref06_Cmp_c H.sub g6 g12 e2).mono ?_; rintro _ w7 ⟨rfl, hx⟩; replace H := H.ext hx; clear hx
      refine p_want (gvl_at rfl rfl (k8 28)) hb5 ?_
      refine p_val (r_eqlI rfl rfl) ?_
      refine p_want (gvl_at rfl rfl ((k8 11).trans q11)) hb2 ?_
      refine p_val (r_pickt (v := .bool ((y2 == 0))) (k8 28) hb5 rfl) ?_
      refine hR7 _ _ ?_
      replace H : HS ⟨S, [], w⟩ S w7 [.blk b2 (([Value.bool (x1.1)] ++ ([v3] ++ ([v4])))) 65, .blk b1 (([Value.bool (x0.1)] ++ ([v1] ++ ([v2])))) 65] := H
      obtain rfl := osi hE5
      exact J1 _ _ kcx rfl H
     ·replace hE5 := cnd_f hE5 hb5
      refine p_skip (gvl_at rfl rfl (k8 28)) hb5 ?_
      rw [put_fr]
      refine p_skip (gvl_at rfl rfl (k8 28)) hb5 ?_
      rw [put_fr]
      refine p_skip (gvl_at rfl rfl (k8 28)) hb5 ?_
      rw [put_fr]
      refine p_skip (gvl_at rfl rfl (k8 28)) hb5 ?_
      rw [put_fr]
      refine p_skip (gvl_at rfl rfl (k8 28)) hb5 ?_
      rw [put_fr]
      refine p_skip (gvl_at rfl rfl (k8 28)) hb5 ?_
      rw [put_fr]
      refine p_want (gvl_at rfl rfl ((k8 11).trans q11)) hb2 ?_
      refine p_val (r_pickf (v := .bool (false)) (k8 28) hb5 rfl) ?_
      refine hR7 _ _ ?_
      replace H : HS ⟨S, [], w⟩ S w6 [.blk b2 (([Value.bool (x1.1)] ++ ([v3] ++ ([v4])))) 65, .blk b1 (([Value.bool (x0.1)] ++ ([v1] ++ ([v2])))) 65] := H
      obtain rfl := osi hE5
      exact J1 _ _ kcx rfl H
    refine p_gs (j := 15) (gvl_at rfl rfl (k6 20)) (fun hb4 => ?_) (fun hb4 => ?_)
    ·replace hE4 := cnd_t hE4 hb4
     refine p_want (gvl_at rfl rfl (k6 20)) hb4 ?_
     refine p_val (r_field fa65_1 ((k6 2).trans q5)) ?_
     refine p_want (gvl_at rfl rfl (k6 20)) hb4 ?_
     refine p_val (h_load1 (v := v1) to63 H rfl (k := 1) rfl rfl) ?_
     refine p_want (gvl_at rfl rfl (k6 20)) hb4 ?_
     refine p_val (r_field fa65_1 ((k6 3).trans q6)) ?_
     refine p_want (gvl_at rfl rfl (k6 20)) hb4 ?_
     refine p_val (h_load1 (v := v3) to63 H rfl (k := 0) rfl rfl) ?_
     refine p_want (gvl_at rfl rfl (k6 20)) hb4 ?_
     obtain ⟨y1, e1, hE4⟩ := bnd hE4
     refine p_call (l := [v1, v3]) is69 rfl ?_
     refine (seneschalref06_Cmp_c H.sub g5 g11 e1).mono ?_; rintro _ w5 ⟨rfl, hx⟩; replace H := H.ext hx; clear hx
     refine p_want (gvl_at rfl rfl (k6 20)) hb4 ?_
     refine p_val (r_eqlI rfl rfl) ?_
     refine p_want (gvl_at rfl rfl ((k6 11).trans q7)) hb2 ?_
     refine p_val (r_pickt (v := .bool ((y1 == 0))) (k6 20) hb4 rfl) ?_
     refine hR6 _ _ ?_
     replace H : HS ⟨S, [], w⟩ S w5 [.blk b2 (([Value.bool (x1.1)] ++ ([v3] ++ ([v4])))) 65, .blk b1 (([Value.bool (x0.1)] ++ ([v1] ++ ([v2])))) 65] := H
     obtain rfl := osi hE4
     exact J2 _ _ kcx rfl H
    ·replace hE4 := cnd_f hE4 hb4
     refine p_skip (gvl_at rfl rfl (k6 20)) hb4 ?_
     rw [put_fr]
     refine p_skip (gvl_at rfl rfl (k6 20)) hb4 ?_
     rw [put_fr]
     refine p_skip (gvl_at rfl rfl (k6 20)) hb4 ?_
     rw [put_fr]
     refine p_skip (gvl_at rfl rfl (k6 20)) hb4 ?_
     rw [put_fr]
     refine p_skip (gvl_at rfl rfl (k6 20)) hb4 ?_
     rw [put_fr]
     refine p_skip (gvl_at rfl rfl (k6 20)) hb4 ?_
     rw [put_fr]
     refine p_want (gvl_at rfl rfl ((k6 11).trans q7)) hb2 ?_
     refine p_val (r_pickf (v := .bool (false)) (k6 20) hb4 rfl) ?_
     refine hR6 _ _ ?_
     replace H : HS ⟨S, [], w⟩ S w4 [.blk b2 (([Value.bool (x1.1)] ++ ([v3] ++ ([v4])))) 65, .blk b1 (([Value.bool (x0.1)] ++ ([v1] ++ ([v2])))) 65] := H
     obtain rfl := osi hE4
     exact J2 _ _ kcx rfl H
   refine p_gs (j := 10) (gvl_at rfl rfl (k4 15)) (fun hb3 => ?_) (fun hb3 => ?_)
   ·replace hE3 := cnd_t hE3 hb3
    refine p_want (gvl_at rfl rfl (k4 15)) hb3 ?_
    refine p_val (r_field fa65_0 ((k4 3).trans ((k3 3).trans q3))) ?_
    refine p_want (gvl_at rfl rfl (k4 15)) hb3 ?_
    refine p_val (h_load1 (v := .bool (x1.1)) to4 H rfl (k := 0) rfl rfl) ?_
    refine p_want (gvl_at rfl rfl (k4 15)) hb3 ?_
    refine p_val (r_not (t := (!x1.1)) rfl rfl) ?_
    refine p_want (gvl_at rfl rfl ((k4 11).trans (k3 11))) hb2 ?_
    refine p_val (r_pickt (v := .bool ((!x1.1))) (k4 15) hb3 rfl) ?_
    refine hR5 _ _ ?_
    replace H : HS ⟨S, [], w⟩ S w3 [.blk b2 (([Value.bool (x1.1)] ++ ([v3] ++ ([v4])))) 65, .blk b1 (([Value.bool (x0.1)] ++ ([v1] ++ ([v2])))) 65] := H
    obtain rfl := osi hE3
    exact J3 _ _ kcx rfl H
   ·replace hE3 := cnd_f hE3 hb3
    refine p_skip (gvl_at rfl rfl (k4 15)) hb3 ?_
    rw [put_fr]
    refine p_skip (gvl_at rfl rfl (k4 15)) hb3 ?_
    rw [put_fr]
    refine p_skip (gvl_at rfl rfl (k4 15)) hb3 ?_
    rw [put_fr]
    refine p_want (gvl_at rfl rfl ((k4 11).trans (k3 11))) hb2 ?_
    refine p_val (r_pickf (v := .bool (false)) (k4 15) hb3 rfl) ?_
    refine hR5 _ _ ?_
    replace H : HS ⟨S, [], w⟩ S w3 [.blk b2 (([Value.bool (x1.1)] ++ ([v3] ++ ([v4])))) 65, .blk b1 (([Value.bool (x0.1)] ++ ([v1] ++ ([v2])))) 65] := H
    obtain rfl := osi hE3
    exact J3 _ _ kcx rfl H
 refine p_gs (j := 2) (gvl_at rfl rfl (k1 7)) (fun hb1 => ?_) (fun hb1 => ?_)
 ·replace hE1 := cnd_t hE1 hb1
  refine p_want (gvl_at rfl rfl (k1 7)) hb1 ?_
  refine p_val (r_field fa65_0 (k1 3)) ?_
  refine p_want (gvl_at rfl rfl (k1 7)) hb1 ?_
  refine p_val (h_load1 (v := .bool (x1.1)) to4 H rfl (k := 0) rfl rfl) ?_
  refine p_val (r_pickt (v := .bool (x1.1)) (k1 7) hb1 rfl) ?_
  refine hR3 _ _ ?_
  replace H : HS ⟨S, [], w⟩ S w2 [.blk b2 (([Value.bool (x1.1)] ++ ([v3] ++ ([v4])))) 65, .blk b1 (([Value.bool (x0.1)] ++ ([v1] ++ ([v2])))) 65] := H
  obtain rfl := osi hE1
  exact J5 _ _ kcx rfl H
 ·replace hE1 := cnd_f hE1 hb1
  refine p_skip (gvl_at rfl rfl (k1 7)) hb1 ?_
  rw [put_fr]
  refine p_skip (gvl_at rfl rfl (k1 7)) hb1 ?_
  rw [put_fr]
  refine p_val (r_pickf (v := .bool (false)) (k1 7) hb1 rfl) ?_
  refine hR3 _ _ ?_
  replace H : HS ⟨S, [], w⟩ S w2 [.blk b2 (([Value.bool (x1.1)] ++ ([v3] ++ ([v4])))) 65, .blk b1 (([Value.bool (x0.1)] ++ ([v1] ++ ([v2])))) 65] := H
  obtain rfl := osi hE1
  exact J5 _ _ kcx rfl H
def seneschalref07_Point_Sum_p (x0 : Bool × (List UInt32) × (List UInt32)) (x1 : Bool × (List UInt32) × (List UInt32)) : Option ((Bool × (List UInt32) × (List UInt32))) :=
  bif x0.1 then (some (x1)) else (bif x1.1 then (some (x0)) else (Option.bind (seneschalref07_Point_Opposite_p x1) fun y1 => Option.bind (seneschalref07_Point_Same_p x0 y1) fun y2 => bif y2 then (some ((true, ([] : List UInt32), ([] : List UInt32)))) else (Option.bind (seneschalref07_minus_p x1.2.2 x0.2.2) fun y3 => Option.bind (seneschalref07_minus_p x1.2.1 x0.2.1) fun y4 => Option.bind (Option.bind (seneschalref07_Point_Same_p x0 x1) fun y5 => bif y5 then (Option.bind (seneschalref07_times_p x0.2.1 x0.2.1) fun y6 => Option.bind (seneschalref07_times_p ([(3 : UInt32)] : List UInt32) y6) fun y7 => Option.bind (seneschalref07_minus_p y7 ([(3 : UInt32)] : List UInt32)) fun y8 => Option.bind (seneschalref07_plus_p x0.2.2 x0.2.2) fun y9 => some ((y8, y9))) else (some ((y3, y4)))) (fun t1 => Option.bind (seneschalref06_Inverse_p 0 t1.2) fun y10 => Option.bind (seneschalref07_times_p t1.1 y10) fun y11 => Option.bind (seneschalref07_times_p y11 y11) fun y12 => Option.bind (seneschalref07_minus_p y12 x0.2.1) fun y13 => Option.bind (seneschalref07_minus_p y13 x1.2.1) fun y14 => Option.bind (seneschalref07_minus_p x0.2.1 y14) fun y15 => Option.bind (seneschalref07_times_p y11 y15) fun y16 => Option.bind (seneschalref07_minus_p y16 x0.2.2) fun y17 => some ((false, y14, y17))))))
theorem seneschalref07_Point_Sum_c {S : Mem} {w : World} (hS : Sub S w) {c0_ : List Value} {x0 : Bool × (List UInt32) × (List UInt32)} (h0_ : Rp.rep S c0_ x0) {c1_ : List Value} {x1 : Bool × (List UInt32) × (List UInt32)} (h1_ : Rp.rep S c1_ x1) {r : (Bool × (List UInt32) × (List UInt32))} (hF : seneschalref07_Point_Sum_p x0 x1 = some r) :
    Calls Tryz.prog 66 #[.agg c0_.toArray, .agg c1_.toArray] w fun e w' => Ext w w' ∧ ∃ (c0' : List Value), e = .returned (.agg c0'.toArray) ∧ Rp.rep (gr S w w') c0' r := by
 refine enter (n := 74) Tryz.func66 rfl rfl rfl ?_
 have H := HS.start hS
 obtain ⟨c1, c2, rfl, g1, g2⟩ := elP h0_
 obtain rfl := elB g1
 obtain ⟨c3, c4, rfl, g3, g4⟩ := elP g2
 obtain ⟨v1, rfl, g5⟩ := elL g3
 obtain ⟨v2, rfl, g6⟩ := elL g4
 obtain ⟨c5, c6, rfl, g7, g8⟩ := elP h1_
 obtain rfl := elB g7
 obtain ⟨c7, c8, rfl, g9, g10⟩ := elP g8
 obtain ⟨v3, rfl, g11⟩ := elL g9
 obtain ⟨v4, rfl, g12⟩ := elL g10
 unfold seneschalref07_Point_Sum_p at hF
 refine sr ?_; intro K1 hK1
 refine p_ofb (a_box (l := ([Value.bool (x0.1)] ++ ([v1] ++ ([v2])))) H rfl) ?_; clear H; intro w1 b1 H
 refine p_ofb (a_box (l := ([Value.bool (x1.1)] ++ ([v3] ++ ([v4])))) H rfl) ?_; clear H; intro w2 b2 H
 refine p_ofb (a_alloc (l := ([Value.bool (false)] ++ ([Value.slice none 0 0] ++ ([Value.slice none 0 0])))) H tz65 rfl) ?_; clear H; intro w3 b3 H
 refine xk hK1 ?_; clear hK1
 refine wp_seq_k ?_; intro K2 hK2
 refine wp_block ?_
 refine sr ?_; intro K3 hK3
 refine p_val (r_field fa65_0 rfl) ?_
 refine p_val (h_load1 (v := .bool (x0.1)) to4 H rfl (k := 2) rfl rfl) ?_
 refine p_as (v := .bool (x0.1)) rfl ?_
 refine xk hK3 ?_; clear hK3
 refine c_split (t := x0.1) rfl (fun hc1 => ?_) (fun hc1 => ?_)
 ·replace hF := cnd_t hF hc1
  refine sr ?_; intro K4 hK4
  refine p_val (h_load (l := ([Value.bool (x1.1)] ++ ([v3] ++ ([v4])))) tg65 H rfl (k := 1) rfl rfl rfl) ?_
  refine p_ofs (a_store (k := 0) (v := .agg (([Value.bool (x1.1)] ++ ([v3] ++ ([v4])))).toArray) (l := ([Value.bool (x1.1)] ++ ([v3] ++ ([v4])))) tsz65 H rfl rfl rfl (cells_agg _) rfl (Rp.one (rpP rpB (rpP (rpL g11) (rpL g12)))) rfl) ?_; clear H; intro w4 H
  replace H : HS ⟨S, [], w⟩ S w4 [.blk b3 (([Value.bool (x1.1)] ++ ([v3] ++ ([v4])))) 65, .blk b2 (([Value.bool (x1.1)] ++ ([v3] ++ ([v4])))) 65, .blk b1 (([Value.bool (x0.1)] ++ ([v1] ++ ([v2])))) 65] := H
  refine xk hK4 ?_; clear hK4
  refine wp_ret ?_
  refine b_ret ?_
  refine x_ret ?_
  obtain rfl := osi hF
  refine e_1 rfl (qh_cell (l := ([Value.bool (x1.1)] ++ ([v3] ++ ([v4])))) tg65 H rfl (k := 0) rfl rfl rfl) ?_
  exact ⟨H.toExt, _, rfl, Rp.mono (rpP rpB (rpP (rpL g11) (rpL g12))) H.gr⟩
 ·replace hF := cnd_f hF hc1
  refine sr ?_; intro K5 hK5
  refine p_val (r_field fa65_0 rfl) ?_
  refine p_val (h_load1 (v := .bool (x1.1)) to4 H rfl (k := 1) rfl rfl) ?_
  refine p_as (v := .bool (x1.1)) rfl ?_
  refine xk hK5 ?_; clear hK5
  refine c_split (t := x1.1) rfl (fun hc2 => ?_) (fun hc2 => ?_)
  ·replace hF := cnd_t hF hc2
   refine sr ?_; intro K6 hK6
   refine p_val (h_load (l := ([Value.bool (x0.1)] ++ ([v1] ++ ([v2])))) tg65 H rfl (k := 2) rfl rfl rfl) ?_
   refine p_ofs (a_store (k := 0) (v := .agg (([Value.bool (x0.1)] ++ ([v1] ++ ([v2])))).toArray) (l := ([Value.bool (x0.1)] ++ ([v1] ++ ([v2])))) tsz65 H rfl rfl rfl (cells_agg _) rfl (Rp.one (rpP rpB (rpP (rpL g5) (rpL g6)))) rfl) ?_; clear H; intro w5 H
   replace H : HS ⟨S, [], w⟩ S w5 [.blk b3 (([Value.bool (x0.1)] ++ ([v1] ++ ([v2])))) 65, .blk b2 (([Value.bool (x1.1)] ++ ([v3] ++ ([v4])))) 65, .blk b1 (([Value.bool (x0.1)] ++ ([v1] ++ ([v2])))) 65] := H
   refine xk hK6 ?_; clear hK6
   refine wp_ret ?_
   refine b_ret ?_
   refine x_ret ?_
   obtain rfl := osi hF
   refine e_1 rfl (qh_cell (l := ([Value.bool (x0.1)] ++ ([v1] ++ ([v2])))) tg65 H rfl (k := 0) rfl rfl rfl) ?_
   exact ⟨H.toExt, _, rfl, Rp.mono (rpP rpB (rpP (rpL g5) (rpL g6))) H.gr⟩
  ·replace hF := cnd_f hF hc2
   refine wp_seq_k ?_; intro K7 hK7
   obtain ⟨y1, e1, hF⟩ := bnd hF
   obtain ⟨y2, e2, hF⟩ := bnd hF
   apply wp_region_ext 4 (kindsF [(2, .inr (fun g w' => ∃ c0', g.v = .agg c0'.toArray ∧ Rp.rep (gf S w3.drew g.f w') c0' y1)), (3, .inl (.bool (y2)))]) rfl rfl (by kernel_rfl); intro vs1
   simp only [tkS, tkZ, drS, drZ]
   replace H := H.drew
   refine t_v (fun w hx => h_load (l := ([Value.bool (x0.1)] ++ ([v1] ++ ([v2])))) tg65 (H.ext hx) rfl (k := 2) rfl rfl rfl) ?_
   refine t_v (fun w hx => h_load (l := ([Value.bool (x1.1)] ++ ([v3] ++ ([v4])))) tg65 (H.ext hx) rfl (k := 1) rfl rfl rfl) ?_
   refine t_callF (l := [.agg (([Value.bool (x1.1)] ++ ([v3] ++ ([v4])))).toArray]) rfl rfl (fun _ _ _ ⟨c0', e, h0⟩ hx => ⟨c0', e, Rp.mono h0 (gf_mono hx)⟩) is125 rfl (fun w hx hF => (seneschalref07_Point_Opposite_c (gf_sub H.sub hx) (rpP rpB (rpP (rpL (g11.mono (gf_le H.sub))) (rpL (g12.mono (gf_le H.sub))))) e1).mono (fun _ w' ⟨hx2, c0', he, h0⟩ => ⟨_, he, hx2, c0', rfl, Rp.mono h0 (gr_gf hx hx2)⟩)) ?_
   refine t_call (l := [.agg (([Value.bool (x0.1)] ++ ([v1] ++ ([v2])))).toArray, (vs1 2).v]) rfl rfl is124 rfl (fun w hx hF => by obtain ⟨c0_, e0_, h0_⟩ := (fact_relF hF 2 rfl rfl); rw [e0_]; exact (seneschalref07_Point_Same_c (gf_sub H.sub hx) (rpP rpB (rpP (rpL (g5.mono (gf_le H.sub))) (rpL (g6.mono (gf_le H.sub))))) (Rp.mono h0_ (dep_of hF 2 rfl rfl)) e2).mono (fun _ _ ⟨he, hx⟩ => ⟨he, hx⟩)) ?_
   refine t_nil (fun w6 hx hF hA => ?_)
   obtain ⟨F1, hd1, h01⟩ := depE hF
   obtain ⟨c9, eq1, g13⟩ := fact_relF hF 2 rfl rfl
   replace g13 := Rp.mono g13 (hd1 2 rfl rfl)
   have hle1 := gf_le (F := F1) (w := w6) H.sub; replace H := H.callF (F := F1) hx; clear hx hF hA hd1 h01; generalize gf S w3.drew F1 w6 = S1 at hle1 H g13
   replace g5 := RdS.mono g5 hle1
   replace g6 := RdS.mono g6 hle1
   replace g11 := RdS.mono g11 hle1
   replace g12 := RdS.mono g12 hle1
   obtain ⟨c10, c11, rfl, g14, g15⟩ := elP g13
   obtain rfl := elB g14
   obtain ⟨c12, c13, rfl, g16, g17⟩ := elP g15
   obtain ⟨v5, rfl, g18⟩ := elL g16
   obtain ⟨v6, rfl, g19⟩ := elL g17
   refine p_as (v := .bool (y2)) rfl ?_
   refine wpList_nil ?_; refine on_norm ?_
   refine xn hK7 ?_; clear hK7
   refine c_split (t := y2) rfl (fun hc3 => ?_) (fun hc3 => ?_)
   ·replace hF := cnd_t hF hc3
    refine sr ?_; intro K8 hK8
    refine p_val (r_build (vals := [(0, .bool (true))]) (l := ([Value.bool (true)] ++ ([Value.slice none 0 0] ++ ([Value.slice none 0 0])))) tb65 rfl rfl) ?_
    refine p_ofs (a_store (k := 0) (v := .agg (([Value.bool (true)] ++ ([Value.slice none 0 0] ++ ([Value.slice none 0 0])))).toArray) (l := ([Value.bool (true)] ++ ([Value.slice none 0 0] ++ ([Value.slice none 0 0])))) tsz65 H rfl rfl rfl (cells_agg _) rfl (fun u hu => List.all_eq_true.1 (rfl : (([Value.bool (true)] ++ ([Value.slice none 0 0] ++ ([Value.slice none 0 0])))).all (·.oneCell') = true) u hu) rfl) ?_; clear H; intro w7 H
    replace H : HS ⟨S, [], w⟩ S1 w7 [.blk b3 (([Value.bool (true)] ++ ([Value.slice none 0 0] ++ ([Value.slice none 0 0])))) 65, .blk b2 (([Value.bool (x1.1)] ++ ([v3] ++ ([v4])))) 65, .blk b1 (([Value.bool (x0.1)] ++ ([v1] ++ ([v2])))) 65] := H
    refine xk hK8 ?_; clear hK8
    refine wp_ret ?_
    refine b_ret ?_
    refine x_ret ?_
    obtain rfl := osi hF
    refine e_1 rfl (qh_cell (l := ([Value.bool (true)] ++ ([Value.slice none 0 0] ++ ([Value.slice none 0 0])))) tg65 H rfl (k := 0) rfl rfl rfl) ?_
    exact ⟨H.toExt, _, rfl, Rp.mono (rpP rpB (rpP (rpL RdS.nil) (rpL RdS.nil))) H.gr⟩
   ·replace hF := cnd_f hF hc3
    refine wp_skip ?_
    refine b_norm ?_
    refine xn hK2 ?_; clear hK2
    refine wp_seq_k ?_; intro K9 hK9
    obtain ⟨y3, e3, hF⟩ := bnd hF
    obtain ⟨y4, e4, hF⟩ := bnd hF
    apply wp_region_ext 10 (kindsF [(4, .inr (fun g w' => RdS (gf S1 w6.drew g.f w') g.v y3)), (9, .inr (fun g w' => RdS (gf S1 w6.drew g.f w') g.v y4))]) rfl rfl (by kernel_rfl); intro vs2
    simp only [tkS, tkZ, drS, drZ]
    replace H := H.drew
    refine t_v (fun w hx => r_field fa65_2 rfl) ?_
    refine t_v (fun w hx => h_load1 (v := v4) to63 (H.ext hx) rfl (k := 1) rfl rfl) ?_
    refine t_v (fun w hx => r_field fa65_2 rfl) ?_
    refine t_v (fun w hx => h_load1 (v := v2) to63 (H.ext hx) rfl (k := 2) rfl rfl) ?_
    refine t_callF (l := [v4, v2]) rfl rfl (stRd) is115 rfl (fun w hx hF => callRd hx (seneschalref07_minus_c (gf_sub H.sub hx) (g12.mono (gf_le H.sub)) (g6.mono (gf_le H.sub)) e3)) ?_
    refine t_v (fun w hx => r_field fa65_1 rfl) ?_
    refine t_v (fun w hx => h_load1 (v := v3) to63 (H.ext hx) rfl (k := 1) rfl rfl) ?_
    refine t_v (fun w hx => r_field fa65_1 rfl) ?_
    refine t_v (fun w hx => h_load1 (v := v1) to63 (H.ext hx) rfl (k := 2) rfl rfl) ?_
    refine t_callF (l := [v3, v1]) rfl rfl (stRd) is115 rfl (fun w hx hF => callRd hx (seneschalref07_minus_c (gf_sub H.sub hx) (g11.mono (gf_le H.sub)) (g5.mono (gf_le H.sub)) e4)) ?_
    refine t_nil (fun w8 hx hF hA => ?_)
    obtain ⟨F2, hd2, h02⟩ := depE hF
    have g22 := RdS.mono (fact_relF hF 4 rfl rfl) (hd2 4 rfl rfl)
    have g23 := RdS.mono (fact_relF hF 9 rfl rfl) (hd2 9 rfl rfl)
    have hle2 := gf_le (F := F2) (w := w8) H.sub; replace H := H.callF (F := F2) hx; clear hx hF hA hd2 h02; generalize gf S1 w6.drew F2 w8 = S2 at hle2 H g22 g23
    replace g5 := RdS.mono g5 hle2
    replace g6 := RdS.mono g6 hle2
    replace g11 := RdS.mono g11 hle2
    replace g12 := RdS.mono g12 hle2
    replace g18 := RdS.mono g18 hle2
    replace g19 := RdS.mono g19 hle2
    refine p_as (v := (vs2 4).v) rfl ?_
    refine p_as (v := (vs2 9).v) rfl ?_
    refine wpList_nil ?_; refine on_norm ?_
    refine xn hK9 ?_; clear hK9
    refine wp_seq_k ?_; intro K10 hK10
    refine nameF fun m1 k1 => ?_
    obtain ⟨t1, hE1, hF1⟩ := bnd hF
    have J1 : ∀ (v13 : Value) (v14 : Value) (S9 : Mem) (m2 : FM) (w16 : World), (∀ t, has [5, 6, 33, 34, 35, 36, 37, 38, 39, 40, 41, 42, 43, 44, 45, 46, 47, 48, 49] t = false → look m2 t = look m1 t) → look m2 5 = v13 → look m2 6 = v14 → Mem.le S2 S9 → HS ⟨S, [], w⟩ S9 w16 [.blk b3 (([Value.bool (false)] ++ ([Value.slice none 0 0] ++ ([Value.slice none 0 0])))) 65, .blk b2 (([Value.bool (x1.1)] ++ ([v3] ++ ([v4])))) 65, .blk b1 (([Value.bool (x0.1)] ++ ([v1] ++ ([v2])))) 65] → RdS S9 v13 t1.1 → RdS S9 v14 t1.2 → K10 (fr 74 m2) w16 := by
     clear H; intro v13 v14 S9 m2 w16 k2 q1 q2 hle9 H g32 g33
     replace g5 := RdS.mono g5 hle9
     replace g6 := RdS.mono g6 hle9
     replace g11 := RdS.mono g11 hle9
     replace g12 := RdS.mono g12 hle9
     replace g18 := RdS.mono g18 hle9
     replace g19 := RdS.mono g19 hle9
     replace g22 := RdS.mono g22 hle9
     replace g23 := RdS.mono g23 hle9
     have q3 : look m2 2 = .pointer (some ⟨b1, 0, none⟩) := (k2 2 rfl).trans (k1 2)
     have q4 : look m2 3 = .pointer (some ⟨b2, 0, none⟩) := (k2 3 rfl).trans (k1 3)
     have q5 : look m2 4 = .pointer (some ⟨b3, 0, none⟩) := (k2 4 rfl).trans (k1 4)
     refine hK10 _ _ ?_
     refine sr ?_; intro K13 hK13
     refine p_mv (v := v13) q1 ?_
     refine p_mv (v := v14) q2 ?_
     obtain ⟨y10, e10, hF1⟩ := bnd hF1
     refine p_call (l := [.int .i64 (0), v14]) is64 rfl ?_
     refine (seneschalref06_Inverse_c H.sub g33 e10).mono ?_; rintro _ w17 ⟨hx, v15, rfl, g34⟩
     have hle10 := gr_le (w' := w17) H.sub; replace H := H.call hx; clear hx; generalize gr S9 w16 w17 = S10 at hle10 H g34
     replace g5 := RdS.mono g5 hle10
     replace g6 := RdS.mono g6 hle10
     replace g11 := RdS.mono g11 hle10
     replace g12 := RdS.mono g12 hle10
     replace g32 := RdS.mono g32 hle10
     replace g33 := RdS.mono g33 hle10
     obtain ⟨y11, e11, hF1⟩ := bnd hF1
     refine p_call (l := [v13, v15]) is116 rfl ?_
     refine (seneschalref07_times_c H.sub g32 g34 e11).mono ?_; rintro _ w18 ⟨hx, v16, rfl, g35⟩
     have hle11 := gr_le (w' := w18) H.sub; replace H := H.call hx; clear hx; generalize gr S10 w17 w18 = S11 at hle11 H g35
     replace g5 := RdS.mono g5 hle11
     replace g6 := RdS.mono g6 hle11
     replace g11 := RdS.mono g11 hle11
     replace g12 := RdS.mono g12 hle11
     replace g32 := RdS.mono g32 hle11
     replace g34 := RdS.mono g34 hle11
     refine p_as (v := v16) rfl ?_
     refine xk hK13 ?_; clear hK13
     refine wp_seq_k ?_; intro K14 hK14
     obtain ⟨y12, e12, hF1⟩ := bnd hF1
     obtain ⟨y13, e13, hF1⟩ := bnd hF1
     obtain ⟨y14, e14, hF1⟩ := bnd hF1
     apply wp_region_ext 9 (kindsF [(2, .inr (fun g w' => RdS (gf S11 w18.drew g.f w') g.v y12)), (5, .inr (fun g w' => RdS (gf S11 w18.drew g.f w') g.v y13)), (8, .inr (fun g w' => RdS (gf S11 w18.drew g.f w') g.v y14))]) rfl rfl (by kernel_rfl); intro vs3
     simp only [tkS, tkZ, drS, drZ]
     replace H := H.drew
     refine t_v (fun w hx => r_move (v := v16) rfl) ?_
     refine t_v (fun w hx => r_move (v := v16) rfl) ?_
     refine t_callF (l := [v16, v16]) rfl rfl (stRd) is116 rfl (fun w hx hF => callRd hx (seneschalref07_times_c (gf_sub H.sub hx) (g35.mono (gf_le H.sub)) (g35.mono (gf_le H.sub)) e12)) ?_
     refine t_v (fun w hx => r_field fa65_1 q3) ?_
     refine t_v (fun w hx => h_load1 (v := v1) to63 (H.ext hx) rfl (k := 2) rfl rfl) ?_
     refine t_callF (l := [(vs3 2).v, v1]) rfl rfl (stRd) is115 rfl (fun w hx hF => callRd hx (seneschalref07_minus_c (gf_sub H.sub hx) (RdS.mono (fact_relF hF 2 rfl rfl) (dep_of hF 2 rfl rfl)) (g5.mono (gf_le H.sub)) e13)) ?_
     refine t_v (fun w hx => r_field fa65_1 q4) ?_
     refine t_v (fun w hx => h_load1 (v := v3) to63 (H.ext hx) rfl (k := 1) rfl rfl) ?_
     refine t_callF (l := [(vs3 5).v, v3]) rfl rfl (stRd) is115 rfl (fun w hx hF => callRd hx (seneschalref07_minus_c (gf_sub H.sub hx) (RdS.mono (fact_relF hF 5 rfl rfl) (dep_of hF 5 rfl rfl)) (g11.mono (gf_le H.sub)) e14)) ?_
     refine t_nil (fun w19 hx hF hA => ?_)
     obtain ⟨F3, hd3, h03⟩ := depE hF
     have g39 := RdS.mono (fact_relF hF 2 rfl rfl) (hd3 2 rfl rfl)
     have g40 := RdS.mono (fact_relF hF 5 rfl rfl) (hd3 5 rfl rfl)
     have g41 := RdS.mono (fact_relF hF 8 rfl rfl) (hd3 8 rfl rfl)
     have hle12 := gf_le (F := F3) (w := w19) H.sub; replace H := H.callF (F := F3) hx; clear hx hF hA hd3 h03; generalize gf S11 w18.drew F3 w19 = S12 at hle12 H g39 g40 g41
     replace g5 := RdS.mono g5 hle12
     replace g6 := RdS.mono g6 hle12
     replace g11 := RdS.mono g11 hle12
     replace g12 := RdS.mono g12 hle12
     replace g32 := RdS.mono g32 hle12
     replace g34 := RdS.mono g34 hle12
     replace g35 := RdS.mono g35 hle12
     refine p_as (v := (vs3 8).v) rfl ?_
     refine wpList_nil ?_; refine on_norm ?_
     refine xn hK14 ?_; clear hK14
     refine wp_seq_k ?_; intro K15 hK15
     obtain ⟨y15, e15, hF1⟩ := bnd hF1
     obtain ⟨y16, e16, hF1⟩ := bnd hF1
     obtain ⟨y17, e17, hF1⟩ := bnd hF1
     apply wp_region_ext 11 (kindsF [(5, .inr (fun g w' => RdS (gf S12 w19.drew g.f w') g.v y15)), (6, .inr (fun g w' => RdS (gf S12 w19.drew g.f w') g.v y16)), (9, .inr (fun g w' => RdS (gf S12 w19.drew g.f w') g.v y17))]) rfl rfl (by kernel_rfl); intro vs4
     simp only [tkS, tkZ, drS, drZ]
     replace H := H.drew
     refine t_v (fun w hx => r_move (v := (vs3 8).v) rfl) ?_
     refine t_v (fun w hx => r_move (v := v16) rfl) ?_
     refine t_v (fun w hx => r_field fa65_1 q3) ?_
     refine t_v (fun w hx => h_load1 (v := v1) to63 (H.ext hx) rfl (k := 2) rfl rfl) ?_
     refine t_v (fun w hx => r_move (v := (vs3 8).v) rfl) ?_
     refine t_callF (l := [v1, (vs3 8).v]) rfl rfl (stRd) is115 rfl (fun w hx hF => callRd hx (seneschalref07_minus_c (gf_sub H.sub hx) (g5.mono (gf_le H.sub)) (g41.mono (gf_le H.sub)) e15)) ?_
     refine t_callF (l := [v16, (vs4 5).v]) rfl rfl (stRd) is116 rfl (fun w hx hF => callRd hx (seneschalref07_times_c (gf_sub H.sub hx) (g35.mono (gf_le H.sub)) (RdS.mono (fact_relF hF 5 rfl rfl) (dep_of hF 5 rfl rfl)) e16)) ?_
     refine t_v (fun w hx => r_field fa65_2 q3) ?_
     refine t_v (fun w hx => h_load1 (v := v2) to63 (H.ext hx) rfl (k := 2) rfl rfl) ?_
     refine t_callF (l := [(vs4 6).v, v2]) rfl rfl (stRd) is115 rfl (fun w hx hF => callRd hx (seneschalref07_minus_c (gf_sub H.sub hx) (RdS.mono (fact_relF hF 6 rfl rfl) (dep_of hF 6 rfl rfl)) (g6.mono (gf_le H.sub)) e17)) ?_
     refine t_valF (fun w hx hF => r_build (vals := [(1, (vs3 8).v), (2, (vs4 9).v)]) (l := ([Value.bool (false)] ++ ([(vs3 8).v] ++ ([(vs4 9).v])))) tb65 rfl (by simp only [fillL, lkp, RdS.cells g41, RdS.cells (fact_relF hF 9 rfl rfl)]; rfl)) rfl rfl ?_
     refine t_nil (fun w20 hx hF hA => ?_)
     obtain ⟨F4, hd4, h04⟩ := depE hF
     have g45 := RdS.mono (fact_relF hF 5 rfl rfl) (hd4 5 rfl rfl)
     have g46 := RdS.mono (fact_relF hF 6 rfl rfl) (hd4 6 rfl rfl)
     have g47 := RdS.mono (fact_relF hF 9 rfl rfl) (hd4 9 rfl rfl)
     have hle13 := gf_le (F := F4) (w := w20) H.sub; replace H := H.callF (F := F4) hx; clear hx hF hA hd4 h04; generalize gf S12 w19.drew F4 w20 = S13 at hle13 H g45 g46 g47
     replace g5 := RdS.mono g5 hle13
     replace g6 := RdS.mono g6 hle13
     replace g11 := RdS.mono g11 hle13
     replace g12 := RdS.mono g12 hle13
     replace g32 := RdS.mono g32 hle13
     replace g34 := RdS.mono g34 hle13
     replace g35 := RdS.mono g35 hle13
     replace g39 := RdS.mono g39 hle13
     replace g40 := RdS.mono g40 hle13
     replace g41 := RdS.mono g41 hle13
     refine p_ofs (a_store (k := 0) (v := .agg (([Value.bool (false)] ++ ([(vs3 8).v] ++ ([(vs4 9).v])))).toArray) (l := ([Value.bool (false)] ++ ([(vs3 8).v] ++ ([(vs4 9).v])))) tsz65 H q5 rfl rfl (cells_agg _) rfl (Rp.one (rpP rpB (rpP (rpL g41) (rpL g47)))) rfl) ?_; clear H; intro w21 H
     replace H : HS ⟨S, [], w⟩ S13 w21 [.blk b3 (([Value.bool (false)] ++ ([(vs3 8).v] ++ ([(vs4 9).v])))) 65, .blk b2 (([Value.bool (x1.1)] ++ ([v3] ++ ([v4])))) 65, .blk b1 (([Value.bool (x0.1)] ++ ([v1] ++ ([v2])))) 65] := H
     refine wpList_nil ?_; refine on_norm ?_
     refine xn hK15 ?_; clear hK15
     refine wp_ret ?_
     obtain rfl := osi hF1
     refine e_1 rfl (qh_cell (l := ([Value.bool (false)] ++ ([(vs3 8).v] ++ ([(vs4 9).v])))) tg65 H q5 (k := 0) rfl rfl rfl) ?_
     exact ⟨H.toExt, _, rfl, Rp.mono (rpP rpB (rpP (rpL g41) (rpL g47))) H.gr⟩
    refine sr ?_; intro K11 hK11
    refine p_val (h_load (l := ([Value.bool (x0.1)] ++ ([v1] ++ ([v2])))) tg65 H (k1 2) (k := 2) rfl rfl rfl) ?_
    refine p_val (h_load (l := ([Value.bool (x1.1)] ++ ([v3] ++ ([v4])))) tg65 H (k1 3) (k := 1) rfl rfl rfl) ?_
    obtain ⟨y5, e5, hE1⟩ := bnd hE1
    refine p_call (l := [.agg (([Value.bool (x0.1)] ++ ([v1] ++ ([v2])))).toArray, .agg (([Value.bool (x1.1)] ++ ([v3] ++ ([v4])))).toArray]) is124 rfl ?_
    refine (seneschalref07_Point_Same_c H.sub (rpP rpB (rpP (rpL g5) (rpL g6))) (rpP rpB (rpP (rpL g11) (rpL g12))) e5).mono ?_; rintro _ w9 ⟨rfl, hx⟩; replace H := H.ext hx; clear hx
    refine xk hK11 ?_; clear hK11
    refine c_split (t := y5) rfl (fun hc4 => ?_) (fun hc4 => ?_)
    ·replace hE1 := cnd_t hE1 hc4
     refine sr ?_; intro K12 hK12
     have g24 : RL S2 ([Value.int .u32 (3)] ++ ([] : List Value)) ([(3 : UInt32)] : List UInt32) := (RL.cons (rpU32c (x := (3 : UInt32)) rfl) RL.nil)
     refine p_of1 (a_bslice (N := 1) (vals := [(0, .int .u32 (3))]) (l := ([Value.int .u32 (3)] ++ ([] : List Value))) tn63 H rfl rfl rfl g24.len) ?_; clear H; intro w10 v7 H
     generalize ([Value.int .u32 (3)] ++ ([] : List Value)) = cs1 at H g24
     replace H : HS ⟨S, [], w⟩ S2 w10 [.osl (v7) (([(3 : UInt32)] : List UInt32)).length 1 cs1 [] 107, .blk b3 (([Value.bool (false)] ++ ([Value.slice none 0 0] ++ ([Value.slice none 0 0])))) 65, .blk b2 (([Value.bool (x1.1)] ++ ([v3] ++ ([v4])))) 65, .blk b1 (([Value.bool (x0.1)] ++ ([v1] ++ ([v2])))) 65] := H
     refine p_val (r_field fa65_1 (k1 2)) ?_
     refine p_val (h_load1 (v := v1) to63 H rfl (k := 3) rfl rfl) ?_
     refine p_val (r_field fa65_1 (k1 2)) ?_
     refine p_val (h_load1 (v := v1) to63 H rfl (k := 3) rfl rfl) ?_
     obtain ⟨y6, e6, hE1⟩ := bnd hE1
     refine p_call (l := [v1, v1]) is116 rfl ?_
     refine (seneschalref07_times_c H.sub g5 g5 e6).mono ?_; rintro _ w11 ⟨hx, v8, rfl, g25⟩
     have hle3 := gr_le (w' := w11) H.sub; replace H := H.call hx; clear hx; generalize gr S2 w10 w11 = S3 at hle3 H g25
     replace g5 := RdS.mono g5 hle3
     replace g6 := RdS.mono g6 hle3
     replace g11 := RdS.mono g11 hle3
     replace g12 := RdS.mono g12 hle3
     replace g22 := RdS.mono g22 hle3
     replace g24 := RL.mono g24 hle3
     obtain ⟨S4, hle4, g26, H1⟩ := H.fixX (k := 0) rfl g24; clear H; have H := H1; clear H1
     replace g5 := RdS.mono g5 hle4
     replace g6 := RdS.mono g6 hle4
     replace g11 := RdS.mono g11 hle4
     replace g12 := RdS.mono g12 hle4
     replace g22 := RdS.mono g22 hle4
     replace g25 := RdS.mono g25 hle4
     replace H : HS ⟨S, [], w⟩ S4 w11 [.blk b3 (([Value.bool (false)] ++ ([Value.slice none 0 0] ++ ([Value.slice none 0 0])))) 65, .blk b2 (([Value.bool (x1.1)] ++ ([v3] ++ ([v4])))) 65, .blk b1 (([Value.bool (x0.1)] ++ ([v1] ++ ([v2])))) 65] := H
     obtain ⟨y7, e7, hE1⟩ := bnd hE1
     refine p_call (l := [v7, v8]) is116 rfl ?_
     refine (seneschalref07_times_c H.sub g26 g25 e7).mono ?_; rintro _ w12 ⟨hx, v9, rfl, g27⟩
     have hle5 := gr_le (w' := w12) H.sub; replace H := H.call hx; clear hx; generalize gr S4 w11 w12 = S5 at hle5 H g27
     replace g5 := RdS.mono g5 hle5
     replace g6 := RdS.mono g6 hle5
     replace g11 := RdS.mono g11 hle5
     replace g12 := RdS.mono g12 hle5
     replace g22 := RdS.mono g22 hle5
     replace g25 := RdS.mono g25 hle5
     replace g26 := RdS.mono g26 hle5
     have g28 : RL S5 ([Value.int .u32 (3)] ++ ([] : List Value)) ([(3 : UInt32)] : List UInt32) := (RL.cons (rpU32c (x := (3 : UInt32)) rfl) RL.nil)
     refine p_of1 (a_bslice (N := 1) (vals := [(0, .int .u32 (3))]) (l := ([Value.int .u32 (3)] ++ ([] : List Value))) tn63 H rfl rfl rfl g28.len) ?_; clear H; intro w13 v10 H
     generalize ([Value.int .u32 (3)] ++ ([] : List Value)) = cs2 at H g28
     replace H : HS ⟨S, [], w⟩ S5 w13 [.osl (v10) (([(3 : UInt32)] : List UInt32)).length 1 cs2 [] 107, .blk b3 (([Value.bool (false)] ++ ([Value.slice none 0 0] ++ ([Value.slice none 0 0])))) 65, .blk b2 (([Value.bool (x1.1)] ++ ([v3] ++ ([v4])))) 65, .blk b1 (([Value.bool (x0.1)] ++ ([v1] ++ ([v2])))) 65] := H
     obtain ⟨S6, hle6, g29, H1⟩ := H.fixX (k := 0) rfl g28; clear H; have H := H1; clear H1
     replace g5 := RdS.mono g5 hle6
     replace g6 := RdS.mono g6 hle6
     replace g11 := RdS.mono g11 hle6
     replace g12 := RdS.mono g12 hle6
     replace g22 := RdS.mono g22 hle6
     replace g27 := RdS.mono g27 hle6
     replace H : HS ⟨S, [], w⟩ S6 w13 [.blk b3 (([Value.bool (false)] ++ ([Value.slice none 0 0] ++ ([Value.slice none 0 0])))) 65, .blk b2 (([Value.bool (x1.1)] ++ ([v3] ++ ([v4])))) 65, .blk b1 (([Value.bool (x0.1)] ++ ([v1] ++ ([v2])))) 65] := H
     obtain ⟨y8, e8, hE1⟩ := bnd hE1
     refine p_call (l := [v9, v10]) is115 rfl ?_
     refine (seneschalref07_minus_c H.sub g27 g29 e8).mono ?_; rintro _ w14 ⟨hx, v11, rfl, g30⟩
     have hle7 := gr_le (w' := w14) H.sub; replace H := H.call hx; clear hx; generalize gr S6 w13 w14 = S7 at hle7 H g30
     replace g5 := RdS.mono g5 hle7
     replace g6 := RdS.mono g6 hle7
     replace g11 := RdS.mono g11 hle7
     replace g12 := RdS.mono g12 hle7
     replace g22 := RdS.mono g22 hle7
     replace g27 := RdS.mono g27 hle7
     replace g29 := RdS.mono g29 hle7
     refine p_as (v := v11) rfl ?_
     refine xk hK12 ?_; clear hK12
     refine wp_region_lit ?_
     refine p_val (r_field fa65_2 (k1 2)) ?_
     refine p_val (h_load1 (v := v2) to63 H rfl (k := 2) rfl rfl) ?_
     refine p_val (r_field fa65_2 (k1 2)) ?_
     refine p_val (h_load1 (v := v2) to63 H rfl (k := 2) rfl rfl) ?_
     obtain ⟨y9, e9, hE1⟩ := bnd hE1
     refine p_call (l := [v2, v2]) is114 rfl ?_
     refine (seneschalref07_plus_c H.sub g6 g6 e9).mono ?_; rintro _ w15 ⟨hx, v12, rfl, g31⟩
     have hle8 := gr_le (w' := w15) H.sub; replace H := H.call hx; clear hx; generalize gr S7 w14 w15 = S8 at hle8 H g31
     replace g5 := RdS.mono g5 hle8
     replace g6 := RdS.mono g6 hle8
     replace g11 := RdS.mono g11 hle8
     replace g12 := RdS.mono g12 hle8
     replace g30 := RdS.mono g30 hle8
     refine p_as (v := v12) rfl ?_
     refine wpList_nil ?_
     refine x_norm ?_
     replace H : HS ⟨S, [], w⟩ S8 w15 [.blk b3 (([Value.bool (false)] ++ ([Value.slice none 0 0] ++ ([Value.slice none 0 0])))) 65, .blk b2 (([Value.bool (x1.1)] ++ ([v3] ++ ([v4])))) 65, .blk b1 (([Value.bool (x0.1)] ++ ([v1] ++ ([v2])))) 65] := H
     obtain rfl := osi hE1
     exact J1 _ _ _ _ _ kcx rfl rfl (Mem.le_trans hle3 (Mem.le_trans hle4 (Mem.le_trans hle5 (Mem.le_trans hle6 (Mem.le_trans hle7 hle8))))) H g30 g31
    ·replace hE1 := cnd_f hE1 hc4
     refine wp_skip ?_
     refine x_norm ?_
     replace H : HS ⟨S, [], w⟩ S2 w9 [.blk b3 (([Value.bool (false)] ++ ([Value.slice none 0 0] ++ ([Value.slice none 0 0])))) 65, .blk b2 (([Value.bool (x1.1)] ++ ([v3] ++ ([v4])))) 65, .blk b1 (([Value.bool (x0.1)] ++ ([v1] ++ ([v2])))) 65] := H
     obtain rfl := osi hE1
     exact J1 _ _ _ _ _ kcx (show _ = ((vs2 4).v : Value) from (k1 5)) (show _ = ((vs2 9).v : Value) from (k1 6)) (Mem.le_refl _) H g22 g23
end Go.Proofs.YtmbcolbbekbccaaGreat
