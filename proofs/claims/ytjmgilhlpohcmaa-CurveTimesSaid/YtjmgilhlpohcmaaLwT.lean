/- What some functions compute, and that they do. Conditions: as each theorem says. -/
import Derived.Test.YtjmgilhlpohcmaaRfE
import Derived.Test.YtjmgilhlpohcmaaGv
namespace Go.Proofs.Ytjmgilhlpohcmaa
open Go Go.RowKit
attribute [local irreducible] wpList wpT Code.wp Calls Code.rounds
theorem is42 : IsFn Try.prog 42 := isFn Try.func42 (by kernel_rfl) (by kernel_rfl)
theorem is43 : IsFn Try.prog 43 := isFn Try.func43 (by kernel_rfl) (by kernel_rfl)
theorem is48 : IsFn Try.prog 48 := isFn Try.func48 (by kernel_rfl) (by kernel_rfl)
theorem is50 : IsFn Try.prog 50 := isFn Try.func50 (by kernel_rfl) (by kernel_rfl)
theorem is52 : IsFn Try.prog 52 := isFn Try.func52 (by kernel_rfl) (by kernel_rfl)
theorem is53 : IsFn Try.prog 53 := isFn Try.func53 (by kernel_rfl) (by kernel_rfl)
theorem is54 : IsFn Try.prog 54 := isFn Try.func54 (by kernel_rfl) (by kernel_rfl)
theorem eqt52 (x y : (UInt64 × UInt64 × UInt64 × UInt64) × (UInt64 × UInt64 × UInt64 × UInt64) × Bool) : EqR Try.prog 3 52 (.agg (cl52 x).toArray) (.agg (cl52 y).toArray) (x == y) :=
  EqR.str (fs := fieldsOf Try.prog 52) (by kernel_rfl) (by kernel_rfl) (by kernel_rfl) (l := [(24, 0), (24, 4), (4, 8)]) (by kernel_rfl) (EqL.cons (partA tg24 rfl) (partA tg24 rfl) (eqt24 x.1 y.1) (EqL.cons (partA tg24 rfl) (partA tg24 rfl) (eqt24 x.2.1 y.2.1) (EqL.last (part1 (v := Value.bool (x.2.2)) to4 rfl) (part1 (v := Value.bool (y.2.2)) to4 rfl) ((eqB u4).le 2 (Nat.le_of_ble_eq_true rfl)))))
def seneschallaw07_CurveTimes_p (x0 : UInt64 × UInt64 × UInt64 × UInt64) (x1 : (UInt64 × UInt64 × UInt64 × UInt64) × (UInt64 × UInt64 × UInt64 × UInt64) × Bool) : Option (Bool) :=
  Option.bind (curve_Mul_p x0 x1) fun y1 => Option.bind (awake7_p) fun y2 => bif (!y2) then (some (false)) else (Option.bind (seneschalref07_On_p x1) fun y3 => bif (!y3) then (Option.bind (bif (y1.2 == 70) then (some (((y1.1 : (UInt64 × UInt64 × UInt64 × UInt64) × (UInt64 × UInt64 × UInt64 × UInt64) × Bool) == ((((0 : UInt64), (0 : UInt64), (0 : UInt64), (0 : UInt64)), ((0 : UInt64), (0 : UInt64), (0 : UInt64), (0 : UInt64)), false) : (UInt64 × UInt64 × UInt64 × UInt64) × (UInt64 × UInt64 × UInt64 × UInt64) × Bool)))) else (some (false))) (fun t1 => some (t1))) else (bif (y1.2 == 0) then (Option.bind (seneschalref07_In_p x1) fun y4 => Option.bind (seneschalref06_In_p x0) fun y5 => Option.bind (seneschalref07_Point_Times_p y4 y5) fun y6 => Option.bind (seneschalref07_Point_Out_p y6) fun y7 => bif ((y1.1 : (UInt64 × UInt64 × UInt64 × UInt64) × (UInt64 × UInt64 × UInt64 × UInt64) × Bool) == (y7 : (UInt64 × UInt64 × UInt64 × UInt64) × (UInt64 × UInt64 × UInt64 × UInt64) × Bool)) then (Option.bind (seneschalref07_In_p x1) fun y8 => Option.bind (seneschalref06_In_p x0) fun y9 => Option.bind (seneschalref07_Point_Fast_p y8 y9) fun y10 => Option.bind (seneschalref07_Point_Out_p y10) fun y11 => some (((y1.1 : (UInt64 × UInt64 × UInt64 × UInt64) × (UInt64 × UInt64 × UInt64 × UInt64) × Bool) == (y11 : (UInt64 × UInt64 × UInt64 × UInt64) × (UInt64 × UInt64 × UInt64 × UInt64) × Bool)))) else (some (false))) else (some (false))))
theorem seneschallaw07_CurveTimes_c {S : Mem} {w : World} (hS : Sub S w) {x0 : UInt64 × UInt64 × UInt64 × UInt64} {x1 : (UInt64 × UInt64 × UInt64 × UInt64) × (UInt64 × UInt64 × UInt64 × UInt64) × Bool} {r : Bool} (hF : seneschallaw07_CurveTimes_p x0 x1 = some r) :
    Calls Try.prog 13 #[.agg ((cl24 x0)).toArray, .agg ((cl52 x1)).toArray] w fun e w' => e = .returned (.bool (r)) ∧ Ext w w' := by
 refine enter (n := 47) Try.func13 rfl rfl rfl ?_
 have H := HS.start hS
 unfold seneschallaw07_CurveTimes_p at hF
 refine sr ?_; intro K1 hK1
 refine p_ofb (a_box (l := (cl24 x0)) H rfl) ?_; clear H; intro w1 b1 H
 refine p_ofb (a_box (l := (cl52 x1)) H rfl) ?_; clear H; intro w2 b2 H
 refine p_as (v := .bool (false)) rfl ?_
 refine xk hK1 ?_; clear hK1
 refine sr ?_; intro K2 hK2
 refine p_val (h_load (l := (cl24 x0)) tg24 H rfl (k := 1) rfl rfl rfl) ?_
 refine p_val (h_load (l := (cl52 x1)) tg52 H rfl (k := 0) rfl rfl rfl) ?_
 obtain ⟨y1, e1, hF⟩ := bnd hF
 refine p_call (l := [.agg ((cl24 x0)).toArray, .agg ((cl52 x1)).toArray]) is52 rfl ?_
 refine (curve_Mul_c H.sub e1).mono ?_; rintro _ w3 ⟨rfl, hx⟩; replace H := H.ext hx; clear hx
 refine p_mv (v := .tuple #[.agg ((cl52 y1.1)).toArray, .int .i64 (y1.2)]) rfl ?_
 refine p_val (r_extract (v := .agg ((cl52 y1.1)).toArray) rfl rfl) ?_
 refine p_val (r_extract (v := .int .i64 (y1.2)) rfl rfl) ?_
 refine p_ofb (a_alloc (l := (cl52 (((0 : UInt64), (0 : UInt64), (0 : UInt64), (0 : UInt64)), ((0 : UInt64), (0 : UInt64), (0 : UInt64), (0 : UInt64)), false))) H tz52 rfl) ?_; clear H; intro w4 b3 H
 refine p_ofs (a_store (k := 0) (v := .agg ((cl52 y1.1)).toArray) (l := (cl52 y1.1)) tsz52 H rfl rfl rfl (cells_agg _) rfl (fun u hu => List.all_eq_true.1 (rfl : ((cl52 y1.1)).all (·.oneCell') = true) u hu) rfl) ?_; clear H; intro w5 H
 replace H : HS ⟨S, [], w⟩ S w5 [.blk b3 ((cl52 y1.1)) 52, .blk b2 ((cl52 x1)) 52, .blk b1 ((cl24 x0)) 24] := H
 refine p_as (v := .int .i64 (y1.2)) rfl ?_
 refine xk hK2 ?_; clear hK2
 refine wp_seq_k ?_; intro K3 hK3
 refine sr ?_; intro K4 hK4
 obtain ⟨y2, e2, hF⟩ := bnd hF
 refine p_call (l := []) is43 rfl ?_
 refine (awake7_g H.sub e2).mono ?_; rintro _ w6 ⟨rfl, hx⟩; replace H := H.ext hx; clear hx
 refine p_val (r_not (t := (!y2)) rfl rfl) ?_
 refine xk hK4 ?_; clear hK4
 refine c_split (t := (!y2)) rfl (fun hc1 => ?_) (fun hc1 => ?_)
 ·replace hF := cnd_t hF hc1
  refine sr ?_; intro K5 hK5
  refine p_as (v := .bool (false)) rfl ?_
  refine xk hK5 ?_; clear hK5
  refine wp_ret ?_
  refine x_ret ?_
  obtain rfl := Option.some.inj hF
  refine e_1 rfl (q_tmp (v := .bool (false)) rfl) ?_
  exact ⟨rfl, H.toExt⟩
 ·replace hF := cnd_f hF hc1
  refine wp_skip ?_
  refine xn hK3 ?_; clear hK3
  refine wp_seq_k ?_; intro K6 hK6
  refine sr ?_; intro K7 hK7
  refine p_val (h_load (l := (cl52 x1)) tg52 H rfl (k := 1) rfl rfl rfl) ?_
  obtain ⟨y3, e3, hF⟩ := bnd hF
  refine p_call (l := [.agg ((cl52 x1)).toArray]) is42 rfl ?_
  refine (seneschalref07_On_c H.sub e3).mono ?_; rintro _ w7 ⟨rfl, hx⟩; replace H := H.ext hx; clear hx
  refine p_val (r_not (t := (!y3)) rfl rfl) ?_
  refine xk hK7 ?_; clear hK7
  refine c_split (t := (!y3)) rfl (fun hc2 => ?_) (fun hc2 => ?_)
  ·replace hF := cnd_t hF hc2
   refine sr ?_; intro K8 hK8
   refine p_mv (v := .int .i64 (y1.2)) rfl ?_
   refine p_val (r_eql (t := (y1.2 == 70)) rfl rfl rfl) ?_
   refine p_mv (v := .bool ((y1.2 == 70))) rfl ?_
   refine nameL fun m1 k1 => ?_
   refine gs_at 4 fun K9 hK9 R4 hR4 => ?_
   obtain ⟨t1, hE1, hF1⟩ := bnd hF
   have J1 : ∀ (m2 : FM) (w8 : World), (∀ t, has [21, 22, 23, 24] t = false → look m2 t = look m1 t) → look m2 24 = .bool (t1) → HS ⟨S, [], w⟩ S w8 [.blk b3 ((cl52 y1.1)) 52, .blk b2 ((cl52 x1)) 52, .blk b1 ((cl24 x0)) 24] → K9 m2 w8 := by
    clear H; intro m2 w8 k2 q1 H
    refine hK9 _ _ ?_
    refine p_as (v := .bool (t1)) q1 ?_
    refine xk hK8 ?_; clear hK8
    refine wp_ret ?_
    refine x_ret ?_
    obtain rfl := Option.some.inj hF1
    refine e_1 rfl (q_tmp (v := .bool (t1)) rfl) ?_
    exact ⟨rfl, H.toExt⟩
   refine p_gs (j := 2) (gvl_at rfl rfl (k1 20)) (fun hb1 => ?_) (fun hb1 => ?_)
   ·replace hE1 := cnd_t hE1 hb1
    refine p_want (gvl_at rfl rfl (k1 20)) hb1 ?_
    refine p_val (h_load (l := (cl52 y1.1)) tg52 H (k1 5) (k := 0) rfl rfl rfl) ?_
    refine p_want (gvl_at rfl rfl (k1 20)) hb1 ?_
    refine p_val (r_build (vals := []) (l := (cl52 (((0 : UInt64), (0 : UInt64), (0 : UInt64), (0 : UInt64)), ((0 : UInt64), (0 : UInt64), (0 : UInt64), (0 : UInt64)), false))) tb52 rfl rfl) ?_
    refine p_want (gvl_at rfl rfl (k1 20)) hb1 ?_
    refine p_val (r_eqR eg52 (by decide) (eqt52 y1.1 (((0 : UInt64), (0 : UInt64), (0 : UInt64), (0 : UInt64)), ((0 : UInt64), (0 : UInt64), (0 : UInt64), (0 : UInt64)), false)) rfl rfl) ?_
    refine p_val (r_pickt (v := .bool (((y1.1 : (UInt64 × UInt64 × UInt64 × UInt64) × (UInt64 × UInt64 × UInt64 × UInt64) × Bool) == ((((0 : UInt64), (0 : UInt64), (0 : UInt64), (0 : UInt64)), ((0 : UInt64), (0 : UInt64), (0 : UInt64), (0 : UInt64)), false) : (UInt64 × UInt64 × UInt64 × UInt64) × (UInt64 × UInt64 × UInt64 × UInt64) × Bool)))) (k1 20) hb1 rfl) ?_
    refine hR4 _ _ ?_
    replace H : HS ⟨S, [], w⟩ S w7 [.blk b3 ((cl52 y1.1)) 52, .blk b2 ((cl52 x1)) 52, .blk b1 ((cl24 x0)) 24] := H
    obtain rfl := Option.some.inj hE1
    exact J1 _ _ (by (repeat (refine keep_cons rfl ?_)); exact fun _ _ => rfl) rfl H
   ·replace hE1 := cnd_f hE1 hb1
    refine p_skip (gvl_at rfl rfl (k1 20)) hb1 ?_
    rw [put_fr]
    refine p_skip (gvl_at rfl rfl (k1 20)) hb1 ?_
    rw [put_fr]
    refine p_skip (gvl_at rfl rfl (k1 20)) hb1 ?_
    rw [put_fr]
    refine p_val (r_pickf (v := .bool (false)) (k1 20) hb1 rfl) ?_
    refine hR4 _ _ ?_
    replace H : HS ⟨S, [], w⟩ S w7 [.blk b3 ((cl52 y1.1)) 52, .blk b2 ((cl52 x1)) 52, .blk b1 ((cl24 x0)) 24] := H
    obtain rfl := Option.some.inj hE1
    exact J1 _ _ (by (repeat (refine keep_cons rfl ?_)); exact fun _ _ => rfl) rfl H
  ·replace hF := cnd_f hF hc2
   refine wp_skip ?_
   refine xn hK6 ?_; clear hK6
   refine wp_seq_k ?_; intro K10 hK10
   rcases Bool.eq_false_or_eq_true ((y1.2 == 0)) with hb2 | hb2
   ·replace hF := cnd_t hF hb2
    obtain ⟨y4, e4, hF⟩ := bnd hF
    obtain ⟨y5, e5, hF⟩ := bnd hF
    obtain ⟨y6, e6, hF⟩ := bnd hF
    obtain ⟨y7, e7, hF⟩ := bnd hF
    rcases Bool.eq_false_or_eq_true (((y1.1 : (UInt64 × UInt64 × UInt64 × UInt64) × (UInt64 × UInt64 × UInt64 × UInt64) × Bool) == (y7 : (UInt64 × UInt64 × UInt64 × UInt64) × (UInt64 × UInt64 × UInt64 × UInt64) × Bool))) with hb3 | hb3
    ·replace hF := cnd_t hF hb3
     obtain ⟨y8, e8, hF⟩ := bnd hF
     obtain ⟨y9, e9, hF⟩ := bnd hF
     obtain ⟨y10, e10, hF⟩ := bnd hF
     obtain ⟨y11, e11, hF⟩ := bnd hF
     apply wp_region_ext 22 (kindsF [(5, .inr (fun g w' => ∃ c0', g.v = .agg c0'.toArray ∧ Rp.rep (gf S w7.drew g.f w') c0' y4)), (7, .inr (fun g w' => RdS (gf S w7.drew g.f w') g.v y5)), (8, .inr (fun g w' => ∃ c0', g.v = .agg c0'.toArray ∧ Rp.rep (gf S w7.drew g.f w') c0' y6)), (9, .inl (.agg ((cl52 y7)).toArray)), (15, .inr (fun g w' => ∃ c0', g.v = .agg c0'.toArray ∧ Rp.rep (gf S w7.drew g.f w') c0' y8)), (17, .inr (fun g w' => RdS (gf S w7.drew g.f w') g.v y9)), (18, .inr (fun g w' => ∃ c0', g.v = .agg c0'.toArray ∧ Rp.rep (gf S w7.drew g.f w') c0' y10)), (19, .inl (.agg ((cl52 y11)).toArray))]) rfl rfl (by kernel_rfl); intro vs1
     simp only [List.take_succ_cons, List.take_zero, List.drop_succ_cons, List.drop_zero]
     replace H := H.drew
     refine t_v (fun w hx => r_move (v := .int .i64 (y1.2)) rfl) ?_
     refine t_v (fun w hx => r_eql (t := (y1.2 == 0)) rfl rfl rfl) ?_
     refine t_v (fun w hx => r_move (v := .bool ((y1.2 == 0))) rfl) ?_
     refine t_valG rfl hb2 (fun w hx => h_load (l := (cl52 y1.1)) tg52 (H.ext hx) rfl (k := 0) rfl rfl rfl) rfl rfl ?_
     refine t_valG rfl hb2 (fun w hx => h_load (l := (cl52 x1)) tg52 (H.ext hx) rfl (k := 1) rfl rfl rfl) rfl rfl ?_
     refine t_callFG rfl hb2 (l := [.agg ((cl52 x1)).toArray]) rfl rfl (fun _ _ _ ⟨c0', e, h0⟩ hx => ⟨c0', e, Rp.mono h0 (gf_mono hx)⟩) is48 rfl (fun w hx hF => (seneschalref07_In_c (gf_sub H.sub hx) e4).mono (fun _ w' ⟨hx2, c0', he, h0⟩ => ⟨_, he, hx2, c0', rfl, Rp.mono h0 (gr_gf hx hx2)⟩)) ?_
     refine t_valG rfl hb2 (fun w hx => h_load (l := (cl24 x0)) tg24 (H.ext hx) rfl (k := 2) rfl rfl rfl) rfl rfl ?_
     refine t_callFG rfl hb2 (l := [.agg ((cl24 x0)).toArray]) rfl rfl (stRd) is16 rfl (fun w hx hF => callRd hx (seneschalref06_In_c (gf_sub H.sub hx) e5)) ?_
     refine t_callFG rfl hb2 (l := [(vs1 5).v, (vs1 7).v]) rfl rfl (fun _ _ _ ⟨c0', e, h0⟩ hx => ⟨c0', e, Rp.mono h0 (gf_mono hx)⟩) is53 rfl (fun w hx hF => by obtain ⟨c0_, e0_, h0_⟩ := (fact_relF hF 5 rfl rfl); rw [e0_]; exact (seneschalref07_Point_Times_c (gf_sub H.sub hx) (Rp.mono h0_ (dep_of hF 5 rfl rfl)) (RdS.mono (fact_relF hF 7 rfl rfl) (dep_of hF 7 rfl rfl)) e6).mono (fun _ w' ⟨hx2, c0', he, h0⟩ => ⟨_, he, hx2, c0', rfl, Rp.mono h0 (gr_gf hx hx2)⟩)) ?_
     refine t_callG rfl hb2 (l := [(vs1 8).v]) rfl rfl is50 rfl (fun w hx hF => by obtain ⟨c0_, e0_, h0_⟩ := (fact_relF hF 8 rfl rfl); rw [e0_]; exact (seneschalref07_Point_Out_c (gf_sub H.sub hx) (Rp.mono h0_ (dep_of hF 8 rfl rfl)) e7).mono (fun _ _ ⟨he, hx⟩ => ⟨he, hx⟩)) ?_
     refine t_valG rfl hb2 (fun w hx => r_eqR eg52 (by decide) (eqt52 y1.1 y7) rfl rfl) rfl rfl ?_
     refine t_v (fun w hx => r_pickt (v := .bool (((y1.1 : (UInt64 × UInt64 × UInt64 × UInt64) × (UInt64 × UInt64 × UInt64 × UInt64) × Bool) == (y7 : (UInt64 × UInt64 × UInt64 × UInt64) × (UInt64 × UInt64 × UInt64 × UInt64) × Bool)))) rfl hb2 rfl) ?_
     refine t_v (fun w hx => r_move (v := .bool (((y1.1 : (UInt64 × UInt64 × UInt64 × UInt64) × (UInt64 × UInt64 × UInt64 × UInt64) × Bool) == (y7 : (UInt64 × UInt64 × UInt64 × UInt64) × (UInt64 × UInt64 × UInt64 × UInt64) × Bool)))) rfl) ?_
     refine t_valG rfl hb3 (fun w hx => h_load (l := (cl52 y1.1)) tg52 (H.ext hx) rfl (k := 0) rfl rfl rfl) rfl rfl ?_
     refine t_valG rfl hb3 (fun w hx => h_load (l := (cl52 x1)) tg52 (H.ext hx) rfl (k := 1) rfl rfl rfl) rfl rfl ?_
     refine t_callFG rfl hb3 (l := [.agg ((cl52 x1)).toArray]) rfl rfl (fun _ _ _ ⟨c0', e, h0⟩ hx => ⟨c0', e, Rp.mono h0 (gf_mono hx)⟩) is48 rfl (fun w hx hF => (seneschalref07_In_c (gf_sub H.sub hx) e8).mono (fun _ w' ⟨hx2, c0', he, h0⟩ => ⟨_, he, hx2, c0', rfl, Rp.mono h0 (gr_gf hx hx2)⟩)) ?_
     refine t_valG rfl hb3 (fun w hx => h_load (l := (cl24 x0)) tg24 (H.ext hx) rfl (k := 2) rfl rfl rfl) rfl rfl ?_
     refine t_callFG rfl hb3 (l := [.agg ((cl24 x0)).toArray]) rfl rfl (stRd) is16 rfl (fun w hx hF => callRd hx (seneschalref06_In_c (gf_sub H.sub hx) e9)) ?_
     refine t_callFG rfl hb3 (l := [(vs1 15).v, (vs1 17).v]) rfl rfl (fun _ _ _ ⟨c0', e, h0⟩ hx => ⟨c0', e, Rp.mono h0 (gf_mono hx)⟩) is54 rfl (fun w hx hF => by obtain ⟨c0_, e0_, h0_⟩ := (fact_relF hF 15 rfl rfl); rw [e0_]; exact (seneschalref07_Point_Fast_c (gf_sub H.sub hx) (Rp.mono h0_ (dep_of hF 15 rfl rfl)) (RdS.mono (fact_relF hF 17 rfl rfl) (dep_of hF 17 rfl rfl)) e10).mono (fun _ w' ⟨hx2, c0', he, h0⟩ => ⟨_, he, hx2, c0', rfl, Rp.mono h0 (gr_gf hx hx2)⟩)) ?_
     refine t_callG rfl hb3 (l := [(vs1 18).v]) rfl rfl is50 rfl (fun w hx hF => by obtain ⟨c0_, e0_, h0_⟩ := (fact_relF hF 18 rfl rfl); rw [e0_]; exact (seneschalref07_Point_Out_c (gf_sub H.sub hx) (Rp.mono h0_ (dep_of hF 18 rfl rfl)) e11).mono (fun _ _ ⟨he, hx⟩ => ⟨he, hx⟩)) ?_
     refine t_valG rfl hb3 (fun w hx => r_eqR eg52 (by decide) (eqt52 y1.1 y11) rfl rfl) rfl rfl ?_
     refine t_v (fun w hx => r_pickt (v := .bool (((y1.1 : (UInt64 × UInt64 × UInt64 × UInt64) × (UInt64 × UInt64 × UInt64 × UInt64) × Bool) == (y11 : (UInt64 × UInt64 × UInt64 × UInt64) × (UInt64 × UInt64 × UInt64 × UInt64) × Bool)))) rfl hb3 rfl) ?_
     refine t_nil (fun w9 hx hF hA => ?_)
     obtain ⟨F1, hd1, h01⟩ := depE hF
     obtain ⟨c1, eq1, g3⟩ := fact_relF hF 5 rfl rfl
     replace g3 := Rp.mono g3 (hd1 5 rfl rfl)
     have g4 := RdS.mono (fact_relF hF 7 rfl rfl) (hd1 7 rfl rfl)
     obtain ⟨c2, eq2, g5⟩ := fact_relF hF 8 rfl rfl
     replace g5 := Rp.mono g5 (hd1 8 rfl rfl)
     obtain ⟨c3, eq3, g6⟩ := fact_relF hF 15 rfl rfl
     replace g6 := Rp.mono g6 (hd1 15 rfl rfl)
     have g7 := RdS.mono (fact_relF hF 17 rfl rfl) (hd1 17 rfl rfl)
     obtain ⟨c4, eq4, g8⟩ := fact_relF hF 18 rfl rfl
     replace g8 := Rp.mono g8 (hd1 18 rfl rfl)
     have hle1 := gf_le (F := F1) (w := w9) H.sub; replace H := H.callF (F := F1) hx; clear hx hF hA hd1 h01; generalize gf S w7.drew F1 w9 = S1 at hle1 H g3 g4 g5 g6 g7 g8
     obtain ⟨c5, c6, rfl, g9, g10⟩ := elP g3
     obtain rfl := elB g9
     obtain ⟨c7, c8, rfl, g11, g12⟩ := elP g10
     obtain ⟨v1, rfl, g13⟩ := elL g11
     obtain ⟨v2, rfl, g14⟩ := elL g12
     obtain ⟨c9, c10, rfl, g15, g16⟩ := elP g5
     obtain rfl := elB g15
     obtain ⟨c11, c12, rfl, g17, g18⟩ := elP g16
     obtain ⟨v3, rfl, g19⟩ := elL g17
     obtain ⟨v4, rfl, g20⟩ := elL g18
     obtain ⟨c13, c14, rfl, g21, g22⟩ := elP g6
     obtain rfl := elB g21
     obtain ⟨c15, c16, rfl, g23, g24⟩ := elP g22
     obtain ⟨v5, rfl, g25⟩ := elL g23
     obtain ⟨v6, rfl, g26⟩ := elL g24
     obtain ⟨c17, c18, rfl, g27, g28⟩ := elP g8
     obtain rfl := elB g27
     obtain ⟨c19, c20, rfl, g29, g30⟩ := elP g28
     obtain ⟨v7, rfl, g31⟩ := elL g29
     obtain ⟨v8, rfl, g32⟩ := elL g30
     refine p_as (v := .bool (((y1.1 : (UInt64 × UInt64 × UInt64 × UInt64) × (UInt64 × UInt64 × UInt64 × UInt64) × Bool) == (y11 : (UInt64 × UInt64 × UInt64 × UInt64) × (UInt64 × UInt64 × UInt64 × UInt64) × Bool)))) rfl ?_
     refine wpList_nil ?_; refine on_norm ?_
     refine xn hK10 ?_; clear hK10
     refine wp_ret ?_
     obtain rfl := Option.some.inj hF
     refine e_1 rfl (q_tmp (v := .bool (((y1.1 : (UInt64 × UInt64 × UInt64 × UInt64) × (UInt64 × UInt64 × UInt64 × UInt64) × Bool) == (y11 : (UInt64 × UInt64 × UInt64 × UInt64) × (UInt64 × UInt64 × UInt64 × UInt64) × Bool)))) rfl) ?_
     exact ⟨rfl, H.toExt⟩
    ·replace hF := cnd_f hF hb3
     apply wp_region_ext 22 (kindsF [(5, .inr (fun g w' => ∃ c0', g.v = .agg c0'.toArray ∧ Rp.rep (gf S w7.drew g.f w') c0' y4)), (7, .inr (fun g w' => RdS (gf S w7.drew g.f w') g.v y5)), (8, .inr (fun g w' => ∃ c0', g.v = .agg c0'.toArray ∧ Rp.rep (gf S w7.drew g.f w') c0' y6)), (9, .inl (.agg ((cl52 y7)).toArray))]) rfl rfl (by kernel_rfl); intro vs1
     simp only [List.take_succ_cons, List.take_zero, List.drop_succ_cons, List.drop_zero]
     replace H := H.drew
     refine t_v (fun w hx => r_move (v := .int .i64 (y1.2)) rfl) ?_
     refine t_v (fun w hx => r_eql (t := (y1.2 == 0)) rfl rfl rfl) ?_
     refine t_v (fun w hx => r_move (v := .bool ((y1.2 == 0))) rfl) ?_
     refine t_valG rfl hb2 (fun w hx => h_load (l := (cl52 y1.1)) tg52 (H.ext hx) rfl (k := 0) rfl rfl rfl) rfl rfl ?_
     refine t_valG rfl hb2 (fun w hx => h_load (l := (cl52 x1)) tg52 (H.ext hx) rfl (k := 1) rfl rfl rfl) rfl rfl ?_
     refine t_callFG rfl hb2 (l := [.agg ((cl52 x1)).toArray]) rfl rfl (fun _ _ _ ⟨c0', e, h0⟩ hx => ⟨c0', e, Rp.mono h0 (gf_mono hx)⟩) is48 rfl (fun w hx hF => (seneschalref07_In_c (gf_sub H.sub hx) e4).mono (fun _ w' ⟨hx2, c0', he, h0⟩ => ⟨_, he, hx2, c0', rfl, Rp.mono h0 (gr_gf hx hx2)⟩)) ?_
     refine t_valG rfl hb2 (fun w hx => h_load (l := (cl24 x0)) tg24 (H.ext hx) rfl (k := 2) rfl rfl rfl) rfl rfl ?_
     refine t_callFG rfl hb2 (l := [.agg ((cl24 x0)).toArray]) rfl rfl (stRd) is16 rfl (fun w hx hF => callRd hx (seneschalref06_In_c (gf_sub H.sub hx) e5)) ?_
     refine t_callFG rfl hb2 (l := [(vs1 5).v, (vs1 7).v]) rfl rfl (fun _ _ _ ⟨c0', e, h0⟩ hx => ⟨c0', e, Rp.mono h0 (gf_mono hx)⟩) is53 rfl (fun w hx hF => by obtain ⟨c0_, e0_, h0_⟩ := (fact_relF hF 5 rfl rfl); rw [e0_]; exact (seneschalref07_Point_Times_c (gf_sub H.sub hx) (Rp.mono h0_ (dep_of hF 5 rfl rfl)) (RdS.mono (fact_relF hF 7 rfl rfl) (dep_of hF 7 rfl rfl)) e6).mono (fun _ w' ⟨hx2, c0', he, h0⟩ => ⟨_, he, hx2, c0', rfl, Rp.mono h0 (gr_gf hx hx2)⟩)) ?_
     refine t_callG rfl hb2 (l := [(vs1 8).v]) rfl rfl is50 rfl (fun w hx hF => by obtain ⟨c0_, e0_, h0_⟩ := (fact_relF hF 8 rfl rfl); rw [e0_]; exact (seneschalref07_Point_Out_c (gf_sub H.sub hx) (Rp.mono h0_ (dep_of hF 8 rfl rfl)) e7).mono (fun _ _ ⟨he, hx⟩ => ⟨he, hx⟩)) ?_
     refine t_valG rfl hb2 (fun w hx => r_eqR eg52 (by decide) (eqt52 y1.1 y7) rfl rfl) rfl rfl ?_
     refine t_v (fun w hx => r_pickt (v := .bool (((y1.1 : (UInt64 × UInt64 × UInt64 × UInt64) × (UInt64 × UInt64 × UInt64 × UInt64) × Bool) == (y7 : (UInt64 × UInt64 × UInt64 × UInt64) × (UInt64 × UInt64 × UInt64 × UInt64) × Bool)))) rfl hb2 rfl) ?_
     refine t_v (fun w hx => r_move (v := .bool (((y1.1 : (UInt64 × UInt64 × UInt64 × UInt64) × (UInt64 × UInt64 × UInt64 × UInt64) × Bool) == (y7 : (UInt64 × UInt64 × UInt64 × UInt64) × (UInt64 × UInt64 × UInt64 × UInt64) × Bool)))) rfl) ?_
     refine t_skip rfl hb3 rfl ?_
     rw [put_fr]
     refine t_skip rfl hb3 rfl ?_
     rw [put_fr]
     refine t_skip rfl hb3 rfl ?_
     rw [put_fr]
     refine t_skip rfl hb3 rfl ?_
     rw [put_fr]
     refine t_skip rfl hb3 rfl ?_
     rw [put_fr]
     refine t_skip rfl hb3 rfl ?_
     rw [put_fr]
     refine t_skip rfl hb3 rfl ?_
     rw [put_fr]
     refine t_skip rfl hb3 rfl ?_
     rw [put_fr]
     refine t_v (fun w hx => r_pickf (v := .bool (false)) rfl hb3 rfl) ?_
     refine t_nil (fun w10 hx hF hA => ?_)
     obtain ⟨F2, hd2, h02⟩ := depE hF
     obtain ⟨c21, eq9, g33⟩ := fact_relF hF 5 rfl rfl
     replace g33 := Rp.mono g33 (hd2 5 rfl rfl)
     have g34 := RdS.mono (fact_relF hF 7 rfl rfl) (hd2 7 rfl rfl)
     obtain ⟨c22, eq10, g35⟩ := fact_relF hF 8 rfl rfl
     replace g35 := Rp.mono g35 (hd2 8 rfl rfl)
     have hle2 := gf_le (F := F2) (w := w10) H.sub; replace H := H.callF (F := F2) hx; clear hx hF hA hd2 h02; generalize gf S w7.drew F2 w10 = S2 at hle2 H g33 g34 g35
     obtain ⟨c23, c24, rfl, g36, g37⟩ := elP g33
     obtain rfl := elB g36
     obtain ⟨c25, c26, rfl, g38, g39⟩ := elP g37
     obtain ⟨v9, rfl, g40⟩ := elL g38
     obtain ⟨v10, rfl, g41⟩ := elL g39
     obtain ⟨c27, c28, rfl, g42, g43⟩ := elP g35
     obtain rfl := elB g42
     obtain ⟨c29, c30, rfl, g44, g45⟩ := elP g43
     obtain ⟨v11, rfl, g46⟩ := elL g44
     obtain ⟨v12, rfl, g47⟩ := elL g45
     refine p_as (v := .bool (false)) rfl ?_
     refine wpList_nil ?_; refine on_norm ?_
     refine xn hK10 ?_; clear hK10
     refine wp_ret ?_
     obtain rfl := Option.some.inj hF
     refine e_1 rfl (q_tmp (v := .bool (false)) rfl) ?_
     exact ⟨rfl, H.toExt⟩
   ·replace hF := cnd_f hF hb2
    apply wp_region_ext 22 (kindsF []) rfl rfl (by kernel_rfl); intro vs1
    simp only [List.take_succ_cons, List.take_zero, List.drop_succ_cons, List.drop_zero]
    replace H := H.drew
    refine t_v (fun w hx => r_move (v := .int .i64 (y1.2)) rfl) ?_
    refine t_v (fun w hx => r_eql (t := (y1.2 == 0)) rfl rfl rfl) ?_
    refine t_v (fun w hx => r_move (v := .bool ((y1.2 == 0))) rfl) ?_
    refine t_skip rfl hb2 rfl ?_
    rw [put_fr]
    refine t_skip rfl hb2 rfl ?_
    rw [put_fr]
    refine t_skip rfl hb2 rfl ?_
    rw [put_fr]
    refine t_skip rfl hb2 rfl ?_
    rw [put_fr]
    refine t_skip rfl hb2 rfl ?_
    rw [put_fr]
    refine t_skip rfl hb2 rfl ?_
    rw [put_fr]
    refine t_skip rfl hb2 rfl ?_
    rw [put_fr]
    refine t_skip rfl hb2 rfl ?_
    rw [put_fr]
    refine t_v (fun w hx => r_pickf (v := .bool (false)) rfl hb2 rfl) ?_
    refine t_v (fun w hx => r_move (v := .bool (false)) rfl) ?_
    refine t_skip rfl rfl rfl ?_
    rw [put_fr]
    refine t_skip rfl rfl rfl ?_
    rw [put_fr]
    refine t_skip rfl rfl rfl ?_
    rw [put_fr]
    refine t_skip rfl rfl rfl ?_
    rw [put_fr]
    refine t_skip rfl rfl rfl ?_
    rw [put_fr]
    refine t_skip rfl rfl rfl ?_
    rw [put_fr]
    refine t_skip rfl rfl rfl ?_
    rw [put_fr]
    refine t_skip rfl rfl rfl ?_
    rw [put_fr]
    refine t_v (fun w hx => r_pickf (v := .bool (false)) rfl rfl rfl) ?_
    refine t_nil (fun w11 hx hF hA => ?_)
    replace H := H.ext hx; clear hx hF hA
    refine p_as (v := .bool (false)) rfl ?_
    refine wpList_nil ?_; refine on_norm ?_
    refine xn hK10 ?_; clear hK10
    refine wp_ret ?_
    obtain rfl := Option.some.inj hF
    refine e_1 rfl (q_tmp (v := .bool (false)) rfl) ?_
    exact ⟨rfl, H.toExt⟩
end Go.Proofs.Ytjmgilhlpohcmaa
