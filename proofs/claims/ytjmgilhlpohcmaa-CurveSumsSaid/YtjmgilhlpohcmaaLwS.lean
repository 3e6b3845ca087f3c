/- What some functions compute, and that they do. Conditions: as each theorem says. -/
import Derived.Test.YtjmgilhlpohcmaaRfD
import Derived.Test.YtjmgilhlpohcmaaGv
namespace Go.Proofs.Ytjmgilhlpohcmaa
open Go Go.RowKit
attribute [local irreducible] wpList wpT Code.wp Calls Code.rounds
theorem is42 : IsFn Try.prog 42 := isFn Try.func42 (by kernel_rfl) (by kernel_rfl)
theorem is43 : IsFn Try.prog 43 := isFn Try.func43 (by kernel_rfl) (by kernel_rfl)
theorem is48 : IsFn Try.prog 48 := isFn Try.func48 (by kernel_rfl) (by kernel_rfl)
theorem is50 : IsFn Try.prog 50 := isFn Try.func50 (by kernel_rfl) (by kernel_rfl)
theorem is51 : IsFn Try.prog 51 := isFn Try.func51 (by kernel_rfl) (by kernel_rfl)
theorem eqt52 (x y : (UInt64 × UInt64 × UInt64 × UInt64) × (UInt64 × UInt64 × UInt64 × UInt64) × Bool) : EqR Try.prog 3 52 (.agg (cl52 x).toArray) (.agg (cl52 y).toArray) (x == y) :=
  EqR.str (fs := fieldsOf Try.prog 52) (by kernel_rfl) (by kernel_rfl) (by kernel_rfl) (l := [(24, 0), (24, 4), (4, 8)]) (by kernel_rfl) (EqL.cons (partA tg24 rfl) (partA tg24 rfl) (eqt24 x.1 y.1) (EqL.cons (partA tg24 rfl) (partA tg24 rfl) (eqt24 x.2.1 y.2.1) (EqL.last (part1 (v := Value.bool (x.2.2)) to4 rfl) (part1 (v := Value.bool (y.2.2)) to4 rfl) ((eqB u4).le 2 (Nat.le_of_ble_eq_true rfl)))))
def seneschallaw07_CurveSums_p (x0 : (UInt64 × UInt64 × UInt64 × UInt64) × (UInt64 × UInt64 × UInt64 × UInt64) × Bool) (x1 : (UInt64 × UInt64 × UInt64 × UInt64) × (UInt64 × UInt64 × UInt64 × UInt64) × Bool) : Option (Bool) :=
  Option.bind (curve_Neg_p x0) fun y1 => Option.bind (curve_Add_p x0 x1) fun y2 => Option.bind (awake7_p) fun y3 => bif (!y3) then (some (false)) else (Option.bind (Option.bind (seneschalref07_On_p x0) fun y4 => bif (!y4) then (bif (y1.2 != 70) then (some (true)) else (bif ((y1.1 : (UInt64 × UInt64 × UInt64 × UInt64) × (UInt64 × UInt64 × UInt64 × UInt64) × Bool) != ((((0 : UInt64), (0 : UInt64), (0 : UInt64), (0 : UInt64)), ((0 : UInt64), (0 : UInt64), (0 : UInt64), (0 : UInt64)), false) : (UInt64 × UInt64 × UInt64 × UInt64) × (UInt64 × UInt64 × UInt64 × UInt64) × Bool)) then (some (true)) else (Option.bind (seneschalref07_On_p x0) fun y5 => bif y5 then (bif (y1.2 != 0) then (some (true)) else (Option.bind (seneschalref07_In_p x0) fun y6 => Option.bind (seneschalref07_Point_Opposite_p y6) fun y7 => Option.bind (seneschalref07_Point_Out_p y7) fun y8 => some (((y1.1 : (UInt64 × UInt64 × UInt64 × UInt64) × (UInt64 × UInt64 × UInt64 × UInt64) × Bool) != (y8 : (UInt64 × UInt64 × UInt64 × UInt64) × (UInt64 × UInt64 × UInt64 × UInt64) × Bool))))) else (some (false))))) else (Option.bind (seneschalref07_On_p x0) fun y9 => bif y9 then (bif (y1.2 != 0) then (some (true)) else (Option.bind (seneschalref07_In_p x0) fun y10 => Option.bind (seneschalref07_Point_Opposite_p y10) fun y11 => Option.bind (seneschalref07_Point_Out_p y11) fun y12 => some (((y1.1 : (UInt64 × UInt64 × UInt64 × UInt64) × (UInt64 × UInt64 × UInt64 × UInt64) × Bool) != (y12 : (UInt64 × UInt64 × UInt64 × UInt64) × (UInt64 × UInt64 × UInt64 × UInt64) × Bool))))) else (some (false)))) (fun t1 => bif t1 then (some (false)) else (Option.bind (seneschalref07_On_p x0) fun y13 => Option.bind (bif (!y13) then (some (true)) else (Option.bind (seneschalref07_On_p x1) fun y14 => some ((!y14)))) (fun t2 => bif t2 then (Option.bind (bif (y2.2 == 70) then (some (((y2.1 : (UInt64 × UInt64 × UInt64 × UInt64) × (UInt64 × UInt64 × UInt64 × UInt64) × Bool) == ((((0 : UInt64), (0 : UInt64), (0 : UInt64), (0 : UInt64)), ((0 : UInt64), (0 : UInt64), (0 : UInt64), (0 : UInt64)), false) : (UInt64 × UInt64 × UInt64 × UInt64) × (UInt64 × UInt64 × UInt64 × UInt64) × Bool)))) else (some (false))) (fun t3 => some (t3))) else (bif (y2.2 == 0) then (Option.bind (seneschalref07_In_p x0) fun y15 => Option.bind (seneschalref07_In_p x1) fun y16 => Option.bind (seneschalref07_Point_Sum_p y15 y16) fun y17 => Option.bind (seneschalref07_Point_Out_p y17) fun y18 => some (((y2.1 : (UInt64 × UInt64 × UInt64 × UInt64) × (UInt64 × UInt64 × UInt64 × UInt64) × Bool) == (y18 : (UInt64 × UInt64 × UInt64 × UInt64) × (UInt64 × UInt64 × UInt64 × UInt64) × Bool)))) else (some (false)))))))
theorem seneschallaw07_CurveSums_c {S : Mem} {w : World} (hS : Sub S w) {x0 : (UInt64 × UInt64 × UInt64 × UInt64) × (UInt64 × UInt64 × UInt64 × UInt64) × Bool} {x1 : (UInt64 × UInt64 × UInt64 × UInt64) × (UInt64 × UInt64 × UInt64 × UInt64) × Bool} {r : Bool} (hF : seneschallaw07_CurveSums_p x0 x1 = some r) :
    Calls Try.prog 11 #[.agg ((cl52 x0)).toArray, .agg ((cl52 x1)).toArray] w fun e w' => e = .returned (.bool (r)) ∧ Ext w w' := by
 refine enter (n := 77) Try.func11 rfl rfl rfl ?_
 have H := HS.start hS
 unfold seneschallaw07_CurveSums_p at hF
 refine sr ?_; intro K1 hK1
 refine p_ofb (a_box (l := (cl52 x0)) H rfl) ?_; clear H; intro w1 b1 H
 refine p_ofb (a_box (l := (cl52 x1)) H rfl) ?_; clear H; intro w2 b2 H
 refine p_as (v := .bool (false)) rfl ?_
 refine xk hK1 ?_; clear hK1
 refine sr ?_; intro K2 hK2
 refine p_val (h_load (l := (cl52 x0)) tg52 H rfl (k := 1) rfl rfl rfl) ?_
 obtain ⟨y1, e1, hF⟩ := bnd hF
 refine p_call (l := [.agg ((cl52 x0)).toArray]) is46 rfl ?_
 refine (curve_Neg_c H.sub e1).mono ?_; rintro _ w3 ⟨rfl, hx⟩; replace H := H.ext hx; clear hx
 refine p_mv (v := .tuple #[.agg ((cl52 y1.1)).toArray, .int .i64 (y1.2)]) rfl ?_
 refine p_val (r_extract (v := .agg ((cl52 y1.1)).toArray) rfl rfl) ?_
 refine p_val (r_extract (v := .int .i64 (y1.2)) rfl rfl) ?_
 refine p_ofb (a_alloc (l := (cl52 (((0 : UInt64), (0 : UInt64), (0 : UInt64), (0 : UInt64)), ((0 : UInt64), (0 : UInt64), (0 : UInt64), (0 : UInt64)), false))) H tz52 rfl) ?_; clear H; intro w4 b3 H
 refine p_ofs (a_store (k := 0) (v := .agg ((cl52 y1.1)).toArray) (l := (cl52 y1.1)) tsz52 H rfl rfl rfl (cells_agg _) rfl (fun u hu => List.all_eq_true.1 (rfl : ((cl52 y1.1)).all (·.oneCell') = true) u hu) rfl) ?_; clear H; intro w5 H
 replace H : HS ⟨S, [], w⟩ S w5 [.blk b3 ((cl52 y1.1)) 52, .blk b2 ((cl52 x1)) 52, .blk b1 ((cl52 x0)) 52] := H
 refine p_as (v := .int .i64 (y1.2)) rfl ?_
 refine xk hK2 ?_; clear hK2
 refine sr ?_; intro K3 hK3
 refine p_val (h_load (l := (cl52 x0)) tg52 H rfl (k := 2) rfl rfl rfl) ?_
 refine p_val (h_load (l := (cl52 x1)) tg52 H rfl (k := 1) rfl rfl rfl) ?_
 obtain ⟨y2, e2, hF⟩ := bnd hF
 refine p_call (l := [.agg ((cl52 x0)).toArray, .agg ((cl52 x1)).toArray]) is47 rfl ?_
 refine (curve_Add_c H.sub e2).mono ?_; rintro _ w6 ⟨rfl, hx⟩; replace H := H.ext hx; clear hx
 refine p_mv (v := .tuple #[.agg ((cl52 y2.1)).toArray, .int .i64 (y2.2)]) rfl ?_
 refine p_val (r_extract (v := .agg ((cl52 y2.1)).toArray) rfl rfl) ?_
 refine p_val (r_extract (v := .int .i64 (y2.2)) rfl rfl) ?_
 refine p_ofb (a_alloc (l := (cl52 (((0 : UInt64), (0 : UInt64), (0 : UInt64), (0 : UInt64)), ((0 : UInt64), (0 : UInt64), (0 : UInt64), (0 : UInt64)), false))) H tz52 rfl) ?_; clear H; intro w7 b4 H
 refine p_ofs (a_store (k := 0) (v := .agg ((cl52 y2.1)).toArray) (l := (cl52 y2.1)) tsz52 H rfl rfl rfl (cells_agg _) rfl (fun u hu => List.all_eq_true.1 (rfl : ((cl52 y2.1)).all (·.oneCell') = true) u hu) rfl) ?_; clear H; intro w8 H
 replace H : HS ⟨S, [], w⟩ S w8 [.blk b4 ((cl52 y2.1)) 52, .blk b3 ((cl52 y1.1)) 52, .blk b2 ((cl52 x1)) 52, .blk b1 ((cl52 x0)) 52] := H
 refine p_as (v := .int .i64 (y2.2)) rfl ?_
 refine xk hK3 ?_; clear hK3
 refine wp_seq_k ?_; intro K4 hK4
 refine sr ?_; intro K5 hK5
 obtain ⟨y3, e3, hF⟩ := bnd hF
 refine p_call (l := []) is43 rfl ?_
 refine (awake7_g H.sub e3).mono ?_; rintro _ w9 ⟨rfl, hx⟩; replace H := H.ext hx; clear hx
 refine p_val (r_not (t := (!y3)) rfl rfl) ?_
 refine xk hK5 ?_; clear hK5
 refine c_split (t := (!y3)) rfl (fun hc1 => ?_) (fun hc1 => ?_)
 ·replace hF := cnd_t hF hc1
  refine sr ?_; intro K6 hK6
  refine p_as (v := .bool (false)) rfl ?_
  refine xk hK6 ?_; clear hK6
  refine wp_ret ?_
  refine x_ret ?_
  obtain rfl := Option.some.inj hF
  refine e_1 rfl (q_tmp (v := .bool (false)) rfl) ?_
  exact ⟨rfl, H.toExt⟩
 ·replace hF := cnd_f hF hc1
  refine wp_skip ?_
  refine xn hK4 ?_; clear hK4
  refine wp_seq_k ?_; intro K7 hK7
  refine wp_seq_k ?_; intro K8 hK8
  refine nameF fun m1 k1 => ?_
  obtain ⟨t1, hE1, hF1⟩ := bnd hF
  have J3 : ∀ (S3 : Mem) (m2 : FM) (w18 : World), (∀ t, has [22, 23, 24, 25, 26, 27, 28, 29, 30, 31, 32, 33, 34, 35, 36, 37, 38, 39, 40, 41, 42, 43, 44, 45, 46, 47, 48, 49] t = false → look m2 t = look m1 t) → look m2 49 = .bool (t1) → Mem.le S S3 → HS ⟨S, [], w⟩ S3 w18 [.blk b4 ((cl52 y2.1)) 52, .blk b3 ((cl52 y1.1)) 52, .blk b2 ((cl52 x1)) 52, .blk b1 ((cl52 x0)) 52] → K8 (fr 77 m2) w18 := by
   clear H; intro S3 m2 w18 k2 q1 hle3 H
   have q2 : look m2 2 = .pointer (some ⟨b1, 0, none⟩) := (k2 2 rfl).trans (k1 2)
   have q3 : look m2 3 = .pointer (some ⟨b2, 0, none⟩) := (k2 3 rfl).trans (k1 3)
   have q4 : look m2 7 = .pointer (some ⟨b4, 0, none⟩) := (k2 7 rfl).trans (k1 7)
   have q5 : look m2 8 = .int .i64 (y2.2) := (k2 8 rfl).trans (k1 8)
   refine hK8 _ _ ?_
   refine c_split (t := t1) q1 (fun hc2 => ?_) (fun hc2 => ?_)
   ·replace hF1 := cnd_t hF1 hc2
    refine sr ?_; intro K9 hK9
    refine p_as (v := .bool (false)) rfl ?_
    refine xk hK9 ?_; clear hK9
    refine wp_ret ?_
    refine x_ret ?_
    obtain rfl := Option.some.inj hF1
    refine e_1 rfl (q_tmp (v := .bool (false)) rfl) ?_
    exact ⟨rfl, H.toExt⟩
   ·replace hF1 := cnd_f hF1 hc2
    refine wp_skip ?_
    refine xn hK7 ?_; clear hK7
    refine wp_seq_k ?_; intro K10 hK10
    refine sr ?_; intro K11 hK11
    refine p_val (h_load (l := (cl52 x0)) tg52 H q2 (k := 3) rfl rfl rfl) ?_
    obtain ⟨y13, e13, hF1⟩ := bnd hF1
    refine p_call (l := [.agg ((cl52 x0)).toArray]) is42 rfl ?_
    refine (seneschalref07_On_c H.sub e13).mono ?_; rintro _ w19 ⟨rfl, hx⟩; replace H := H.ext hx; clear hx
    refine p_val (r_not (t := (!y13)) rfl rfl) ?_
    refine p_mv (v := .bool ((!y13))) rfl ?_
    refine nameL fun m3 k3 => ?_
    refine gs_at 4 fun K12 hK12 R5 hR5 => ?_
    obtain ⟨t2, hE2, hF2⟩ := bnd hF1
    have J2 : ∀ (m4 : FM) (w21 : World), (∀ t, has [54, 55, 56, 57] t = false → look m4 t = look m3 t) → look m4 57 = .bool (t2) → HS ⟨S, [], w⟩ S3 w21 [.blk b4 ((cl52 y2.1)) 52, .blk b3 ((cl52 y1.1)) 52, .blk b2 ((cl52 x1)) 52, .blk b1 ((cl52 x0)) 52] → K12 m4 w21 := by
     clear H; intro m4 w21 k4 q6 H
     have q7 : look m4 2 = .pointer (some ⟨b1, 0, none⟩) := (k4 2 rfl).trans ((k3 2).trans q2)
     have q8 : look m4 3 = .pointer (some ⟨b2, 0, none⟩) := (k4 3 rfl).trans ((k3 3).trans q3)
     have q9 : look m4 7 = .pointer (some ⟨b4, 0, none⟩) := (k4 7 rfl).trans ((k3 7).trans q4)
     have q10 : look m4 8 = .int .i64 (y2.2) := (k4 8 rfl).trans ((k3 8).trans q5)
     refine hK12 _ _ ?_
     refine xk hK11 ?_; clear hK11
     refine c_split (t := t2) q6 (fun hc3 => ?_) (fun hc3 => ?_)
     ·replace hF2 := cnd_t hF2 hc3
      refine sr ?_; intro K13 hK13
      refine p_mv (v := .int .i64 (y2.2)) q10 ?_
      refine p_val (r_eql (t := (y2.2 == 70)) rfl rfl rfl) ?_
      refine p_mv (v := .bool ((y2.2 == 70))) rfl ?_
      refine nameL fun m5 k5 => ?_
      refine gs_at 4 fun K14 hK14 R6 hR6 => ?_
      obtain ⟨t3, hE3, hF3⟩ := bnd hF2
      have J1 : ∀ (m6 : FM) (w22 : World), (∀ t, has [61, 62, 63, 64] t = false → look m6 t = look m5 t) → look m6 64 = .bool (t3) → HS ⟨S, [], w⟩ S3 w22 [.blk b4 ((cl52 y2.1)) 52, .blk b3 ((cl52 y1.1)) 52, .blk b2 ((cl52 x1)) 52, .blk b1 ((cl52 x0)) 52] → K14 m6 w22 := by
       clear H; intro m6 w22 k6 q11 H
       refine hK14 _ _ ?_
       refine p_as (v := .bool (t3)) q11 ?_
       refine xk hK13 ?_; clear hK13
       refine wp_ret ?_
       refine x_ret ?_
       obtain rfl := Option.some.inj hF3
       refine e_1 rfl (q_tmp (v := .bool (t3)) rfl) ?_
       exact ⟨rfl, H.toExt⟩
      refine p_gs (j := 2) (gvl_at rfl rfl (k5 60)) (fun hb9 => ?_) (fun hb9 => ?_)
      ·replace hE3 := cnd_t hE3 hb9
       refine p_want (gvl_at rfl rfl (k5 60)) hb9 ?_
       refine p_val (h_load (l := (cl52 y2.1)) tg52 H ((k5 7).trans q9) (k := 0) rfl rfl rfl) ?_
       refine p_want (gvl_at rfl rfl (k5 60)) hb9 ?_
       refine p_val (r_build (vals := []) (l := (cl52 (((0 : UInt64), (0 : UInt64), (0 : UInt64), (0 : UInt64)), ((0 : UInt64), (0 : UInt64), (0 : UInt64), (0 : UInt64)), false))) tb52 rfl rfl) ?_
       refine p_want (gvl_at rfl rfl (k5 60)) hb9 ?_
       refine p_val (r_eqR eg52 (by decide) (eqt52 y2.1 (((0 : UInt64), (0 : UInt64), (0 : UInt64), (0 : UInt64)), ((0 : UInt64), (0 : UInt64), (0 : UInt64), (0 : UInt64)), false)) rfl rfl) ?_
       refine p_val (r_pickt (v := .bool (((y2.1 : (UInt64 × UInt64 × UInt64 × UInt64) × (UInt64 × UInt64 × UInt64 × UInt64) × Bool) == ((((0 : UInt64), (0 : UInt64), (0 : UInt64), (0 : UInt64)), ((0 : UInt64), (0 : UInt64), (0 : UInt64), (0 : UInt64)), false) : (UInt64 × UInt64 × UInt64 × UInt64) × (UInt64 × UInt64 × UInt64 × UInt64) × Bool)))) (k5 60) hb9 rfl) ?_
       refine hR6 _ _ ?_
       replace H : HS ⟨S, [], w⟩ S3 w21 [.blk b4 ((cl52 y2.1)) 52, .blk b3 ((cl52 y1.1)) 52, .blk b2 ((cl52 x1)) 52, .blk b1 ((cl52 x0)) 52] := H
       obtain rfl := Option.some.inj hE3
       exact J1 _ _ (by (repeat (refine keep_cons rfl ?_)); exact fun _ _ => rfl) rfl H
      ·replace hE3 := cnd_f hE3 hb9
       refine p_skip (gvl_at rfl rfl (k5 60)) hb9 ?_
       rw [put_fr]
       refine p_skip (gvl_at rfl rfl (k5 60)) hb9 ?_
       rw [put_fr]
       refine p_skip (gvl_at rfl rfl (k5 60)) hb9 ?_
       rw [put_fr]
       refine p_val (r_pickf (v := .bool (false)) (k5 60) hb9 rfl) ?_
       refine hR6 _ _ ?_
       replace H : HS ⟨S, [], w⟩ S3 w21 [.blk b4 ((cl52 y2.1)) 52, .blk b3 ((cl52 y1.1)) 52, .blk b2 ((cl52 x1)) 52, .blk b1 ((cl52 x0)) 52] := H
       obtain rfl := Option.some.inj hE3
       exact J1 _ _ (by (repeat (refine keep_cons rfl ?_)); exact fun _ _ => rfl) rfl H
     ·replace hF2 := cnd_f hF2 hc3
      refine wp_skip ?_
      refine xn hK10 ?_; clear hK10
      refine wp_seq_k ?_; intro K15 hK15
      rcases Bool.eq_false_or_eq_true ((y2.2 == 0)) with hb10 | hb10
      ·replace hF2 := cnd_t hF2 hb10
       obtain ⟨y15, e15, hF2⟩ := bnd hF2
       obtain ⟨y16, e16, hF2⟩ := bnd hF2
       obtain ⟨y17, e17, hF2⟩ := bnd hF2
       obtain ⟨y18, e18, hF2⟩ := bnd hF2
       apply wp_region_ext 12 (kindsF [(5, .inr (fun g w' => ∃ c0', g.v = .agg c0'.toArray ∧ Rp.rep (gf S3 w21.drew g.f w') c0' y15)), (7, .inr (fun g w' => ∃ c0', g.v = .agg c0'.toArray ∧ Rp.rep (gf S3 w21.drew g.f w') c0' y16)), (8, .inr (fun g w' => ∃ c0', g.v = .agg c0'.toArray ∧ Rp.rep (gf S3 w21.drew g.f w') c0' y17)), (9, .inl (.agg ((cl52 y18)).toArray))]) rfl rfl (by kernel_rfl); intro vs2
       simp only [List.take_succ_cons, List.take_zero, List.drop_succ_cons, List.drop_zero]
       replace H := H.drew
       refine t_v (fun w hx => r_move (v := .int .i64 (y2.2)) q10) ?_
       refine t_v (fun w hx => r_eql (t := (y2.2 == 0)) rfl rfl rfl) ?_
       refine t_v (fun w hx => r_move (v := .bool ((y2.2 == 0))) rfl) ?_
       refine t_valG rfl hb10 (fun w hx => h_load (l := (cl52 y2.1)) tg52 (H.ext hx) q9 (k := 0) rfl rfl rfl) rfl rfl ?_
       refine t_valG rfl hb10 (fun w hx => h_load (l := (cl52 x0)) tg52 (H.ext hx) q7 (k := 3) rfl rfl rfl) rfl rfl ?_
       refine t_callFG rfl hb10 (l := [.agg ((cl52 x0)).toArray]) rfl rfl (fun _ _ _ ⟨c0', e, h0⟩ hx => ⟨c0', e, Rp.mono h0 (gf_mono hx)⟩) is48 rfl (fun w hx hF => (seneschalref07_In_c (gf_sub H.sub hx) e15).mono (fun _ w' ⟨hx2, c0', he, h0⟩ => ⟨_, he, hx2, c0', rfl, Rp.mono h0 (gr_gf hx hx2)⟩)) ?_
       refine t_valG rfl hb10 (fun w hx => h_load (l := (cl52 x1)) tg52 (H.ext hx) q8 (k := 2) rfl rfl rfl) rfl rfl ?_
       refine t_callFG rfl hb10 (l := [.agg ((cl52 x1)).toArray]) rfl rfl (fun _ _ _ ⟨c0', e, h0⟩ hx => ⟨c0', e, Rp.mono h0 (gf_mono hx)⟩) is48 rfl (fun w hx hF => (seneschalref07_In_c (gf_sub H.sub hx) e16).mono (fun _ w' ⟨hx2, c0', he, h0⟩ => ⟨_, he, hx2, c0', rfl, Rp.mono h0 (gr_gf hx hx2)⟩)) ?_
       refine t_callFG rfl hb10 (l := [(vs2 5).v, (vs2 7).v]) rfl rfl (fun _ _ _ ⟨c0', e, h0⟩ hx => ⟨c0', e, Rp.mono h0 (gf_mono hx)⟩) is51 rfl (fun w hx hF => by obtain ⟨c0_, e0_, h0_⟩ := (fact_relF hF 5 rfl rfl); rw [e0_]; obtain ⟨c1_, e1_, h1_⟩ := (fact_relF hF 7 rfl rfl); rw [e1_]; exact (seneschalref07_Point_Sum_c (gf_sub H.sub hx) (Rp.mono h0_ (dep_of hF 5 rfl rfl)) (Rp.mono h1_ (dep_of hF 7 rfl rfl)) e17).mono (fun _ w' ⟨hx2, c0', he, h0⟩ => ⟨_, he, hx2, c0', rfl, Rp.mono h0 (gr_gf hx hx2)⟩)) ?_
       refine t_callG rfl hb10 (l := [(vs2 8).v]) rfl rfl is50 rfl (fun w hx hF => by obtain ⟨c0_, e0_, h0_⟩ := (fact_relF hF 8 rfl rfl); rw [e0_]; exact (seneschalref07_Point_Out_c (gf_sub H.sub hx) (Rp.mono h0_ (dep_of hF 8 rfl rfl)) e18).mono (fun _ _ ⟨he, hx⟩ => ⟨he, hx⟩)) ?_
       refine t_valG rfl hb10 (fun w hx => r_eqR eg52 (by decide) (eqt52 y2.1 y18) rfl rfl) rfl rfl ?_
       refine t_v (fun w hx => r_pickt (v := .bool (((y2.1 : (UInt64 × UInt64 × UInt64 × UInt64) × (UInt64 × UInt64 × UInt64 × UInt64) × Bool) == (y18 : (UInt64 × UInt64 × UInt64 × UInt64) × (UInt64 × UInt64 × UInt64 × UInt64) × Bool)))) rfl hb10 rfl) ?_
       refine t_nil (fun w23 hx hF hA => ?_)
       obtain ⟨F3, hd3, h03⟩ := depE hF
       obtain ⟨c21, eq9, g29⟩ := fact_relF hF 5 rfl rfl
       replace g29 := Rp.mono g29 (hd3 5 rfl rfl)
       obtain ⟨c22, eq10, g30⟩ := fact_relF hF 7 rfl rfl
       replace g30 := Rp.mono g30 (hd3 7 rfl rfl)
       obtain ⟨c23, eq11, g31⟩ := fact_relF hF 8 rfl rfl
       replace g31 := Rp.mono g31 (hd3 8 rfl rfl)
       have hle4 := gf_le (F := F3) (w := w23) H.sub; replace H := H.callF (F := F3) hx; clear hx hF hA hd3 h03; generalize gf S3 w21.drew F3 w23 = S4 at hle4 H g29 g30 g31
       obtain ⟨c24, c25, rfl, g32, g33⟩ := elP g29
       obtain rfl := elB g32
       obtain ⟨c26, c27, rfl, g34, g35⟩ := elP g33
       obtain ⟨v9, rfl, g36⟩ := elL g34
       obtain ⟨v10, rfl, g37⟩ := elL g35
       obtain ⟨c28, c29, rfl, g38, g39⟩ := elP g30
       obtain rfl := elB g38
       obtain ⟨c30, c31, rfl, g40, g41⟩ := elP g39
       obtain ⟨v11, rfl, g42⟩ := elL g40
       obtain ⟨v12, rfl, g43⟩ := elL g41
       obtain ⟨c32, c33, rfl, g44, g45⟩ := elP g31
       obtain rfl := elB g44
       obtain ⟨c34, c35, rfl, g46, g47⟩ := elP g45
       obtain ⟨v13, rfl, g48⟩ := elL g46
       obtain ⟨v14, rfl, g49⟩ := elL g47
       refine p_as (v := .bool (((y2.1 : (UInt64 × UInt64 × UInt64 × UInt64) × (UInt64 × UInt64 × UInt64 × UInt64) × Bool) == (y18 : (UInt64 × UInt64 × UInt64 × UInt64) × (UInt64 × UInt64 × UInt64 × UInt64) × Bool)))) rfl ?_
       refine wpList_nil ?_; refine on_norm ?_
       refine xn hK15 ?_; clear hK15
       refine wp_ret ?_
       obtain rfl := Option.some.inj hF2
       refine e_1 rfl (q_tmp (v := .bool (((y2.1 : (UInt64 × UInt64 × UInt64 × UInt64) × (UInt64 × UInt64 × UInt64 × UInt64) × Bool) == (y18 : (UInt64 × UInt64 × UInt64 × UInt64) × (UInt64 × UInt64 × UInt64 × UInt64) × Bool)))) rfl) ?_
       exact ⟨rfl, H.toExt⟩
      ·replace hF2 := cnd_f hF2 hb10
       apply wp_region_ext 12 (kindsF []) rfl rfl (by kernel_rfl); intro vs2
       simp only [List.take_succ_cons, List.take_zero, List.drop_succ_cons, List.drop_zero]
       replace H := H.drew
       refine t_v (fun w hx => r_move (v := .int .i64 (y2.2)) q10) ?_
       refine t_v (fun w hx => r_eql (t := (y2.2 == 0)) rfl rfl rfl) ?_
       refine t_v (fun w hx => r_move (v := .bool ((y2.2 == 0))) rfl) ?_
       refine t_skip rfl hb10 rfl ?_
       rw [put_fr]
       refine t_skip rfl hb10 rfl ?_
       rw [put_fr]
       refine t_skip rfl hb10 rfl ?_
       rw [put_fr]
       refine t_skip rfl hb10 rfl ?_
       rw [put_fr]
       refine t_skip rfl hb10 rfl ?_
       rw [put_fr]
       refine t_skip rfl hb10 rfl ?_
       rw [put_fr]
       refine t_skip rfl hb10 rfl ?_
       rw [put_fr]
       refine t_skip rfl hb10 rfl ?_
       rw [put_fr]
       refine t_v (fun w hx => r_pickf (v := .bool (false)) rfl hb10 rfl) ?_
       refine t_nil (fun w24 hx hF hA => ?_)
       replace H := H.ext hx; clear hx hF hA
       refine p_as (v := .bool (false)) rfl ?_
       refine wpList_nil ?_; refine on_norm ?_
       refine xn hK15 ?_; clear hK15
       refine wp_ret ?_
       obtain rfl := Option.some.inj hF2
       refine e_1 rfl (q_tmp (v := .bool (false)) rfl) ?_
       exact ⟨rfl, H.toExt⟩
    refine p_gs (j := 3) (gvl_at rfl rfl (k3 53)) (fun hb8 => ?_) (fun hb8 => ?_)
    ·replace hE2 := cnd_t hE2 hb8
     refine p_skip (gvl_at rfl rfl (k3 53)) hb8 ?_
     rw [put_fr]
     refine p_skip (gvl_at rfl rfl (k3 53)) hb8 ?_
     rw [put_fr]
     refine p_skip (gvl_at rfl rfl (k3 53)) hb8 ?_
     rw [put_fr]
     refine p_val (r_pickt (v := .bool (true)) (k3 53) hb8 rfl) ?_
     refine hR5 _ _ ?_
     replace H : HS ⟨S, [], w⟩ S3 w19 [.blk b4 ((cl52 y2.1)) 52, .blk b3 ((cl52 y1.1)) 52, .blk b2 ((cl52 x1)) 52, .blk b1 ((cl52 x0)) 52] := H
     obtain rfl := Option.some.inj hE2
     exact J2 _ _ (by (repeat (refine keep_cons rfl ?_)); exact fun _ _ => rfl) rfl H
    ·replace hE2 := cnd_f hE2 hb8
     refine p_want (gvl_at rfl rfl (k3 53)) hb8 ?_
     refine p_val (h_load (l := (cl52 x1)) tg52 H ((k3 3).trans q3) (k := 2) rfl rfl rfl) ?_
     refine p_want (gvl_at rfl rfl (k3 53)) hb8 ?_
     obtain ⟨y14, e14, hE2⟩ := bnd hE2
     refine p_call (l := [.agg ((cl52 x1)).toArray]) is42 rfl ?_
     refine (seneschalref07_On_c H.sub e14).mono ?_; rintro _ w20 ⟨rfl, hx⟩; replace H := H.ext hx; clear hx
     refine p_want (gvl_at rfl rfl (k3 53)) hb8 ?_
     refine p_val (r_not (t := (!y14)) rfl rfl) ?_
     refine p_val (r_pickf (v := .bool ((!y14))) (k3 53) hb8 rfl) ?_
     refine hR5 _ _ ?_
     replace H : HS ⟨S, [], w⟩ S3 w20 [.blk b4 ((cl52 y2.1)) 52, .blk b3 ((cl52 y1.1)) 52, .blk b2 ((cl52 x1)) 52, .blk b1 ((cl52 x0)) 52] := H
     obtain rfl := Option.some.inj hE2
     exact J2 _ _ (by (repeat (refine keep_cons rfl ?_)); exact fun _ _ => rfl) rfl H
  obtain ⟨y4, e4, hE1⟩ := bnd hE1
  rcases Bool.eq_false_or_eq_true ((!y4)) with hb1 | hb1
  ·replace hE1 := cnd_t hE1 hb1
   rcases Bool.eq_false_or_eq_true ((y1.2 != 70)) with hb2 | hb2
   ·replace hE1 := cnd_t hE1 hb2
    apply wp_region_ext 28 (kindsF [(1, .inl (.bool (y4)))]) rfl rfl (by kernel_rfl); intro vs1
    simp only [List.take_succ_cons, List.take_zero, List.drop_succ_cons, List.drop_zero]
    replace H := H.drew
    refine t_v (fun w hx => h_load (l := (cl52 x0)) tg52 (H.ext hx) (k1 2) (k := 3) rfl rfl rfl) ?_
    refine t_call (l := [.agg ((cl52 x0)).toArray]) rfl rfl is42 rfl (fun w hx hF => (seneschalref07_On_c (H.ext hx).sub e4).mono (fun _ _ ⟨he, hx⟩ => ⟨he, hx⟩)) ?_
    refine t_v (fun w hx => r_not (t := (!y4)) rfl rfl) ?_
    refine t_v (fun w hx => r_move (v := .bool ((!y4))) rfl) ?_
    refine t_valG rfl hb1 (fun w hx => r_move (v := .int .i64 (y1.2)) (k1 6)) rfl rfl ?_
    refine t_valG rfl hb1 (fun w hx => r_neq (t := (y1.2 != 70)) rfl rfl rfl) rfl rfl ?_
    refine t_valG rfl hb1 (fun w hx => r_move (v := .bool ((y1.2 != 70))) rfl) rfl rfl ?_
    refine t_skip rfl hb2 rfl ?_
    rw [put_fr]
    refine t_skip rfl hb2 rfl ?_
    rw [put_fr]
    refine t_skip rfl hb2 rfl ?_
    rw [put_fr]
    refine t_valG rfl hb1 (fun w hx => r_pickt (v := .bool (true)) rfl hb2 rfl) rfl rfl ?_
    refine t_v (fun w hx => r_pickt (v := .bool (true)) rfl hb1 rfl) ?_
    refine t_v (fun w hx => r_move (v := .bool (true)) rfl) ?_
    refine t_skip rfl rfl rfl ?_
    rw [put_fr]
    refine t_skip rfl rfl rfl ?_
    rw [put_fr]
    refine t_skip rfl rfl rfl ?_
    rw [put_fr]
    refine t_skipU rfl rfl ?_
    rw [put_fr]
    refine t_skipU rfl rfl ?_
    rw [put_fr]
    refine t_skipU rfl rfl ?_
    rw [put_fr]
    refine t_skipU rfl rfl ?_
    rw [put_fr]
    refine t_skipU rfl rfl ?_
    rw [put_fr]
    refine t_skipU rfl rfl ?_
    rw [put_fr]
    refine t_skipU rfl rfl ?_
    rw [put_fr]
    refine t_skipU rfl rfl ?_
    rw [put_fr]
    refine t_skipU rfl rfl ?_
    rw [put_fr]
    refine t_skipU rfl rfl ?_
    rw [put_fr]
    refine t_skip rfl rfl rfl ?_
    rw [put_fr]
    refine t_v (fun w hx => r_pickt (v := .bool (true)) rfl rfl rfl) ?_
    refine t_nil (fun w10 hx hF hA => ?_)
    replace H := H.ext hx; clear hx hF hA
    refine wpList_nil ?_; refine on_norm ?_
    refine x_norm ?_
    replace H : HS ⟨S, [], w⟩ S w10 [.blk b4 ((cl52 y2.1)) 52, .blk b3 ((cl52 y1.1)) 52, .blk b2 ((cl52 x1)) 52, .blk b1 ((cl52 x0)) 52] := H
    obtain rfl := Option.some.inj hE1
    exact J3 _ _ _ (by (repeat (refine keep_cons rfl ?_)); exact fun _ _ => rfl) rfl (Mem.le_refl _) H
   ·replace hE1 := cnd_f hE1 hb2
    rcases Bool.eq_false_or_eq_true (((y1.1 : (UInt64 × UInt64 × UInt64 × UInt64) × (UInt64 × UInt64 × UInt64 × UInt64) × Bool) != ((((0 : UInt64), (0 : UInt64), (0 : UInt64), (0 : UInt64)), ((0 : UInt64), (0 : UInt64), (0 : UInt64), (0 : UInt64)), false) : (UInt64 × UInt64 × UInt64 × UInt64) × (UInt64 × UInt64 × UInt64 × UInt64) × Bool))) with hb3 | hb3
    ·replace hE1 := cnd_t hE1 hb3
     apply wp_region_ext 28 (kindsF [(1, .inl (.bool (y4)))]) rfl rfl (by kernel_rfl); intro vs1
     simp only [List.take_succ_cons, List.take_zero, List.drop_succ_cons, List.drop_zero]
     replace H := H.drew
     refine t_v (fun w hx => h_load (l := (cl52 x0)) tg52 (H.ext hx) (k1 2) (k := 3) rfl rfl rfl) ?_
     refine t_call (l := [.agg ((cl52 x0)).toArray]) rfl rfl is42 rfl (fun w hx hF => (seneschalref07_On_c (H.ext hx).sub e4).mono (fun _ _ ⟨he, hx⟩ => ⟨he, hx⟩)) ?_
     refine t_v (fun w hx => r_not (t := (!y4)) rfl rfl) ?_
     refine t_v (fun w hx => r_move (v := .bool ((!y4))) rfl) ?_
     refine t_valG rfl hb1 (fun w hx => r_move (v := .int .i64 (y1.2)) (k1 6)) rfl rfl ?_
     refine t_valG rfl hb1 (fun w hx => r_neq (t := (y1.2 != 70)) rfl rfl rfl) rfl rfl ?_
     refine t_valG rfl hb1 (fun w hx => r_move (v := .bool ((y1.2 != 70))) rfl) rfl rfl ?_
     refine t_valG rfl hb2 (fun w hx => h_load (l := (cl52 y1.1)) tg52 (H.ext hx) (k1 5) (k := 1) rfl rfl rfl) rfl rfl ?_
     refine t_valG rfl hb2 (fun w hx => r_build (vals := []) (l := (cl52 (((0 : UInt64), (0 : UInt64), (0 : UInt64), (0 : UInt64)), ((0 : UInt64), (0 : UInt64), (0 : UInt64), (0 : UInt64)), false))) tb52 rfl rfl) rfl rfl ?_
     refine t_valG rfl hb2 (fun w hx => r_neR eg52 (by decide) (eqt52 y1.1 (((0 : UInt64), (0 : UInt64), (0 : UInt64), (0 : UInt64)), ((0 : UInt64), (0 : UInt64), (0 : UInt64), (0 : UInt64)), false)) rfl rfl) rfl rfl ?_
     refine t_valG rfl hb1 (fun w hx => r_pickf (v := .bool (((y1.1 : (UInt64 × UInt64 × UInt64 × UInt64) × (UInt64 × UInt64 × UInt64 × UInt64) × Bool) != ((((0 : UInt64), (0 : UInt64), (0 : UInt64), (0 : UInt64)), ((0 : UInt64), (0 : UInt64), (0 : UInt64), (0 : UInt64)), false) : (UInt64 × UInt64 × UInt64 × UInt64) × (UInt64 × UInt64 × UInt64 × UInt64) × Bool)))) rfl hb2 rfl) rfl rfl ?_
     refine t_v (fun w hx => r_pickt (v := .bool (((y1.1 : (UInt64 × UInt64 × UInt64 × UInt64) × (UInt64 × UInt64 × UInt64 × UInt64) × Bool) != ((((0 : UInt64), (0 : UInt64), (0 : UInt64), (0 : UInt64)), ((0 : UInt64), (0 : UInt64), (0 : UInt64), (0 : UInt64)), false) : (UInt64 × UInt64 × UInt64 × UInt64) × (UInt64 × UInt64 × UInt64 × UInt64) × Bool)))) rfl hb1 rfl) ?_
     refine t_v (fun w hx => r_move (v := .bool (((y1.1 : (UInt64 × UInt64 × UInt64 × UInt64) × (UInt64 × UInt64 × UInt64 × UInt64) × Bool) != ((((0 : UInt64), (0 : UInt64), (0 : UInt64), (0 : UInt64)), ((0 : UInt64), (0 : UInt64), (0 : UInt64), (0 : UInt64)), false) : (UInt64 × UInt64 × UInt64 × UInt64) × (UInt64 × UInt64 × UInt64 × UInt64) × Bool)))) rfl) ?_
     refine t_skip rfl hb3 rfl ?_
     rw [put_fr]
     refine t_skip rfl hb3 rfl ?_
     rw [put_fr]
     refine t_skip rfl hb3 rfl ?_
     rw [put_fr]
     refine t_skipU rfl rfl ?_
     rw [put_fr]
     refine t_skipU rfl rfl ?_
     rw [put_fr]
     refine t_skipU rfl rfl ?_
     rw [put_fr]
     refine t_skipU rfl rfl ?_
     rw [put_fr]
     refine t_skipU rfl rfl ?_
     rw [put_fr]
     refine t_skipU rfl rfl ?_
     rw [put_fr]
     refine t_skipU rfl rfl ?_
     rw [put_fr]
     refine t_skipU rfl rfl ?_
     rw [put_fr]
     refine t_skipU rfl rfl ?_
     rw [put_fr]
     refine t_skipU rfl rfl ?_
     rw [put_fr]
     refine t_skip rfl hb3 rfl ?_
     rw [put_fr]
     refine t_v (fun w hx => r_pickt (v := .bool (true)) rfl hb3 rfl) ?_
     refine t_nil (fun w11 hx hF hA => ?_)
     replace H := H.ext hx; clear hx hF hA
     refine wpList_nil ?_; refine on_norm ?_
     refine x_norm ?_
     replace H : HS ⟨S, [], w⟩ S w11 [.blk b4 ((cl52 y2.1)) 52, .blk b3 ((cl52 y1.1)) 52, .blk b2 ((cl52 x1)) 52, .blk b1 ((cl52 x0)) 52] := H
     obtain rfl := Option.some.inj hE1
     exact J3 _ _ _ (by (repeat (refine keep_cons rfl ?_)); exact fun _ _ => rfl) rfl (Mem.le_refl _) H
    ·replace hE1 := cnd_f hE1 hb3
     obtain ⟨y5, e5, hE1⟩ := bnd hE1
     rcases Bool.eq_false_or_eq_true (y5) with hb4 | hb4
     ·replace hE1 := cnd_t hE1 hb4
      rcases Bool.eq_false_or_eq_true ((y1.2 != 0)) with hb5 | hb5
      ·replace hE1 := cnd_t hE1 hb5
       apply wp_region_ext 28 (kindsF [(1, .inl (.bool (y4))), (14, .inl (.bool (y5)))]) rfl rfl (by kernel_rfl); intro vs1
       simp only [List.take_succ_cons, List.take_zero, List.drop_succ_cons, List.drop_zero]
       replace H := H.drew
       refine t_v (fun w hx => h_load (l := (cl52 x0)) tg52 (H.ext hx) (k1 2) (k := 3) rfl rfl rfl) ?_
       refine t_call (l := [.agg ((cl52 x0)).toArray]) rfl rfl is42 rfl (fun w hx hF => (seneschalref07_On_c (H.ext hx).sub e4).mono (fun _ _ ⟨he, hx⟩ => ⟨he, hx⟩)) ?_
       refine t_v (fun w hx => r_not (t := (!y4)) rfl rfl) ?_
       refine t_v (fun w hx => r_move (v := .bool ((!y4))) rfl) ?_
       refine t_valG rfl hb1 (fun w hx => r_move (v := .int .i64 (y1.2)) (k1 6)) rfl rfl ?_
       refine t_valG rfl hb1 (fun w hx => r_neq (t := (y1.2 != 70)) rfl rfl rfl) rfl rfl ?_
       refine t_valG rfl hb1 (fun w hx => r_move (v := .bool ((y1.2 != 70))) rfl) rfl rfl ?_
       refine t_valG rfl hb2 (fun w hx => h_load (l := (cl52 y1.1)) tg52 (H.ext hx) (k1 5) (k := 1) rfl rfl rfl) rfl rfl ?_
       refine t_valG rfl hb2 (fun w hx => r_build (vals := []) (l := (cl52 (((0 : UInt64), (0 : UInt64), (0 : UInt64), (0 : UInt64)), ((0 : UInt64), (0 : UInt64), (0 : UInt64), (0 : UInt64)), false))) tb52 rfl rfl) rfl rfl ?_
       refine t_valG rfl hb2 (fun w hx => r_neR eg52 (by decide) (eqt52 y1.1 (((0 : UInt64), (0 : UInt64), (0 : UInt64), (0 : UInt64)), ((0 : UInt64), (0 : UInt64), (0 : UInt64), (0 : UInt64)), false)) rfl rfl) rfl rfl ?_
       refine t_valG rfl hb1 (fun w hx => r_pickf (v := .bool (((y1.1 : (UInt64 × UInt64 × UInt64 × UInt64) × (UInt64 × UInt64 × UInt64 × UInt64) × Bool) != ((((0 : UInt64), (0 : UInt64), (0 : UInt64), (0 : UInt64)), ((0 : UInt64), (0 : UInt64), (0 : UInt64), (0 : UInt64)), false) : (UInt64 × UInt64 × UInt64 × UInt64) × (UInt64 × UInt64 × UInt64 × UInt64) × Bool)))) rfl hb2 rfl) rfl rfl ?_
       refine t_v (fun w hx => r_pickt (v := .bool (((y1.1 : (UInt64 × UInt64 × UInt64 × UInt64) × (UInt64 × UInt64 × UInt64 × UInt64) × Bool) != ((((0 : UInt64), (0 : UInt64), (0 : UInt64), (0 : UInt64)), ((0 : UInt64), (0 : UInt64), (0 : UInt64), (0 : UInt64)), false) : (UInt64 × UInt64 × UInt64 × UInt64) × (UInt64 × UInt64 × UInt64 × UInt64) × Bool)))) rfl hb1 rfl) ?_
       refine t_v (fun w hx => r_move (v := .bool (((y1.1 : (UInt64 × UInt64 × UInt64 × UInt64) × (UInt64 × UInt64 × UInt64 × UInt64) × Bool) != ((((0 : UInt64), (0 : UInt64), (0 : UInt64), (0 : UInt64)), ((0 : UInt64), (0 : UInt64), (0 : UInt64), (0 : UInt64)), false) : (UInt64 × UInt64 × UInt64 × UInt64) × (UInt64 × UInt64 × UInt64 × UInt64) × Bool)))) rfl) ?_
       refine t_valG rfl hb3 (fun w hx => h_load (l := (cl52 x0)) tg52 (H.ext hx) (k1 2) (k := 3) rfl rfl rfl) rfl rfl ?_
       refine t_callG rfl hb3 (l := [.agg ((cl52 x0)).toArray]) rfl rfl is42 rfl (fun w hx hF => (seneschalref07_On_c (H.ext hx).sub e5).mono (fun _ _ ⟨he, hx⟩ => ⟨he, hx⟩)) ?_
       refine t_valG rfl hb3 (fun w hx => r_move (v := .bool (y5)) rfl) rfl rfl ?_
       refine t_valG rfl hb4 (fun w hx => r_move (v := .int .i64 (y1.2)) (k1 6)) rfl rfl ?_
       refine t_valG rfl hb4 (fun w hx => r_neq (t := (y1.2 != 0)) rfl rfl rfl) rfl rfl ?_
       refine t_valG rfl hb4 (fun w hx => r_move (v := .bool ((y1.2 != 0))) rfl) rfl rfl ?_
       refine t_skip rfl hb5 rfl ?_
       rw [put_fr]
       refine t_skip rfl hb5 rfl ?_
       rw [put_fr]
       refine t_skip rfl hb5 rfl ?_
       rw [put_fr]
       refine t_skip rfl hb5 rfl ?_
       rw [put_fr]
       refine t_skip rfl hb5 rfl ?_
       rw [put_fr]
       refine t_skip rfl hb5 rfl ?_
       rw [put_fr]
       refine t_valG rfl hb4 (fun w hx => r_pickt (v := .bool (true)) rfl hb5 rfl) rfl rfl ?_
       refine t_valG rfl hb3 (fun w hx => r_pickt (v := .bool (true)) rfl hb4 rfl) rfl rfl ?_
       refine t_v (fun w hx => r_pickf (v := .bool (true)) rfl hb3 rfl) ?_
       refine t_nil (fun w12 hx hF hA => ?_)
       replace H := H.ext hx; clear hx hF hA
       refine wpList_nil ?_; refine on_norm ?_
       refine x_norm ?_
       replace H : HS ⟨S, [], w⟩ S w12 [.blk b4 ((cl52 y2.1)) 52, .blk b3 ((cl52 y1.1)) 52, .blk b2 ((cl52 x1)) 52, .blk b1 ((cl52 x0)) 52] := H
       obtain rfl := Option.some.inj hE1
       exact J3 _ _ _ (by (repeat (refine keep_cons rfl ?_)); exact fun _ _ => rfl) rfl (Mem.le_refl _) H
      ·replace hE1 := cnd_f hE1 hb5
       obtain ⟨y6, e6, hE1⟩ := bnd hE1
       obtain ⟨y7, e7, hE1⟩ := bnd hE1
       obtain ⟨y8, e8, hE1⟩ := bnd hE1
       apply wp_region_ext 28 (kindsF [(1, .inl (.bool (y4))), (14, .inl (.bool (y5))), (21, .inr (fun g w' => ∃ c0', g.v = .agg c0'.toArray ∧ Rp.rep (gf S w9.drew g.f w') c0' y6)), (22, .inr (fun g w' => ∃ c0', g.v = .agg c0'.toArray ∧ Rp.rep (gf S w9.drew g.f w') c0' y7)), (23, .inl (.agg ((cl52 y8)).toArray))]) rfl rfl (by kernel_rfl); intro vs1
       simp only [List.take_succ_cons, List.take_zero, List.drop_succ_cons, List.drop_zero]
       replace H := H.drew
       refine t_v (fun w hx => h_load (l := (cl52 x0)) tg52 (H.ext hx) (k1 2) (k := 3) rfl rfl rfl) ?_
       refine t_call (l := [.agg ((cl52 x0)).toArray]) rfl rfl is42 rfl (fun w hx hF => (seneschalref07_On_c (H.ext hx).sub e4).mono (fun _ _ ⟨he, hx⟩ => ⟨he, hx⟩)) ?_
       refine t_v (fun w hx => r_not (t := (!y4)) rfl rfl) ?_
       refine t_v (fun w hx => r_move (v := .bool ((!y4))) rfl) ?_
       refine t_valG rfl hb1 (fun w hx => r_move (v := .int .i64 (y1.2)) (k1 6)) rfl rfl ?_
       refine t_valG rfl hb1 (fun w hx => r_neq (t := (y1.2 != 70)) rfl rfl rfl) rfl rfl ?_
       refine t_valG rfl hb1 (fun w hx => r_move (v := .bool ((y1.2 != 70))) rfl) rfl rfl ?_
       refine t_valG rfl hb2 (fun w hx => h_load (l := (cl52 y1.1)) tg52 (H.ext hx) (k1 5) (k := 1) rfl rfl rfl) rfl rfl ?_
       refine t_valG rfl hb2 (fun w hx => r_build (vals := []) (l := (cl52 (((0 : UInt64), (0 : UInt64), (0 : UInt64), (0 : UInt64)), ((0 : UInt64), (0 : UInt64), (0 : UInt64), (0 : UInt64)), false))) tb52 rfl rfl) rfl rfl ?_
       refine t_valG rfl hb2 (fun w hx => r_neR eg52 (by decide) (eqt52 y1.1 (((0 : UInt64), (0 : UInt64), (0 : UInt64), (0 : UInt64)), ((0 : UInt64), (0 : UInt64), (0 : UInt64), (0 : UInt64)), false)) rfl rfl) rfl rfl ?_
       refine t_valG rfl hb1 (fun w hx => r_pickf (v := .bool (((y1.1 : (UInt64 × UInt64 × UInt64 × UInt64) × (UInt64 × UInt64 × UInt64 × UInt64) × Bool) != ((((0 : UInt64), (0 : UInt64), (0 : UInt64), (0 : UInt64)), ((0 : UInt64), (0 : UInt64), (0 : UInt64), (0 : UInt64)), false) : (UInt64 × UInt64 × UInt64 × UInt64) × (UInt64 × UInt64 × UInt64 × UInt64) × Bool)))) rfl hb2 rfl) rfl rfl ?_
       refine t_v (fun w hx => r_pickt (v := .bool (((y1.1 : (UInt64 × UInt64 × UInt64 × UInt64) × (UInt64 × UInt64 × UInt64 × UInt64) × Bool) != ((((0 : UInt64), (0 : UInt64), (0 : UInt64), (0 : UInt64)), ((0 : UInt64), (0 : UInt64), (0 : UInt64), (0 : UInt64)), false) : (UInt64 × UInt64 × UInt64 × UInt64) × (UInt64 × UInt64 × UInt64 × UInt64) × Bool)))) rfl hb1 rfl) ?_
       refine t_v (fun w hx => r_move (v := .bool (((y1.1 : (UInt64 × UInt64 × UInt64 × UInt64) × (UInt64 × UInt64 × UInt64 × UInt64) × Bool) != ((((0 : UInt64), (0 : UInt64), (0 : UInt64), (0 : UInt64)), ((0 : UInt64), (0 : UInt64), (0 : UInt64), (0 : UInt64)), false) : (UInt64 × UInt64 × UInt64 × UInt64) × (UInt64 × UInt64 × UInt64 × UInt64) × Bool)))) rfl) ?_
       refine t_valG rfl hb3 (fun w hx => h_load (l := (cl52 x0)) tg52 (H.ext hx) (k1 2) (k := 3) rfl rfl rfl) rfl rfl ?_
       refine t_callG rfl hb3 (l := [.agg ((cl52 x0)).toArray]) rfl rfl is42 rfl (fun w hx hF => (seneschalref07_On_c (H.ext hx).sub e5).mono (fun _ _ ⟨he, hx⟩ => ⟨he, hx⟩)) ?_
       refine t_valG rfl hb3 (fun w hx => r_move (v := .bool (y5)) rfl) rfl rfl ?_
       refine t_valG rfl hb4 (fun w hx => r_move (v := .int .i64 (y1.2)) (k1 6)) rfl rfl ?_
       refine t_valG rfl hb4 (fun w hx => r_neq (t := (y1.2 != 0)) rfl rfl rfl) rfl rfl ?_
       refine t_valG rfl hb4 (fun w hx => r_move (v := .bool ((y1.2 != 0))) rfl) rfl rfl ?_
       refine t_valG rfl hb5 (fun w hx => h_load (l := (cl52 y1.1)) tg52 (H.ext hx) (k1 5) (k := 1) rfl rfl rfl) rfl rfl ?_
       refine t_valG rfl hb5 (fun w hx => h_load (l := (cl52 x0)) tg52 (H.ext hx) (k1 2) (k := 3) rfl rfl rfl) rfl rfl ?_
       refine t_callFG rfl hb5 (l := [.agg ((cl52 x0)).toArray]) rfl rfl (fun _ _ _ ⟨c0', e, h0⟩ hx => ⟨c0', e, Rp.mono h0 (gf_mono hx)⟩) is48 rfl (fun w hx hF => (seneschalref07_In_c (gf_sub H.sub hx) e6).mono (fun _ w' ⟨hx2, c0', he, h0⟩ => ⟨_, he, hx2, c0', rfl, Rp.mono h0 (gr_gf hx hx2)⟩)) ?_
       refine t_callFG rfl hb5 (l := [(vs1 21).v]) rfl rfl (fun _ _ _ ⟨c0', e, h0⟩ hx => ⟨c0', e, Rp.mono h0 (gf_mono hx)⟩) is49 rfl (fun w hx hF => by obtain ⟨c0_, e0_, h0_⟩ := (fact_relF hF 21 rfl rfl); rw [e0_]; exact (seneschalref07_Point_Opposite_c (gf_sub H.sub hx) (Rp.mono h0_ (dep_of hF 21 rfl rfl)) e7).mono (fun _ w' ⟨hx2, c0', he, h0⟩ => ⟨_, he, hx2, c0', rfl, Rp.mono h0 (gr_gf hx hx2)⟩)) ?_
       refine t_callG rfl hb5 (l := [(vs1 22).v]) rfl rfl is50 rfl (fun w hx hF => by obtain ⟨c0_, e0_, h0_⟩ := (fact_relF hF 22 rfl rfl); rw [e0_]; exact (seneschalref07_Point_Out_c (gf_sub H.sub hx) (Rp.mono h0_ (dep_of hF 22 rfl rfl)) e8).mono (fun _ _ ⟨he, hx⟩ => ⟨he, hx⟩)) ?_
       refine t_valG rfl hb5 (fun w hx => r_neR eg52 (by decide) (eqt52 y1.1 y8) rfl rfl) rfl rfl ?_
       refine t_valG rfl hb4 (fun w hx => r_pickf (v := .bool (((y1.1 : (UInt64 × UInt64 × UInt64 × UInt64) × (UInt64 × UInt64 × UInt64 × UInt64) × Bool) != (y8 : (UInt64 × UInt64 × UInt64 × UInt64) × (UInt64 × UInt64 × UInt64 × UInt64) × Bool)))) rfl hb5 rfl) rfl rfl ?_
       refine t_valG rfl hb3 (fun w hx => r_pickt (v := .bool (((y1.1 : (UInt64 × UInt64 × UInt64 × UInt64) × (UInt64 × UInt64 × UInt64 × UInt64) × Bool) != (y8 : (UInt64 × UInt64 × UInt64 × UInt64) × (UInt64 × UInt64 × UInt64 × UInt64) × Bool)))) rfl hb4 rfl) rfl rfl ?_
       refine t_v (fun w hx => r_pickf (v := .bool (((y1.1 : (UInt64 × UInt64 × UInt64 × UInt64) × (UInt64 × UInt64 × UInt64 × UInt64) × Bool) != (y8 : (UInt64 × UInt64 × UInt64 × UInt64) × (UInt64 × UInt64 × UInt64 × UInt64) × Bool)))) rfl hb3 rfl) ?_
       refine t_nil (fun w13 hx hF hA => ?_)
       obtain ⟨F1, hd1, h01⟩ := depE hF
       obtain ⟨c1, eq1, g1⟩ := fact_relF hF 21 rfl rfl
       replace g1 := Rp.mono g1 (hd1 21 rfl rfl)
       obtain ⟨c2, eq2, g2⟩ := fact_relF hF 22 rfl rfl
       replace g2 := Rp.mono g2 (hd1 22 rfl rfl)
       have hle1 := gf_le (F := F1) (w := w13) H.sub; replace H := H.callF (F := F1) hx; clear hx hF hA hd1 h01; generalize gf S w9.drew F1 w13 = S1 at hle1 H g1 g2
       obtain ⟨c3, c4, rfl, g3, g4⟩ := elP g1
       obtain rfl := elB g3
       obtain ⟨c5, c6, rfl, g5, g6⟩ := elP g4
       obtain ⟨v1, rfl, g7⟩ := elL g5
       obtain ⟨v2, rfl, g8⟩ := elL g6
       obtain ⟨c7, c8, rfl, g9, g10⟩ := elP g2
       obtain rfl := elB g9
       obtain ⟨c9, c10, rfl, g11, g12⟩ := elP g10
       obtain ⟨v3, rfl, g13⟩ := elL g11
       obtain ⟨v4, rfl, g14⟩ := elL g12
       refine wpList_nil ?_; refine on_norm ?_
       refine x_norm ?_
       replace H : HS ⟨S, [], w⟩ S1 w13 [.blk b4 ((cl52 y2.1)) 52, .blk b3 ((cl52 y1.1)) 52, .blk b2 ((cl52 x1)) 52, .blk b1 ((cl52 x0)) 52] := H
       obtain rfl := Option.some.inj hE1
       exact J3 _ _ _ (by (repeat (refine keep_cons rfl ?_)); exact fun _ _ => rfl) rfl hle1 H
     ·replace hE1 := cnd_f hE1 hb4
      apply wp_region_ext 28 (kindsF [(1, .inl (.bool (y4))), (14, .inl (.bool (y5)))]) rfl rfl (by kernel_rfl); intro vs1
      simp only [List.take_succ_cons, List.take_zero, List.drop_succ_cons, List.drop_zero]
      replace H := H.drew
      refine t_v (fun w hx => h_load (l := (cl52 x0)) tg52 (H.ext hx) (k1 2) (k := 3) rfl rfl rfl) ?_
      refine t_call (l := [.agg ((cl52 x0)).toArray]) rfl rfl is42 rfl (fun w hx hF => (seneschalref07_On_c (H.ext hx).sub e4).mono (fun _ _ ⟨he, hx⟩ => ⟨he, hx⟩)) ?_
      refine t_v (fun w hx => r_not (t := (!y4)) rfl rfl) ?_
      refine t_v (fun w hx => r_move (v := .bool ((!y4))) rfl) ?_
      refine t_valG rfl hb1 (fun w hx => r_move (v := .int .i64 (y1.2)) (k1 6)) rfl rfl ?_
      refine t_valG rfl hb1 (fun w hx => r_neq (t := (y1.2 != 70)) rfl rfl rfl) rfl rfl ?_
      refine t_valG rfl hb1 (fun w hx => r_move (v := .bool ((y1.2 != 70))) rfl) rfl rfl ?_
      refine t_valG rfl hb2 (fun w hx => h_load (l := (cl52 y1.1)) tg52 (H.ext hx) (k1 5) (k := 1) rfl rfl rfl) rfl rfl ?_
      refine t_valG rfl hb2 (fun w hx => r_build (vals := []) (l := (cl52 (((0 : UInt64), (0 : UInt64), (0 : UInt64), (0 : UInt64)), ((0 : UInt64), (0 : UInt64), (0 : UInt64), (0 : UInt64)), false))) tb52 rfl rfl) rfl rfl ?_
      refine t_valG rfl hb2 (fun w hx => r_neR eg52 (by decide) (eqt52 y1.1 (((0 : UInt64), (0 : UInt64), (0 : UInt64), (0 : UInt64)), ((0 : UInt64), (0 : UInt64), (0 : UInt64), (0 : UInt64)), false)) rfl rfl) rfl rfl ?_
      refine t_valG rfl hb1 (fun w hx => r_pickf (v := .bool (((y1.1 : (UInt64 × UInt64 × UInt64 × UInt64) × (UInt64 × UInt64 × UInt64 × UInt64) × Bool) != ((((0 : UInt64), (0 : UInt64), (0 : UInt64), (0 : UInt64)), ((0 : UInt64), (0 : UInt64), (0 : UInt64), (0 : UInt64)), false) : (UInt64 × UInt64 × UInt64 × UInt64) × (UInt64 × UInt64 × UInt64 × UInt64) × Bool)))) rfl hb2 rfl) rfl rfl ?_
      refine t_v (fun w hx => r_pickt (v := .bool (((y1.1 : (UInt64 × UInt64 × UInt64 × UInt64) × (UInt64 × UInt64 × UInt64 × UInt64) × Bool) != ((((0 : UInt64), (0 : UInt64), (0 : UInt64), (0 : UInt64)), ((0 : UInt64), (0 : UInt64), (0 : UInt64), (0 : UInt64)), false) : (UInt64 × UInt64 × UInt64 × UInt64) × (UInt64 × UInt64 × UInt64 × UInt64) × Bool)))) rfl hb1 rfl) ?_
      refine t_v (fun w hx => r_move (v := .bool (((y1.1 : (UInt64 × UInt64 × UInt64 × UInt64) × (UInt64 × UInt64 × UInt64 × UInt64) × Bool) != ((((0 : UInt64), (0 : UInt64), (0 : UInt64), (0 : UInt64)), ((0 : UInt64), (0 : UInt64), (0 : UInt64), (0 : UInt64)), false) : (UInt64 × UInt64 × UInt64 × UInt64) × (UInt64 × UInt64 × UInt64 × UInt64) × Bool)))) rfl) ?_
      refine t_valG rfl hb3 (fun w hx => h_load (l := (cl52 x0)) tg52 (H.ext hx) (k1 2) (k := 3) rfl rfl rfl) rfl rfl ?_
      refine t_callG rfl hb3 (l := [.agg ((cl52 x0)).toArray]) rfl rfl is42 rfl (fun w hx hF => (seneschalref07_On_c (H.ext hx).sub e5).mono (fun _ _ ⟨he, hx⟩ => ⟨he, hx⟩)) ?_
      refine t_valG rfl hb3 (fun w hx => r_move (v := .bool (y5)) rfl) rfl rfl ?_
      refine t_skip rfl hb4 rfl ?_
      rw [put_fr]
      refine t_skip rfl hb4 rfl ?_
      rw [put_fr]
      refine t_skip rfl hb4 rfl ?_
      rw [put_fr]
      refine t_skipU rfl rfl ?_
      rw [put_fr]
      refine t_skipU rfl rfl ?_
      rw [put_fr]
      refine t_skipU rfl rfl ?_
      rw [put_fr]
      refine t_skipU rfl rfl ?_
      rw [put_fr]
      refine t_skipU rfl rfl ?_
      rw [put_fr]
      refine t_skipU rfl rfl ?_
      rw [put_fr]
      refine t_skip rfl hb4 rfl ?_
      rw [put_fr]
      refine t_valG rfl hb3 (fun w hx => r_pickf (v := .bool (false)) rfl hb4 rfl) rfl rfl ?_
      refine t_v (fun w hx => r_pickf (v := .bool (false)) rfl hb3 rfl) ?_
      refine t_nil (fun w14 hx hF hA => ?_)
      replace H := H.ext hx; clear hx hF hA
      refine wpList_nil ?_; refine on_norm ?_
      refine x_norm ?_
      replace H : HS ⟨S, [], w⟩ S w14 [.blk b4 ((cl52 y2.1)) 52, .blk b3 ((cl52 y1.1)) 52, .blk b2 ((cl52 x1)) 52, .blk b1 ((cl52 x0)) 52] := H
      obtain rfl := Option.some.inj hE1
      exact J3 _ _ _ (by (repeat (refine keep_cons rfl ?_)); exact fun _ _ => rfl) rfl (Mem.le_refl _) H
  ·replace hE1 := cnd_f hE1 hb1
   obtain ⟨y9, e9, hE1⟩ := bnd hE1
   rcases Bool.eq_false_or_eq_true (y9) with hb6 | hb6
   ·replace hE1 := cnd_t hE1 hb6
    rcases Bool.eq_false_or_eq_true ((y1.2 != 0)) with hb7 | hb7
    ·replace hE1 := cnd_t hE1 hb7
     apply wp_region_ext 28 (kindsF [(1, .inl (.bool (y4))), (14, .inl (.bool (y9)))]) rfl rfl (by kernel_rfl); intro vs1
     simp only [List.take_succ_cons, List.take_zero, List.drop_succ_cons, List.drop_zero]
     replace H := H.drew
     refine t_v (fun w hx => h_load (l := (cl52 x0)) tg52 (H.ext hx) (k1 2) (k := 3) rfl rfl rfl) ?_
     refine t_call (l := [.agg ((cl52 x0)).toArray]) rfl rfl is42 rfl (fun w hx hF => (seneschalref07_On_c (H.ext hx).sub e4).mono (fun _ _ ⟨he, hx⟩ => ⟨he, hx⟩)) ?_
     refine t_v (fun w hx => r_not (t := (!y4)) rfl rfl) ?_
     refine t_v (fun w hx => r_move (v := .bool ((!y4))) rfl) ?_
     refine t_skip rfl hb1 rfl ?_
     rw [put_fr]
     refine t_skip rfl hb1 rfl ?_
     rw [put_fr]
     refine t_skip rfl hb1 rfl ?_
     rw [put_fr]
     refine t_skipU rfl rfl ?_
     rw [put_fr]
     refine t_skipU rfl rfl ?_
     rw [put_fr]
     refine t_skipU rfl rfl ?_
     rw [put_fr]
     refine t_skip rfl hb1 rfl ?_
     rw [put_fr]
     refine t_v (fun w hx => r_pickf (v := .bool (false)) rfl hb1 rfl) ?_
     refine t_v (fun w hx => r_move (v := .bool (false)) rfl) ?_
     refine t_valG rfl rfl (fun w hx => h_load (l := (cl52 x0)) tg52 (H.ext hx) (k1 2) (k := 3) rfl rfl rfl) rfl rfl ?_
     refine t_callG rfl rfl (l := [.agg ((cl52 x0)).toArray]) rfl rfl is42 rfl (fun w hx hF => (seneschalref07_On_c (H.ext hx).sub e9).mono (fun _ _ ⟨he, hx⟩ => ⟨he, hx⟩)) ?_
     refine t_valG rfl rfl (fun w hx => r_move (v := .bool (y9)) rfl) rfl rfl ?_
     refine t_valG rfl hb6 (fun w hx => r_move (v := .int .i64 (y1.2)) (k1 6)) rfl rfl ?_
     refine t_valG rfl hb6 (fun w hx => r_neq (t := (y1.2 != 0)) rfl rfl rfl) rfl rfl ?_
     refine t_valG rfl hb6 (fun w hx => r_move (v := .bool ((y1.2 != 0))) rfl) rfl rfl ?_
     refine t_skip rfl hb7 rfl ?_
     rw [put_fr]
     refine t_skip rfl hb7 rfl ?_
     rw [put_fr]
     refine t_skip rfl hb7 rfl ?_
     rw [put_fr]
     refine t_skip rfl hb7 rfl ?_
     rw [put_fr]
     refine t_skip rfl hb7 rfl ?_
     rw [put_fr]
     refine t_skip rfl hb7 rfl ?_
     rw [put_fr]
     refine t_valG rfl hb6 (fun w hx => r_pickt (v := .bool (true)) rfl hb7 rfl) rfl rfl ?_
     refine t_valG rfl rfl (fun w hx => r_pickt (v := .bool (true)) rfl hb6 rfl) rfl rfl ?_
     refine t_v (fun w hx => r_pickf (v := .bool (true)) rfl rfl rfl) ?_
     refine t_nil (fun w15 hx hF hA => ?_)
     replace H := H.ext hx; clear hx hF hA
     refine wpList_nil ?_; refine on_norm ?_
     refine x_norm ?_
     replace H : HS ⟨S, [], w⟩ S w15 [.blk b4 ((cl52 y2.1)) 52, .blk b3 ((cl52 y1.1)) 52, .blk b2 ((cl52 x1)) 52, .blk b1 ((cl52 x0)) 52] := H
     obtain rfl := Option.some.inj hE1
     exact J3 _ _ _ (by (repeat (refine keep_cons rfl ?_)); exact fun _ _ => rfl) rfl (Mem.le_refl _) H
    ·replace hE1 := cnd_f hE1 hb7
     obtain ⟨y10, e10, hE1⟩ := bnd hE1
     obtain ⟨y11, e11, hE1⟩ := bnd hE1
     obtain ⟨y12, e12, hE1⟩ := bnd hE1
     apply wp_region_ext 28 (kindsF [(1, .inl (.bool (y4))), (14, .inl (.bool (y9))), (21, .inr (fun g w' => ∃ c0', g.v = .agg c0'.toArray ∧ Rp.rep (gf S w9.drew g.f w') c0' y10)), (22, .inr (fun g w' => ∃ c0', g.v = .agg c0'.toArray ∧ Rp.rep (gf S w9.drew g.f w') c0' y11)), (23, .inl (.agg ((cl52 y12)).toArray))]) rfl rfl (by kernel_rfl); intro vs1
     simp only [List.take_succ_cons, List.take_zero, List.drop_succ_cons, List.drop_zero]
     replace H := H.drew
     refine t_v (fun w hx => h_load (l := (cl52 x0)) tg52 (H.ext hx) (k1 2) (k := 3) rfl rfl rfl) ?_
     refine t_call (l := [.agg ((cl52 x0)).toArray]) rfl rfl is42 rfl (fun w hx hF => (seneschalref07_On_c (H.ext hx).sub e4).mono (fun _ _ ⟨he, hx⟩ => ⟨he, hx⟩)) ?_
     refine t_v (fun w hx => r_not (t := (!y4)) rfl rfl) ?_
     refine t_v (fun w hx => r_move (v := .bool ((!y4))) rfl) ?_
     refine t_skip rfl hb1 rfl ?_
     rw [put_fr]
     refine t_skip rfl hb1 rfl ?_
     rw [put_fr]
     refine t_skip rfl hb1 rfl ?_
     rw [put_fr]
     refine t_skipU rfl rfl ?_
     rw [put_fr]
     refine t_skipU rfl rfl ?_
     rw [put_fr]
     refine t_skipU rfl rfl ?_
     rw [put_fr]
     refine t_skip rfl hb1 rfl ?_
     rw [put_fr]
     refine t_v (fun w hx => r_pickf (v := .bool (false)) rfl hb1 rfl) ?_
     refine t_v (fun w hx => r_move (v := .bool (false)) rfl) ?_
     refine t_valG rfl rfl (fun w hx => h_load (l := (cl52 x0)) tg52 (H.ext hx) (k1 2) (k := 3) rfl rfl rfl) rfl rfl ?_
     refine t_callG rfl rfl (l := [.agg ((cl52 x0)).toArray]) rfl rfl is42 rfl (fun w hx hF => (seneschalref07_On_c (H.ext hx).sub e9).mono (fun _ _ ⟨he, hx⟩ => ⟨he, hx⟩)) ?_
     refine t_valG rfl rfl (fun w hx => r_move (v := .bool (y9)) rfl) rfl rfl ?_
     refine t_valG rfl hb6 (fun w hx => r_move (v := .int .i64 (y1.2)) (k1 6)) rfl rfl ?_
     refine t_valG rfl hb6 (fun w hx => r_neq (t := (y1.2 != 0)) rfl rfl rfl) rfl rfl ?_
     refine t_valG rfl hb6 (fun w hx => r_move (v := .bool ((y1.2 != 0))) rfl) rfl rfl ?_
     refine t_valG rfl hb7 (fun w hx => h_load (l := (cl52 y1.1)) tg52 (H.ext hx) (k1 5) (k := 1) rfl rfl rfl) rfl rfl ?_
     refine t_valG rfl hb7 (fun w hx => h_load (l := (cl52 x0)) tg52 (H.ext hx) (k1 2) (k := 3) rfl rfl rfl) rfl rfl ?_
     refine t_callFG rfl hb7 (l := [.agg ((cl52 x0)).toArray]) rfl rfl (fun _ _ _ ⟨c0', e, h0⟩ hx => ⟨c0', e, Rp.mono h0 (gf_mono hx)⟩) is48 rfl (fun w hx hF => (seneschalref07_In_c (gf_sub H.sub hx) e10).mono (fun _ w' ⟨hx2, c0', he, h0⟩ => ⟨_, he, hx2, c0', rfl, Rp.mono h0 (gr_gf hx hx2)⟩)) ?_
     refine t_callFG rfl hb7 (l := [(vs1 21).v]) rfl rfl (fun _ _ _ ⟨c0', e, h0⟩ hx => ⟨c0', e, Rp.mono h0 (gf_mono hx)⟩) is49 rfl (fun w hx hF => by obtain ⟨c0_, e0_, h0_⟩ := (fact_relF hF 21 rfl rfl); rw [e0_]; exact (seneschalref07_Point_Opposite_c (gf_sub H.sub hx) (Rp.mono h0_ (dep_of hF 21 rfl rfl)) e11).mono (fun _ w' ⟨hx2, c0', he, h0⟩ => ⟨_, he, hx2, c0', rfl, Rp.mono h0 (gr_gf hx hx2)⟩)) ?_
     refine t_callG rfl hb7 (l := [(vs1 22).v]) rfl rfl is50 rfl (fun w hx hF => by obtain ⟨c0_, e0_, h0_⟩ := (fact_relF hF 22 rfl rfl); rw [e0_]; exact (seneschalref07_Point_Out_c (gf_sub H.sub hx) (Rp.mono h0_ (dep_of hF 22 rfl rfl)) e12).mono (fun _ _ ⟨he, hx⟩ => ⟨he, hx⟩)) ?_
     refine t_valG rfl hb7 (fun w hx => r_neR eg52 (by decide) (eqt52 y1.1 y12) rfl rfl) rfl rfl ?_
     refine t_valG rfl hb6 (fun w hx => r_pickf (v := .bool (((y1.1 : (UInt64 × UInt64 × UInt64 × UInt64) × (UInt64 × UInt64 × UInt64 × UInt64) × Bool) != (y12 : (UInt64 × UInt64 × UInt64 × UInt64) × (UInt64 × UInt64 × UInt64 × UInt64) × Bool)))) rfl hb7 rfl) rfl rfl ?_
     refine t_valG rfl rfl (fun w hx => r_pickt (v := .bool (((y1.1 : (UInt64 × UInt64 × UInt64 × UInt64) × (UInt64 × UInt64 × UInt64 × UInt64) × Bool) != (y12 : (UInt64 × UInt64 × UInt64 × UInt64) × (UInt64 × UInt64 × UInt64 × UInt64) × Bool)))) rfl hb6 rfl) rfl rfl ?_
     refine t_v (fun w hx => r_pickf (v := .bool (((y1.1 : (UInt64 × UInt64 × UInt64 × UInt64) × (UInt64 × UInt64 × UInt64 × UInt64) × Bool) != (y12 : (UInt64 × UInt64 × UInt64 × UInt64) × (UInt64 × UInt64 × UInt64 × UInt64) × Bool)))) rfl rfl rfl) ?_
     refine t_nil (fun w16 hx hF hA => ?_)
     obtain ⟨F2, hd2, h02⟩ := depE hF
     obtain ⟨c11, eq5, g15⟩ := fact_relF hF 21 rfl rfl
     replace g15 := Rp.mono g15 (hd2 21 rfl rfl)
     obtain ⟨c12, eq6, g16⟩ := fact_relF hF 22 rfl rfl
     replace g16 := Rp.mono g16 (hd2 22 rfl rfl)
     have hle2 := gf_le (F := F2) (w := w16) H.sub; replace H := H.callF (F := F2) hx; clear hx hF hA hd2 h02; generalize gf S w9.drew F2 w16 = S2 at hle2 H g15 g16
     obtain ⟨c13, c14, rfl, g17, g18⟩ := elP g15
     obtain rfl := elB g17
     obtain ⟨c15, c16, rfl, g19, g20⟩ := elP g18
     obtain ⟨v5, rfl, g21⟩ := elL g19
     obtain ⟨v6, rfl, g22⟩ := elL g20
     obtain ⟨c17, c18, rfl, g23, g24⟩ := elP g16
     obtain rfl := elB g23
     obtain ⟨c19, c20, rfl, g25, g26⟩ := elP g24
     obtain ⟨v7, rfl, g27⟩ := elL g25
     obtain ⟨v8, rfl, g28⟩ := elL g26
     refine wpList_nil ?_; refine on_norm ?_
     refine x_norm ?_
     replace H : HS ⟨S, [], w⟩ S2 w16 [.blk b4 ((cl52 y2.1)) 52, .blk b3 ((cl52 y1.1)) 52, .blk b2 ((cl52 x1)) 52, .blk b1 ((cl52 x0)) 52] := H
     obtain rfl := Option.some.inj hE1
     exact J3 _ _ _ (by (repeat (refine keep_cons rfl ?_)); exact fun _ _ => rfl) rfl hle2 H
   ·replace hE1 := cnd_f hE1 hb6
    apply wp_region_ext 28 (kindsF [(1, .inl (.bool (y4))), (14, .inl (.bool (y9)))]) rfl rfl (by kernel_rfl); intro vs1
    simp only [List.take_succ_cons, List.take_zero, List.drop_succ_cons, List.drop_zero]
    replace H := H.drew
    refine t_v (fun w hx => h_load (l := (cl52 x0)) tg52 (H.ext hx) (k1 2) (k := 3) rfl rfl rfl) ?_
    refine t_call (l := [.agg ((cl52 x0)).toArray]) rfl rfl is42 rfl (fun w hx hF => (seneschalref07_On_c (H.ext hx).sub e4).mono (fun _ _ ⟨he, hx⟩ => ⟨he, hx⟩)) ?_
    refine t_v (fun w hx => r_not (t := (!y4)) rfl rfl) ?_
    refine t_v (fun w hx => r_move (v := .bool ((!y4))) rfl) ?_
    refine t_skip rfl hb1 rfl ?_
    rw [put_fr]
    refine t_skip rfl hb1 rfl ?_
    rw [put_fr]
    refine t_skip rfl hb1 rfl ?_
    rw [put_fr]
    refine t_skipU rfl rfl ?_
    rw [put_fr]
    refine t_skipU rfl rfl ?_
    rw [put_fr]
    refine t_skipU rfl rfl ?_
    rw [put_fr]
    refine t_skip rfl hb1 rfl ?_
    rw [put_fr]
    refine t_v (fun w hx => r_pickf (v := .bool (false)) rfl hb1 rfl) ?_
    refine t_v (fun w hx => r_move (v := .bool (false)) rfl) ?_
    refine t_valG rfl rfl (fun w hx => h_load (l := (cl52 x0)) tg52 (H.ext hx) (k1 2) (k := 3) rfl rfl rfl) rfl rfl ?_
    refine t_callG rfl rfl (l := [.agg ((cl52 x0)).toArray]) rfl rfl is42 rfl (fun w hx hF => (seneschalref07_On_c (H.ext hx).sub e9).mono (fun _ _ ⟨he, hx⟩ => ⟨he, hx⟩)) ?_
    refine t_valG rfl rfl (fun w hx => r_move (v := .bool (y9)) rfl) rfl rfl ?_
    refine t_skip rfl hb6 rfl ?_
    rw [put_fr]
    refine t_skip rfl hb6 rfl ?_
    rw [put_fr]
    refine t_skip rfl hb6 rfl ?_
    rw [put_fr]
    refine t_skipU rfl rfl ?_
    rw [put_fr]
    refine t_skipU rfl rfl ?_
    rw [put_fr]
    refine t_skipU rfl rfl ?_
    rw [put_fr]
    refine t_skipU rfl rfl ?_
    rw [put_fr]
    refine t_skipU rfl rfl ?_
    rw [put_fr]
    refine t_skipU rfl rfl ?_
    rw [put_fr]
    refine t_skip rfl hb6 rfl ?_
    rw [put_fr]
    refine t_valG rfl rfl (fun w hx => r_pickf (v := .bool (false)) rfl hb6 rfl) rfl rfl ?_
    refine t_v (fun w hx => r_pickf (v := .bool (false)) rfl rfl rfl) ?_
    refine t_nil (fun w17 hx hF hA => ?_)
    replace H := H.ext hx; clear hx hF hA
    refine wpList_nil ?_; refine on_norm ?_
    refine x_norm ?_
    replace H : HS ⟨S, [], w⟩ S w17 [.blk b4 ((cl52 y2.1)) 52, .blk b3 ((cl52 y1.1)) 52, .blk b2 ((cl52 x1)) 52, .blk b1 ((cl52 x0)) 52] := H
    obtain rfl := Option.some.inj hE1
    exact J3 _ _ _ (by (repeat (refine keep_cons rfl ?_)); exact fun _ _ => rfl) rfl (Mem.le_refl _) H
end Go.Proofs.Ytjmgilhlpohcmaa
