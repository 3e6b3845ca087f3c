/- What some functions compute, and that they do. Conditions: as each theorem says. -/
import Derived.Test.YtjmgilhlpohcmaaGv
namespace Go.Proofs.Ytjmgilhlpohcmaa
open Go Go.RowKit
attribute [local irreducible] wpList wpT Code.wp Calls Code.rounds
theorem is41 : IsFn Try.prog 41 := isFn Try.func41 (by kernel_rfl) (by kernel_rfl)
theorem is45 : IsFn Try.prog 45 := isFn Try.func45 (by kernel_rfl) (by kernel_rfl)
theorem eqt52 (x y : (UInt64 × UInt64 × UInt64 × UInt64) × (UInt64 × UInt64 × UInt64 × UInt64) × Bool) : EqR Try.prog 3 52 (.agg (cl52 x).toArray) (.agg (cl52 y).toArray) (x == y) :=
  EqR.str (fs := fieldsOf Try.prog 52) (by kernel_rfl) (by kernel_rfl) (by kernel_rfl) (l := [(24, 0), (24, 4), (4, 8)]) (by kernel_rfl) (EqL.cons (partA tg24 rfl) (partA tg24 rfl) (eqt24 x.1 y.1) (EqL.cons (partA tg24 rfl) (partA tg24 rfl) (eqt24 x.2.1 y.2.1) (EqL.last (part1 (v := Value.bool (x.2.2)) to4 rfl) (part1 (v := Value.bool (y.2.2)) to4 rfl) ((eqB u4).le 2 (Nat.le_of_ble_eq_true rfl)))))
def seneschallaw07_CurvePoints_p (x0 : (UInt64 × UInt64 × UInt64 × UInt64) × (UInt64 × UInt64 × UInt64 × UInt64) × Bool) (x1 : List UInt8) : Option (Bool) :=
  Option.bind (curve_Bytes_p x0) fun y1 => Option.bind (curve_Of_p x1) fun y2 => Option.bind (seneschalref07_Of_p x1) fun y3 => Option.bind (seneschalref07_On_p x0) fun y4 => Option.bind (awake7_p) fun y5 => Option.bind (bif (!y5) then (some (true)) else (Option.bind (curve_On_p x0) fun y6 => some ((y6 != y4)))) (fun t1 => Option.bind (bif (bif (bif t1 then true else ((y1.2 == 0) != y4)) then true else (bif (!y4) then (bif (y1.2 != 70) then true else (y1.1 != ([] : List UInt8))) else false)) then (some (true)) else (Option.bind (bif y4 then (Option.bind (seneschalref07_Bytes_p x0) fun y7 => some ((y1.1 != y7))) else (some (false))) (fun t3 => some (t3)))) (fun t2 => bif t2 then (some (false)) else (Option.bind (bif ((y2.2 == 0) == y3.2) then (some (((y2.1 : (UInt64 × UInt64 × UInt64 × UInt64) × (UInt64 × UInt64 × UInt64 × UInt64) × Bool) == (y3.1 : (UInt64 × UInt64 × UInt64 × UInt64) × (UInt64 × UInt64 × UInt64 × UInt64) × Bool)))) else (some (false))) (fun t4 => some ((bif t4 then (bif y3.2 then true else (y2.2 == 71)) else false))))))
theorem seneschallaw07_CurvePoints_c {S : Mem} {w : World} (hS : Sub S w) {x0 : (UInt64 × UInt64 × UInt64 × UInt64) × (UInt64 × UInt64 × UInt64 × UInt64) × Bool} {x1 : List UInt8} {r : Bool} (hF : seneschallaw07_CurvePoints_p x0 x1 = some r) :
    Calls Try.prog 10 #[.agg ((cl52 x0)).toArray, str (x1)] w fun e w' => e = .returned (.bool (r)) ∧ Ext w w' := by
  refine enter (n := 80) Try.func10 rfl rfl rfl ?_
  have H := HS.start hS
  unfold seneschallaw07_CurvePoints_p at hF
  refine wp_seq_k ?_; intro K1 hK1
  refine wp_region_lit ?_
  refine p_ofb (a_box (l := (cl52 x0)) H rfl) ?_; clear H; intro w1 b1 H
  refine p_val (r_assign (v := .bool (false)) rfl) ?_
  refine wpList_nil ?_
  refine x_norm ?_; refine hK1 _ _ ?_; clear hK1
  refine wp_seq_k ?_; intro K2 hK2
  refine wp_region_lit ?_
  refine p_val (h_load (l := (cl52 x0)) tg52 H rfl (k := 0) rfl rfl rfl) ?_
  obtain ⟨y1, e1, hF⟩ := bnd hF
  refine p_call (l := [.agg ((cl52 x0)).toArray]) is39 rfl ?_
  refine (curve_Bytes_c H.sub e1).mono ?_; rintro _ w2 ⟨rfl, hx⟩; replace H := H.ext hx; clear hx
  refine p_val (r_move (v := .tuple #[str (y1.1), .int .i64 (y1.2)]) rfl) ?_
  refine p_val (r_extract (v := str (y1.1)) rfl rfl) ?_
  refine p_val (r_extract (v := .int .i64 (y1.2)) rfl rfl) ?_
  refine p_val (r_assign (v := str (y1.1)) rfl) ?_
  refine p_val (r_assign (v := .int .i64 (y1.2)) rfl) ?_
  refine wpList_nil ?_
  refine x_norm ?_; refine hK2 _ _ ?_; clear hK2
  refine wp_seq_k ?_; intro K3 hK3
  refine wp_region_lit ?_
  refine p_val (r_move (v := str (x1)) rfl) ?_
  obtain ⟨y2, e2, hF⟩ := bnd hF
  refine p_call (l := [str (x1)]) is40 rfl ?_
  refine (curve_Of_c H.sub e2).mono ?_; rintro _ w3 ⟨rfl, hx⟩; replace H := H.ext hx; clear hx
  refine p_val (r_move (v := .tuple #[.agg ((cl52 y2.1)).toArray, .int .i64 (y2.2)]) rfl) ?_
  refine p_val (r_extract (v := .agg ((cl52 y2.1)).toArray) rfl rfl) ?_
  refine p_val (r_extract (v := .int .i64 (y2.2)) rfl rfl) ?_
  refine p_ofb (a_alloc (l := (cl52 (((0 : UInt64), (0 : UInt64), (0 : UInt64), (0 : UInt64)), ((0 : UInt64), (0 : UInt64), (0 : UInt64), (0 : UInt64)), false))) H tz52 rfl) ?_; clear H; intro w4 b2 H
  refine p_ofs (a_store (k := 0) (v := .agg ((cl52 y2.1)).toArray) (l := (cl52 y2.1)) tsz52 H rfl rfl rfl (cells_agg _) rfl (fun u hu => List.all_eq_true.1 (rfl : ((cl52 y2.1)).all (·.oneCell') = true) u hu) rfl) ?_; clear H; intro w5 H
  replace H : HS ⟨S, [], w⟩ S w5 [.blk b2 ((cl52 y2.1)) 52, .blk b1 ((cl52 x0)) 52] := H
  refine p_val (r_assign (v := .int .i64 (y2.2)) rfl) ?_
  refine wpList_nil ?_
  refine x_norm ?_; refine hK3 _ _ ?_; clear hK3
  refine wp_seq_k ?_; intro K4 hK4
  refine wp_region_lit ?_
  refine p_val (r_move (v := str (x1)) rfl) ?_
  obtain ⟨y3, e3, hF⟩ := bnd hF
  refine p_call (l := [str (x1)]) is41 rfl ?_
  refine (seneschalref07_Of_c H.sub e3).mono ?_; rintro _ w6 ⟨rfl, hx⟩; replace H := H.ext hx; clear hx
  refine p_val (r_move (v := .tuple #[.agg ((cl52 y3.1)).toArray, .bool (y3.2)]) rfl) ?_
  refine p_val (r_extract (v := .agg ((cl52 y3.1)).toArray) rfl rfl) ?_
  refine p_val (r_extract (v := .bool (y3.2)) rfl rfl) ?_
  refine p_ofb (a_alloc (l := (cl52 (((0 : UInt64), (0 : UInt64), (0 : UInt64), (0 : UInt64)), ((0 : UInt64), (0 : UInt64), (0 : UInt64), (0 : UInt64)), false))) H tz52 rfl) ?_; clear H; intro w7 b3 H
  refine p_ofs (a_store (k := 0) (v := .agg ((cl52 y3.1)).toArray) (l := (cl52 y3.1)) tsz52 H rfl rfl rfl (cells_agg _) rfl (fun u hu => List.all_eq_true.1 (rfl : ((cl52 y3.1)).all (·.oneCell') = true) u hu) rfl) ?_; clear H; intro w8 H
  replace H : HS ⟨S, [], w⟩ S w8 [.blk b3 ((cl52 y3.1)) 52, .blk b2 ((cl52 y2.1)) 52, .blk b1 ((cl52 x0)) 52] := H
  refine p_val (r_assign (v := .bool (y3.2)) rfl) ?_
  refine wpList_nil ?_
  refine x_norm ?_; refine hK4 _ _ ?_; clear hK4
  refine wp_seq_k ?_; intro K5 hK5
  refine wp_region_lit ?_
  refine p_val (h_load (l := (cl52 x0)) tg52 H rfl (k := 2) rfl rfl rfl) ?_
  obtain ⟨y4, e4, hF⟩ := bnd hF
  refine p_call (l := [.agg ((cl52 x0)).toArray]) is42 rfl ?_
  refine (seneschalref07_On_c H.sub e4).mono ?_; rintro _ w9 ⟨rfl, hx⟩; replace H := H.ext hx; clear hx
  refine p_val (r_assign (v := .bool (y4)) rfl) ?_
  refine wpList_nil ?_
  refine x_norm ?_; refine hK5 _ _ ?_; clear hK5
  refine wp_seq_k ?_; intro K6 hK6
  refine wp_seq_k ?_; intro K7 hK7
  refine wp_region_lit ?_
  obtain ⟨y5, e5, hF⟩ := bnd hF
  refine p_call (l := []) is43 rfl ?_
  refine (awake7_g H.sub e5).mono ?_; rintro _ w10 ⟨rfl, hx⟩; replace H := H.ext hx; clear hx
  refine p_val (r_not (t := (!y5)) rfl rfl) ?_
  refine p_val (r_move (v := .bool ((!y5))) rfl) ?_
  refine nameL fun m1 k1 => ?_
  refine gs_at 5 fun K8 hK8 R4 hR4 => ?_
  obtain ⟨t1, hE1, hF1⟩ := bnd hF
  have J7 : ∀ (m2 : FM) (w12 : World), (∀ t, has [32, 33, 34, 35, 36] t = false → look m2 t = look m1 t) → look m2 36 = .bool (t1) → HS ⟨S, [], w⟩ S w12 [.blk b3 ((cl52 y3.1)) 52, .blk b2 ((cl52 y2.1)) 52, .blk b1 ((cl52 x0)) 52] → K8 m2 w12 := by
    clear H; intro m2 w12 k2 q1 H
    have q2 : look m2 2 = .pointer (some ⟨b1, 0, none⟩) := (k2 2 rfl).trans (k1 2)
    have q3 : look m2 5 = str (y1.1) := (k2 5 rfl).trans (k1 5)
    have q4 : look m2 6 = .int .i64 (y1.2) := (k2 6 rfl).trans (k1 6)
    have q5 : look m2 7 = .pointer (some ⟨b2, 0, none⟩) := (k2 7 rfl).trans (k1 7)
    have q6 : look m2 8 = .int .i64 (y2.2) := (k2 8 rfl).trans (k1 8)
    have q7 : look m2 9 = .pointer (some ⟨b3, 0, none⟩) := (k2 9 rfl).trans (k1 9)
    have q8 : look m2 10 = .bool (y3.2) := (k2 10 rfl).trans (k1 10)
    have q9 : look m2 11 = .bool (y4) := (k2 11 rfl).trans (k1 11)
    refine hK8 _ _ ?_
    refine p_val (r_move (v := .bool (t1)) q1) ?_
    refine nameL fun m3 k3 => ?_
    refine gs_at 5 fun K9 hK9 R5 hR5 => ?_
    have J1 : ∀ (m4 : FM), (∀ t, has [38, 39, 40, 41, 42] t = false → look m4 t = look m3 t) → look m4 42 = .bool ((bif t1 then true else ((y1.2 == 0) != y4))) → K9 m4 w12 := by
      intro m4 k4 q10
      have q11 : look m4 2 = .pointer (some ⟨b1, 0, none⟩) := (k4 2 rfl).trans ((k3 2).trans q2)
      have q12 : look m4 5 = str (y1.1) := (k4 5 rfl).trans ((k3 5).trans q3)
      have q13 : look m4 6 = .int .i64 (y1.2) := (k4 6 rfl).trans ((k3 6).trans q4)
      have q14 : look m4 7 = .pointer (some ⟨b2, 0, none⟩) := (k4 7 rfl).trans ((k3 7).trans q5)
      have q15 : look m4 8 = .int .i64 (y2.2) := (k4 8 rfl).trans ((k3 8).trans q6)
      have q16 : look m4 9 = .pointer (some ⟨b3, 0, none⟩) := (k4 9 rfl).trans ((k3 9).trans q7)
      have q17 : look m4 10 = .bool (y3.2) := (k4 10 rfl).trans ((k3 10).trans q8)
      have q18 : look m4 11 = .bool (y4) := (k4 11 rfl).trans ((k3 11).trans q9)
      refine hK9 _ _ ?_; clear hK9 hR5
      refine p_val (r_move (v := .bool ((bif t1 then true else ((y1.2 == 0) != y4)))) q10) ?_
      refine nameL fun m5 k5 => ?_
      refine gs_at 11 fun K10 hK10 R6 hR6 => ?_
      have J2 : ∀ (m6 : FM), (∀ t, has [44, 45, 46, 47, 48, 49, 50, 51, 52, 53, 54] t = false → look m6 t = look m5 t) → look m6 54 = .bool ((bif (bif t1 then true else ((y1.2 == 0) != y4)) then true else (bif (!y4) then (bif (y1.2 != 70) then true else (y1.1 != ([] : List UInt8))) else false))) → K10 m6 w12 := by
        intro m6 k6 q19
        have q20 : look m6 2 = .pointer (some ⟨b1, 0, none⟩) := (k6 2 rfl).trans ((k5 2).trans q11)
        have q21 : look m6 5 = str (y1.1) := (k6 5 rfl).trans ((k5 5).trans q12)
        have q22 : look m6 7 = .pointer (some ⟨b2, 0, none⟩) := (k6 7 rfl).trans ((k5 7).trans q14)
        have q23 : look m6 8 = .int .i64 (y2.2) := (k6 8 rfl).trans ((k5 8).trans q15)
        have q24 : look m6 9 = .pointer (some ⟨b3, 0, none⟩) := (k6 9 rfl).trans ((k5 9).trans q16)
        have q25 : look m6 10 = .bool (y3.2) := (k6 10 rfl).trans ((k5 10).trans q17)
        have q26 : look m6 11 = .bool (y4) := (k6 11 rfl).trans ((k5 11).trans q18)
        refine hK10 _ _ ?_; clear hK10 hR6
        refine p_val (r_move (v := .bool ((bif (bif t1 then true else ((y1.2 == 0) != y4)) then true else (bif (!y4) then (bif (y1.2 != 70) then true else (y1.1 != ([] : List UInt8))) else false)))) q19) ?_
        refine nameL fun m7 k7 => ?_
        refine gs_at 8 fun K11 hK11 R7 hR7 => ?_
        obtain ⟨t2, hE2, hF2⟩ := bnd hF1
        have J6 : ∀ (m10 : FM) (w15 : World), (∀ t, has [56, 57, 58, 59, 60, 61, 62, 63] t = false → look m10 t = look m7 t) → look m10 63 = .bool (t2) → HS ⟨S, [], w⟩ S w15 [.blk b3 ((cl52 y3.1)) 52, .blk b2 ((cl52 y2.1)) 52, .blk b1 ((cl52 x0)) 52] → K11 m10 w15 := by
          clear H; intro m10 w15 k10 q33 H
          have q34 : look m10 7 = .pointer (some ⟨b2, 0, none⟩) := (k10 7 rfl).trans ((k7 7).trans q22)
          have q35 : look m10 8 = .int .i64 (y2.2) := (k10 8 rfl).trans ((k7 8).trans q23)
          have q36 : look m10 9 = .pointer (some ⟨b3, 0, none⟩) := (k10 9 rfl).trans ((k7 9).trans q24)
          have q37 : look m10 10 = .bool (y3.2) := (k10 10 rfl).trans ((k7 10).trans q25)
          refine hK11 _ _ ?_
          refine wpList_nil ?_
          refine x_norm ?_; refine hK7 _ _ ?_; clear hK7
          refine c_split (t := t2) q33 (fun hc1 => ?_) (fun hc1 => ?_)
          · replace hF2 := cnd_t hF2 hc1
            refine wp_seq_k ?_; intro K13 hK13
            refine wp_region_lit ?_
            refine p_val (r_assign (v := .bool (false)) rfl) ?_
            refine wpList_nil ?_
            refine x_norm ?_; refine hK13 _ _ ?_; clear hK13
            refine wp_ret ?_
            refine x_ret ?_
            obtain rfl := Option.some.inj hF2
            refine e_1 rfl (q_tmp (v := .bool (false)) rfl) ?_
            exact ⟨rfl, H.toExt⟩
          · replace hF2 := cnd_f hF2 hc1
            refine wp_skip ?_
            refine x_norm ?_; refine hK6 _ _ ?_; clear hK6
            refine wp_seq_k ?_; intro K14 hK14
            refine wp_region_lit ?_
            refine p_val (r_move (v := .int .i64 (y2.2)) q35) ?_
            refine p_val (r_eql (t := (y2.2 == 0)) rfl rfl rfl) ?_
            refine p_val (r_move (v := .bool (y3.2)) q37) ?_
            refine p_val (r_eqB (t := ((y2.2 == 0) == y3.2)) u4 rfl rfl rfl) ?_
            refine p_val (r_move (v := .bool (((y2.2 == 0) == y3.2))) rfl) ?_
            refine nameL fun m11 k11 => ?_
            refine gs_at 4 fun K15 hK15 R9 hR9 => ?_
            obtain ⟨t4, hE4, hF4⟩ := bnd hF2
            have J5 : ∀ (m12 : FM) (w16 : World), (∀ t, has [69, 70, 71, 72] t = false → look m12 t = look m11 t) → look m12 72 = .bool (t4) → HS ⟨S, [], w⟩ S w16 [.blk b3 ((cl52 y3.1)) 52, .blk b2 ((cl52 y2.1)) 52, .blk b1 ((cl52 x0)) 52] → K15 m12 w16 := by
              clear H; intro m12 w16 k12 q38 H
              have q39 : look m12 8 = .int .i64 (y2.2) := (k12 8 rfl).trans ((k11 8).trans q35)
              have q40 : look m12 10 = .bool (y3.2) := (k12 10 rfl).trans ((k11 10).trans q37)
              refine hK15 _ _ ?_
              refine p_val (r_move (v := .bool (t4)) q38) ?_
              refine nameL fun m13 k13 => ?_
              refine gs_at 6 fun K16 hK16 R10 hR10 => ?_
              have J4 : ∀ (m14 : FM), (∀ t, has [74, 75, 76, 77, 78, 79] t = false → look m14 t = look m13 t) → look m14 79 = .bool ((bif t4 then (bif y3.2 then true else (y2.2 == 71)) else false)) → K16 m14 w16 := by
                intro m14 k14 q41
                refine hK16 _ _ ?_; clear hK16 hR10
                refine p_val (r_assign (v := .bool ((bif t4 then (bif y3.2 then true else (y2.2 == 71)) else false))) q41) ?_
                refine wpList_nil ?_
                refine x_norm ?_; refine hK14 _ _ ?_; clear hK14
                refine wp_ret ?_
                obtain rfl := Option.some.inj hF4
                refine e_1 rfl (q_tmp (v := .bool ((bif t4 then (bif y3.2 then true else (y2.2 == 71)) else false))) rfl) ?_
                exact ⟨rfl, H.toExt⟩
              refine p_gs (j := 9) (gvl_at rfl rfl (k13 73)) (fun hb5 => ?_) (fun hb5 => ?_)
              · skip
                refine p_want (gvl_at rfl rfl (k13 73)) hb5 ?_
                refine p_val (r_move (v := .bool (y3.2)) ((k13 10).trans q40)) ?_
                refine p_want (gvl_at rfl rfl (k13 73)) hb5 ?_
                refine p_val (r_move (v := .bool (y3.2)) rfl) ?_
                refine p_gs (j := 11) rfl (fun hb6 => ?_) (fun hb6 => ?_)
                · skip
                  refine p_skip rfl hb6 ?_
                  rw [put_fr]
                  refine p_skip rfl hb6 ?_
                  rw [put_fr]
                  refine p_want (gvl_at rfl rfl (k13 73)) hb5 ?_
                  refine p_val (r_pickt (v := .bool (true)) rfl hb6 rfl) ?_
                  refine p_val (r_pickt (v := .bool (true)) (k13 73) hb5 rfl) ?_
                  refine hR10 _ _ ?_
                  exact J4 _ (by (repeat (refine keep_cons rfl ?_)); exact fun _ _ => rfl) (show (.bool (true) : Value) = .bool ((bif t4 then (bif y3.2 then true else (y2.2 == 71)) else false)) from congrArg Value.bool (by simp only [hb5, hb6, cond_true, cond_false]))
                · skip
                  refine p_want rfl hb6 ?_
                  refine p_val (r_move (v := .int .i64 (y2.2)) ((k13 8).trans q39)) ?_
                  refine p_want rfl hb6 ?_
                  refine p_val (r_eql (t := (y2.2 == 71)) rfl rfl rfl) ?_
                  refine p_want (gvl_at rfl rfl (k13 73)) hb5 ?_
                  refine p_val (r_pickf (v := .bool ((y2.2 == 71))) rfl hb6 rfl) ?_
                  refine p_val (r_pickt (v := .bool ((y2.2 == 71))) (k13 73) hb5 rfl) ?_
                  refine hR10 _ _ ?_
                  exact J4 _ (by (repeat (refine keep_cons rfl ?_)); exact fun _ _ => rfl) (show (.bool ((y2.2 == 71)) : Value) = .bool ((bif t4 then (bif y3.2 then true else (y2.2 == 71)) else false)) from congrArg Value.bool (by simp only [hb5, hb6, cond_true, cond_false]))
              · skip
                refine p_skip (gvl_at rfl rfl (k13 73)) hb5 ?_
                rw [put_fr]
                refine p_skip (gvl_at rfl rfl (k13 73)) hb5 ?_
                rw [put_fr]
                refine p_skipU rfl ?_
                rw [put_fr]
                refine p_skipU rfl ?_
                rw [put_fr]
                refine p_skip (gvl_at rfl rfl (k13 73)) hb5 ?_
                rw [put_fr]
                refine p_val (r_pickf (v := .bool (false)) (k13 73) hb5 rfl) ?_
                refine hR10 _ _ ?_
                exact J4 _ (by (repeat (refine keep_cons rfl ?_)); exact fun _ _ => rfl) (show (.bool (false) : Value) = .bool ((bif t4 then (bif y3.2 then true else (y2.2 == 71)) else false)) from congrArg Value.bool (by simp only [hb5, cond_true, cond_false]))
            refine p_gs (j := 4) (gvl_at rfl rfl (k11 68)) (fun hb4 => ?_) (fun hb4 => ?_)
            · replace hE4 := cnd_t hE4 hb4
              refine p_want (gvl_at rfl rfl (k11 68)) hb4 ?_
              refine p_val (h_load (l := (cl52 y2.1)) tg52 H ((k11 7).trans q34) (k := 1) rfl rfl rfl) ?_
              refine p_want (gvl_at rfl rfl (k11 68)) hb4 ?_
              refine p_val (h_load (l := (cl52 y3.1)) tg52 H ((k11 9).trans q36) (k := 0) rfl rfl rfl) ?_
              refine p_want (gvl_at rfl rfl (k11 68)) hb4 ?_
              refine p_val (r_eqR eg52 (by decide) (eqt52 y2.1 y3.1) rfl rfl) ?_
              refine p_val (r_pickt (v := .bool (((y2.1 : (UInt64 × UInt64 × UInt64 × UInt64) × (UInt64 × UInt64 × UInt64 × UInt64) × Bool) == (y3.1 : (UInt64 × UInt64 × UInt64 × UInt64) × (UInt64 × UInt64 × UInt64 × UInt64) × Bool)))) (k11 68) hb4 rfl) ?_
              refine hR9 _ _ ?_
              replace H : HS ⟨S, [], w⟩ S w15 [.blk b3 ((cl52 y3.1)) 52, .blk b2 ((cl52 y2.1)) 52, .blk b1 ((cl52 x0)) 52] := H
              obtain rfl := Option.some.inj hE4
              exact J5 _ _ (by (repeat (refine keep_cons rfl ?_)); exact fun _ _ => rfl) rfl H
            · replace hE4 := cnd_f hE4 hb4
              refine p_skip (gvl_at rfl rfl (k11 68)) hb4 ?_
              rw [put_fr]
              refine p_skip (gvl_at rfl rfl (k11 68)) hb4 ?_
              rw [put_fr]
              refine p_skip (gvl_at rfl rfl (k11 68)) hb4 ?_
              rw [put_fr]
              refine p_val (r_pickf (v := .bool (false)) (k11 68) hb4 rfl) ?_
              refine hR9 _ _ ?_
              replace H : HS ⟨S, [], w⟩ S w15 [.blk b3 ((cl52 y3.1)) 52, .blk b2 ((cl52 y2.1)) 52, .blk b1 ((cl52 x0)) 52] := H
              obtain rfl := Option.some.inj hE4
              exact J5 _ _ (by (repeat (refine keep_cons rfl ?_)); exact fun _ _ => rfl) rfl H
        refine p_gs (j := 26) (gvl_at rfl rfl (k7 55)) (fun hb2 => ?_) (fun hb2 => ?_)
        · replace hE2 := cnd_t hE2 hb2
          refine p_skip (gvl_at rfl rfl (k7 55)) hb2 ?_
          rw [put_fr]
          refine p_skip (gvl_at rfl rfl (k7 55)) hb2 ?_
          rw [put_fr]
          refine p_skipU rfl ?_
          rw [put_fr]
          refine p_skipU rfl ?_
          rw [put_fr]
          refine p_skipU rfl ?_
          rw [put_fr]
          refine p_skipU rfl ?_
          rw [put_fr]
          refine p_skip (gvl_at rfl rfl (k7 55)) hb2 ?_
          rw [put_fr]
          refine p_val (r_pickt (v := .bool (true)) (k7 55) hb2 rfl) ?_
          refine hR7 _ _ ?_
          replace H : HS ⟨S, [], w⟩ S w12 [.blk b3 ((cl52 y3.1)) 52, .blk b2 ((cl52 y2.1)) 52, .blk b1 ((cl52 x0)) 52] := H
          obtain rfl := Option.some.inj hE2
          exact J6 _ _ (by (repeat (refine keep_cons rfl ?_)); exact fun _ _ => rfl) rfl H
        · replace hE2 := cnd_f hE2 hb2
          refine p_want (gvl_at rfl rfl (k7 55)) hb2 ?_
          refine p_val (r_move (v := .bool (y4)) ((k7 11).trans q26)) ?_
          refine p_want (gvl_at rfl rfl (k7 55)) hb2 ?_
          refine p_val (r_move (v := .bool (y4)) rfl) ?_
          refine nameL fun m8 k8 => ?_
          refine gs_at 5 fun K12 hK12 R8 hR8 => ?_
          obtain ⟨t3, hE3, hF3⟩ := bnd hE2
          have J3 : ∀ (m9 : FM) (w14 : World), (∀ t, has [58, 59, 60, 61, 62] t = false → look m9 t = look m8 t) → look m9 62 = .bool (t3) → HS ⟨S, [], w⟩ S w14 [.blk b3 ((cl52 y3.1)) 52, .blk b2 ((cl52 y2.1)) 52, .blk b1 ((cl52 x0)) 52] → K12 m9 w14 := by
            clear H; intro m9 w14 k9 q27 H
            have q28 : look m9 7 = .pointer (some ⟨b2, 0, none⟩) := (k9 7 rfl).trans ((k8 7).trans ((k7 7).trans q22))
            have q29 : look m9 8 = .int .i64 (y2.2) := (k9 8 rfl).trans ((k8 8).trans ((k7 8).trans q23))
            have q30 : look m9 9 = .pointer (some ⟨b3, 0, none⟩) := (k9 9 rfl).trans ((k8 9).trans ((k7 9).trans q24))
            have q31 : look m9 10 = .bool (y3.2) := (k9 10 rfl).trans ((k8 10).trans ((k7 10).trans q25))
            have q32 : look m9 55 = .bool ((bif (bif t1 then true else ((y1.2 == 0) != y4)) then true else (bif (!y4) then (bif (y1.2 != 70) then true else (y1.1 != ([] : List UInt8))) else false))) := (k9 55 rfl).trans ((k8 55).trans (k7 55))
            refine hK12 _ _ ?_
            refine p_val (r_pickf (v := .bool (t3)) q32 hb2 q27) ?_
            refine hR7 _ _ ?_
            replace H : HS ⟨S, [], w⟩ S w14 [.blk b3 ((cl52 y3.1)) 52, .blk b2 ((cl52 y2.1)) 52, .blk b1 ((cl52 x0)) 52] := H
            obtain rfl := Option.some.inj hF3
            exact J6 _ _ (by (repeat (refine keep_cons rfl ?_)); refine keep_sub k9 rfl ?_; (repeat (refine keep_cons rfl ?_)); refine keep_name k8 ?_; (repeat (refine keep_cons rfl ?_)); exact fun _ _ => rfl) rfl H
          refine p_gs (j := 28) (gvl_at rfl rfl (k8 57)) (fun hb3 => ?_) (fun hb3 => ?_)
          · replace hE3 := cnd_t hE3 hb3
            refine p_want (gvl_at rfl rfl (k8 57)) hb3 ?_
            refine p_val (r_move (v := str (y1.1)) ((k8 5).trans ((k7 5).trans q21))) ?_
            refine p_want (gvl_at rfl rfl (k8 57)) hb3 ?_
            refine p_val (h_load (l := (cl52 x0)) tg52 H ((k8 2).trans ((k7 2).trans q20)) (k := 2) rfl rfl rfl) ?_
            refine p_want (gvl_at rfl rfl (k8 57)) hb3 ?_
            obtain ⟨y7, e7, hE3⟩ := bnd hE3
            refine p_call (l := [.agg ((cl52 x0)).toArray]) is45 rfl ?_
            refine (seneschalref07_Bytes_c H.sub e7).mono ?_; rintro _ w13 ⟨rfl, hx⟩; replace H := H.ext hx; clear hx
            refine p_want (gvl_at rfl rfl (k8 57)) hb3 ?_
            refine p_val (r_neT (t := (y1.1 != y7)) rfl rfl rfl) ?_
            refine p_want (gvl_at rfl rfl ((k8 55).trans (k7 55))) hb2 ?_
            refine p_val (r_pickt (v := .bool ((y1.1 != y7))) (k8 57) hb3 rfl) ?_
            refine hR8 _ _ ?_
            replace H : HS ⟨S, [], w⟩ S w13 [.blk b3 ((cl52 y3.1)) 52, .blk b2 ((cl52 y2.1)) 52, .blk b1 ((cl52 x0)) 52] := H
            obtain rfl := Option.some.inj hE3
            exact J3 _ _ (by (repeat (refine keep_cons rfl ?_)); exact fun _ _ => rfl) rfl H
          · replace hE3 := cnd_f hE3 hb3
            refine p_skip (gvl_at rfl rfl (k8 57)) hb3 ?_
            rw [put_fr]
            refine p_skip (gvl_at rfl rfl (k8 57)) hb3 ?_
            rw [put_fr]
            refine p_skip (gvl_at rfl rfl (k8 57)) hb3 ?_
            rw [put_fr]
            refine p_skip (gvl_at rfl rfl (k8 57)) hb3 ?_
            rw [put_fr]
            refine p_want (gvl_at rfl rfl ((k8 55).trans (k7 55))) hb2 ?_
            refine p_val (r_pickf (v := .bool (false)) (k8 57) hb3 rfl) ?_
            refine hR8 _ _ ?_
            replace H : HS ⟨S, [], w⟩ S w12 [.blk b3 ((cl52 y3.1)) 52, .blk b2 ((cl52 y2.1)) 52, .blk b1 ((cl52 x0)) 52] := H
            obtain rfl := Option.some.inj hE3
            exact J3 _ _ (by (repeat (refine keep_cons rfl ?_)); exact fun _ _ => rfl) rfl H
      refine p_gs (j := 14) (gvl_at rfl rfl (k5 43)) (fun hb7 => ?_) (fun hb7 => ?_)
      · skip
        refine p_skip (gvl_at rfl rfl (k5 43)) hb7 ?_
        rw [put_fr]
        refine p_skip (gvl_at rfl rfl (k5 43)) hb7 ?_
        rw [put_fr]
        refine p_skip (gvl_at rfl rfl (k5 43)) hb7 ?_
        rw [put_fr]
        refine p_skipU rfl ?_
        rw [put_fr]
        refine p_skipU rfl ?_
        rw [put_fr]
        refine p_skipU rfl ?_
        rw [put_fr]
        refine p_skipU rfl ?_
        rw [put_fr]
        refine p_skipU rfl ?_
        rw [put_fr]
        refine p_skipU rfl ?_
        rw [put_fr]
        refine p_skip (gvl_at rfl rfl (k5 43)) hb7 ?_
        rw [put_fr]
        refine p_val (r_pickt (v := .bool (true)) (k5 43) hb7 rfl) ?_
        refine hR6 _ _ ?_
        exact J2 _ (by (repeat (refine keep_cons rfl ?_)); exact fun _ _ => rfl) (show (.bool (true) : Value) = .bool ((bif (bif t1 then true else ((y1.2 == 0) != y4)) then true else (bif (!y4) then (bif (y1.2 != 70) then true else (y1.1 != ([] : List UInt8))) else false))) from congrArg Value.bool (by simp only [hb7, cond_true, cond_false]))
      · skip
        refine p_want (gvl_at rfl rfl (k5 43)) hb7 ?_
        refine p_val (r_move (v := .bool (y4)) ((k5 11).trans q18)) ?_
        refine p_want (gvl_at rfl rfl (k5 43)) hb7 ?_
        refine p_val (r_not (t := (!y4)) rfl rfl) ?_
        refine p_want (gvl_at rfl rfl (k5 43)) hb7 ?_
        refine p_val (r_move (v := .bool ((!y4))) rfl) ?_
        refine p_gs (j := 17) rfl (fun hb8 => ?_) (fun hb8 => ?_)
        · skip
          refine p_want rfl hb8 ?_
          refine p_val (r_move (v := .int .i64 (y1.2)) ((k5 6).trans q13)) ?_
          refine p_want rfl hb8 ?_
          refine p_val (r_neq (t := (y1.2 != 70)) rfl rfl rfl) ?_
          refine p_want rfl hb8 ?_
          refine p_val (r_move (v := .bool ((y1.2 != 70))) rfl) ?_
          refine p_gs (j := 20) rfl (fun hb9 => ?_) (fun hb9 => ?_)
          · skip
            refine p_skip rfl hb9 ?_
            rw [put_fr]
            refine p_skip rfl hb9 ?_
            rw [put_fr]
            refine p_want rfl hb8 ?_
            refine p_val (r_pickt (v := .bool (true)) rfl hb9 rfl) ?_
            refine p_want (gvl_at rfl rfl (k5 43)) hb7 ?_
            refine p_val (r_pickt (v := .bool (true)) rfl hb8 rfl) ?_
            refine p_val (r_pickf (v := .bool (true)) (k5 43) hb7 rfl) ?_
            refine hR6 _ _ ?_
            exact J2 _ (by (repeat (refine keep_cons rfl ?_)); exact fun _ _ => rfl) (show (.bool (true) : Value) = .bool ((bif (bif t1 then true else ((y1.2 == 0) != y4)) then true else (bif (!y4) then (bif (y1.2 != 70) then true else (y1.1 != ([] : List UInt8))) else false))) from congrArg Value.bool (by simp only [hb7, hb8, hb9, cond_true, cond_false]))
          · skip
            refine p_want rfl hb9 ?_
            refine p_val (r_move (v := str (y1.1)) ((k5 5).trans q12)) ?_
            refine p_want rfl hb9 ?_
            refine p_val (r_neT (t := (y1.1 != ([] : List UInt8))) rfl rfl rfl) ?_
            refine p_want rfl hb8 ?_
            refine p_val (r_pickf (v := .bool ((y1.1 != ([] : List UInt8)))) rfl hb9 rfl) ?_
            refine p_want (gvl_at rfl rfl (k5 43)) hb7 ?_
            refine p_val (r_pickt (v := .bool ((y1.1 != ([] : List UInt8)))) rfl hb8 rfl) ?_
            refine p_val (r_pickf (v := .bool ((y1.1 != ([] : List UInt8)))) (k5 43) hb7 rfl) ?_
            refine hR6 _ _ ?_
            exact J2 _ (by (repeat (refine keep_cons rfl ?_)); exact fun _ _ => rfl) (show (.bool ((y1.1 != ([] : List UInt8))) : Value) = .bool ((bif (bif t1 then true else ((y1.2 == 0) != y4)) then true else (bif (!y4) then (bif (y1.2 != 70) then true else (y1.1 != ([] : List UInt8))) else false))) from congrArg Value.bool (by simp only [hb7, hb8, hb9, cond_true, cond_false]))
        · skip
          refine p_skip rfl hb8 ?_
          rw [put_fr]
          refine p_skip rfl hb8 ?_
          rw [put_fr]
          refine p_skip rfl hb8 ?_
          rw [put_fr]
          refine p_skipU rfl ?_
          rw [put_fr]
          refine p_skipU rfl ?_
          rw [put_fr]
          refine p_skip rfl hb8 ?_
          rw [put_fr]
          refine p_want (gvl_at rfl rfl (k5 43)) hb7 ?_
          refine p_val (r_pickf (v := .bool (false)) rfl hb8 rfl) ?_
          refine p_val (r_pickf (v := .bool (false)) (k5 43) hb7 rfl) ?_
          refine hR6 _ _ ?_
          exact J2 _ (by (repeat (refine keep_cons rfl ?_)); exact fun _ _ => rfl) (show (.bool (false) : Value) = .bool ((bif (bif t1 then true else ((y1.2 == 0) != y4)) then true else (bif (!y4) then (bif (y1.2 != 70) then true else (y1.1 != ([] : List UInt8))) else false))) from congrArg Value.bool (by simp only [hb7, hb8, cond_true, cond_false]))
    refine p_gs (j := 8) (gvl_at rfl rfl (k3 37)) (fun hb10 => ?_) (fun hb10 => ?_)
    · skip
      refine p_skip (gvl_at rfl rfl (k3 37)) hb10 ?_
      rw [put_fr]
      refine p_skip (gvl_at rfl rfl (k3 37)) hb10 ?_
      rw [put_fr]
      refine p_skip (gvl_at rfl rfl (k3 37)) hb10 ?_
      rw [put_fr]
      refine p_skip (gvl_at rfl rfl (k3 37)) hb10 ?_
      rw [put_fr]
      refine p_val (r_pickt (v := .bool (true)) (k3 37) hb10 rfl) ?_
      refine hR5 _ _ ?_
      exact J1 _ (by (repeat (refine keep_cons rfl ?_)); exact fun _ _ => rfl) (show (.bool (true) : Value) = .bool ((bif t1 then true else ((y1.2 == 0) != y4))) from congrArg Value.bool (by simp only [hb10, cond_true, cond_false]))
    · skip
      refine p_want (gvl_at rfl rfl (k3 37)) hb10 ?_
      refine p_val (r_move (v := .int .i64 (y1.2)) ((k3 6).trans q4)) ?_
      refine p_want (gvl_at rfl rfl (k3 37)) hb10 ?_
      refine p_val (r_eql (t := (y1.2 == 0)) rfl rfl rfl) ?_
      refine p_want (gvl_at rfl rfl (k3 37)) hb10 ?_
      refine p_val (r_move (v := .bool (y4)) ((k3 11).trans q9)) ?_
      refine p_want (gvl_at rfl rfl (k3 37)) hb10 ?_
      refine p_val (r_neB (t := ((y1.2 == 0) != y4)) u4 rfl rfl rfl) ?_
      refine p_val (r_pickf (v := .bool (((y1.2 == 0) != y4))) (k3 37) hb10 rfl) ?_
      refine hR5 _ _ ?_
      exact J1 _ (by (repeat (refine keep_cons rfl ?_)); exact fun _ _ => rfl) (show (.bool (((y1.2 == 0) != y4)) : Value) = .bool ((bif t1 then true else ((y1.2 == 0) != y4))) from congrArg Value.bool (by simp only [hb10, cond_true, cond_false]))
  refine p_gs (j := 2) (gvl_at rfl rfl (k1 31)) (fun hb1 => ?_) (fun hb1 => ?_)
  · replace hE1 := cnd_t hE1 hb1
    refine p_skip (gvl_at rfl rfl (k1 31)) hb1 ?_
    rw [put_fr]
    refine p_skip (gvl_at rfl rfl (k1 31)) hb1 ?_
    rw [put_fr]
    refine p_skip (gvl_at rfl rfl (k1 31)) hb1 ?_
    rw [put_fr]
    refine p_skip (gvl_at rfl rfl (k1 31)) hb1 ?_
    rw [put_fr]
    refine p_val (r_pickt (v := .bool (true)) (k1 31) hb1 rfl) ?_
    refine hR4 _ _ ?_
    replace H : HS ⟨S, [], w⟩ S w10 [.blk b3 ((cl52 y3.1)) 52, .blk b2 ((cl52 y2.1)) 52, .blk b1 ((cl52 x0)) 52] := H
    obtain rfl := Option.some.inj hE1
    exact J7 _ _ (by (repeat (refine keep_cons rfl ?_)); exact fun _ _ => rfl) rfl H
  · replace hE1 := cnd_f hE1 hb1
    refine p_want (gvl_at rfl rfl (k1 31)) hb1 ?_
    refine p_val (h_load (l := (cl52 x0)) tg52 H (k1 2) (k := 2) rfl rfl rfl) ?_
    refine p_want (gvl_at rfl rfl (k1 31)) hb1 ?_
    obtain ⟨y6, e6, hE1⟩ := bnd hE1
    refine p_call (l := [.agg ((cl52 x0)).toArray]) is44 rfl ?_
    refine (curve_On_c H.sub e6).mono ?_; rintro _ w11 ⟨rfl, hx⟩; replace H := H.ext hx; clear hx
    refine p_want (gvl_at rfl rfl (k1 31)) hb1 ?_
    refine p_val (r_move (v := .bool (y4)) (k1 11)) ?_
    refine p_want (gvl_at rfl rfl (k1 31)) hb1 ?_
    refine p_val (r_neB (t := (y6 != y4)) u4 rfl rfl rfl) ?_
    refine p_val (r_pickf (v := .bool ((y6 != y4))) (k1 31) hb1 rfl) ?_
    refine hR4 _ _ ?_
    replace H : HS ⟨S, [], w⟩ S w11 [.blk b3 ((cl52 y3.1)) 52, .blk b2 ((cl52 y2.1)) 52, .blk b1 ((cl52 x0)) 52] := H
    obtain rfl := Option.some.inj hE1
    exact J7 _ _ (by (repeat (refine keep_cons rfl ?_)); exact fun _ _ => rfl) rfl H
end Go.Proofs.Ytjmgilhlpohcmaa
