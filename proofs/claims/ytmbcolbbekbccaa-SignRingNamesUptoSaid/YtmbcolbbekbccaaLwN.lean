/- What some functions compute, and that they do. Conditions: as each theorem says. -/
import Derived.Test.YtmbcolbbekbccaaSgB
namespace Go.Proofs.Ytmbcolbbekbccaa
open Go Go.RowKit
attribute [local irreducible] wpList wpT Code.wp Calls Code.rounds
theorem u39 : Try.prog.underlying 39 = some (.pointer 75) := by kernel_rfl
theorem u43 : Try.prog.underlying 43 = some (.slice 9) := by kernel_rfl
theorem eg39 : Try.prog.eqGuardType Try.prog.depth 39 = false := by kernel_rfl
theorem is5 : IsFn Try.prog 5 := isFn Try.func5 (by kernel_rfl) (by kernel_rfl)
theorem is6 : IsFn Try.prog 6 := isFn Try.func6 (by kernel_rfl) (by kernel_rfl)
theorem is7 : IsFn Try.prog 7 := isFn Try.func7 (by kernel_rfl) (by kernel_rfl)
theorem is8 : IsFn Try.prog 8 := isFn Try.func8 (by kernel_rfl) (by kernel_rfl)
theorem is12 : IsFn Try.prog 12 := isFn Try.func12 (by kernel_rfl) (by kernel_rfl)
theorem is13 : IsFn Try.prog 13 := isFn Try.func13 (by kernel_rfl) (by kernel_rfl)
theorem is14 : IsFn Try.prog 14 := isFn Try.func14 (by kernel_rfl) (by kernel_rfl)
theorem is16 : IsFn Try.prog 16 := isFn Try.func16 (by kernel_rfl) (by kernel_rfl)
theorem is27 : IsFn Try.prog 27 := isFn Try.func27 (by kernel_rfl) (by kernel_rfl)
theorem is29 : IsFn Try.prog 29 := isFn Try.func29 (by kernel_rfl) (by kernel_rfl)
theorem eqt29 (x y : (UInt64 × UInt64 × UInt64 × UInt64) × (UInt64 × UInt64 × UInt64 × UInt64) × Bool) : EqR Try.prog 3 29 (.agg (cl29 x).toArray) (.agg (cl29 y).toArray) (x == y) :=
  EqR.str (fs := fieldsOf Try.prog 29) (by kernel_rfl) (by kernel_rfl) (by kernel_rfl) (l := [(24, 0), (24, 4), (4, 8)]) (by kernel_rfl) (EqL.cons (partA tg24 rfl) (partA tg24 rfl) (eqt24 x.1 y.1) (EqL.cons (partA tg24 rfl) (partA tg24 rfl) (eqt24 x.2.1 y.2.1) (EqL.last (part1 (v := Value.bool (x.2.2)) to4 rfl) (part1 (v := Value.bool (y.2.2)) to4 rfl) ((eqB u4).le 2 (Nat.le_of_ble_eq_true rfl)))))
theorem tsz9 : TSz Try.prog 9 1 := fun _ => by kernel_rfl
noncomputable def seneschallaw08_fixed_p  : Option (Bool) :=
  Option.bind (sign_Public_p ((1 : UInt64), (0 : UInt64), (0 : UInt64), (0 : UInt64))) fun y1 => Option.bind (sign_Public_p ((0 : UInt64), (0 : UInt64), (0 : UInt64), (0 : UInt64))) fun y2 => Option.bind (field_Modulus_p 1) fun y3 => Option.bind (sign_Sign_p y3 ([] : List UInt8)) fun y4 => Option.bind (sign_NewRing_p ([97] : List UInt8)) fun y5 => Option.bind (sign_Ring_Turn_p y5 ([97] : List UInt8)) fun y6 => Option.bind (bif (y6.1 != 80) then (some ((true, y6.2))) else (Option.bind (sign_Ring_Turn_p y6.2 ([98] : List UInt8)) fun y7 => some (((y7.1 != 0), y7.2)))) (fun t1 => Option.bind (bif t1.1 then (some (true)) else (Option.bind (sign_Ring_Kids_p (some t1.2)) fun y8 => some ((((y8).length : Int) != 2)))) (fun t2 => bif t2 then (some (false)) else (Option.bind (sign_Ring_Mac_p (some t1.2) ([115] : List UInt8)) fun y9 => Option.bind (curve_Base_p) fun y10 => bif ((y1.1 : (UInt64 × UInt64 × UInt64 × UInt64) × (UInt64 × UInt64 × UInt64 × UInt64) × Bool) == (y10 : (UInt64 × UInt64 × UInt64 × UInt64) × (UInt64 × UInt64 × UInt64 × UInt64) × Bool)) then (bif (y1.2 == 0) then (bif (y2.2 == 80) then (bif (y4.2 == 80) then (Option.bind (sign_Ring_Vouch_p (some t1.2) y9.1 ([115] : List UInt8) y9.2) fun y11 => bif y11 then (Option.bind (sign_Ring_Vouch_p (some t1.2) ([] : List UInt8) ([115] : List UInt8) y9.2) fun y12 => bif (!y12) then (Option.bind (sign_Verify_p y1.1 ([] : List UInt8) ([] : List UInt8)) fun y13 => some ((bif (bif (bif (bif (!y13) then true else false) then true else false) then true else false) then true else false))) else (some (false))) else (some (false))) else (some (false))) else (some (false))) else (some (false))) else (some (false)))))
set_option maxRecDepth 20000 in
set_option maxHeartbeats 2000000 in
theorem seneschallaw08_fixed_c {S : Mem} {w : World} (hS : Sub S w)  {r : Bool} (hF : seneschallaw08_fixed_p = some r) :
    Calls Try.prog 7 #[] w fun e w' => e = .returned (.bool (r)) ∧ Ext w w' := by
 refine enter (n := 89) Try.func7 rfl rfl rfl ?_
 have H := HS.start hS
 unfold seneschallaw08_fixed_p at hF
 refine sr ?_; intro K1 hK1
 refine p_as (v := .bool (false)) rfl ?_
 refine xk hK1 ?_; clear hK1
 refine sr ?_; intro K2 hK2
 refine p_val (r_build (vals := [(0, .int .u64 (1))]) (l := (cl24 ((1 : UInt64), (0 : UInt64), (0 : UInt64), (0 : UInt64)))) tb24 rfl rfl) ?_
 obtain ⟨y1, e1, hF⟩ := bnd hF
 refine p_call (l := [.agg ((cl24 ((1 : UInt64), (0 : UInt64), (0 : UInt64), (0 : UInt64)))).toArray]) is6 rfl ?_
 refine (sign_Public_c H.sub e1).mono ?_; rintro _ w1 ⟨rfl, hx⟩; replace H := H.ext hx; clear hx
 refine p_mv (v := .tuple #[.agg ((cl29 y1.1)).toArray, .int .i64 (y1.2)]) rfl ?_
 refine p_val (r_extract (v := .agg ((cl29 y1.1)).toArray) rfl rfl) ?_
 refine p_val (r_extract (v := .int .i64 (y1.2)) rfl rfl) ?_
 refine p_ofb (a_alloc (l := (cl29 (((0 : UInt64), (0 : UInt64), (0 : UInt64), (0 : UInt64)), ((0 : UInt64), (0 : UInt64), (0 : UInt64), (0 : UInt64)), false))) H tz29 rfl) ?_; clear H; intro w2 b1 H
 refine p_ofs (a_store (k := 0) (v := .agg ((cl29 y1.1)).toArray) (l := (cl29 y1.1)) tsz29 H rfl rfl rfl (cells_agg _) rfl (fun u hu => List.all_eq_true.1 (rfl : ((cl29 y1.1)).all (·.oneCell') = true) u hu) rfl) ?_; clear H; intro w3 H
 replace H : HS ⟨S, [], w⟩ S w3 [.blk b1 ((cl29 y1.1)) 29] := H
 refine p_as (v := .int .i64 (y1.2)) rfl ?_
 refine xk hK2 ?_; clear hK2
 refine sr ?_; intro K3 hK3
 refine p_val (r_build (vals := []) (l := (cl24 ((0 : UInt64), (0 : UInt64), (0 : UInt64), (0 : UInt64)))) tb24 rfl rfl) ?_
 obtain ⟨y2, e2, hF⟩ := bnd hF
 refine p_call (l := [.agg ((cl24 ((0 : UInt64), (0 : UInt64), (0 : UInt64), (0 : UInt64)))).toArray]) is6 rfl ?_
 refine (sign_Public_c H.sub e2).mono ?_; rintro _ w4 ⟨rfl, hx⟩; replace H := H.ext hx; clear hx
 refine p_mv (v := .tuple #[.agg ((cl29 y2.1)).toArray, .int .i64 (y2.2)]) rfl ?_
 refine p_val (r_extract (v := .agg ((cl29 y2.1)).toArray) rfl rfl) ?_
 refine p_val (r_extract (v := .int .i64 (y2.2)) rfl rfl) ?_
 refine p_ofb (a_alloc (l := (cl29 (((0 : UInt64), (0 : UInt64), (0 : UInt64), (0 : UInt64)), ((0 : UInt64), (0 : UInt64), (0 : UInt64), (0 : UInt64)), false))) H tz29 rfl) ?_; clear H; intro w5 b2 H
 refine p_ofs (a_store (k := 0) (v := .agg ((cl29 y2.1)).toArray) (l := (cl29 y2.1)) tsz29 H rfl rfl rfl (cells_agg _) rfl (fun u hu => List.all_eq_true.1 (rfl : ((cl29 y2.1)).all (·.oneCell') = true) u hu) rfl) ?_; clear H; intro w6 H
 replace H : HS ⟨S, [], w⟩ S w6 [.blk b2 ((cl29 y2.1)) 29, .blk b1 ((cl29 y1.1)) 29] := H
 refine p_as (v := .int .i64 (y2.2)) rfl ?_
 refine xk hK3 ?_; clear hK3
 refine sr ?_; intro K4 hK4
 obtain ⟨y3, e3, hF⟩ := bnd hF
 refine p_call (l := [.int .i64 (1)]) is26 rfl ?_
 refine (field_Modulus_c H.sub e3).mono ?_; rintro _ w7 ⟨rfl, hx⟩; replace H := H.ext hx; clear hx
 obtain ⟨y4, e4, hF⟩ := bnd hF
 refine p_call (l := [.agg ((cl24 y3)).toArray, str (([] : List UInt8))]) is5 rfl ?_
 refine (sign_Sign_c H.sub e4).mono ?_; rintro _ w8 ⟨rfl, hx⟩; replace H := H.ext hx; clear hx
 refine p_mv (v := .tuple #[str (y4.1), .int .i64 (y4.2)]) rfl ?_
 refine p_val (r_extract (v := str (y4.1)) rfl rfl) ?_
 refine p_val (r_extract (v := .int .i64 (y4.2)) rfl rfl) ?_
 refine p_as (v := str (y4.1)) rfl ?_
 refine p_as (v := .int .i64 (y4.2)) rfl ?_
 refine xk hK4 ?_; clear hK4
 refine sr ?_; intro K5 hK5
 obtain ⟨y5, e5, hF⟩ := bnd hF
 refine p_call (l := [str (([97] : List UInt8))]) is12 rfl ?_
 refine (sign_NewRing_c (H.hand [] rfl) e5).mono ?_; rintro _ w9 ⟨S1, pb1, pv1, pcs1, prs1, rfl, H2, pg1⟩
 obtain ⟨H1, hle1⟩ := H.frame [] [0, 1] rfl H2; clear H H2; have H := H1; clear H1
 replace H : HS ⟨S, [], w⟩ S1 w9 [.blk pb1 (([pv1])) 75, .osl (pv1) (y5).length 1 pcs1 prs1 71, .blk b2 ((cl29 y2.1)) 29, .blk b1 ((cl29 y1.1)) 29] := H
 refine p_as (v := .pointer (some ⟨pb1, 0, none⟩)) rfl ?_
 refine xk hK5 ?_; clear hK5
 refine wp_seq_k ?_; intro K6 hK6
 refine sr ?_; intro K7 hK7
 refine p_mv (v := .pointer (some ⟨pb1, 0, none⟩)) rfl ?_
 refine p_val (r_eqPn u39 eg39 rfl rfl) ?_
 refine p_mv (v := .bool (false)) rfl ?_
 refine p_want rfl rfl ?_
 refine p_mv (v := .pointer (some ⟨pb1, 0, none⟩)) rfl ?_
 refine p_want rfl rfl ?_
 obtain ⟨y6, e6, hF⟩ := bnd hF
 refine p_call (l := [.pointer (some ⟨pb1, 0, none⟩), str (([97] : List UInt8))]) is27 rfl ?_
 refine (sign_Ring_Turn_c (H.hand [0, 1] rfl) pg1 e6).mono ?_; rintro _ w10 ⟨S2, pv2, pcs2, prs2, rfl, H2, pg2⟩
 obtain ⟨H1, hle2⟩ := H.frame [0, 1] [2, 3] rfl H2; clear H H2; have H := H1; clear H1
 replace H : HS ⟨S, [], w⟩ S2 w10 [.blk pb1 (([pv2])) 75, .osl (pv2) (y6.2).length 1 pcs2 prs2 71, .blk b2 ((cl29 y2.1)) 29, .blk b1 ((cl29 y1.1)) 29] := H
 refine p_want rfl rfl ?_
 refine p_val (r_neqI rfl rfl) ?_
 refine p_val (r_pickf (v := .bool ((y6.1 != 80))) rfl rfl rfl) ?_
 refine p_mv (v := .bool ((y6.1 != 80))) rfl ?_
 refine nameL fun m1 k1 => ?_
 refine gs_at 4 fun K8 hK8 R6 hR6 => ?_
 obtain ⟨t1, hE1, hF1⟩ := bnd hF
 have J2 : ∀ (v1 : Value) (cs1 rs1 : List Value) (S4 : Mem) (m2 : FM) (w12 : World), (∀ t, has [34, 35, 36, 37] t = false → look m2 t = look m1 t) → look m2 37 = .bool (t1.1) → Mem.le S2 S4 → HS ⟨S, [], w⟩ S4 w12 [.blk pb1 (([v1])) 75, .osl (v1) (t1.2).length 1 cs1 rs1 71, .blk b2 ((cl29 y2.1)) 29, .blk b1 ((cl29 y1.1)) 29] → RL S4 cs1 t1.2 → K8 m2 w12 := by
  clear H; intro v1 cs1 rs1 S4 m2 w12 k2 q1 hle4 H g1
  have q2 : look m2 1 = .pointer (some ⟨b1, 0, none⟩) := (k2 1 rfl).trans (k1 1)
  have q3 : look m2 2 = .int .i64 (y1.2) := (k2 2 rfl).trans (k1 2)
  have q4 : look m2 4 = .int .i64 (y2.2) := (k2 4 rfl).trans (k1 4)
  have q5 : look m2 6 = .int .i64 (y4.2) := (k2 6 rfl).trans (k1 6)
  have q6 : look m2 7 = .pointer (some ⟨pb1, 0, none⟩) := (k2 7 rfl).trans (k1 7)
  refine hK8 _ _ ?_
  refine p_mv q1 ?_
  refine nameL fun m3 k3 => ?_
  refine gs_at 5 fun K9 hK9 R8 hR8 => ?_
  obtain ⟨t2, hE2, hF2⟩ := bnd hF1
  have J1 : ∀ (m4 : FM) (w14 : World), (∀ t, has [39, 40, 41, 42, 43] t = false → look m4 t = look m3 t) → look m4 43 = .bool (t2) → HS ⟨S, [], w⟩ S4 w14 [.blk pb1 (([v1])) 75, .osl (v1) (t1.2).length 1 cs1 rs1 71, .blk b2 ((cl29 y2.1)) 29, .blk b1 ((cl29 y1.1)) 29] → K9 m4 w14 := by
   clear H; intro m4 w14 k4 q7 H
   have q8 : look m4 1 = .pointer (some ⟨b1, 0, none⟩) := (k4 1 rfl).trans ((k3 1).trans q2)
   have q9 : look m4 2 = .int .i64 (y1.2) := (k4 2 rfl).trans ((k3 2).trans q3)
   have q10 : look m4 4 = .int .i64 (y2.2) := (k4 4 rfl).trans ((k3 4).trans q4)
   have q11 : look m4 6 = .int .i64 (y4.2) := (k4 6 rfl).trans ((k3 6).trans q5)
   have q12 : look m4 7 = .pointer (some ⟨pb1, 0, none⟩) := (k4 7 rfl).trans ((k3 7).trans q6)
   refine hK9 _ _ ?_
   refine xk hK7 ?_; clear hK7
   refine c_split (t := t2) q7 (fun hc1 => ?_) (fun hc1 => ?_)
   ·replace hF2 := cnd_t hF2 hc1
    refine sr ?_; intro K10 hK10
    refine p_as (v := .bool (false)) rfl ?_
    refine xk hK10 ?_; clear hK10
    refine wp_ret ?_
    refine x_ret ?_
    obtain rfl := Option.some.inj hF2
    refine e_1 rfl (q_tmp (v := .bool (false)) rfl) ?_
    exact ⟨rfl, H.toExt⟩
   ·replace hF2 := cnd_f hF2 hc1
    refine wp_skip ?_
    refine xn hK6 ?_; clear hK6
    refine sr ?_; intro K11 hK11
    refine p_mv (v := .pointer (some ⟨pb1, 0, none⟩)) q12 ?_
    obtain ⟨y9, e9, hF2⟩ := bnd hF2
    refine p_call (l := [.pointer (some ⟨pb1, 0, none⟩), str (([115] : List UInt8))]) is13 rfl ?_
    refine (sign_Ring_Mac_c (subMem w14) (rpK (HS.blkAt H (k := 0) rfl) (rpL (RdS.ofOwn H (k := 1) rfl g1))) e9).mono ?_; rintro _ w15 ⟨rfl, hx⟩; replace H := H.ext hx; clear hx
    refine p_mv (v := .tuple #[str (y9.1), str (y9.2)]) rfl ?_
    refine p_val (r_extract (v := str (y9.1)) rfl rfl) ?_
    refine p_val (r_extract (v := str (y9.2)) rfl rfl) ?_
    refine p_as (v := str (y9.1)) rfl ?_
    refine p_as (v := str (y9.2)) rfl ?_
    refine xk hK11 ?_; clear hK11
    refine wp_seq_k ?_; intro K12 hK12
    obtain ⟨y10, e10, hF2⟩ := bnd hF2
    rcases Bool.eq_false_or_eq_true (((y1.1 : (UInt64 × UInt64 × UInt64 × UInt64) × (UInt64 × UInt64 × UInt64 × UInt64) × Bool) == (y10 : (UInt64 × UInt64 × UInt64 × UInt64) × (UInt64 × UInt64 × UInt64 × UInt64) × Bool))) with hb3 | hb3
    ·replace hF2 := cnd_t hF2 hb3
     rcases Bool.eq_false_or_eq_true ((y1.2 == 0)) with hb4 | hb4
     ·replace hF2 := cnd_t hF2 hb4
      rcases Bool.eq_false_or_eq_true ((y2.2 == 80)) with hb5 | hb5
      ·replace hF2 := cnd_t hF2 hb5
       rcases Bool.eq_false_or_eq_true ((y4.2 == 80)) with hb6 | hb6
       ·replace hF2 := cnd_t hF2 hb6
        obtain ⟨y11, e11, hF2⟩ := bnd hF2
        rcases Bool.eq_false_or_eq_true (y11) with hb7 | hb7
        ·replace hF2 := cnd_t hF2 hb7
         obtain ⟨y12, e12, hF2⟩ := bnd hF2
         rcases Bool.eq_false_or_eq_true ((!y12)) with hb8 | hb8
         ·replace hF2 := cnd_t hF2 hb8
          obtain ⟨y13, e13, hF2⟩ := bnd hF2
          apply wp_region_ext 40 (kindsF [(1, .inl (.agg ((cl29 y10)).toArray)), (19, .inl (.bool (y11))), (24, .inl (.bool (y12))), (29, .inl (.bool (y13)))]) rfl rfl (by kernel_rfl); intro vs1
          simp only [List.take_succ_cons, List.take_zero, List.drop_succ_cons, List.drop_zero]
          replace H := H.drew
          refine t_v (fun w hx => h_load (l := (cl29 y1.1)) tg29 (H.ext hx) q8 (k := 3) rfl rfl rfl) ?_
          refine t_call (l := []) rfl rfl is28 rfl (fun w hx hF => (curve_Base_c (H.ext hx).sub e10).mono (fun _ _ ⟨he, hx⟩ => ⟨he, hx⟩)) ?_
          refine t_v (fun w hx => r_eqR eg29 (by decide) (eqt29 y1.1 y10) rfl rfl) ?_
          refine t_v (fun w hx => r_move (v := .bool (((y1.1 : (UInt64 × UInt64 × UInt64 × UInt64) × (UInt64 × UInt64 × UInt64 × UInt64) × Bool) == (y10 : (UInt64 × UInt64 × UInt64 × UInt64) × (UInt64 × UInt64 × UInt64 × UInt64) × Bool)))) rfl) ?_
          refine t_valG rfl hb3 (fun w hx => r_move q9) rfl rfl ?_
          refine t_valG rfl hb3 (fun w hx => r_eqlI rfl rfl) rfl rfl ?_
          refine t_v (fun w hx => r_pickt (v := .bool ((y1.2 == 0))) rfl hb3 rfl) ?_
          refine t_v (fun w hx => r_move (v := .bool ((y1.2 == 0))) rfl) ?_
          refine t_valG rfl hb4 (fun w hx => r_move q10) rfl rfl ?_
          refine t_valG rfl hb4 (fun w hx => r_eqlI rfl rfl) rfl rfl ?_
          refine t_v (fun w hx => r_pickt (v := .bool ((y2.2 == 80))) rfl hb4 rfl) ?_
          refine t_v (fun w hx => r_move (v := .bool ((y2.2 == 80))) rfl) ?_
          refine t_valG rfl hb5 (fun w hx => r_move q11) rfl rfl ?_
          refine t_valG rfl hb5 (fun w hx => r_eqlI rfl rfl) rfl rfl ?_
          refine t_v (fun w hx => r_pickt (v := .bool ((y4.2 == 80))) rfl hb5 rfl) ?_
          refine t_v (fun w hx => r_move (v := .bool ((y4.2 == 80))) rfl) ?_
          refine t_valG rfl hb6 (fun w hx => r_move (v := .pointer (some ⟨pb1, 0, none⟩)) q12) rfl rfl ?_
          refine t_valG rfl hb6 (fun w hx => r_move (v := str (y9.1)) rfl) rfl rfl ?_
          refine t_valG rfl hb6 (fun w hx => r_move (v := str (y9.2)) rfl) rfl rfl ?_
          refine t_callG rfl hb6 (l := [.pointer (some ⟨pb1, 0, none⟩), str (y9.1), str (([115] : List UInt8)), str (y9.2)]) rfl rfl is29 rfl (fun w hx hF => (sign_Ring_Vouch_c (subMem w) (rpK (HS.blkAt (H.ext hx) (k := 0) rfl) (rpL (RdS.ofOwn (H.ext hx) (k := 1) rfl g1))) e11).mono (fun _ _ ⟨he, hx⟩ => ⟨he, hx⟩)) ?_
          refine t_v (fun w hx => r_pickt (v := .bool (y11)) rfl hb6 rfl) ?_
          refine t_v (fun w hx => r_move (v := .bool (y11)) rfl) ?_
          refine t_valG rfl hb7 (fun w hx => r_move (v := .pointer (some ⟨pb1, 0, none⟩)) q12) rfl rfl ?_
          refine t_valG rfl hb7 (fun w hx => r_move (v := str (y9.2)) rfl) rfl rfl ?_
          refine t_callG rfl hb7 (l := [.pointer (some ⟨pb1, 0, none⟩), str (([] : List UInt8)), str (([115] : List UInt8)), str (y9.2)]) rfl rfl is29 rfl (fun w hx hF => (sign_Ring_Vouch_c (subMem w) (rpK (HS.blkAt (H.ext hx) (k := 0) rfl) (rpL (RdS.ofOwn (H.ext hx) (k := 1) rfl g1))) e12).mono (fun _ _ ⟨he, hx⟩ => ⟨he, hx⟩)) ?_
          refine t_valG rfl hb7 (fun w hx => r_not (t := (!y12)) rfl rfl) rfl rfl ?_
          refine t_v (fun w hx => r_pickt (v := .bool ((!y12))) rfl hb7 rfl) ?_
          refine t_v (fun w hx => r_move (v := .bool ((!y12))) rfl) ?_
          refine t_valG rfl hb8 (fun w hx => h_load (l := (cl29 y1.1)) tg29 (H.ext hx) q8 (k := 3) rfl rfl rfl) rfl rfl ?_
          refine t_callG rfl hb8 (l := [.agg ((cl29 y1.1)).toArray, str (([] : List UInt8)), str (([] : List UInt8))]) rfl rfl is8 rfl (fun w hx hF => (sign_Verify_c (H.ext hx).sub e13).mono (fun _ _ ⟨he, hx⟩ => ⟨he, hx⟩)) ?_
          refine t_valG rfl hb8 (fun w hx => r_not (t := (!y13)) rfl rfl) rfl rfl ?_
          refine t_v (fun w hx => r_pickt (v := .bool ((!y13))) rfl hb8 rfl) ?_
          refine t_v (fun w hx => r_move (v := .bool ((!y13))) rfl) ?_
          refine t_v (fun w hx => r_pick (t := (bif (!y13) then true else false)) rfl rfl rfl rfl) ?_
          refine t_v (fun w hx => r_move (v := .bool ((bif (!y13) then true else false))) rfl) ?_
          refine t_v (fun w hx => r_pick (t := (bif (bif (!y13) then true else false) then true else false)) rfl rfl rfl rfl) ?_
          refine t_v (fun w hx => r_move (v := .bool ((bif (bif (!y13) then true else false) then true else false))) rfl) ?_
          refine t_v (fun w hx => r_pick (t := (bif (bif (bif (!y13) then true else false) then true else false) then true else false)) rfl rfl rfl rfl) ?_
          refine t_v (fun w hx => r_move (v := .bool ((bif (bif (bif (!y13) then true else false) then true else false) then true else false))) rfl) ?_
          refine t_v (fun w hx => r_pick (t := (bif (bif (bif (bif (!y13) then true else false) then true else false) then true else false) then true else false)) rfl rfl rfl rfl) ?_
          refine t_nil (fun w16 hx hF hA => ?_)
          replace H := H.ext hx; clear hx hF hA
          refine p_as (v := .bool ((bif (bif (bif (bif (!y13) then true else false) then true else false) then true else false) then true else false))) rfl ?_
          refine wpList_nil ?_; refine on_norm ?_
          refine xn hK12 ?_; clear hK12
          refine wp_ret ?_
          obtain rfl := Option.some.inj hF2
          refine e_1 rfl (q_tmp (v := .bool ((bif (bif (bif (bif (!y13) then true else false) then true else false) then true else false) then true else false))) rfl) ?_
          exact ⟨rfl, H.toExt⟩
         ·replace hF2 := cnd_f hF2 hb8
          apply wp_region_ext 40 (kindsF [(1, .inl (.agg ((cl29 y10)).toArray)), (19, .inl (.bool (y11))), (24, .inl (.bool (y12)))]) rfl rfl (by kernel_rfl); intro vs1
          simp only [List.take_succ_cons, List.take_zero, List.drop_succ_cons, List.drop_zero]
          replace H := H.drew
          refine t_v (fun w hx => h_load (l := (cl29 y1.1)) tg29 (H.ext hx) q8 (k := 3) rfl rfl rfl) ?_
          refine t_call (l := []) rfl rfl is28 rfl (fun w hx hF => (curve_Base_c (H.ext hx).sub e10).mono (fun _ _ ⟨he, hx⟩ => ⟨he, hx⟩)) ?_
          refine t_v (fun w hx => r_eqR eg29 (by decide) (eqt29 y1.1 y10) rfl rfl) ?_
          refine t_v (fun w hx => r_move (v := .bool (((y1.1 : (UInt64 × UInt64 × UInt64 × UInt64) × (UInt64 × UInt64 × UInt64 × UInt64) × Bool) == (y10 : (UInt64 × UInt64 × UInt64 × UInt64) × (UInt64 × UInt64 × UInt64 × UInt64) × Bool)))) rfl) ?_
          refine t_valG rfl hb3 (fun w hx => r_move q9) rfl rfl ?_
          refine t_valG rfl hb3 (fun w hx => r_eqlI rfl rfl) rfl rfl ?_
          refine t_v (fun w hx => r_pickt (v := .bool ((y1.2 == 0))) rfl hb3 rfl) ?_
          refine t_v (fun w hx => r_move (v := .bool ((y1.2 == 0))) rfl) ?_
          refine t_valG rfl hb4 (fun w hx => r_move q10) rfl rfl ?_
          refine t_valG rfl hb4 (fun w hx => r_eqlI rfl rfl) rfl rfl ?_
          refine t_v (fun w hx => r_pickt (v := .bool ((y2.2 == 80))) rfl hb4 rfl) ?_
          refine t_v (fun w hx => r_move (v := .bool ((y2.2 == 80))) rfl) ?_
          refine t_valG rfl hb5 (fun w hx => r_move q11) rfl rfl ?_
          refine t_valG rfl hb5 (fun w hx => r_eqlI rfl rfl) rfl rfl ?_
          refine t_v (fun w hx => r_pickt (v := .bool ((y4.2 == 80))) rfl hb5 rfl) ?_
          refine t_v (fun w hx => r_move (v := .bool ((y4.2 == 80))) rfl) ?_
          refine t_valG rfl hb6 (fun w hx => r_move (v := .pointer (some ⟨pb1, 0, none⟩)) q12) rfl rfl ?_
          refine t_valG rfl hb6 (fun w hx => r_move (v := str (y9.1)) rfl) rfl rfl ?_
          refine t_valG rfl hb6 (fun w hx => r_move (v := str (y9.2)) rfl) rfl rfl ?_
          refine t_callG rfl hb6 (l := [.pointer (some ⟨pb1, 0, none⟩), str (y9.1), str (([115] : List UInt8)), str (y9.2)]) rfl rfl is29 rfl (fun w hx hF => (sign_Ring_Vouch_c (subMem w) (rpK (HS.blkAt (H.ext hx) (k := 0) rfl) (rpL (RdS.ofOwn (H.ext hx) (k := 1) rfl g1))) e11).mono (fun _ _ ⟨he, hx⟩ => ⟨he, hx⟩)) ?_
          refine t_v (fun w hx => r_pickt (v := .bool (y11)) rfl hb6 rfl) ?_
          refine t_v (fun w hx => r_move (v := .bool (y11)) rfl) ?_
          refine t_valG rfl hb7 (fun w hx => r_move (v := .pointer (some ⟨pb1, 0, none⟩)) q12) rfl rfl ?_
          refine t_valG rfl hb7 (fun w hx => r_move (v := str (y9.2)) rfl) rfl rfl ?_
          refine t_callG rfl hb7 (l := [.pointer (some ⟨pb1, 0, none⟩), str (([] : List UInt8)), str (([115] : List UInt8)), str (y9.2)]) rfl rfl is29 rfl (fun w hx hF => (sign_Ring_Vouch_c (subMem w) (rpK (HS.blkAt (H.ext hx) (k := 0) rfl) (rpL (RdS.ofOwn (H.ext hx) (k := 1) rfl g1))) e12).mono (fun _ _ ⟨he, hx⟩ => ⟨he, hx⟩)) ?_
          refine t_valG rfl hb7 (fun w hx => r_not (t := (!y12)) rfl rfl) rfl rfl ?_
          refine t_v (fun w hx => r_pickt (v := .bool ((!y12))) rfl hb7 rfl) ?_
          refine t_v (fun w hx => r_move (v := .bool ((!y12))) rfl) ?_
          refine t_skip rfl hb8 rfl ?_
          rw [put_fr]
          refine t_skip rfl hb8 rfl ?_
          rw [put_fr]
          refine t_skip rfl hb8 rfl ?_
          rw [put_fr]
          refine t_v (fun w hx => r_pickf (v := .bool (false)) rfl hb8 rfl) ?_
          refine t_v (fun w hx => r_move (v := .bool (false)) rfl) ?_
          refine t_v (fun w hx => r_pickf (v := .bool (false)) rfl rfl rfl) ?_
          refine t_v (fun w hx => r_move (v := .bool (false)) rfl) ?_
          refine t_v (fun w hx => r_pickf (v := .bool (false)) rfl rfl rfl) ?_
          refine t_v (fun w hx => r_move (v := .bool (false)) rfl) ?_
          refine t_v (fun w hx => r_pickf (v := .bool (false)) rfl rfl rfl) ?_
          refine t_v (fun w hx => r_move (v := .bool (false)) rfl) ?_
          refine t_v (fun w hx => r_pickf (v := .bool (false)) rfl rfl rfl) ?_
          refine t_nil (fun w17 hx hF hA => ?_)
          replace H := H.ext hx; clear hx hF hA
          refine p_as (v := .bool (false)) rfl ?_
          refine wpList_nil ?_; refine on_norm ?_
          refine xn hK12 ?_; clear hK12
          refine wp_ret ?_
          obtain rfl := Option.some.inj hF2
          refine e_1 rfl (q_tmp (v := .bool (false)) rfl) ?_
          exact ⟨rfl, H.toExt⟩
        ·replace hF2 := cnd_f hF2 hb7
         apply wp_region_ext 40 (kindsF [(1, .inl (.agg ((cl29 y10)).toArray)), (19, .inl (.bool (y11)))]) rfl rfl (by kernel_rfl); intro vs1
         simp only [List.take_succ_cons, List.take_zero, List.drop_succ_cons, List.drop_zero]
         replace H := H.drew
         refine t_v (fun w hx => h_load (l := (cl29 y1.1)) tg29 (H.ext hx) q8 (k := 3) rfl rfl rfl) ?_
         refine t_call (l := []) rfl rfl is28 rfl (fun w hx hF => (curve_Base_c (H.ext hx).sub e10).mono (fun _ _ ⟨he, hx⟩ => ⟨he, hx⟩)) ?_
         refine t_v (fun w hx => r_eqR eg29 (by decide) (eqt29 y1.1 y10) rfl rfl) ?_
         refine t_v (fun w hx => r_move (v := .bool (((y1.1 : (UInt64 × UInt64 × UInt64 × UInt64) × (UInt64 × UInt64 × UInt64 × UInt64) × Bool) == (y10 : (UInt64 × UInt64 × UInt64 × UInt64) × (UInt64 × UInt64 × UInt64 × UInt64) × Bool)))) rfl) ?_
         refine t_valG rfl hb3 (fun w hx => r_move q9) rfl rfl ?_
         refine t_valG rfl hb3 (fun w hx => r_eqlI rfl rfl) rfl rfl ?_
         refine t_v (fun w hx => r_pickt (v := .bool ((y1.2 == 0))) rfl hb3 rfl) ?_
         refine t_v (fun w hx => r_move (v := .bool ((y1.2 == 0))) rfl) ?_
         refine t_valG rfl hb4 (fun w hx => r_move q10) rfl rfl ?_
         refine t_valG rfl hb4 (fun w hx => r_eqlI rfl rfl) rfl rfl ?_
         refine t_v (fun w hx => r_pickt (v := .bool ((y2.2 == 80))) rfl hb4 rfl) ?_
         refine t_v (fun w hx => r_move (v := .bool ((y2.2 == 80))) rfl) ?_
         refine t_valG rfl hb5 (fun w hx => r_move q11) rfl rfl ?_
         refine t_valG rfl hb5 (fun w hx => r_eqlI rfl rfl) rfl rfl ?_
         refine t_v (fun w hx => r_pickt (v := .bool ((y4.2 == 80))) rfl hb5 rfl) ?_
         refine t_v (fun w hx => r_move (v := .bool ((y4.2 == 80))) rfl) ?_
         refine t_valG rfl hb6 (fun w hx => r_move (v := .pointer (some ⟨pb1, 0, none⟩)) q12) rfl rfl ?_
         refine t_valG rfl hb6 (fun w hx => r_move (v := str (y9.1)) rfl) rfl rfl ?_
         refine t_valG rfl hb6 (fun w hx => r_move (v := str (y9.2)) rfl) rfl rfl ?_
         refine t_callG rfl hb6 (l := [.pointer (some ⟨pb1, 0, none⟩), str (y9.1), str (([115] : List UInt8)), str (y9.2)]) rfl rfl is29 rfl (fun w hx hF => (sign_Ring_Vouch_c (subMem w) (rpK (HS.blkAt (H.ext hx) (k := 0) rfl) (rpL (RdS.ofOwn (H.ext hx) (k := 1) rfl g1))) e11).mono (fun _ _ ⟨he, hx⟩ => ⟨he, hx⟩)) ?_
         refine t_v (fun w hx => r_pickt (v := .bool (y11)) rfl hb6 rfl) ?_
         refine t_v (fun w hx => r_move (v := .bool (y11)) rfl) ?_
         refine t_skip rfl hb7 rfl ?_
         rw [put_fr]
         refine t_skip rfl hb7 rfl ?_
         rw [put_fr]
         refine t_skip rfl hb7 rfl ?_
         rw [put_fr]
         refine t_skip rfl hb7 rfl ?_
         rw [put_fr]
         refine t_v (fun w hx => r_pickf (v := .bool (false)) rfl hb7 rfl) ?_
         refine t_v (fun w hx => r_move (v := .bool (false)) rfl) ?_
         refine t_skip rfl rfl rfl ?_
         rw [put_fr]
         refine t_skip rfl rfl rfl ?_
         rw [put_fr]
         refine t_skip rfl rfl rfl ?_
         rw [put_fr]
         refine t_v (fun w hx => r_pickf (v := .bool (false)) rfl rfl rfl) ?_
         refine t_v (fun w hx => r_move (v := .bool (false)) rfl) ?_
         refine t_v (fun w hx => r_pickf (v := .bool (false)) rfl rfl rfl) ?_
         refine t_v (fun w hx => r_move (v := .bool (false)) rfl) ?_
         refine t_v (fun w hx => r_pickf (v := .bool (false)) rfl rfl rfl) ?_
         refine t_v (fun w hx => r_move (v := .bool (false)) rfl) ?_
         refine t_v (fun w hx => r_pickf (v := .bool (false)) rfl rfl rfl) ?_
         refine t_v (fun w hx => r_move (v := .bool (false)) rfl) ?_
         refine t_v (fun w hx => r_pickf (v := .bool (false)) rfl rfl rfl) ?_
         refine t_nil (fun w18 hx hF hA => ?_)
         replace H := H.ext hx; clear hx hF hA
         refine p_as (v := .bool (false)) rfl ?_
         refine wpList_nil ?_; refine on_norm ?_
         refine xn hK12 ?_; clear hK12
         refine wp_ret ?_
         obtain rfl := Option.some.inj hF2
         refine e_1 rfl (q_tmp (v := .bool (false)) rfl) ?_
         exact ⟨rfl, H.toExt⟩
       ·replace hF2 := cnd_f hF2 hb6
        apply wp_region_ext 40 (kindsF [(1, .inl (.agg ((cl29 y10)).toArray))]) rfl rfl (by kernel_rfl); intro vs1
        simp only [List.take_succ_cons, List.take_zero, List.drop_succ_cons, List.drop_zero]
        replace H := H.drew
        refine t_v (fun w hx => h_load (l := (cl29 y1.1)) tg29 (H.ext hx) q8 (k := 3) rfl rfl rfl) ?_
        refine t_call (l := []) rfl rfl is28 rfl (fun w hx hF => (curve_Base_c (H.ext hx).sub e10).mono (fun _ _ ⟨he, hx⟩ => ⟨he, hx⟩)) ?_
        refine t_v (fun w hx => r_eqR eg29 (by decide) (eqt29 y1.1 y10) rfl rfl) ?_
        refine t_v (fun w hx => r_move (v := .bool (((y1.1 : (UInt64 × UInt64 × UInt64 × UInt64) × (UInt64 × UInt64 × UInt64 × UInt64) × Bool) == (y10 : (UInt64 × UInt64 × UInt64 × UInt64) × (UInt64 × UInt64 × UInt64 × UInt64) × Bool)))) rfl) ?_
        refine t_valG rfl hb3 (fun w hx => r_move q9) rfl rfl ?_
        refine t_valG rfl hb3 (fun w hx => r_eqlI rfl rfl) rfl rfl ?_
        refine t_v (fun w hx => r_pickt (v := .bool ((y1.2 == 0))) rfl hb3 rfl) ?_
        refine t_v (fun w hx => r_move (v := .bool ((y1.2 == 0))) rfl) ?_
        refine t_valG rfl hb4 (fun w hx => r_move q10) rfl rfl ?_
        refine t_valG rfl hb4 (fun w hx => r_eqlI rfl rfl) rfl rfl ?_
        refine t_v (fun w hx => r_pickt (v := .bool ((y2.2 == 80))) rfl hb4 rfl) ?_
        refine t_v (fun w hx => r_move (v := .bool ((y2.2 == 80))) rfl) ?_
        refine t_valG rfl hb5 (fun w hx => r_move q11) rfl rfl ?_
        refine t_valG rfl hb5 (fun w hx => r_eqlI rfl rfl) rfl rfl ?_
        refine t_v (fun w hx => r_pickt (v := .bool ((y4.2 == 80))) rfl hb5 rfl) ?_
        refine t_v (fun w hx => r_move (v := .bool ((y4.2 == 80))) rfl) ?_
        refine t_skip rfl hb6 rfl ?_
        rw [put_fr]
        refine t_skip rfl hb6 rfl ?_
        rw [put_fr]
        refine t_skip rfl hb6 rfl ?_
        rw [put_fr]
        refine t_skip rfl hb6 rfl ?_
        rw [put_fr]
        refine t_v (fun w hx => r_pickf (v := .bool (false)) rfl hb6 rfl) ?_
        refine t_v (fun w hx => r_move (v := .bool (false)) rfl) ?_
        refine t_skip rfl rfl rfl ?_
        rw [put_fr]
        refine t_skip rfl rfl rfl ?_
        rw [put_fr]
        refine t_skip rfl rfl rfl ?_
        rw [put_fr]
        refine t_skip rfl rfl rfl ?_
        rw [put_fr]
        refine t_v (fun w hx => r_pickf (v := .bool (false)) rfl rfl rfl) ?_
        refine t_v (fun w hx => r_move (v := .bool (false)) rfl) ?_
        refine t_skip rfl rfl rfl ?_
        rw [put_fr]
        refine t_skip rfl rfl rfl ?_
        rw [put_fr]
        refine t_skip rfl rfl rfl ?_
        rw [put_fr]
        refine t_v (fun w hx => r_pickf (v := .bool (false)) rfl rfl rfl) ?_
        refine t_v (fun w hx => r_move (v := .bool (false)) rfl) ?_
        refine t_v (fun w hx => r_pickf (v := .bool (false)) rfl rfl rfl) ?_
        refine t_v (fun w hx => r_move (v := .bool (false)) rfl) ?_
        refine t_v (fun w hx => r_pickf (v := .bool (false)) rfl rfl rfl) ?_
        refine t_v (fun w hx => r_move (v := .bool (false)) rfl) ?_
        refine t_v (fun w hx => r_pickf (v := .bool (false)) rfl rfl rfl) ?_
        refine t_v (fun w hx => r_move (v := .bool (false)) rfl) ?_
        refine t_v (fun w hx => r_pickf (v := .bool (false)) rfl rfl rfl) ?_
        refine t_nil (fun w19 hx hF hA => ?_)
        replace H := H.ext hx; clear hx hF hA
        refine p_as (v := .bool (false)) rfl ?_
        refine wpList_nil ?_; refine on_norm ?_
        refine xn hK12 ?_; clear hK12
        refine wp_ret ?_
        obtain rfl := Option.some.inj hF2
        refine e_1 rfl (q_tmp (v := .bool (false)) rfl) ?_
        exact ⟨rfl, H.toExt⟩
      ·replace hF2 := cnd_f hF2 hb5
       apply wp_region_ext 40 (kindsF [(1, .inl (.agg ((cl29 y10)).toArray))]) rfl rfl (by kernel_rfl); intro vs1
       simp only [List.take_succ_cons, List.take_zero, List.drop_succ_cons, List.drop_zero]
       replace H := H.drew
       refine t_v (fun w hx => h_load (l := (cl29 y1.1)) tg29 (H.ext hx) q8 (k := 3) rfl rfl rfl) ?_
       refine t_call (l := []) rfl rfl is28 rfl (fun w hx hF => (curve_Base_c (H.ext hx).sub e10).mono (fun _ _ ⟨he, hx⟩ => ⟨he, hx⟩)) ?_
       refine t_v (fun w hx => r_eqR eg29 (by decide) (eqt29 y1.1 y10) rfl rfl) ?_
       refine t_v (fun w hx => r_move (v := .bool (((y1.1 : (UInt64 × UInt64 × UInt64 × UInt64) × (UInt64 × UInt64 × UInt64 × UInt64) × Bool) == (y10 : (UInt64 × UInt64 × UInt64 × UInt64) × (UInt64 × UInt64 × UInt64 × UInt64) × Bool)))) rfl) ?_
       refine t_valG rfl hb3 (fun w hx => r_move q9) rfl rfl ?_
       refine t_valG rfl hb3 (fun w hx => r_eqlI rfl rfl) rfl rfl ?_
       refine t_v (fun w hx => r_pickt (v := .bool ((y1.2 == 0))) rfl hb3 rfl) ?_
       refine t_v (fun w hx => r_move (v := .bool ((y1.2 == 0))) rfl) ?_
       refine t_valG rfl hb4 (fun w hx => r_move q10) rfl rfl ?_
       refine t_valG rfl hb4 (fun w hx => r_eqlI rfl rfl) rfl rfl ?_
       refine t_v (fun w hx => r_pickt (v := .bool ((y2.2 == 80))) rfl hb4 rfl) ?_
       refine t_v (fun w hx => r_move (v := .bool ((y2.2 == 80))) rfl) ?_
       refine t_skip rfl hb5 rfl ?_
       rw [put_fr]
       refine t_skip rfl hb5 rfl ?_
       rw [put_fr]
       refine t_v (fun w hx => r_pickf (v := .bool (false)) rfl hb5 rfl) ?_
       refine t_v (fun w hx => r_move (v := .bool (false)) rfl) ?_
       refine t_skip rfl rfl rfl ?_
       rw [put_fr]
       refine t_skip rfl rfl rfl ?_
       rw [put_fr]
       refine t_skip rfl rfl rfl ?_
       rw [put_fr]
       refine t_skip rfl rfl rfl ?_
       rw [put_fr]
       refine t_v (fun w hx => r_pickf (v := .bool (false)) rfl rfl rfl) ?_
       refine t_v (fun w hx => r_move (v := .bool (false)) rfl) ?_
       refine t_skip rfl rfl rfl ?_
       rw [put_fr]
       refine t_skip rfl rfl rfl ?_
       rw [put_fr]
       refine t_skip rfl rfl rfl ?_
       rw [put_fr]
       refine t_skip rfl rfl rfl ?_
       rw [put_fr]
       refine t_v (fun w hx => r_pickf (v := .bool (false)) rfl rfl rfl) ?_
       refine t_v (fun w hx => r_move (v := .bool (false)) rfl) ?_
       refine t_skip rfl rfl rfl ?_
       rw [put_fr]
       refine t_skip rfl rfl rfl ?_
       rw [put_fr]
       refine t_skip rfl rfl rfl ?_
       rw [put_fr]
       refine t_v (fun w hx => r_pickf (v := .bool (false)) rfl rfl rfl) ?_
       refine t_v (fun w hx => r_move (v := .bool (false)) rfl) ?_
       refine t_v (fun w hx => r_pickf (v := .bool (false)) rfl rfl rfl) ?_
       refine t_v (fun w hx => r_move (v := .bool (false)) rfl) ?_
       refine t_v (fun w hx => r_pickf (v := .bool (false)) rfl rfl rfl) ?_
       refine t_v (fun w hx => r_move (v := .bool (false)) rfl) ?_
       refine t_v (fun w hx => r_pickf (v := .bool (false)) rfl rfl rfl) ?_
       refine t_v (fun w hx => r_move (v := .bool (false)) rfl) ?_
       refine t_v (fun w hx => r_pickf (v := .bool (false)) rfl rfl rfl) ?_
       refine t_nil (fun w20 hx hF hA => ?_)
       replace H := H.ext hx; clear hx hF hA
       refine p_as (v := .bool (false)) rfl ?_
       refine wpList_nil ?_; refine on_norm ?_
       refine xn hK12 ?_; clear hK12
       refine wp_ret ?_
       obtain rfl := Option.some.inj hF2
       refine e_1 rfl (q_tmp (v := .bool (false)) rfl) ?_
       exact ⟨rfl, H.toExt⟩
     ·replace hF2 := cnd_f hF2 hb4
      apply wp_region_ext 40 (kindsF [(1, .inl (.agg ((cl29 y10)).toArray))]) rfl rfl (by kernel_rfl); intro vs1
      simp only [List.take_succ_cons, List.take_zero, List.drop_succ_cons, List.drop_zero]
      replace H := H.drew
      refine t_v (fun w hx => h_load (l := (cl29 y1.1)) tg29 (H.ext hx) q8 (k := 3) rfl rfl rfl) ?_
      refine t_call (l := []) rfl rfl is28 rfl (fun w hx hF => (curve_Base_c (H.ext hx).sub e10).mono (fun _ _ ⟨he, hx⟩ => ⟨he, hx⟩)) ?_
      refine t_v (fun w hx => r_eqR eg29 (by decide) (eqt29 y1.1 y10) rfl rfl) ?_
      refine t_v (fun w hx => r_move (v := .bool (((y1.1 : (UInt64 × UInt64 × UInt64 × UInt64) × (UInt64 × UInt64 × UInt64 × UInt64) × Bool) == (y10 : (UInt64 × UInt64 × UInt64 × UInt64) × (UInt64 × UInt64 × UInt64 × UInt64) × Bool)))) rfl) ?_
      refine t_valG rfl hb3 (fun w hx => r_move q9) rfl rfl ?_
      refine t_valG rfl hb3 (fun w hx => r_eqlI rfl rfl) rfl rfl ?_
      refine t_v (fun w hx => r_pickt (v := .bool ((y1.2 == 0))) rfl hb3 rfl) ?_
      refine t_v (fun w hx => r_move (v := .bool ((y1.2 == 0))) rfl) ?_
      refine t_skip rfl hb4 rfl ?_
      rw [put_fr]
      refine t_skip rfl hb4 rfl ?_
      rw [put_fr]
      refine t_v (fun w hx => r_pickf (v := .bool (false)) rfl hb4 rfl) ?_
      refine t_v (fun w hx => r_move (v := .bool (false)) rfl) ?_
      refine t_skip rfl rfl rfl ?_
      rw [put_fr]
      refine t_skip rfl rfl rfl ?_
      rw [put_fr]
      refine t_v (fun w hx => r_pickf (v := .bool (false)) rfl rfl rfl) ?_
      refine t_v (fun w hx => r_move (v := .bool (false)) rfl) ?_
      refine t_skip rfl rfl rfl ?_
      rw [put_fr]
      refine t_skip rfl rfl rfl ?_
      rw [put_fr]
      refine t_skip rfl rfl rfl ?_
      rw [put_fr]
      refine t_skip rfl rfl rfl ?_
      rw [put_fr]
      refine t_v (fun w hx => r_pickf (v := .bool (false)) rfl rfl rfl) ?_
      refine t_v (fun w hx => r_move (v := .bool (false)) rfl) ?_
      refine t_skip rfl rfl rfl ?_
      rw [put_fr]
      refine t_skip rfl rfl rfl ?_
      rw [put_fr]
      refine t_skip rfl rfl rfl ?_
      rw [put_fr]
      refine t_skip rfl rfl rfl ?_
      rw [put_fr]
      refine t_v (fun w hx => r_pickf (v := .bool (false)) rfl rfl rfl) ?_
      refine t_v (fun w hx => r_move (v := .bool (false)) rfl) ?_
      refine t_skip rfl rfl rfl ?_
      rw [put_fr]
      refine t_skip rfl rfl rfl ?_
      rw [put_fr]
      refine t_skip rfl rfl rfl ?_
      rw [put_fr]
      refine t_v (fun w hx => r_pickf (v := .bool (false)) rfl rfl rfl) ?_
      refine t_v (fun w hx => r_move (v := .bool (false)) rfl) ?_
      refine t_v (fun w hx => r_pickf (v := .bool (false)) rfl rfl rfl) ?_
      refine t_v (fun w hx => r_move (v := .bool (false)) rfl) ?_
      refine t_v (fun w hx => r_pickf (v := .bool (false)) rfl rfl rfl) ?_
      refine t_v (fun w hx => r_move (v := .bool (false)) rfl) ?_
      refine t_v (fun w hx => r_pickf (v := .bool (false)) rfl rfl rfl) ?_
      refine t_v (fun w hx => r_move (v := .bool (false)) rfl) ?_
      refine t_v (fun w hx => r_pickf (v := .bool (false)) rfl rfl rfl) ?_
      refine t_nil (fun w21 hx hF hA => ?_)
      replace H := H.ext hx; clear hx hF hA
      refine p_as (v := .bool (false)) rfl ?_
      refine wpList_nil ?_; refine on_norm ?_
      refine xn hK12 ?_; clear hK12
      refine wp_ret ?_
      obtain rfl := Option.some.inj hF2
      refine e_1 rfl (q_tmp (v := .bool (false)) rfl) ?_
      exact ⟨rfl, H.toExt⟩
    ·replace hF2 := cnd_f hF2 hb3
     apply wp_region_ext 40 (kindsF [(1, .inl (.agg ((cl29 y10)).toArray))]) rfl rfl (by kernel_rfl); intro vs1
     simp only [List.take_succ_cons, List.take_zero, List.drop_succ_cons, List.drop_zero]
     replace H := H.drew
     refine t_v (fun w hx => h_load (l := (cl29 y1.1)) tg29 (H.ext hx) q8 (k := 3) rfl rfl rfl) ?_
     refine t_call (l := []) rfl rfl is28 rfl (fun w hx hF => (curve_Base_c (H.ext hx).sub e10).mono (fun _ _ ⟨he, hx⟩ => ⟨he, hx⟩)) ?_
     refine t_v (fun w hx => r_eqR eg29 (by decide) (eqt29 y1.1 y10) rfl rfl) ?_
     refine t_v (fun w hx => r_move (v := .bool (((y1.1 : (UInt64 × UInt64 × UInt64 × UInt64) × (UInt64 × UInt64 × UInt64 × UInt64) × Bool) == (y10 : (UInt64 × UInt64 × UInt64 × UInt64) × (UInt64 × UInt64 × UInt64 × UInt64) × Bool)))) rfl) ?_
     refine t_skip rfl hb3 rfl ?_
     rw [put_fr]
     refine t_skip rfl hb3 rfl ?_
     rw [put_fr]
     refine t_v (fun w hx => r_pickf (v := .bool (false)) rfl hb3 rfl) ?_
     refine t_v (fun w hx => r_move (v := .bool (false)) rfl) ?_
     refine t_skip rfl rfl rfl ?_
     rw [put_fr]
     refine t_skip rfl rfl rfl ?_
     rw [put_fr]
     refine t_v (fun w hx => r_pickf (v := .bool (false)) rfl rfl rfl) ?_
     refine t_v (fun w hx => r_move (v := .bool (false)) rfl) ?_
     refine t_skip rfl rfl rfl ?_
     rw [put_fr]
     refine t_skip rfl rfl rfl ?_
     rw [put_fr]
     refine t_v (fun w hx => r_pickf (v := .bool (false)) rfl rfl rfl) ?_
     refine t_v (fun w hx => r_move (v := .bool (false)) rfl) ?_
     refine t_skip rfl rfl rfl ?_
     rw [put_fr]
     refine t_skip rfl rfl rfl ?_
     rw [put_fr]
     refine t_skip rfl rfl rfl ?_
     rw [put_fr]
     refine t_skip rfl rfl rfl ?_
     rw [put_fr]
     refine t_v (fun w hx => r_pickf (v := .bool (false)) rfl rfl rfl) ?_
     refine t_v (fun w hx => r_move (v := .bool (false)) rfl) ?_
     refine t_skip rfl rfl rfl ?_
     rw [put_fr]
     refine t_skip rfl rfl rfl ?_
     rw [put_fr]
     refine t_skip rfl rfl rfl ?_
     rw [put_fr]
     refine t_skip rfl rfl rfl ?_
     rw [put_fr]
     refine t_v (fun w hx => r_pickf (v := .bool (false)) rfl rfl rfl) ?_
     refine t_v (fun w hx => r_move (v := .bool (false)) rfl) ?_
     refine t_skip rfl rfl rfl ?_
     rw [put_fr]
     refine t_skip rfl rfl rfl ?_
     rw [put_fr]
     refine t_skip rfl rfl rfl ?_
     rw [put_fr]
     refine t_v (fun w hx => r_pickf (v := .bool (false)) rfl rfl rfl) ?_
     refine t_v (fun w hx => r_move (v := .bool (false)) rfl) ?_
     refine t_v (fun w hx => r_pickf (v := .bool (false)) rfl rfl rfl) ?_
     refine t_v (fun w hx => r_move (v := .bool (false)) rfl) ?_
     refine t_v (fun w hx => r_pickf (v := .bool (false)) rfl rfl rfl) ?_
     refine t_v (fun w hx => r_move (v := .bool (false)) rfl) ?_
     refine t_v (fun w hx => r_pickf (v := .bool (false)) rfl rfl rfl) ?_
     refine t_v (fun w hx => r_move (v := .bool (false)) rfl) ?_
     refine t_v (fun w hx => r_pickf (v := .bool (false)) rfl rfl rfl) ?_
     refine t_nil (fun w22 hx hF hA => ?_)
     replace H := H.ext hx; clear hx hF hA
     refine p_as (v := .bool (false)) rfl ?_
     refine wpList_nil ?_; refine on_norm ?_
     refine xn hK12 ?_; clear hK12
     refine wp_ret ?_
     obtain rfl := Option.some.inj hF2
     refine e_1 rfl (q_tmp (v := .bool (false)) rfl) ?_
     exact ⟨rfl, H.toExt⟩
  refine p_gs (j := 12) (gvl_at rfl rfl (k3 38)) (fun hb2 => ?_) (fun hb2 => ?_)
  ·replace hE2 := cnd_t hE2 hb2
   refine p_skip (gvl_at rfl rfl (k3 38)) hb2 ?_
   rw [put_fr]
   refine p_skip (gvl_at rfl rfl (k3 38)) hb2 ?_
   rw [put_fr]
   refine p_skip (gvl_at rfl rfl (k3 38)) hb2 ?_
   rw [put_fr]
   refine p_skip (gvl_at rfl rfl (k3 38)) hb2 ?_
   rw [put_fr]
   refine p_val (r_pickt (v := .bool (true)) (k3 38) hb2 rfl) ?_
   refine hR8 _ _ ?_
   replace H : HS ⟨S, [], w⟩ S4 w12 [.blk pb1 (([v1])) 75, .osl (v1) (t1.2).length 1 cs1 rs1 71, .blk b2 ((cl29 y2.1)) 29, .blk b1 ((cl29 y1.1)) 29] := H
   obtain rfl := Option.some.inj hE2
   exact J1 _ _ (by (repeat (refine keep_cons rfl ?_)); exact fun _ _ => rfl) rfl H
  ·replace hE2 := cnd_f hE2 hb2
   refine p_want (gvl_at rfl rfl (k3 38)) hb2 ?_
   refine p_mv (v := .pointer (some ⟨pb1, 0, none⟩)) ((k3 7).trans q6) ?_
   refine p_want (gvl_at rfl rfl (k3 38)) hb2 ?_
   obtain ⟨y8, e8, hE2⟩ := bnd hE2
   refine p_call (l := [.pointer (some ⟨pb1, 0, none⟩)]) is14 rfl ?_
   refine (sign_Ring_Kids_c (HS.start (subMem w12)) (rpK (HS.blkAt H (k := 0) rfl) (rpL (RdS.ofOwn H (k := 1) rfl g1))) e8).mono ?_; rintro _ w13 ⟨S5, pv4, pcs4, prs4, rfl, H2, pg4⟩
   have H1 := H.joinNew H2; clear H H2; have H := H1; clear H1
   replace pg4 := RL.strs (T := S4) pg4
   replace H : HS ⟨S, [], w⟩ S4 w13 [.osl (pv4) (y8).length 1 pcs4 prs4 9, .blk pb1 (([v1])) 75, .osl (v1) (t1.2).length 1 cs1 rs1 71, .blk b2 ((cl29 y2.1)) 29, .blk b1 ((cl29 y1.1)) 29] := H
   refine p_want (gvl_at rfl rfl (k3 38)) hb2 ?_
   refine p_val (r_lenO u43 rfl H (k := 0) rfl rfl) ?_
   refine p_want (gvl_at rfl rfl (k3 38)) hb2 ?_
   refine p_val (r_neqI rfl rfl) ?_
   refine p_val (r_pickf (v := .bool ((((y8).length : Int) != 2))) (k3 38) hb2 rfl) ?_
   refine hR8 _ _ ?_
   replace H := H.sel [1, 2, 3, 4] rfl
   replace H : HS ⟨S, [], w⟩ S4 w13 [.blk pb1 (([v1])) 75, .osl (v1) (t1.2).length 1 cs1 rs1 71, .blk b2 ((cl29 y2.1)) 29, .blk b1 ((cl29 y1.1)) 29] := H
   obtain rfl := Option.some.inj hE2
   exact J1 _ _ (by (repeat (refine keep_cons rfl ?_)); exact fun _ _ => rfl) rfl H
 refine p_gs (j := 7) (gvl_at rfl rfl (k1 33)) (fun hb1 => ?_) (fun hb1 => ?_)
 ·replace hE1 := cnd_t hE1 hb1
  refine p_skip (gvl_at rfl rfl (k1 33)) hb1 ?_
  rw [put_fr]
  refine p_skip (gvl_at rfl rfl (k1 33)) hb1 ?_
  rw [put_fr]
  refine p_skip (gvl_at rfl rfl (k1 33)) hb1 ?_
  rw [put_fr]
  refine p_val (r_pickt (v := .bool (true)) (k1 33) hb1 rfl) ?_
  refine hR6 _ _ ?_
  replace H : HS ⟨S, [], w⟩ S2 w10 [.blk pb1 (([pv2])) 75, .osl (pv2) (y6.2).length 1 pcs2 prs2 71, .blk b2 ((cl29 y2.1)) 29, .blk b1 ((cl29 y1.1)) 29] := H
  obtain rfl := Option.some.inj hE1
  exact J2 _ _ _ _ _ _ (by (repeat (refine keep_cons rfl ?_)); exact fun _ _ => rfl) rfl (Mem.le_refl _) H pg2
 ·replace hE1 := cnd_f hE1 hb1
  refine p_want (gvl_at rfl rfl (k1 33)) hb1 ?_
  refine p_mv (v := .pointer (some ⟨pb1, 0, none⟩)) (k1 7) ?_
  refine p_want (gvl_at rfl rfl (k1 33)) hb1 ?_
  obtain ⟨y7, e7, hE1⟩ := bnd hE1
  refine p_call (l := [.pointer (some ⟨pb1, 0, none⟩), str (([98] : List UInt8))]) is27 rfl ?_
  refine (sign_Ring_Turn_c (H.hand [0, 1] rfl) pg2 e7).mono ?_; rintro _ w11 ⟨S3, pv3, pcs3, prs3, rfl, H2, pg3⟩
  obtain ⟨H1, hle3⟩ := H.frame [0, 1] [2, 3] rfl H2; clear H H2; have H := H1; clear H1
  replace H : HS ⟨S, [], w⟩ S3 w11 [.blk pb1 (([pv3])) 75, .osl (pv3) (y7.2).length 1 pcs3 prs3 71, .blk b2 ((cl29 y2.1)) 29, .blk b1 ((cl29 y1.1)) 29] := H
  refine p_want (gvl_at rfl rfl (k1 33)) hb1 ?_
  refine p_val (r_neqI rfl rfl) ?_
  refine p_val (r_pickf (v := .bool ((y7.1 != 0))) (k1 33) hb1 rfl) ?_
  refine hR6 _ _ ?_
  replace H : HS ⟨S, [], w⟩ S3 w11 [.blk pb1 (([pv3])) 75, .osl (pv3) (y7.2).length 1 pcs3 prs3 71, .blk b2 ((cl29 y2.1)) 29, .blk b1 ((cl29 y1.1)) 29] := H
  obtain rfl := Option.some.inj hE1
  exact J2 _ _ _ _ _ _ (by (repeat (refine keep_cons rfl ?_)); exact fun _ _ => rfl) rfl hle3 H pg3
noncomputable def seneschallaw08_SignRingNames_p (x0 : List UInt8) (x1 : List UInt8) : Option (Bool) :=
  Option.bind (sign_NewRing_p x0) fun y1 => Option.bind (seneschallaw08_fixed_p) fun y2 => bif (!y2) then (some (false)) else (Option.bind (sign_Ring_Mac_p (some y1) x1) fun y3 => Option.bind (sign_Ring_Kids_p (some y1)) fun y4 => Option.bind (hash_Mac_p ([107, 105, 100] : List UInt8) x0) fun y5 => Option.bind (bif (((y4).length : Int) == 1) then (Option.bind (idx y4 0) fun y6 => some ((y6 == y3.1))) else (some (false))) (fun t1 => Option.bind (bif (bif t1 then (((y5).length : Int) == 32) else false) then (Option.bind (subH y5 9) fun y7 => Option.bind (seneschalref01_Base64_p y7) fun y8 => some ((y3.1 == y8))) else (some (false))) (fun t2 => Option.bind (bif t2 then (Option.bind (hash_Mac_p ([109, 97, 99] : List UInt8) x0) fun y9 => Option.bind (hash_Mac_p y9 x1) fun y10 => some ((y3.2 == y10))) else (some (false))) (fun t3 => some (t3)))))
theorem seneschallaw08_SignRingNames_c {S : Mem} {w : World} (hS : Sub S w) {x0 : List UInt8} {x1 : List UInt8} {r : Bool} (hF : seneschallaw08_SignRingNames_p x0 x1 = some r) :
    Calls Try.prog 4 #[str (x0), str (x1)] w fun e w' => e = .returned (.bool (r)) ∧ Ext w w' := by
 refine enter (n := 58) Try.func4 rfl rfl rfl ?_
 have H := HS.start hS
 unfold seneschallaw08_SignRingNames_p at hF
 refine sr ?_; intro K1 hK1
 refine p_as (v := .bool (false)) rfl ?_
 refine xk hK1 ?_; clear hK1
 refine sr ?_; intro K2 hK2
 refine p_mv (v := str (x0)) rfl ?_
 obtain ⟨y1, e1, hF⟩ := bnd hF
 refine p_call (l := [str (x0)]) is12 rfl ?_
 refine (sign_NewRing_c (H.hand [] rfl) e1).mono ?_; rintro _ w1 ⟨S1, pb1, pv1, pcs1, prs1, rfl, H2, pg1⟩
 obtain ⟨H1, hle1⟩ := H.frame [] [] rfl H2; clear H H2; have H := H1; clear H1
 replace H : HS ⟨S, [], w⟩ S1 w1 [.blk pb1 (([pv1])) 75, .osl (pv1) (y1).length 1 pcs1 prs1 71] := H
 refine p_as (v := .pointer (some ⟨pb1, 0, none⟩)) rfl ?_
 refine xk hK2 ?_; clear hK2
 refine wp_seq_k ?_; intro K3 hK3
 refine sr ?_; intro K4 hK4
 refine p_mv (v := .pointer (some ⟨pb1, 0, none⟩)) rfl ?_
 refine p_val (r_eqPn u39 eg39 rfl rfl) ?_
 refine p_mv (v := .bool (false)) rfl ?_
 refine p_want rfl rfl ?_
 obtain ⟨y2, e2, hF⟩ := bnd hF
 refine p_call (l := []) is7 rfl ?_
 refine (seneschallaw08_fixed_c H.sub e2).mono ?_; rintro _ w2 ⟨rfl, hx⟩; replace H := H.ext hx; clear hx
 refine p_want rfl rfl ?_
 refine p_val (r_not (t := (!y2)) rfl rfl) ?_
 refine p_val (r_pickf (v := .bool ((!y2))) rfl rfl rfl) ?_
 refine xk hK4 ?_; clear hK4
 refine c_split (t := (!y2)) rfl (fun hc1 => ?_) (fun hc1 => ?_)
 ·replace hF := cnd_t hF hc1
  refine sr ?_; intro K5 hK5
  refine p_as (v := .bool (false)) rfl ?_
  refine xk hK5 ?_; clear hK5
  refine wp_ret ?_
  refine x_ret ?_
  obtain rfl := Option.some.inj hF
  refine e_1 rfl (q_tmp (v := .bool (false)) rfl) ?_
  exact ⟨rfl, H.toExt⟩
 ·replace hF := cnd_f hF hc1
  refine wp_skip ?_
  refine xn hK3 ?_; clear hK3
  refine sr ?_; intro K6 hK6
  refine p_mv (v := .pointer (some ⟨pb1, 0, none⟩)) rfl ?_
  refine p_mv (v := str (x1)) rfl ?_
  obtain ⟨y3, e3, hF⟩ := bnd hF
  refine p_call (l := [.pointer (some ⟨pb1, 0, none⟩), str (x1)]) is13 rfl ?_
  refine (sign_Ring_Mac_c (subMem w2) (rpK (HS.blkAt H (k := 0) rfl) (rpL (RdS.ofOwn H (k := 1) rfl pg1))) e3).mono ?_; rintro _ w3 ⟨rfl, hx⟩; replace H := H.ext hx; clear hx
  refine p_mv (v := .tuple #[str (y3.1), str (y3.2)]) rfl ?_
  refine p_val (r_extract (v := str (y3.1)) rfl rfl) ?_
  refine p_val (r_extract (v := str (y3.2)) rfl rfl) ?_
  refine p_as (v := str (y3.1)) rfl ?_
  refine p_as (v := str (y3.2)) rfl ?_
  refine xk hK6 ?_; clear hK6
  refine sr ?_; intro K7 hK7
  refine p_mv (v := .pointer (some ⟨pb1, 0, none⟩)) rfl ?_
  obtain ⟨y4, e4, hF⟩ := bnd hF
  refine p_call (l := [.pointer (some ⟨pb1, 0, none⟩)]) is14 rfl ?_
  refine (sign_Ring_Kids_c (HS.start (subMem w3)) (rpK (HS.blkAt H (k := 0) rfl) (rpL (RdS.ofOwn H (k := 1) rfl pg1))) e4).mono ?_; rintro _ w4 ⟨S2, pv2, pcs2, prs2, rfl, H2, pg2⟩
  have H1 := H.joinNew H2; clear H H2; have H := H1; clear H1
  replace pg2 := RL.strs (T := S1) pg2
  replace H : HS ⟨S, [], w⟩ S1 w4 [.osl (pv2) (y4).length 1 pcs2 prs2 9, .blk pb1 (([pv1])) 75, .osl (pv1) (y1).length 1 pcs1 prs1 71] := H
  refine p_as (v := pv2) rfl ?_
  refine xk hK7 ?_; clear hK7
  refine sr ?_; intro K8 hK8
  refine p_mv (v := str (x0)) rfl ?_
  obtain ⟨y5, e5, hF⟩ := bnd hF
  refine p_call (l := [str (([107, 105, 100] : List UInt8)), str (x0)]) is15 rfl ?_
  refine (hash_Mac_c H.sub e5).mono ?_; rintro _ w5 ⟨rfl, hx⟩; replace H := H.ext hx; clear hx
  refine p_as (v := str (y5)) rfl ?_
  refine xk hK8 ?_; clear hK8
  refine sr ?_; intro K9 hK9
  refine p_mv (v := pv2) rfl ?_
  refine p_val (r_lenO u43 rfl H (k := 0) rfl rfl) ?_
  refine p_val (r_eqlI rfl rfl) ?_
  refine p_mv (v := .bool ((((y4).length : Int) == 1))) rfl ?_
  refine nameL fun m1 k1 => ?_
  refine gs_at 6 fun K10 hK10 R4 hR4 => ?_
  obtain ⟨t1, hE1, hF1⟩ := bnd hF
  have J4 : ∀ (m2 : FM) (w6 : World), (∀ t, has [32, 33, 34, 35, 36, 37] t = false → look m2 t = look m1 t) → look m2 37 = .bool (t1) → HS ⟨S, [], w⟩ S1 w6 [.osl (pv2) (y4).length 1 pcs2 prs2 9, .blk pb1 (([pv1])) 75, .osl (pv1) (y1).length 1 pcs1 prs1 71] → K10 m2 w6 := by
   clear H; intro m2 w6 k2 q1 H
   have q2 : look m2 0 = str (x0) := (k2 0 rfl).trans (k1 0)
   have q3 : look m2 1 = str (x1) := (k2 1 rfl).trans (k1 1)
   have q4 : look m2 6 = str (y3.1) := (k2 6 rfl).trans (k1 6)
   have q5 : look m2 7 = str (y3.2) := (k2 7 rfl).trans (k1 7)
   have q6 : look m2 9 = str (y5) := (k2 9 rfl).trans (k1 9)
   refine hK10 _ _ ?_
   refine p_mv q1 ?_
   refine nameL fun m3 k3 => ?_
   refine gs_at 4 fun K11 hK11 R5 hR5 => ?_
   have J1 : ∀ (m4 : FM), (∀ t, has [39, 40, 41, 42] t = false → look m4 t = look m3 t) → look m4 42 = .bool ((bif t1 then (((y5).length : Int) == 32) else false)) → K11 m4 w6 := by
    intro m4 k4 q7
    have q8 : look m4 0 = str (x0) := (k4 0 rfl).trans ((k3 0).trans q2)
    have q9 : look m4 1 = str (x1) := (k4 1 rfl).trans ((k3 1).trans q3)
    have q10 : look m4 6 = str (y3.1) := (k4 6 rfl).trans ((k3 6).trans q4)
    have q11 : look m4 7 = str (y3.2) := (k4 7 rfl).trans ((k3 7).trans q5)
    have q12 : look m4 9 = str (y5) := (k4 9 rfl).trans ((k3 9).trans q6)
    refine hK11 _ _ ?_; clear hK11 hR5
    refine p_mv q7 ?_
    refine nameL fun m5 k5 => ?_
    refine gs_at 6 fun K12 hK12 R6 hR6 => ?_
    obtain ⟨t2, hE2, hF2⟩ := bnd hF1
    have J3 : ∀ (m6 : FM) (w8 : World), (∀ t, has [44, 45, 46, 47, 48, 49] t = false → look m6 t = look m5 t) → look m6 49 = .bool (t2) → HS ⟨S, [], w⟩ S1 w8 [.osl (pv2) (y4).length 1 pcs2 prs2 9, .blk pb1 (([pv1])) 75, .osl (pv1) (y1).length 1 pcs1 prs1 71] → K12 m6 w8 := by
     clear H; intro m6 w8 k6 q13 H
     have q14 : look m6 0 = str (x0) := (k6 0 rfl).trans ((k5 0).trans q8)
     have q15 : look m6 1 = str (x1) := (k6 1 rfl).trans ((k5 1).trans q9)
     have q16 : look m6 7 = str (y3.2) := (k6 7 rfl).trans ((k5 7).trans q11)
     refine hK12 _ _ ?_
     refine p_mv q13 ?_
     refine nameL fun m7 k7 => ?_
     refine gs_at 7 fun K13 hK13 R7 hR7 => ?_
     obtain ⟨t3, hE3, hF3⟩ := bnd hF2
     have J2 : ∀ (m8 : FM) (w11 : World), (∀ t, has [51, 52, 53, 54, 55, 56, 57] t = false → look m8 t = look m7 t) → look m8 57 = .bool (t3) → HS ⟨S, [], w⟩ S1 w11 [.osl (pv2) (y4).length 1 pcs2 prs2 9, .blk pb1 (([pv1])) 75, .osl (pv1) (y1).length 1 pcs1 prs1 71] → K13 m8 w11 := by
      clear H; intro m8 w11 k8 q17 H
      refine hK13 _ _ ?_
      refine p_as q17 ?_
      refine xk hK9 ?_; clear hK9
      refine wp_ret ?_
      obtain rfl := Option.some.inj hF3
      refine e_1 rfl (q_tmp (v := .bool (t3)) rfl) ?_
      exact ⟨rfl, H.toExt⟩
     refine p_gs (j := 22) (gvl_at rfl rfl (k7 50)) (fun hb3 => ?_) (fun hb3 => ?_)
     ·replace hE3 := cnd_t hE3 hb3
      refine p_want (gvl_at rfl rfl (k7 50)) hb3 ?_
      refine p_mv ((k7 7).trans q16) ?_
      refine p_want (gvl_at rfl rfl (k7 50)) hb3 ?_
      refine p_mv ((k7 0).trans q14) ?_
      refine p_want (gvl_at rfl rfl (k7 50)) hb3 ?_
      obtain ⟨y9, e9, hE3⟩ := bnd hE3
      refine p_call (l := [str (([109, 97, 99] : List UInt8)), str (x0)]) is15 rfl ?_
      refine (hash_Mac_c H.sub e9).mono ?_; rintro _ w9 ⟨rfl, hx⟩; replace H := H.ext hx; clear hx
      refine p_want (gvl_at rfl rfl (k7 50)) hb3 ?_
      refine p_mv ((k7 1).trans q15) ?_
      refine p_want (gvl_at rfl rfl (k7 50)) hb3 ?_
      obtain ⟨y10, e10, hE3⟩ := bnd hE3
      refine p_call (l := [str (y9), str (x1)]) is15 rfl ?_
      refine (hash_Mac_c H.sub e10).mono ?_; rintro _ w10 ⟨rfl, hx⟩; replace H := H.ext hx; clear hx
      refine p_want (gvl_at rfl rfl (k7 50)) hb3 ?_
      refine p_val (r_eqT (t := (y3.2 == y10)) rfl rfl rfl) ?_
      refine p_val (r_pickt (v := .bool ((y3.2 == y10))) (k7 50) hb3 rfl) ?_
      refine hR7 _ _ ?_
      replace H : HS ⟨S, [], w⟩ S1 w10 [.osl (pv2) (y4).length 1 pcs2 prs2 9, .blk pb1 (([pv1])) 75, .osl (pv1) (y1).length 1 pcs1 prs1 71] := H
      obtain rfl := Option.some.inj hE3
      exact J2 _ _ (by (repeat (refine keep_cons rfl ?_)); exact fun _ _ => rfl) rfl H
     ·replace hE3 := cnd_f hE3 hb3
      refine p_skip (gvl_at rfl rfl (k7 50)) hb3 ?_
      rw [put_fr]
      refine p_skip (gvl_at rfl rfl (k7 50)) hb3 ?_
      rw [put_fr]
      refine p_skip (gvl_at rfl rfl (k7 50)) hb3 ?_
      rw [put_fr]
      refine p_skip (gvl_at rfl rfl (k7 50)) hb3 ?_
      rw [put_fr]
      refine p_skip (gvl_at rfl rfl (k7 50)) hb3 ?_
      rw [put_fr]
      refine p_skip (gvl_at rfl rfl (k7 50)) hb3 ?_
      rw [put_fr]
      refine p_val (r_pickf (v := .bool (false)) (k7 50) hb3 rfl) ?_
      refine hR7 _ _ ?_
      replace H : HS ⟨S, [], w⟩ S1 w8 [.osl (pv2) (y4).length 1 pcs2 prs2 9, .blk pb1 (([pv1])) 75, .osl (pv1) (y1).length 1 pcs1 prs1 71] := H
      obtain rfl := Option.some.inj hE3
      exact J2 _ _ (by (repeat (refine keep_cons rfl ?_)); exact fun _ _ => rfl) rfl H
    refine p_gs (j := 15) (gvl_at rfl rfl (k5 43)) (fun hb2 => ?_) (fun hb2 => ?_)
    ·replace hE2 := cnd_t hE2 hb2
     refine p_want (gvl_at rfl rfl (k5 43)) hb2 ?_
     refine p_mv ((k5 6).trans q10) ?_
     refine p_want (gvl_at rfl rfl (k5 43)) hb2 ?_
     refine p_mv ((k5 9).trans q12) ?_
     refine p_want (gvl_at rfl rfl (k5 43)) hb2 ?_
     obtain ⟨y7, e7, hE2⟩ := bnd hE2
     refine p_val (r_sliceTH (h := (9 : Int).toNat) (r := y7) u9 rfl rfl (subH_some e7).1 (subH_some e7).2.1 (subH_some e7).2.2) ?_
     refine p_want (gvl_at rfl rfl (k5 43)) hb2 ?_
     obtain ⟨y8, e8, hE2⟩ := bnd hE2
     refine p_call (l := [str (y7)]) is16 rfl ?_
     refine (seneschalref01_Base64_c H.sub e8).mono ?_; rintro _ w7 ⟨rfl, hx⟩; replace H := H.ext hx; clear hx
     refine p_want (gvl_at rfl rfl (k5 43)) hb2 ?_
     refine p_val (r_eqT (t := (y3.1 == y8)) rfl rfl rfl) ?_
     refine p_val (r_pickt (v := .bool ((y3.1 == y8))) (k5 43) hb2 rfl) ?_
     refine hR6 _ _ ?_
     replace H : HS ⟨S, [], w⟩ S1 w7 [.osl (pv2) (y4).length 1 pcs2 prs2 9, .blk pb1 (([pv1])) 75, .osl (pv1) (y1).length 1 pcs1 prs1 71] := H
     obtain rfl := Option.some.inj hE2
     exact J3 _ _ (by (repeat (refine keep_cons rfl ?_)); exact fun _ _ => rfl) rfl H
    ·replace hE2 := cnd_f hE2 hb2
     refine p_skip (gvl_at rfl rfl (k5 43)) hb2 ?_
     rw [put_fr]
     refine p_skip (gvl_at rfl rfl (k5 43)) hb2 ?_
     rw [put_fr]
     refine p_skip (gvl_at rfl rfl (k5 43)) hb2 ?_
     rw [put_fr]
     refine p_skip (gvl_at rfl rfl (k5 43)) hb2 ?_
     rw [put_fr]
     refine p_skip (gvl_at rfl rfl (k5 43)) hb2 ?_
     rw [put_fr]
     refine p_val (r_pickf (v := .bool (false)) (k5 43) hb2 rfl) ?_
     refine hR6 _ _ ?_
     replace H : HS ⟨S, [], w⟩ S1 w6 [.osl (pv2) (y4).length 1 pcs2 prs2 9, .blk pb1 (([pv1])) 75, .osl (pv1) (y1).length 1 pcs1 prs1 71] := H
     obtain rfl := Option.some.inj hE2
     exact J3 _ _ (by (repeat (refine keep_cons rfl ?_)); exact fun _ _ => rfl) rfl H
   refine p_gs (j := 10) (gvl_at rfl rfl (k3 38)) (fun hb4 => ?_) (fun hb4 => ?_)
   ·skip
    refine p_want (gvl_at rfl rfl (k3 38)) hb4 ?_
    refine p_mv ((k3 9).trans q6) ?_
    refine p_want (gvl_at rfl rfl (k3 38)) hb4 ?_
    refine p_val (r_lenT (N := (y5).length) u9 rfl rfl) ?_
    refine p_want (gvl_at rfl rfl (k3 38)) hb4 ?_
    refine p_val (r_eqlI rfl rfl) ?_
    refine p_val (r_pickt (v := .bool ((((y5).length : Int) == 32))) (k3 38) hb4 rfl) ?_
    refine hR5 _ _ ?_
    exact J1 _ (by (repeat (refine keep_cons rfl ?_)); exact fun _ _ => rfl) (show (.bool ((((y5).length : Int) == 32)) : Value) = .bool ((bif t1 then (((y5).length : Int) == 32) else false)) from congrArg Value.bool (by simp only [hb4, cond_true, cond_false]))
   ·skip
    refine p_skip (gvl_at rfl rfl (k3 38)) hb4 ?_
    rw [put_fr]
    refine p_skip (gvl_at rfl rfl (k3 38)) hb4 ?_
    rw [put_fr]
    refine p_skip (gvl_at rfl rfl (k3 38)) hb4 ?_
    rw [put_fr]
    refine p_val (r_pickf (v := .bool (false)) (k3 38) hb4 rfl) ?_
    refine hR5 _ _ ?_
    exact J1 _ (by (repeat (refine keep_cons rfl ?_)); exact fun _ _ => rfl) (show (.bool (false) : Value) = .bool ((bif t1 then (((y5).length : Int) == 32) else false)) from congrArg Value.bool (by simp only [hb4, cond_true, cond_false]))
  refine p_gs (j := 3) (gvl_at rfl rfl (k1 31)) (fun hb1 => ?_) (fun hb1 => ?_)
  ·replace hE1 := cnd_t hE1 hb1
   refine p_want (gvl_at rfl rfl (k1 31)) hb1 ?_
   refine p_mv (v := pv2) (k1 8) ?_
   refine p_want (gvl_at rfl rfl (k1 31)) hb1 ?_
   obtain ⟨y6, e6, hE1⟩ := bnd hE1
   obtain ⟨b1, c1, hv1⟩ := H.ownAt (k := 0) rfl (idx_lt e6)
   refine p_val (r_addrV (i := (0 : Int).toNat) u43 tsz9 rfl hv1 rfl (idx_some e6).1 (idx_lt e6)) ?_
   subst hv1
   refine p_want (gvl_at rfl rfl (k1 31)) hb1 ?_
   have hr1 := RL.get pg2 (idx_some e6).2; generalize hghr1 : piece pcs2 _ _ = cs1 at hr1
   obtain rfl := elT hr1
   refine p_val (o_load1 (v := str (y6)) to9 H (k := 0) rfl rfl (idx_lt e6) hghr1) ?_
   refine p_want (gvl_at rfl rfl (k1 31)) hb1 ?_
   refine p_mv (k1 6) ?_
   refine p_want (gvl_at rfl rfl (k1 31)) hb1 ?_
   refine p_val (r_eqT (t := (y6 == y3.1)) rfl rfl rfl) ?_
   refine p_val (r_pickt (v := .bool ((y6 == y3.1))) (k1 31) hb1 rfl) ?_
   refine hR4 _ _ ?_
   replace H : HS ⟨S, [], w⟩ S1 w5 [.osl (sl b1 0 (y4).length c1) (y4).length 1 pcs2 prs2 9, .blk pb1 (([pv1])) 75, .osl (pv1) (y1).length 1 pcs1 prs1 71] := H
   obtain rfl := Option.some.inj hE1
   exact J4 _ _ (by (repeat (refine keep_cons rfl ?_)); exact fun _ _ => rfl) rfl H
  ·replace hE1 := cnd_f hE1 hb1
   refine p_skip (gvl_at rfl rfl (k1 31)) hb1 ?_
   rw [put_fr]
   refine p_skip (gvl_at rfl rfl (k1 31)) hb1 ?_
   rw [put_fr]
   refine p_skip (gvl_at rfl rfl (k1 31)) hb1 ?_
   rw [put_fr]
   refine p_skip (gvl_at rfl rfl (k1 31)) hb1 ?_
   rw [put_fr]
   refine p_skip (gvl_at rfl rfl (k1 31)) hb1 ?_
   rw [put_fr]
   refine p_val (r_pickf (v := .bool (false)) (k1 31) hb1 rfl) ?_
   refine hR4 _ _ ?_
   replace H : HS ⟨S, [], w⟩ S1 w5 [.osl (pv2) (y4).length 1 pcs2 prs2 9, .blk pb1 (([pv1])) 75, .osl (pv1) (y1).length 1 pcs1 prs1 71] := H
   obtain rfl := Option.some.inj hE1
   exact J4 _ _ (by (repeat (refine keep_cons rfl ?_)); exact fun _ _ => rfl) rfl H
end Go.Proofs.Ytmbcolbbekbccaa
