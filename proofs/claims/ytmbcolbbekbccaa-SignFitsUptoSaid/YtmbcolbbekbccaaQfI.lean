/- What some functions compute, and that they do. strings.Builder: what its methods do to a builder of the call's own. Conditions: as each theorem says. -/
import Derived.Test.YtmbcolbbekbccaaRows
import Derived.Lib.Builder
import Derived.Lib.UnsafeStr
import Derived.LaidEql
import Derived.Laws.Externs
import Derived.Test.YtmbcolbbekbccaaQfH
namespace Go.Proofs.Ytmbcolbbekbccaa
open Go Go.RowKit
attribute [local irreducible] wpList wpT Code.wp Calls Code.rounds
theorem to9 : TOne Try.prog 9 := ⟨fun _ => by kernel_rfl, fun _ => by kernel_rfl⟩
theorem tz53 : TZero Try.prog 53 (.agg #[str [], str []]) := fun _ => by kernel_rfl
theorem is10 : IsFn Try.prog 10 := isFn Try.func10 (by kernel_rfl) (by kernel_rfl)
theorem is15 : IsFn Try.prog 15 := isFn Try.func15 (by kernel_rfl) (by kernel_rfl)
theorem is19 : IsFn Try.prog 19 := isFn Try.func19 (by kernel_rfl) (by kernel_rfl)
theorem is20 : IsFn Try.prog 20 := isFn Try.func20 (by kernel_rfl) (by kernel_rfl)
theorem tb53 : TBuild Try.prog 53 (.agg #[str [], str []]) [(0, 1), (1, 1)] := tbuildS (fs := fieldsOf Try.prog 53) (by kernel_rfl) tz53 (fun _ => by kernel_rfl)
theorem fa53_0 : TField Try.prog 53 0 0 := fun _ _ _ => by kernel_rfl
theorem fa53_1 : TField Try.prog 53 1 1 := fun _ _ _ => by kernel_rfl
def cl53 (x : (List UInt8) × (List UInt8)) : List Value := [str (x.1)] ++ ([str (x.2)])
theorem tsz9 : TSz Try.prog 9 1 := fun _ => by kernel_rfl
noncomputable def sign_tape_stir_p (x0 : (List UInt8) × (List UInt8)) (x1 : List UInt8) : Option (((List UInt8) × (List UInt8))) :=
  Option.bind (app x0.1 x1) fun y1 => Option.bind (hash_Mac_p x0.2 y1) fun y2 => Option.bind (hash_Mac_p y2 x0.1) fun y3 => some ((y3, y2))
theorem sign_tape_stir_c {S : Mem} {w : World} {b0_ : Nat} {x0 : (List UInt8) × (List UInt8)} (H : HS ⟨S, keysR [.blk b0_ ((cl53 x0)) 53], w⟩ S w [.blk b0_ ((cl53 x0)) 53]) {x1 : List UInt8} {r : ((List UInt8) × (List UInt8))} (hF : sign_tape_stir_p x0 x1 = some r) :
    Calls Try.prog 20 #[.pointer (some ⟨b0_, 0, none⟩), str (x1)] w fun e w' => ∃ (S2 : Mem) , e = .returned (.tuple #[]) ∧ HS ⟨S, keysR [.blk b0_ ((cl53 x0)) 53], w⟩ S2 w' [.blk b0_ ((cl53 r)) 53] := by
 refine enter (n := 30) Try.func20 rfl rfl rfl ?_
 unfold sign_tape_stir_p at hF
 refine wp_seq_k ?_; intro K1 hK1
 obtain ⟨y1, e1, hF⟩ := bnd hF
 obtain ⟨y2, e2, hF⟩ := bnd hF
 apply wp_region_ext 14 (kindsF [(11, .inl (str (y2)))]) rfl rfl (by kernel_rfl); intro vs1
 simp only [List.take_succ_cons, List.take_zero, List.drop_succ_cons, List.drop_zero]
 replace H := H.drew
 refine t_v (fun w hx => r_move (v := .pointer (some ⟨b0_, 0, none⟩)) rfl) ?_
 refine t_v (fun w hx => r_move (v := .pointer (some ⟨b0_, 0, none⟩)) rfl) ?_
 refine t_v (fun w hx => r_nilck rfl) ?_
 refine t_v (fun w hx => r_field fa53_1 rfl) ?_
 refine t_v (fun w hx => h_load1 (v := str (x0.2)) to9 (H.ext hx) rfl (k := 0) rfl rfl) ?_
 refine t_v (fun w hx => r_move (v := .pointer (some ⟨b0_, 0, none⟩)) rfl) ?_
 refine t_v (fun w hx => r_nilck rfl) ?_
 refine t_v (fun w hx => r_field fa53_0 rfl) ?_
 refine t_v (fun w hx => h_load1 (v := str (x0.1)) to9 (H.ext hx) rfl (k := 0) rfl rfl) ?_
 refine t_v (fun w hx => r_move (v := str (x1)) rfl) ?_
 refine t_v (fun w hx => r_cat (r := y1) rfl rfl (by have := (app_some e1).1; omega) (app_some e1).2) ?_
 refine t_call (l := [str (x0.2), str (y1)]) rfl rfl is15 rfl (fun w hx hF => (hash_Mac_c (H.ext hx).sub e2).mono (fun _ _ ⟨he, hx⟩ => ⟨he, hx⟩)) ?_
 refine t_v (fun w hx => r_nilck rfl) ?_
 refine t_v (fun w hx => r_field fa53_1 rfl) ?_
 refine t_nil (fun w1 hx hF hA => ?_)
 replace H := H.ext hx; clear hx hF hA
 refine p_ofs (a_store (k := 0) (v := str (y2)) (l := [str (y2)]) tsz9 H rfl rfl rfl (cells_one rfl) rfl (fun u hu => List.all_eq_true.1 (rfl : ([str (y2)]).all (·.oneCell') = true) u hu) rfl) ?_; clear H; intro w2 H
 replace H : HS ⟨S, keysR [.blk b0_ ((cl53 x0)) 53], w⟩ S w2 [.blk b0_ ((cl53 (x0.1, y2))) 53] := H
 refine wpList_nil ?_; refine on_norm ?_
 refine xn hK1 ?_; clear hK1
 obtain ⟨y3, e3, hF⟩ := bnd hF
 apply wp_region_ext 12 (kindsF [(9, .inl (str (y3)))]) rfl rfl (by kernel_rfl); intro vs2
 simp only [List.take_succ_cons, List.take_zero, List.drop_succ_cons, List.drop_zero]
 replace H := H.drew
 refine t_v (fun w hx => r_move (v := .pointer (some ⟨b0_, 0, none⟩)) rfl) ?_
 refine t_v (fun w hx => r_move (v := .pointer (some ⟨b0_, 0, none⟩)) rfl) ?_
 refine t_v (fun w hx => r_nilck rfl) ?_
 refine t_v (fun w hx => r_field fa53_1 rfl) ?_
 refine t_v (fun w hx => h_load1 (v := str (y2)) to9 (H.ext hx) rfl (k := 0) rfl rfl) ?_
 refine t_v (fun w hx => r_move (v := .pointer (some ⟨b0_, 0, none⟩)) rfl) ?_
 refine t_v (fun w hx => r_nilck rfl) ?_
 refine t_v (fun w hx => r_field fa53_0 rfl) ?_
 refine t_v (fun w hx => h_load1 (v := str (x0.1)) to9 (H.ext hx) rfl (k := 0) rfl rfl) ?_
 refine t_call (l := [str (y2), str (x0.1)]) rfl rfl is15 rfl (fun w hx hF => (hash_Mac_c (H.ext hx).sub e3).mono (fun _ _ ⟨he, hx⟩ => ⟨he, hx⟩)) ?_
 refine t_v (fun w hx => r_nilck rfl) ?_
 refine t_v (fun w hx => r_field fa53_0 rfl) ?_
 refine t_nil (fun w3 hx hF hA => ?_)
 replace H := H.ext hx; clear hx hF hA
 refine p_ofs (a_store (k := 0) (v := str (y3)) (l := [str (y3)]) tsz9 H rfl rfl rfl (cells_one rfl) rfl (fun u hu => List.all_eq_true.1 (rfl : ([str (y3)]).all (·.oneCell') = true) u hu) rfl) ?_; clear H; intro w4 H
 replace H : HS ⟨S, keysR [.blk b0_ ((cl53 x0)) 53], w⟩ S w4 [.blk b0_ ((cl53 (y3, y2))) 53] := H
 refine wpList_nil ?_; refine on_norm ?_
 refine e_00 rfl ?_
 obtain rfl := Option.some.inj hF
 replace H : HS ⟨S, keysR [.blk b0_ ((cl53 x0)) 53], w⟩ S w4 [.blk b0_ ((cl53 (y3, y2))) 53] := H
 exact ⟨_, rfl, H⟩
noncomputable def sign_Sign_b0 (x0 : UInt64 × UInt64 × UInt64 × UInt64) (y2 : (UInt64 × UInt64 × UInt64 × UInt64)) (s1 : Int × (List UInt8) × (List UInt8)) : Option ((Int × (List UInt8) × (List UInt8)) ⊕ (((List UInt8) × Int) ⊕ ((List UInt8) × (List UInt8)))) :=
  bif decide (s1.1 < 16) then (Option.bind (hash_Mac_p s1.2.2 s1.2.1) fun y12 => Option.bind (field_Of_p 1 y12) fun y13 => jn (Option.bind (bif (y13.2 == 0) then (Option.bind (sign_zero_p) fun y14 => some (((y13.1 : UInt64 × UInt64 × UInt64 × UInt64) != (y14 : UInt64 × UInt64 × UInt64 × UInt64)))) else (some (false))) (fun t3 => bif t3 then (Option.bind (sign_times_p y13.1) fun y15 => Option.bind (sign_zero_p) fun y16 => Option.bind (field_Add_p 1 y15.1 y16) fun y17 => Option.bind (field_Inv_p 1 y13.1) fun y18 => Option.bind (field_Mul_p 1 y17 x0) fun y19 => Option.bind (field_Add_p 1 y2 y19) fun y20 => Option.bind (field_Mul_p 1 y20 y18.1) fun y21 => Option.bind (Option.bind (sign_zero_p) fun y22 => bif ((y17 : UInt64 × UInt64 × UInt64 × UInt64) != (y22 : UInt64 × UInt64 × UInt64 × UInt64)) then (Option.bind (sign_zero_p) fun y23 => some (((y21 : UInt64 × UInt64 × UInt64 × UInt64) != (y23 : UInt64 × UInt64 × UInt64 × UInt64)))) else (some (false))) (fun t4 => bif t4 then (Option.bind (field_Bytes_p y17) fun y24 => Option.bind (field_Bytes_p y21) fun y25 => Option.bind (app y24 y25) fun y26 => some (.inr ((y26, 0)))) else (some (.inl (()))))) else (some (.inl (()))))) (fun t2 => Option.bind (sign_tape_stir_p (y12, s1.2.2) ([0] : List UInt8)) fun y27 => some (.inl (((w64 (s1.1 + 1)), y27.1, y27.2)))) (fun e => some (.inr (.inl (e))))) else (some (.inr (.inr ((s1.2.1, s1.2.2)))))
noncomputable def sign_Sign_p (x0 : UInt64 × UInt64 × UInt64 × UInt64) (x1 : List UInt8) : Option ((List UInt8) × Int) :=
  Option.bind (sign_fine_p x0) fun y1 => bif (!y1) then (some ((([] : List UInt8), 80))) else (Option.bind (sign_sum_p x1) fun y2 => Option.bind (field_Bytes_p x0) fun y3 => Option.bind (field_Bytes_p y2) fun y4 => Option.bind (app y3 y4) fun y5 => Option.bind (strings_Repeat_p ([1] : List UInt8) 32) fun y6 => Option.bind (strings_Repeat_p ([0] : List UInt8) 32) fun y7 => Option.bind (app ([0] : List UInt8) y5) fun y8 => Option.bind (sign_tape_stir_p (y6, y7) y8) fun y9 => Option.bind (app ([1] : List UInt8) y5) fun y10 => Option.bind (sign_tape_stir_p (y9.1, y9.2) y10) fun y11 => jn (Option.bind (iter (sign_Sign_b0 x0 y2) ((0, y11.1, y11.2))) (fun e => jnO e (fun e1 => some (.inr (e1))) (fun e2 => some (.inl (e2))))) (fun t1 => some ((([] : List UInt8), 81))) (fun e => some (e)))
set_option maxRecDepth 20000 in
set_option maxHeartbeats 2000000 in
theorem sign_Sign_c {S : Mem} {w : World} (hS : Sub S w) {x0 : UInt64 × UInt64 × UInt64 × UInt64} {x1 : List UInt8} {r : (List UInt8) × Int} (hF : sign_Sign_p x0 x1 = some r) :
    Calls Try.prog 5 #[.agg ((cl24 x0)).toArray, str (x1)] w fun e w' => e = .returned (.tuple #[str (r.1), .int .i64 (r.2)]) ∧ Ext w w' := by
 refine enter (n := 99) Try.func5 rfl rfl rfl ?_
 have H := HS.start hS
 unfold sign_Sign_p at hF
 refine sr ?_; intro K1 hK1
 refine p_ofb (a_box (l := (cl24 x0)) H rfl) ?_; clear H; intro w1 b1 H
 refine p_as (v := str (([] : List UInt8))) rfl ?_
 refine p_as (v := .int .i64 (0)) rfl ?_
 refine xk hK1 ?_; clear hK1
 refine wp_seq_k ?_; intro K2 hK2
 refine sr ?_; intro K3 hK3
 refine p_val (h_load (l := (cl24 x0)) tg24 H rfl (k := 0) rfl rfl rfl) ?_
 obtain ⟨y1, e1, hF⟩ := bnd hF
 refine p_call (l := [.agg ((cl24 x0)).toArray]) is17 rfl ?_
 refine (sign_fine_c H.sub e1).mono ?_; rintro _ w2 ⟨rfl, hx⟩; replace H := H.ext hx; clear hx
 refine p_val (r_not (t := (!y1)) rfl rfl) ?_
 refine xk hK3 ?_; clear hK3
 refine c_split (t := (!y1)) rfl (fun hc1 => ?_) (fun hc1 => ?_)
 ·replace hF := cnd_t hF hc1
  refine sr ?_; intro K4 hK4
  refine p_as (v := str (([] : List UInt8))) rfl ?_
  refine p_as (v := .int .i64 (80)) rfl ?_
  refine xk hK4 ?_; clear hK4
  refine wp_ret ?_
  refine x_ret ?_
  obtain rfl := Option.some.inj hF
  refine e_2 rfl (q_tmp (v := str (([] : List UInt8))) rfl) (q_tmp (v := .int .i64 (80)) rfl) ?_
  exact ⟨rfl, H.toExt⟩
 ·replace hF := cnd_f hF hc1
  refine wp_skip ?_
  refine xn hK2 ?_; clear hK2
  refine sr ?_; intro K5 hK5
  refine p_mv (v := str (x1)) rfl ?_
  obtain ⟨y2, e2, hF⟩ := bnd hF
  refine p_call (l := [str (x1)]) is18 rfl ?_
  refine (sign_sum_c H.sub e2).mono ?_; rintro _ w3 ⟨rfl, hx⟩; replace H := H.ext hx; clear hx
  refine p_ofb (a_alloc (l := (cl24 ((0 : UInt64), (0 : UInt64), (0 : UInt64), (0 : UInt64)))) H tz24 rfl) ?_; clear H; intro w4 b2 H
  refine p_ofs (a_store (k := 0) (v := .agg ((cl24 y2)).toArray) (l := (cl24 y2)) tsz24 H rfl rfl rfl (cells_agg _) rfl (fun u hu => List.all_eq_true.1 (rfl : ((cl24 y2)).all (·.oneCell') = true) u hu) rfl) ?_; clear H; intro w5 H
  replace H : HS ⟨S, [], w⟩ S w5 [.blk b2 ((cl24 y2)) 24, .blk b1 ((cl24 x0)) 24] := H
  refine xk hK5 ?_; clear hK5
  refine wp_seq_k ?_; intro K6 hK6
  obtain ⟨y3, e3, hF⟩ := bnd hF
  obtain ⟨y4, e4, hF⟩ := bnd hF
  obtain ⟨y5, e5, hF⟩ := bnd hF
  apply wp_region_ext 5 (kindsF [(1, .inl (str (y3))), (3, .inl (str (y4)))]) rfl rfl (by kernel_rfl); intro vs1
  simp only [List.take_succ_cons, List.take_zero, List.drop_succ_cons, List.drop_zero]
  replace H := H.drew
  refine t_v (fun w hx => h_load (l := (cl24 x0)) tg24 (H.ext hx) rfl (k := 1) rfl rfl rfl) ?_
  refine t_call (l := [.agg ((cl24 x0)).toArray]) rfl rfl is10 rfl (fun w hx hF => (field_Bytes_c (H.ext hx).sub e3).mono (fun _ _ ⟨he, hx⟩ => ⟨he, hx⟩)) ?_
  refine t_v (fun w hx => h_load (l := (cl24 y2)) tg24 (H.ext hx) rfl (k := 0) rfl rfl rfl) ?_
  refine t_call (l := [.agg ((cl24 y2)).toArray]) rfl rfl is10 rfl (fun w hx hF => (field_Bytes_c (H.ext hx).sub e4).mono (fun _ _ ⟨he, hx⟩ => ⟨he, hx⟩)) ?_
  refine t_v (fun w hx => r_cat (r := y5) rfl rfl (by have := (app_some e5).1; omega) (app_some e5).2) ?_
  refine t_nil (fun w6 hx hF hA => ?_)
  replace H := H.ext hx; clear hx hF hA
  refine p_as (v := str (y5)) rfl ?_
  refine wpList_nil ?_; refine on_norm ?_
  refine xn hK6 ?_; clear hK6
  refine sr ?_; intro K7 hK7
  obtain ⟨y6, e6, hF⟩ := bnd hF
  refine p_call (l := [str (([1] : List UInt8)), .int .i64 (32)]) is19 rfl ?_
  refine (strings_Repeat_c H.sub e6).mono ?_; rintro _ w7 ⟨rfl, hx⟩; replace H := H.ext hx; clear hx
  obtain ⟨y7, e7, hF⟩ := bnd hF
  refine p_call (l := [str (([0] : List UInt8)), .int .i64 (32)]) is19 rfl ?_
  refine (strings_Repeat_c H.sub e7).mono ?_; rintro _ w8 ⟨rfl, hx⟩; replace H := H.ext hx; clear hx
  refine p_val (r_build (vals := [(0, str (y6)), (1, str (y7))]) (l := (cl53 (y6, y7))) tb53 rfl rfl) ?_
  refine p_ofb (a_box (l := (cl53 (y6, y7))) H rfl) ?_; clear H; intro w9 b3 H
  refine p_as (v := .pointer (some ⟨b3, 0, none⟩)) rfl ?_
  refine xk hK7 ?_; clear hK7
  refine sr ?_; intro K8 hK8
  refine p_mv (v := .pointer (some ⟨b3, 0, none⟩)) rfl ?_
  refine p_mv (v := str (y5)) rfl ?_
  obtain ⟨y8, e8, hF⟩ := bnd hF
  refine p_val (r_cat (r := y8) rfl rfl (by have := (app_some e8).1; omega) (app_some e8).2) ?_
  obtain ⟨y9, e9, hF⟩ := bnd hF
  refine p_call (l := [.pointer (some ⟨b3, 0, none⟩), str (y8)]) is20 rfl ?_
  refine (sign_tape_stir_c (H.hand [0] rfl) e9).mono ?_; rintro _ w10 ⟨S1, rfl, H2⟩
  obtain ⟨H1, hle1⟩ := H.frame [0] [1, 2] rfl H2; clear H H2; have H := H1; clear H1
  replace H : HS ⟨S, [], w⟩ S1 w10 [.blk b3 ((cl53 y9)) 53, .blk b2 ((cl24 y2)) 24, .blk b1 ((cl24 x0)) 24] := H
  refine xk hK8 ?_; clear hK8
  refine sr ?_; intro K9 hK9
  refine p_mv (v := .pointer (some ⟨b3, 0, none⟩)) rfl ?_
  refine p_mv (v := str (y5)) rfl ?_
  obtain ⟨y10, e10, hF⟩ := bnd hF
  refine p_val (r_cat (r := y10) rfl rfl (by have := (app_some e10).1; omega) (app_some e10).2) ?_
  obtain ⟨y11, e11, hF⟩ := bnd hF
  refine p_call (l := [.pointer (some ⟨b3, 0, none⟩), str (y10)]) is20 rfl ?_
  refine (sign_tape_stir_c (H.hand [0] rfl) e11).mono ?_; rintro _ w11 ⟨S2, rfl, H2⟩
  obtain ⟨H1, hle2⟩ := H.frame [0] [1, 2] rfl H2; clear H H2; have H := H1; clear H1
  replace H : HS ⟨S, [], w⟩ S2 w11 [.blk b3 ((cl53 y11)) 53, .blk b2 ((cl24 y2)) 24, .blk b1 ((cl24 x0)) 24] := H
  refine xk hK9 ?_; clear hK9
  refine wp_seq_k ?_; intro K10 hK10
  refine nameF fun m1 k1 => ?_
  obtain ⟨o1, hE1, hF1⟩ := jn_some hF
  have J4 : ∀ (t1 : (List UInt8) × (List UInt8)) (S7 : Mem) (m10 : FM) (w37 : World), o1 = .inl t1 → (∀ t, has [4, 5, 9, 10, 11, 12, 13, 14, 37, 38, 39, 40, 41, 42, 43, 44, 45, 46, 47, 48, 49, 50, 51, 52, 53, 54, 55, 56, 57, 58, 59, 60, 61, 62, 63, 64, 65, 66, 67, 68, 69, 70, 71, 72, 73, 74, 75, 76, 77, 78, 79, 80, 81, 82, 83, 84, 85, 86, 87, 88, 89, 90, 91, 92, 93, 94, 95, 96, 97, 98] t = false → look m10 t = look m1 t) → Mem.le S2 S7 → HS ⟨S, [], w⟩ S7 w37 [.blk b3 ((cl53 t1)) 53, .blk b2 ((cl24 y2)) 24, .blk b1 ((cl24 x0)) 24] → K10 (fr 99 m10) w37 := by
   clear H; intro t1 S7 m10 w37 ho k11 hle7 H
   replace hF1 := jnO_l hF1 ho
   refine hK10 _ _ ?_
   refine sr ?_; intro K24 hK24
   refine p_as (v := str (([] : List UInt8))) rfl ?_
   refine p_as (v := .int .i64 (81)) rfl ?_
   refine xk hK24 ?_; clear hK24
   refine wp_ret ?_
   obtain rfl := Option.some.inj hF1
   refine e_2 rfl (q_tmp (v := str (([] : List UInt8))) rfl) (q_tmp (v := .int .i64 (81)) rfl) ?_
   exact ⟨rfl, H.toExt⟩
  refine sr ?_; intro K11 hK11
  refine p_mv (v := .int .i64 (0)) rfl ?_
  refine xk hK11 ?_; clear hK11
  refine wp_block ?_
  refine nameF fun m2 k2 => ?_
  obtain ⟨out1, hL1, hE2⟩ := bnd hE1
  replace H : HS ⟨S, [], w⟩ S2 w11 [.blk b3 ((cl53 y11)) 53, .blk b2 ((cl24 y2)) 24, .blk b1 ((cl24 x0)) 24] := H
  refine loopI [4, 5, 9, 10, 11, 12, 13, 14, 37, 38, 39, 40, 41, 42, 43, 44, 45, 46, 47, 48, 49, 50, 51, 52, 53, 54, 55, 56, 57, 58, 59, 60, 61, 62, 63, 64, 65, 66, 67, 68, 69, 70, 71, 72, 73, 74, 75, 76, 77, 78, 79, 80, 81, 82, 83, 84, 85, 86, 87, 88, 89, 90, 91, 92, 93, 94, 95, 96, 97, 98] (fun (s1 : Int × (List UInt8) × (List UInt8)) (m3 : FM) (w12 : World) => ∃ (S3 : Mem), look m3 37 = .int .i64 (s1.1) ∧ Mem.le S2 S3 ∧ HS ⟨S, [], w⟩ S3 w12 [.blk b3 ((cl53 s1.2)) 53, .blk b2 ((cl24 y2)) 24, .blk b1 ((cl24 x0)) 24]) hL1 ⟨_, (k2 37), (Mem.le_refl _), H⟩ ?_
  clear H; intro k4 s1 m3 w12 k3 hI1 o2 hb1 hh1; obtain ⟨S3, q1, hle3, H⟩ := hI1
  have q2 : look m3 2 = .pointer (some ⟨b1, 0, none⟩) := (k3 2 rfl).trans ((k2 2).trans (k1 2))
  have q3 : look m3 6 = .pointer (some ⟨b2, 0, none⟩) := (k3 6 rfl).trans ((k2 6).trans (k1 6))
  have q4 : look m3 8 = .pointer (some ⟨b3, 0, none⟩) := (k3 8 rfl).trans ((k2 8).trans (k1 8))
  unfold sign_Sign_b0 at hb1
  refine sr ?_; intro K12 hK12
  refine p_val (r_lssI q1 rfl) ?_
  refine xk hK12 ?_; clear hK12
  refine wp_seq_k ?_; intro K13 hK13
  refine c_split (t := decide (s1.1 < 16)) rfl (fun hc2 => ?_) (fun hc2 => ?_)
  ·replace hb1 := cnd_t hb1 hc2
   refine wp_skip ?_
   refine xn hK13 ?_; clear hK13
   refine wp_seq_k ?_; intro K14 hK14
   refine wp_block ?_
   refine wp_seq_k ?_; intro K15 hK15
   obtain ⟨y12, e12, hb1⟩ := bnd hb1
   apply wp_region_ext 12 (kindsF [(9, .inl (str (y12)))]) rfl rfl (by kernel_rfl); intro vs2
   simp only [List.take_succ_cons, List.take_zero, List.drop_succ_cons, List.drop_zero]
   replace H := H.drew
   refine t_v (fun w hx => r_move (v := .pointer (some ⟨b3, 0, none⟩)) q4) ?_
   refine t_v (fun w hx => r_move (v := .pointer (some ⟨b3, 0, none⟩)) q4) ?_
   refine t_v (fun w hx => r_nilck rfl) ?_
   refine t_v (fun w hx => r_field fa53_1 rfl) ?_
   refine t_v (fun w hx => h_load1 (v := str (s1.2.2)) to9 (H.ext hx) rfl (k := 0) rfl rfl) ?_
   refine t_v (fun w hx => r_move (v := .pointer (some ⟨b3, 0, none⟩)) q4) ?_
   refine t_v (fun w hx => r_nilck rfl) ?_
   refine t_v (fun w hx => r_field fa53_0 rfl) ?_
   refine t_v (fun w hx => h_load1 (v := str (s1.2.1)) to9 (H.ext hx) rfl (k := 0) rfl rfl) ?_
   refine t_call (l := [str (s1.2.2), str (s1.2.1)]) rfl rfl is15 rfl (fun w hx hF => (hash_Mac_c (H.ext hx).sub e12).mono (fun _ _ ⟨he, hx⟩ => ⟨he, hx⟩)) ?_
   refine t_v (fun w hx => r_nilck rfl) ?_
   refine t_v (fun w hx => r_field fa53_0 rfl) ?_
   refine t_nil (fun w13 hx hF hA => ?_)
   replace H := H.ext hx; clear hx hF hA
   refine p_ofs (a_store (k := 0) (v := str (y12)) (l := [str (y12)]) tsz9 H rfl rfl rfl (cells_one rfl) rfl (fun u hu => List.all_eq_true.1 (rfl : ([str (y12)]).all (·.oneCell') = true) u hu) rfl) ?_; clear H; intro w14 H
   replace H : HS ⟨S, [], w⟩ S3 w14 [.blk b3 ((cl53 (y12, s1.2.2))) 53, .blk b2 ((cl24 y2)) 24, .blk b1 ((cl24 x0)) 24] := H
   refine wpList_nil ?_; refine on_norm ?_
   refine xn hK15 ?_; clear hK15
   refine sr ?_; intro K16 hK16
   refine p_mv (v := .pointer (some ⟨b3, 0, none⟩)) q4 ?_
   refine p_val (r_nilck rfl) ?_
   refine p_val (r_field fa53_0 rfl) ?_
   refine p_val (h_load1 (v := str (y12)) to9 H rfl (k := 0) rfl rfl) ?_
   obtain ⟨y13, e13, hb1⟩ := bnd hb1
   refine p_call (l := [.int .i64 (1), str (y12)]) is9 rfl ?_
   refine (field_Of_c H.sub e13).mono ?_; rintro _ w15 ⟨rfl, hx⟩; replace H := H.ext hx; clear hx
   refine p_mv (v := .tuple #[.agg ((cl24 y13.1)).toArray, .int .i64 (y13.2)]) rfl ?_
   refine p_val (r_extract (v := .agg ((cl24 y13.1)).toArray) rfl rfl) ?_
   refine p_val (r_extract (v := .int .i64 (y13.2)) rfl rfl) ?_
   refine p_ofb (a_alloc (l := (cl24 ((0 : UInt64), (0 : UInt64), (0 : UInt64), (0 : UInt64)))) H tz24 rfl) ?_; clear H; intro w16 b4 H
   refine p_ofs (a_store (k := 0) (v := .agg ((cl24 y13.1)).toArray) (l := (cl24 y13.1)) tsz24 H rfl rfl rfl (cells_agg _) rfl (fun u hu => List.all_eq_true.1 (rfl : ((cl24 y13.1)).all (·.oneCell') = true) u hu) rfl) ?_; clear H; intro w17 H
   replace H : HS ⟨S, [], w⟩ S3 w17 [.blk b4 ((cl24 y13.1)) 24, .blk b3 ((cl53 (y12, s1.2.2))) 53, .blk b2 ((cl24 y2)) 24, .blk b1 ((cl24 x0)) 24] := H
   refine p_as (v := .int .i64 (y13.2)) rfl ?_
   refine xk hK16 ?_; clear hK16
   refine wp_seq_k ?_; intro K17 hK17
   refine nameF fun m4 k5 => ?_
   obtain ⟨o3, hE3, hF2⟩ := jn_some hb1
   have J3 : ∀ (t2 : Unit) (S5 : Mem) (m9 : FM) (w35 : World), o3 = .inl t2 → (∀ t, has [4, 5, 11, 12, 13, 14, 59, 60, 61, 62, 63, 64, 65, 66, 67, 68, 69, 70, 71, 72, 73, 74, 75, 76, 77, 78, 79, 80, 81, 82, 83, 84, 85, 86, 87, 88, 89, 90, 91, 92, 93, 94, 95] t = false → look m9 t = look m4 t) → Mem.le S3 S5 → HS ⟨S, [], w⟩ S5 w35 [.blk b4 ((cl24 y13.1)) 24, .blk b3 ((cl53 (y12, s1.2.2))) 53, .blk b2 ((cl24 y2)) 24, .blk b1 ((cl24 x0)) 24] → K17 (fr 99 m9) w35 := by
    clear H; intro t2 S5 m9 w35 ho k10 hle5 H
    replace hF2 := jnO_l hF2 ho
    have q18 : look m9 2 = .pointer (some ⟨b1, 0, none⟩) := (k10 2 rfl).trans ((k5 2).trans q2)
    have q19 : look m9 6 = .pointer (some ⟨b2, 0, none⟩) := (k10 6 rfl).trans ((k5 6).trans q3)
    have q20 : look m9 8 = .pointer (some ⟨b3, 0, none⟩) := (k10 8 rfl).trans ((k5 8).trans q4)
    have q21 : look m9 37 = .int .i64 (s1.1) := (k10 37 rfl).trans ((k5 37).trans q1)
    refine hK17 _ _ ?_
    refine wp_region_lit ?_
    refine p_mv (v := .pointer (some ⟨b3, 0, none⟩)) q20 ?_
    obtain ⟨y27, e27, hF2⟩ := bnd hF2
    refine p_call (l := [.pointer (some ⟨b3, 0, none⟩), str (([0] : List UInt8))]) is20 rfl ?_
    refine (sign_tape_stir_c (H.hand [1] rfl) e27).mono ?_; rintro _ w36 ⟨S6, rfl, H2⟩
    obtain ⟨H1, hle6⟩ := H.frame [1] [0, 2, 3] rfl H2; clear H H2; have H := H1; clear H1
    replace H : HS ⟨S, [], w⟩ S6 w36 [.blk b3 ((cl53 y27)) 53, .blk b4 ((cl24 y13.1)) 24, .blk b2 ((cl24 y2)) 24, .blk b1 ((cl24 x0)) 24] := H
    refine wpList_nil ?_
    refine b_norm ?_
    refine xn hK14 ?_; clear hK14
    refine wp_region_lit ?_
    refine p_val (r_addI q21 rfl) ?_
    refine p_mv (v := .int .i64 ((w64 (s1.1 + 1)))) rfl ?_
    refine wpList_nil ?_
    refine x_norm ?_
    replace H := H.sel [0, 2, 3] rfl
    replace H : HS ⟨S, [], w⟩ S6 w36 [.blk b3 ((cl53 y27)) 53, .blk b2 ((cl24 y2)) 24, .blk b1 ((cl24 x0)) 24] := H
    obtain rfl := Option.some.inj hF2
    exact ⟨((w64 (s1.1 + 1)), y27.1, y27.2), _, rfl, (by (repeat (refine keep_cons rfl ?_)); refine keep_sub k10 rfl ?_; (repeat (refine keep_cons rfl ?_)); refine keep_name k5 ?_; (repeat (refine keep_cons rfl ?_)); refine keep_sub k3 rfl ?_; (repeat (refine keep_cons rfl ?_)); exact fun _ _ => rfl), ⟨_, rfl, (Mem.le_trans hle3 (Mem.le_trans hle5 hle6)), H⟩, hh1⟩
   refine wp_seq_k ?_; intro K18 hK18
   refine nameF fun m5 k6 => ?_
   obtain ⟨t3, hE4, hF3⟩ := bnd hE3
   have J2 : ∀ (m6 : FM) (w20 : World), (∀ t, has [59, 60, 61, 62, 63, 64, 65] t = false → look m6 t = look m5 t) → look m6 65 = .bool (t3) → HS ⟨S, [], w⟩ S3 w20 [.blk b4 ((cl24 y13.1)) 24, .blk b3 ((cl53 (y12, s1.2.2))) 53, .blk b2 ((cl24 y2)) 24, .blk b1 ((cl24 x0)) 24] → K18 (fr 99 m6) w20 := by
    clear H; intro m6 w20 k7 q5 H
    have q6 : look m6 2 = .pointer (some ⟨b1, 0, none⟩) := (k7 2 rfl).trans ((k6 2).trans ((k5 2).trans q2))
    have q7 : look m6 6 = .pointer (some ⟨b2, 0, none⟩) := (k7 6 rfl).trans ((k6 6).trans ((k5 6).trans q3))
    have q8 : look m6 8 = .pointer (some ⟨b3, 0, none⟩) := (k7 8 rfl).trans ((k6 8).trans ((k5 8).trans q4))
    have q9 : look m6 37 = .int .i64 (s1.1) := (k7 37 rfl).trans ((k6 37).trans ((k5 37).trans q1))
    have q10 : look m6 9 = .pointer (some ⟨b4, 0, none⟩) := (k7 9 rfl).trans ((k6 9).trans (k5 9))
    refine hK18 _ _ ?_
    refine c_split (t := t3) q5 (fun hc3 => ?_) (fun hc3 => ?_)
    ·replace hF3 := cnd_t hF3 hc3
     refine sr ?_; intro K19 hK19
     refine p_val (h_load (l := (cl24 y13.1)) tg24 H q10 (k := 0) rfl rfl rfl) ?_
     obtain ⟨y15, e15, hF3⟩ := bnd hF3
     refine p_call (l := [.agg ((cl24 y13.1)).toArray]) is23 rfl ?_
     refine (sign_times_c H.sub e15).mono ?_; rintro _ w21 ⟨rfl, hx⟩; replace H := H.ext hx; clear hx
     refine p_val (r_fldA (fs := fieldsOf Try.prog 29) (i := 0) (o := 0) (by kernel_rfl) rfl rfl tg24 rfl (l' := (cl24 y15.1)) rfl) ?_
     obtain ⟨y16, e16, hF3⟩ := bnd hF3
     refine p_call (l := []) is21 rfl ?_
     refine (sign_zero_c H.sub e16).mono ?_; rintro _ w22 ⟨rfl, hx⟩; replace H := H.ext hx; clear hx
     obtain ⟨y17, e17, hF3⟩ := bnd hF3
     refine p_call (l := [.int .i64 (1), .agg ((cl24 y15.1)).toArray, .agg ((cl24 y16)).toArray]) is22 rfl ?_
     refine (field_Add_c H.sub e17).mono ?_; rintro _ w23 ⟨rfl, hx⟩; replace H := H.ext hx; clear hx
     refine p_ofb (a_alloc (l := (cl24 ((0 : UInt64), (0 : UInt64), (0 : UInt64), (0 : UInt64)))) H tz24 rfl) ?_; clear H; intro w24 b5 H
     refine p_ofs (a_store (k := 0) (v := .agg ((cl24 y17)).toArray) (l := (cl24 y17)) tsz24 H rfl rfl rfl (cells_agg _) rfl (fun u hu => List.all_eq_true.1 (rfl : ((cl24 y17)).all (·.oneCell') = true) u hu) rfl) ?_; clear H; intro w25 H
     replace H : HS ⟨S, [], w⟩ S3 w25 [.blk b5 ((cl24 y17)) 24, .blk b4 ((cl24 y13.1)) 24, .blk b3 ((cl53 (y12, s1.2.2))) 53, .blk b2 ((cl24 y2)) 24, .blk b1 ((cl24 x0)) 24] := H
     refine xk hK19 ?_; clear hK19
     refine sr ?_; intro K20 hK20
     refine p_val (h_load (l := (cl24 y13.1)) tg24 H q10 (k := 1) rfl rfl rfl) ?_
     obtain ⟨y18, e18, hF3⟩ := bnd hF3
     refine p_call (l := [.int .i64 (1), .agg ((cl24 y13.1)).toArray]) is24 rfl ?_
     refine (field_Inv_c H.sub e18).mono ?_; rintro _ w26 ⟨rfl, hx⟩; replace H := H.ext hx; clear hx
     refine p_mv (v := .tuple #[.agg ((cl24 y18.1)).toArray, .int .i64 (y18.2)]) rfl ?_
     refine p_val (r_extract (v := .agg ((cl24 y18.1)).toArray) rfl rfl) ?_
     refine p_val (r_extract (v := .int .i64 (y18.2)) rfl rfl) ?_
     refine p_ofb (a_alloc (l := (cl24 ((0 : UInt64), (0 : UInt64), (0 : UInt64), (0 : UInt64)))) H tz24 rfl) ?_; clear H; intro w27 b6 H
     refine p_ofs (a_store (k := 0) (v := .agg ((cl24 y18.1)).toArray) (l := (cl24 y18.1)) tsz24 H rfl rfl rfl (cells_agg _) rfl (fun u hu => List.all_eq_true.1 (rfl : ((cl24 y18.1)).all (·.oneCell') = true) u hu) rfl) ?_; clear H; intro w28 H
     replace H : HS ⟨S, [], w⟩ S3 w28 [.blk b6 ((cl24 y18.1)) 24, .blk b5 ((cl24 y17)) 24, .blk b4 ((cl24 y13.1)) 24, .blk b3 ((cl53 (y12, s1.2.2))) 53, .blk b2 ((cl24 y2)) 24, .blk b1 ((cl24 x0)) 24] := H
     refine p_as (v := .int .i64 (y18.2)) rfl ?_
     refine xk hK20 ?_; clear hK20
     refine wp_seq_k ?_; intro K21 hK21
     obtain ⟨y19, e19, hF3⟩ := bnd hF3
     obtain ⟨y20, e20, hF3⟩ := bnd hF3
     obtain ⟨y21, e21, hF3⟩ := bnd hF3
     apply wp_region_ext 8 (kindsF [(3, .inl (.agg ((cl24 y19)).toArray)), (4, .inl (.agg ((cl24 y20)).toArray)), (6, .inl (.agg ((cl24 y21)).toArray)), (7, .inr (lowR (NewAt w28.drew ((cl24 ((0 : UInt64), (0 : UInt64), (0 : UInt64), (0 : UInt64)))) 24)))]) rfl rfl (by kernel_rfl); intro vs4
     simp only [List.take_succ_cons, List.take_zero, List.drop_succ_cons, List.drop_zero]
     replace H := H.drew
     refine t_v (fun w hx => h_load (l := (cl24 y2)) tg24 (H.ext hx) q7 (k := 4) rfl rfl rfl) ?_
     refine t_v (fun w hx => h_load (l := (cl24 y17)) tg24 (H.ext hx) rfl (k := 1) rfl rfl rfl) ?_
     refine t_v (fun w hx => h_load (l := (cl24 x0)) tg24 (H.ext hx) q6 (k := 5) rfl rfl rfl) ?_
     refine t_call (l := [.int .i64 (1), .agg ((cl24 y17)).toArray, .agg ((cl24 x0)).toArray]) rfl rfl is25 rfl (fun w hx hF => (field_Mul_c (H.ext hx).sub e19).mono (fun _ _ ⟨he, hx⟩ => ⟨he, hx⟩)) ?_
     refine t_call (l := [.int .i64 (1), .agg ((cl24 y2)).toArray, .agg ((cl24 y19)).toArray]) rfl rfl is22 rfl (fun w hx hF => (field_Add_c (H.ext hx).sub e20).mono (fun _ _ ⟨he, hx⟩ => ⟨he, hx⟩)) ?_
     refine t_v (fun w hx => h_load (l := (cl24 y18.1)) tg24 (H.ext hx) rfl (k := 0) rfl rfl rfl) ?_
     refine t_call (l := [.int .i64 (1), .agg ((cl24 y20)).toArray, .agg ((cl24 y18.1)).toArray]) rfl rfl is25 rfl (fun w hx hF => (field_Mul_c (H.ext hx).sub e21).mono (fun _ _ ⟨he, hx⟩ => ⟨he, hx⟩)) ?_
     refine t_alloc rfl rfl tz24 rfl ?_
     refine t_nil (fun w29 hx hF hA => ?_)
     obtain ⟨F1, hd1, h01⟩ := depE hF
     obtain ⟨⟨b7, eq1, hb3, hh2⟩, hn1⟩ := fact_relF hF 7 rfl rfl
     have hle4 := gf_le (F := F1) (w := w29) H.sub; replace H := (HS.adopt (H.callF (F := F1) hx) (Nat.le_trans H.fr.size hb3) (gf_none hb3 (by rw [h01]; exact noF hA (by decide) rfl eq1 hn1)) hh2 (HS.keys_lt H hb3)); clear hx hF hA hd1 h01; generalize gf S3 w28.drew F1 w29 = S4 at hle4 H
     refine p_ofs (a_store (k := 0) (v := .agg ((cl24 y21)).toArray) (l := (cl24 y21)) tsz24 H eq1 rfl rfl (cells_agg _) rfl (fun u hu => List.all_eq_true.1 (rfl : ((cl24 y21)).all (·.oneCell') = true) u hu) rfl) ?_; clear H; intro w30 H
     replace H : HS ⟨S, [], w⟩ S4 w30 [.blk b7 ((cl24 y21)) 24, .blk b6 ((cl24 y18.1)) 24, .blk b5 ((cl24 y17)) 24, .blk b4 ((cl24 y13.1)) 24, .blk b3 ((cl53 (y12, s1.2.2))) 53, .blk b2 ((cl24 y2)) 24, .blk b1 ((cl24 x0)) 24] := H
     refine wpList_nil ?_; refine on_norm ?_
     refine xn hK21 ?_; clear hK21
     refine wp_seq_k ?_; intro K22 hK22
     refine nameF fun m7 k8 => ?_
     obtain ⟨t4, hE5, hF4⟩ := bnd hF3
     have J1 : ∀ (m8 : FM) (w33 : World), (∀ t, has [83, 84, 85, 86, 87, 88, 89, 90] t = false → look m8 t = look m7 t) → look m8 90 = .bool (t4) → HS ⟨S, [], w⟩ S4 w33 [.blk b7 ((cl24 y21)) 24, .blk b6 ((cl24 y18.1)) 24, .blk b5 ((cl24 y17)) 24, .blk b4 ((cl24 y13.1)) 24, .blk b3 ((cl53 (y12, s1.2.2))) 53, .blk b2 ((cl24 y2)) 24, .blk b1 ((cl24 x0)) 24] → K22 (fr 99 m8) w33 := by
      clear H; intro m8 w33 k9 q11 H
      have q12 : look m8 2 = .pointer (some ⟨b1, 0, none⟩) := (k9 2 rfl).trans ((k8 2).trans q6)
      have q13 : look m8 6 = .pointer (some ⟨b2, 0, none⟩) := (k9 6 rfl).trans ((k8 6).trans q7)
      have q14 : look m8 8 = .pointer (some ⟨b3, 0, none⟩) := (k9 8 rfl).trans ((k8 8).trans q8)
      have q15 : look m8 37 = .int .i64 (s1.1) := (k9 37 rfl).trans ((k8 37).trans q9)
      have q16 : look m8 11 = .pointer (some ⟨b5, 0, none⟩) := (k9 11 rfl).trans (k8 11)
      have q17 : look m8 14 = .pointer (some ⟨b7, 0, none⟩) := (k9 14 rfl).trans ((k8 14).trans eq1)
      refine hK22 _ _ ?_
      refine c_split (t := t4) q11 (fun hc4 => ?_) (fun hc4 => ?_)
      ·replace hF4 := cnd_t hF4 hc4
       refine wp_seq_k ?_; intro K23 hK23
       obtain ⟨y24, e24, hF4⟩ := bnd hF4
       obtain ⟨y25, e25, hF4⟩ := bnd hF4
       obtain ⟨y26, e26, hF4⟩ := bnd hF4
       apply wp_region_ext 5 (kindsF [(1, .inl (str (y24))), (3, .inl (str (y25)))]) rfl rfl (by kernel_rfl); intro vs6
       simp only [List.take_succ_cons, List.take_zero, List.drop_succ_cons, List.drop_zero]
       replace H := H.drew
       refine t_v (fun w hx => h_load (l := (cl24 y17)) tg24 (H.ext hx) q16 (k := 2) rfl rfl rfl) ?_
       refine t_call (l := [.agg ((cl24 y17)).toArray]) rfl rfl is10 rfl (fun w hx hF => (field_Bytes_c (H.ext hx).sub e24).mono (fun _ _ ⟨he, hx⟩ => ⟨he, hx⟩)) ?_
       refine t_v (fun w hx => h_load (l := (cl24 y21)) tg24 (H.ext hx) q17 (k := 0) rfl rfl rfl) ?_
       refine t_call (l := [.agg ((cl24 y21)).toArray]) rfl rfl is10 rfl (fun w hx hF => (field_Bytes_c (H.ext hx).sub e25).mono (fun _ _ ⟨he, hx⟩ => ⟨he, hx⟩)) ?_
       refine t_v (fun w hx => r_cat (r := y26) rfl rfl (by have := (app_some e26).1; omega) (app_some e26).2) ?_
       refine t_nil (fun w34 hx hF hA => ?_)
       replace H := H.ext hx; clear hx hF hA
       refine p_as (v := str (y26)) rfl ?_
       refine p_as (v := .int .i64 (0)) rfl ?_
       refine wpList_nil ?_; refine on_norm ?_
       refine xn hK23 ?_; clear hK23
       refine wp_ret ?_
       refine x_ret ?_
       refine b_ret ?_
       refine x_ret ?_
       refine x_ret ?_
       refine b_ret ?_
       refine x_ret ?_
       obtain rfl := Option.some.inj hF4
       obtain rfl := Option.some.inj hF2
       obtain rfl := Option.some.inj hh1
       obtain rfl := Option.some.inj hE2
       obtain rfl := Option.some.inj hF1
       refine e_2 rfl (q_tmp (v := str (y26)) rfl) (q_tmp (v := .int .i64 (0)) rfl) ?_
       exact ⟨rfl, H.toExt⟩
      ·replace hF4 := cnd_f hF4 hc4
       refine wp_skip ?_
       refine x_norm ?_
       replace H := H.sel [3, 4, 5, 6] rfl
       replace H : HS ⟨S, [], w⟩ S4 w33 [.blk b4 ((cl24 y13.1)) 24, .blk b3 ((cl53 (y12, s1.2.2))) 53, .blk b2 ((cl24 y2)) 24, .blk b1 ((cl24 x0)) 24] := H
       obtain rfl := Option.some.inj hF4
       exact J3 _ _ _ _ rfl (by (repeat (refine keep_cons rfl ?_)); refine keep_sub k9 rfl ?_; (repeat (refine keep_cons rfl ?_)); refine keep_name k8 ?_; (repeat (refine keep_cons rfl ?_)); refine keep_sub k7 rfl ?_; (repeat (refine keep_cons rfl ?_)); refine keep_name k6 ?_; (repeat (refine keep_cons rfl ?_)); exact fun _ _ => rfl) hle4 H
     obtain ⟨y22, e22, hE5⟩ := bnd hE5
     rcases Bool.eq_false_or_eq_true (((y17 : UInt64 × UInt64 × UInt64 × UInt64) != (y22 : UInt64 × UInt64 × UInt64 × UInt64))) with hb4 | hb4
     ·replace hE5 := cnd_t hE5 hb4
      obtain ⟨y23, e23, hE5⟩ := bnd hE5
      apply wp_region_ext 8 (kindsF [(1, .inl (.agg ((cl24 y22)).toArray)), (5, .inl (.agg ((cl24 y23)).toArray))]) rfl rfl (by kernel_rfl); intro vs5
      simp only [List.take_succ_cons, List.take_zero, List.drop_succ_cons, List.drop_zero]
      replace H := H.drew
      refine t_v (fun w hx => h_load (l := (cl24 y17)) tg24 (H.ext hx) (k8 11) (k := 2) rfl rfl rfl) ?_
      refine t_call (l := []) rfl rfl is21 rfl (fun w hx hF => (sign_zero_c (H.ext hx).sub e22).mono (fun _ _ ⟨he, hx⟩ => ⟨he, hx⟩)) ?_
      refine t_v (fun w hx => r_neR eg24 (by decide) (eqt24 y17 y22) rfl rfl) ?_
      refine t_v (fun w hx => r_move (v := .bool (((y17 : UInt64 × UInt64 × UInt64 × UInt64) != (y22 : UInt64 × UInt64 × UInt64 × UInt64)))) rfl) ?_
      refine t_valG rfl hb4 (fun w hx => h_load (l := (cl24 y21)) tg24 (H.ext hx) ((k8 14).trans eq1) (k := 0) rfl rfl rfl) rfl rfl ?_
      refine t_callG rfl hb4 (l := []) rfl rfl is21 rfl (fun w hx hF => (sign_zero_c (H.ext hx).sub e23).mono (fun _ _ ⟨he, hx⟩ => ⟨he, hx⟩)) ?_
      refine t_valG rfl hb4 (fun w hx => r_neR eg24 (by decide) (eqt24 y21 y23) rfl rfl) rfl rfl ?_
      refine t_v (fun w hx => r_pickt (v := .bool (((y21 : UInt64 × UInt64 × UInt64 × UInt64) != (y23 : UInt64 × UInt64 × UInt64 × UInt64)))) rfl hb4 rfl) ?_
      refine t_nil (fun w31 hx hF hA => ?_)
      replace H := H.ext hx; clear hx hF hA
      refine wpList_nil ?_; refine on_norm ?_
      refine x_norm ?_
      replace H : HS ⟨S, [], w⟩ S4 w31 [.blk b7 ((cl24 y21)) 24, .blk b6 ((cl24 y18.1)) 24, .blk b5 ((cl24 y17)) 24, .blk b4 ((cl24 y13.1)) 24, .blk b3 ((cl53 (y12, s1.2.2))) 53, .blk b2 ((cl24 y2)) 24, .blk b1 ((cl24 x0)) 24] := H
      obtain rfl := Option.some.inj hE5
      exact J1 _ _ (by (repeat (refine keep_cons rfl ?_)); exact fun _ _ => rfl) rfl H
     ·replace hE5 := cnd_f hE5 hb4
      apply wp_region_ext 8 (kindsF [(1, .inl (.agg ((cl24 y22)).toArray))]) rfl rfl (by kernel_rfl); intro vs5
      simp only [List.take_succ_cons, List.take_zero, List.drop_succ_cons, List.drop_zero]
      replace H := H.drew
      refine t_v (fun w hx => h_load (l := (cl24 y17)) tg24 (H.ext hx) (k8 11) (k := 2) rfl rfl rfl) ?_
      refine t_call (l := []) rfl rfl is21 rfl (fun w hx hF => (sign_zero_c (H.ext hx).sub e22).mono (fun _ _ ⟨he, hx⟩ => ⟨he, hx⟩)) ?_
      refine t_v (fun w hx => r_neR eg24 (by decide) (eqt24 y17 y22) rfl rfl) ?_
      refine t_v (fun w hx => r_move (v := .bool (((y17 : UInt64 × UInt64 × UInt64 × UInt64) != (y22 : UInt64 × UInt64 × UInt64 × UInt64)))) rfl) ?_
      refine t_skip rfl hb4 rfl ?_
      rw [put_fr]
      refine t_skip rfl hb4 rfl ?_
      rw [put_fr]
      refine t_skip rfl hb4 rfl ?_
      rw [put_fr]
      refine t_v (fun w hx => r_pickf (v := .bool (false)) rfl hb4 rfl) ?_
      refine t_nil (fun w32 hx hF hA => ?_)
      replace H := H.ext hx; clear hx hF hA
      refine wpList_nil ?_; refine on_norm ?_
      refine x_norm ?_
      replace H : HS ⟨S, [], w⟩ S4 w32 [.blk b7 ((cl24 y21)) 24, .blk b6 ((cl24 y18.1)) 24, .blk b5 ((cl24 y17)) 24, .blk b4 ((cl24 y13.1)) 24, .blk b3 ((cl53 (y12, s1.2.2))) 53, .blk b2 ((cl24 y2)) 24, .blk b1 ((cl24 x0)) 24] := H
      obtain rfl := Option.some.inj hE5
      exact J1 _ _ (by (repeat (refine keep_cons rfl ?_)); exact fun _ _ => rfl) rfl H
    ·replace hF3 := cnd_f hF3 hc3
     refine wp_skip ?_
     refine x_norm ?_
     replace H : HS ⟨S, [], w⟩ S3 w20 [.blk b4 ((cl24 y13.1)) 24, .blk b3 ((cl53 (y12, s1.2.2))) 53, .blk b2 ((cl24 y2)) 24, .blk b1 ((cl24 x0)) 24] := H
     obtain rfl := Option.some.inj hF3
     exact J3 _ _ _ _ rfl (by (repeat (refine keep_cons rfl ?_)); refine keep_sub k7 rfl ?_; (repeat (refine keep_cons rfl ?_)); refine keep_name k6 ?_; (repeat (refine keep_cons rfl ?_)); exact fun _ _ => rfl) (Mem.le_refl _) H
   rcases Bool.eq_false_or_eq_true ((y13.2 == 0)) with hb2 | hb2
   ·replace hE4 := cnd_t hE4 hb2
    obtain ⟨y14, e14, hE4⟩ := bnd hE4
    apply wp_region_ext 7 (kindsF [(4, .inl (.agg ((cl24 y14)).toArray))]) rfl rfl (by kernel_rfl); intro vs3
    simp only [List.take_succ_cons, List.take_zero, List.drop_succ_cons, List.drop_zero]
    replace H := H.drew
    refine t_v (fun w hx => r_move ((k6 10).trans (k5 10))) ?_
    refine t_v (fun w hx => r_eqlI rfl rfl) ?_
    refine t_v (fun w hx => r_move (v := .bool ((y13.2 == 0))) rfl) ?_
    refine t_valG rfl hb2 (fun w hx => h_load (l := (cl24 y13.1)) tg24 (H.ext hx) ((k6 9).trans (k5 9)) (k := 0) rfl rfl rfl) rfl rfl ?_
    refine t_callG rfl hb2 (l := []) rfl rfl is21 rfl (fun w hx hF => (sign_zero_c (H.ext hx).sub e14).mono (fun _ _ ⟨he, hx⟩ => ⟨he, hx⟩)) ?_
    refine t_valG rfl hb2 (fun w hx => r_neR eg24 (by decide) (eqt24 y13.1 y14) rfl rfl) rfl rfl ?_
    refine t_v (fun w hx => r_pickt (v := .bool (((y13.1 : UInt64 × UInt64 × UInt64 × UInt64) != (y14 : UInt64 × UInt64 × UInt64 × UInt64)))) rfl hb2 rfl) ?_
    refine t_nil (fun w18 hx hF hA => ?_)
    replace H := H.ext hx; clear hx hF hA
    refine wpList_nil ?_; refine on_norm ?_
    refine x_norm ?_
    replace H : HS ⟨S, [], w⟩ S3 w18 [.blk b4 ((cl24 y13.1)) 24, .blk b3 ((cl53 (y12, s1.2.2))) 53, .blk b2 ((cl24 y2)) 24, .blk b1 ((cl24 x0)) 24] := H
    obtain rfl := Option.some.inj hE4
    exact J2 _ _ (by (repeat (refine keep_cons rfl ?_)); exact fun _ _ => rfl) rfl H
   ·replace hE4 := cnd_f hE4 hb2
    apply wp_region_ext 7 (kindsF []) rfl rfl (by kernel_rfl); intro vs3
    simp only [List.take_succ_cons, List.take_zero, List.drop_succ_cons, List.drop_zero]
    replace H := H.drew
    refine t_v (fun w hx => r_move ((k6 10).trans (k5 10))) ?_
    refine t_v (fun w hx => r_eqlI rfl rfl) ?_
    refine t_v (fun w hx => r_move (v := .bool ((y13.2 == 0))) rfl) ?_
    refine t_skip rfl hb2 rfl ?_
    rw [put_fr]
    refine t_skip rfl hb2 rfl ?_
    rw [put_fr]
    refine t_skip rfl hb2 rfl ?_
    rw [put_fr]
    refine t_v (fun w hx => r_pickf (v := .bool (false)) rfl hb2 rfl) ?_
    refine t_nil (fun w19 hx hF hA => ?_)
    replace H := H.ext hx; clear hx hF hA
    refine wpList_nil ?_; refine on_norm ?_
    refine x_norm ?_
    replace H : HS ⟨S, [], w⟩ S3 w19 [.blk b4 ((cl24 y13.1)) 24, .blk b3 ((cl53 (y12, s1.2.2))) 53, .blk b2 ((cl24 y2)) 24, .blk b1 ((cl24 x0)) 24] := H
    obtain rfl := Option.some.inj hE4
    exact J2 _ _ (by (repeat (refine keep_cons rfl ?_)); exact fun _ _ => rfl) rfl H
  ·replace hb1 := cnd_f hb1 hc2
   refine wp_exit ?_
   refine x_exit ?_
   refine x_exit ?_
   refine b_hit ?_
   refine x_norm ?_
   replace H : HS ⟨S, [], w⟩ S3 w12 [.blk b3 ((cl53 s1.2)) 53, .blk b2 ((cl24 y2)) 24, .blk b1 ((cl24 x0)) 24] := H
   obtain rfl := Option.some.inj hb1
   obtain rfl := Option.some.inj hh1
   obtain rfl := Option.some.inj hE2
   exact J4 _ _ _ _ rfl (by (repeat (refine keep_cons rfl ?_)); refine keep_sub k3 rfl ?_; (repeat (refine keep_cons rfl ?_)); refine keep_name k2 ?_; (repeat (refine keep_cons rfl ?_)); exact fun _ _ => rfl) hle3 H
end Go.Proofs.Ytmbcolbbekbccaa
namespace Go.Proofs.Ytmbcolbbekbccaa
open Go Go.RowKit
attribute [local irreducible] wpList wpT Code.wp Calls Code.rounds
theorem bu1 : Try.prog.underlying 97 = some (.pointer 99) := by kernel_rfl
theorem bu2 : Try.prog.underlying 134 = some .unsafePointer := by kernel_rfl
theorem bi1 : (Try.prog.info? 99).map (·.size) = some 2 := by kernel_rfl
theorem bl1 : liesAt Try.prog Try.prog.depth 99 (2 / Try.prog.cellsOf 99) 0 99 1 = true := by kernel_rfl
theorem bf0 : TField Try.prog 99 0 0 := fun _ _ _ => by kernel_rfl
theorem bf1 : TField Try.prog 99 1 1 := fun _ _ _ => by kernel_rfl
theorem bto : TOne Try.prog 97 := ⟨fun _ => by kernel_rfl, fun _ => by kernel_rfl⟩
theorem bto2 : TOne Try.prog 67 := ⟨fun _ => by kernel_rfl, fun _ => by kernel_rfl⟩
theorem btz : TSz Try.prog 97 1 := fun _ => by kernel_rfl
theorem bnoEsc (x : Value) (w : World) : (callFunc 82 [x].toArray).run Try.prog w = .ok (.value x) w := by
  have h := run_callFunc_extern (P := Try.prog) (w := w) (args := #[x]) Try.func82 (by kernel_rfl) (by kernel_rfl) (by kernel_rfl) (e := Extern.AbiNoEscape.same) (by kernel_rfl)
  show (callFunc 82 #[x]).run Try.prog w = _
  rw [h, Lib.run_noEscape]; rfl
def Builder_copyCheck_p (x0 : List UInt8) : Option (List UInt8) := some x0
section
variable {P : Program} {w : World} {B : Bas} {S : Mem} {L : List Res} {e : Operand → Value} {dst : Option Tmp} {g : Option (Nat × Bool)} {ty : TypeId} {pos : String} {aft : Array Edge} {x y : Operand} {T T1 T2 T' : TypeId} {a : Addr}
theorem r_eqPN (hu : P.underlying T = some (.pointer T1)) (hx : e x = .pointer none) (hy : e y = .pointer none) : (execOp e ⟨dst, .binOp .eql T x y T', ty, pos, aft, g⟩).run P w = .ok (.value (.bool true)) w := by
  have h : (Op.equal T (.pointer none) (.pointer none)).run P w = .ok true w := by
    have h : ∀ d, (Op.equalIn (d + 1) T (.pointer none) (.pointer none)).run P w = .ok true w := fun d => by simp [Op.equalIn, Go.underlying, hu]
    exact h 9999
  simp [execOp, eqGuard, binOp, hx, hy, h]
theorem r_eqPS (hu : P.underlying T = some (.pointer T1)) (hx : e x = .pointer (some a)) (hy : e y = .pointer none) : (execOp e ⟨dst, .binOp .eql T x y T', ty, pos, aft, g⟩).run P w = .ok (.value (.bool false)) w := by
  have h : (Op.equal T (.pointer (some a)) (.pointer none)).run P w = .ok false w := by
    have h : ∀ d, (Op.equalIn (d + 1) T (.pointer (some a)) (.pointer none)).run P w = .ok false w := fun d => by simp [Op.equalIn, Go.underlying, hu]
    exact h 9999
  simp [execOp, eqGuard, binOp, hx, hy, h]
theorem r_nePP {j : TypeInfo} (hu : P.underlying T = some (.pointer T1)) (hj : P.info? T1 = some j) (hx : e x = .pointer (some a)) (hy : e y = .pointer (some a)) : (execOp e ⟨dst, .binOp .neq T x y T', ty, pos, aft, g⟩).run P w = .ok (.value (.bool false)) w := by
  have h := Lib.run_neq_ptr_same (P := P) w a hu hj
  simp [execOp, eqGuard, hx, hy, h]
end
theorem Builder_copyCheck_c {S : Mem} {w : World} {b0_ : Nat} {x0 : List UInt8} {pv1 : Value} {pcs1 prs1 : List Value} {pa1 : Value} (H : HS ⟨S, keysR [.blk b0_ ([pa1] ++ ([pv1])) 99, .osl (pv1) (x0).length 1 pcs1 prs1 5], w⟩ S w [.blk b0_ ([pa1] ++ ([pv1])) 99, .osl (pv1) (x0).length 1 pcs1 prs1 5])
    (pg1 : RL S pcs1 x0) (pg2 : BA b0_ pa1) {r : List UInt8} (hF : Builder_copyCheck_p x0 = some r) :
    Calls Try.prog 75 #[.pointer (some ⟨b0_, 0, none⟩)] w fun e w' => ∃ (S2 : Mem) (pv2 : Value) (pcs2 prs2 : List Value) (pa2 : Value), e = .returned (.tuple #[]) ∧ HS ⟨S, keysR [.blk b0_ ([pa1] ++ ([pv1])) 99, .osl (pv1) (x0).length 1 pcs1 prs1 5], w⟩ S2 w' [.blk b0_ ([pa2] ++ ([pv2])) 99, .osl (pv2) (r).length 1 pcs2 prs2 5] ∧ RL S2 pcs2 r ∧ BA b0_ pa2 := by
  obtain rfl := Option.some.inj hF
  obtain ⟨j, hj, hjs⟩ := Option.map_eq_some_iff.1 bi1
  have hblk : w.heap[b0_]? = some (.cells ([pa1] ++ ([pv1])).toArray 99 (0, 0)) := H.own 0 _ rfl
  have hsh : w.shape? (⟨b0_, 0, none⟩ : Addr).block = some (99, 2) := by simp [World.shape?, hblk]
  refine enter (n := 20) Try.func75 rfl rfl rfl ?_
  rcases pg2 with rfl | rfl
  · refine wp_seq_k ?_; intro K1 hK1
    refine wp_region_lit ?_
    refine p_val (r_move (v := .pointer (some ⟨b0_, 0, none⟩)) rfl) ?_
    refine p_val (r_nilck rfl) ?_
    refine p_val (r_field bf0 rfl) ?_
    refine p_val (h_load1 (v := .pointer none) bto H rfl (k := 0) rfl rfl) ?_
    refine p_val (r_eqPN bu1 rfl rfl) ?_
    refine wpList_nil ?_
    refine x_norm ?_; refine hK1 _ _ ?_
    refine c_true rfl rfl ?_
    refine wp_region_lit ?_
    refine p_val (r_move (v := .pointer (some ⟨b0_, 0, none⟩)) rfl) ?_
    refine p_val (r_move (v := .pointer (some ⟨b0_, 0, none⟩)) rfl) ?_
    refine p_val (c := .pointer (some ⟨b0_, 0, none⟩)) (by
      have h := Lib.run_to_unsafe (P := Try.prog) w ⟨b0_, 0, none⟩ bu1 bu2 hj (by rw [hjs]; decide) hsh (Nat.zero_lt_succ 1)
      simp only [execOp]
      exact (by rw [Sem.run_bind]; erw [h]; rfl)) ?_
    refine p_callv (l := [.pointer (some ⟨b0_, 0, none⟩)]) rfl (bnoEsc _ _) ?_
    refine p_val (c := .pointer (some ⟨b0_, 0, none⟩)) (by
      have h := Lib.run_from_unsafe (P := Try.prog) w ⟨b0_, 0, none⟩ bu2 bu1 hj hsh bl1
      simp only [execOp]
      exact (by rw [Sem.run_bind]; erw [h]; rfl)) ?_
    refine p_val (r_nilck rfl) ?_
    refine p_val (r_field bf0 rfl) ?_
    refine p_ofs (a_store (k := 0) (v := .pointer (some ⟨b0_, 0, none⟩)) (l := [.pointer (some ⟨b0_, 0, none⟩)]) btz H rfl rfl rfl (cells_one rfl) rfl (fun u hu => List.all_eq_true.1 (rfl : ([Value.pointer (some ⟨b0_, 0, none⟩)]).all (·.oneCell') = true) u hu) rfl) ?_; clear H; intro w2 H
    refine wpList_nil ?_
    refine e_00 rfl ?_
    exact ⟨S, pv1, pcs1, prs1, .pointer (some ⟨b0_, 0, none⟩), rfl, H, pg1, .inr rfl⟩
  · refine wp_seq_k ?_; intro K1 hK1
    refine wp_region_lit ?_
    refine p_val (r_move (v := .pointer (some ⟨b0_, 0, none⟩)) rfl) ?_
    refine p_val (r_nilck rfl) ?_
    refine p_val (r_field bf0 rfl) ?_
    refine p_val (h_load1 (v := .pointer (some ⟨b0_, 0, none⟩)) bto H rfl (k := 0) rfl rfl) ?_
    refine p_val (r_eqPS bu1 rfl rfl) ?_
    refine wpList_nil ?_
    refine x_norm ?_; refine hK1 _ _ ?_
    refine c_false rfl rfl ?_
    refine wp_seq_k ?_; intro K2 hK2
    refine wp_region_lit ?_
    refine p_val (r_move (v := .pointer (some ⟨b0_, 0, none⟩)) rfl) ?_
    refine p_val (r_nilck rfl) ?_
    refine p_val (r_field bf0 rfl) ?_
    refine p_val (h_load1 (v := .pointer (some ⟨b0_, 0, none⟩)) bto H rfl (k := 0) rfl rfl) ?_
    refine p_val (r_move (v := .pointer (some ⟨b0_, 0, none⟩)) rfl) ?_
    refine p_val (r_nePP bu1 hj rfl rfl) ?_
    refine wpList_nil ?_
    refine x_norm ?_; refine hK2 _ _ ?_
    refine c_false rfl rfl ?_
    refine wp_skip ?_
    refine e_00 rfl ?_
    exact ⟨S, pv1, pcs1, prs1, .pointer (some ⟨b0_, 0, none⟩), rfl, H, pg1, .inr rfl⟩
theorem bus : Try.prog.underlying 67 = some (.slice 5) := by kernel_rfl
theorem bup : Try.prog.underlying 130 = some (.pointer 5) := by kernel_rfl
theorem buc : Try.prog.cellsOf 5 = 1 := by kernel_rfl
section
variable {P : Program} {w : World} {e : Operand → Value} {dst : Option Tmp} {g : Option (Nat × Bool)} {ty : TypeId} {pos : String} {aft : Array Edge} {x y : Operand} {T T1 : TypeId}
theorem r_usd {r : Value} {v : Value} {w' : World} (hx : e x = v) (h : (Builtin.unsafeSliceData_ #[T] ty #[v]).run P w = .ok r w') : (execOp e ⟨dst, .call ⟨.builtin .unsafeSliceData, #[x], #[T]⟩, ty, pos, aft, g⟩).run P w = .ok (.value r) w' := by
  simp [execOp, resolve, invoke, builtin, hx, h]
theorem r_ust {r : Value} {v u : Value} {w' : World} (hx : e x = v) (hy : e y = u) (h : (Builtin.unsafeString_ #[T, T1] ty #[v, u]).run P w = .ok r w') : (execOp e ⟨dst, .call ⟨.builtin .unsafeString, #[x, y], #[T, T1]⟩, ty, pos, aft, g⟩).run P w = .ok (.value r) w' := by
  simp [execOp, resolve, invoke, builtin, hx, hy, h]
theorem stR_rm : ∀ {L : List Res} {k : Nat} {x : Res}, rmR (stR L k x) k = rmR L k
  | [], _, _ => rfl
  | _ :: _, 0, _ => rfl
  | y :: l, k + 1, x => by simp only [stR, rmR, stR_rm (L := l) (k := k)]
end
theorem Builder_String_c {B : Bas} {S : Mem} {w : World} {L : List Res} {k1 k2 b : Nat} {a v : Value} {cs rs : List Value} {xs : List UInt8} (H : HS B S w L) (h1 : lkR L k1 = some (.blk b ([a] ++ ([v])) 99)) (h2 : lkR L k2 = some (.osl v xs.length 1 cs rs 5)) (h0 : RL S cs xs) (hl : xs.length ≤ 9223372036854775807) :
    Calls Try.prog 48 #[.pointer (some ⟨b, 0, none⟩)] w fun e w' => e = .returned (str xs) ∧ HS B S w' (rmR L k2) := by
  have hown := H.own k2 _ h2
  refine enter (n := 14) Try.func48 rfl rfl rfl ?_
  rcases hown with ⟨rfl, hn, hcs, hrs⟩ | ⟨gb, c, fz, rfl, hnc, hlen, hcap, hblk, hfz⟩
  · obtain rfl : xs = [] := List.eq_nil_of_length_eq_zero hn
    refine wp_seq_k ?_; intro K1 hK1
    refine wp_region_lit ?_
    refine p_val (r_assign (v := str ([] : List UInt8)) rfl) ?_
    refine wpList_nil ?_
    refine x_norm ?_; refine hK1 _ _ ?_
    refine wp_seq_k ?_; intro K2 hK2
    apply wp_region_ext 10 (kinds []) rfl rfl (by kernel_rfl); intro vs
    simp only [List.take_succ_cons, List.take_zero, List.drop_succ_cons, List.drop_zero]
    replace H := H.drew
    refine t_val (fun w hx => r_move (v := .pointer (some ⟨b, 0, none⟩)) rfl) rfl rfl ?_
    refine t_val (fun w hx => r_nilck rfl) rfl rfl ?_
    refine t_val (fun w hx => r_field bf1 rfl) rfl rfl ?_
    refine t_val (fun w hx => h_load1 (v := .slice none 0 0) bto2 (H.ext hx) rfl h1 rfl) rfl rfl ?_
    refine t_val (fun w hx => r_usd (r := .pointer none) rfl (Lib.run_unsafeSliceData_nil _ _ _ _ _)) rfl rfl ?_
    refine t_val (fun w hx => r_move (v := .pointer (some ⟨b, 0, none⟩)) rfl) rfl rfl ?_
    refine t_val (fun w hx => r_nilck rfl) rfl rfl ?_
    refine t_val (fun w hx => r_field bf1 rfl) rfl rfl ?_
    refine t_val (fun w hx => h_load1 (v := .slice none 0 0) bto2 (H.ext hx) rfl h1 rfl) rfl rfl ?_
    refine t_val (fun w hx => r_lenO bus rfl (H.ext hx) h2 rfl) rfl rfl ?_
    refine t_nil (fun w2 hx hF hA => ?_)
    replace H := H.ext hx; clear hx hF hA
    refine p_val (c := str ([] : List UInt8)) (r_ust rfl rfl (Lib.run_unsafeString_none _ _ _ _ _)) ?_
    replace H := H.rm k2
    refine p_val (r_assign (v := str ([] : List UInt8)) rfl) ?_
    refine wpList_nil ?_; refine on_norm ?_
    refine x_norm ?_; refine hK2 _ _ ?_
    refine wp_ret ?_
    refine e_1 rfl (q_tmp (v := str ([] : List UInt8)) rfl) ?_
    exact ⟨rfl, H⟩
  · by_cases hc : c = 0
    · subst hc
      obtain rfl : xs = [] := List.eq_nil_of_length_eq_zero (by omega)
      refine wp_seq_k ?_; intro K1 hK1
      refine wp_region_lit ?_
      refine p_val (r_assign (v := str ([] : List UInt8)) rfl) ?_
      refine wpList_nil ?_
      refine x_norm ?_; refine hK1 _ _ ?_
      refine wp_seq_k ?_; intro K2 hK2
      apply wp_region_ext 10 (kinds [(4, .inr (fun v _ => ∃ a, v = .pointer (some a)))]) rfl rfl (by kernel_rfl); intro vs
      simp only [List.take_succ_cons, List.take_zero, List.drop_succ_cons, List.drop_zero]
      replace H := H.drew
      refine t_val (fun w hx => r_move (v := .pointer (some ⟨b, 0, none⟩)) rfl) rfl rfl ?_
      refine t_val (fun w hx => r_nilck rfl) rfl rfl ?_
      refine t_val (fun w hx => r_field bf1 rfl) rfl rfl ?_
      refine t_val (fun w hx => h_load1 (v := sl gb 0 0 0) bto2 (H.ext hx) rfl h1 rfl) rfl rfl ?_
      refine wpT_low (φ := fun v _ => ∃ a, v = .pointer (some a)) rfl rfl (fun _ _ _ h _ => h) rfl (fun h => by cases h) (fun w hx hF R hR => by
        have hsh : w.shape? (⟨gb, 0, none⟩ : Addr).block = some (5, (cs ++ rs).toArray.size) := by
          have hb2 : w.heap[gb]? = some (.cells (cs ++ rs).toArray 5 fz) := by rw [hx.block gb (lt_of_heap hblk)]; exact hblk
          simp [World.shape?, hb2]
        have hrun := Lib.run_unsafeSliceData_zero (P := Try.prog) w #[67] 130 5 bup ⟨gb, 0, none⟩ 0 _ hsh
        rw [eval_fr, r_usd rfl hrun, outcome_value]
        exact hR (.pointer (some ⟨w.heap.size, 0, none⟩)) (w.alloc (.view ⟨gb, 0, none⟩ 5)) (Ext.alloc w _) ⟨_, rfl⟩ (fun h => by cases h)) ?_
      rw [put_fr]
      refine t_val (fun w hx => r_move (v := .pointer (some ⟨b, 0, none⟩)) rfl) rfl rfl ?_
      refine t_val (fun w hx => r_nilck rfl) rfl rfl ?_
      refine t_val (fun w hx => r_field bf1 rfl) rfl rfl ?_
      refine t_val (fun w hx => h_load1 (v := sl gb 0 0 0) bto2 (H.ext hx) rfl h1 rfl) rfl rfl ?_
      refine t_val (fun w hx => r_lenO bus rfl (H.ext hx) h2 rfl) rfl rfl ?_
      refine t_nil (fun w2 hx hF hA => ?_)
      obtain ⟨ad, had⟩ := fact_rel hF 4 rfl rfl
      replace H := H.ext hx; clear hx hF hA
      refine p_val (c := str ([] : List UInt8)) (r_ust (by exact had) rfl (Lib.run_unsafeString_none _ _ _ _ _)) ?_
      replace H := H.rm k2
      refine p_val (r_assign (v := str ([] : List UInt8)) rfl) ?_
      refine wpList_nil ?_; refine on_norm ?_
      refine x_norm ?_; refine hK2 _ _ ?_
      refine wp_ret ?_
      refine e_1 rfl (q_tmp (v := str ([] : List UInt8)) rfl) ?_
      exact ⟨rfl, H⟩
    · skip
      refine wp_seq_k ?_; intro K1 hK1
      refine wp_region_lit ?_
      refine p_val (r_assign (v := str ([] : List UInt8)) rfl) ?_
      refine wpList_nil ?_
      refine x_norm ?_; refine hK1 _ _ ?_
      refine wp_seq_k ?_; intro K2 hK2
      apply wp_region_ext 10 (kinds []) rfl rfl (by kernel_rfl); intro vs
      simp only [List.take_succ_cons, List.take_zero, List.drop_succ_cons, List.drop_zero]
      replace H := H.drew
      refine t_val (fun w hx => r_move (v := .pointer (some ⟨b, 0, none⟩)) rfl) rfl rfl ?_
      refine t_val (fun w hx => r_nilck rfl) rfl rfl ?_
      refine t_val (fun w hx => r_field bf1 rfl) rfl rfl ?_
      refine t_val (fun w hx => h_load1 (v := sl gb 0 xs.length c) bto2 (H.ext hx) rfl h1 rfl) rfl rfl ?_
      refine t_val (fun w hx => r_usd (r := .pointer (some ⟨gb, 0, none⟩)) rfl (Lib.run_unsafeSliceData_row _ _ _ _ _ _ hc)) rfl rfl ?_
      refine t_val (fun w hx => r_move (v := .pointer (some ⟨b, 0, none⟩)) rfl) rfl rfl ?_
      refine t_val (fun w hx => r_nilck rfl) rfl rfl ?_
      refine t_val (fun w hx => r_field bf1 rfl) rfl rfl ?_
      refine t_val (fun w hx => h_load1 (v := sl gb 0 xs.length c) bto2 (H.ext hx) rfl h1 rfl) rfl rfl ?_
      refine t_val (fun w hx => r_lenO bus rfl (H.ext hx) h2 rfl) rfl rfl ?_
      refine t_nil (fun w2 hx hF hA => ?_)
      have hb2 : w2.heap[gb]? = some (.cells (cs ++ rs).toArray 5 fz) := by rw [hx.block gb (lt_of_heap hblk)]; exact hblk
      replace H := H.ext hx; clear hx hF hA
      refine p_ofc (c := str xs) (φ := fun w' => HS B S w' (rmR L k2)) ?_ ?_
      · by_cases hx0 : xs = []
        · subst hx0
          exact ⟨w2, r_ust rfl rfl (Lib.run_unsafeString_none _ _ _ _ _), H.rm k2⟩
        · have hsh : w2.shape? gb = some (5, (cs ++ rs).toArray.size) := by simp [World.shape?, hb2]
          have hcs := RL.is_u8s h0
          have hxl : xs.length ≤ (cs ++ rs).length := by rw [List.length_append, hlen]; omega
          have hrun := Lib.run_unsafeString_row (P := Try.prog) w2 130 3 9 5 bup buc gb _ hsh xs hx0 (by simpa using hxl) hl (fun j x hj => by
            rw [add_addr, cell_of_F hb2, Nat.zero_add, List.getElem?_append_left (by have := (List.getElem?_eq_some_iff.1 hj).1; omega), hcs]
            exact u8s_get hj)
          refine ⟨_, r_ust rfl rfl hrun, ?_⟩
          have H2 := H.upd (w' := w2.freeze ⟨gb, 0, none⟩ xs.length) (r' := .osl (.slice none 0 0) 0 1 [] [] 5) h2 (by unfold World.freeze; split <;> simp) (by unfold World.freeze; split <;> rfl) (by unfold World.freeze; split <;> rfl) (by unfold World.freeze; split <;> rfl) (fun i hi hne => by
            have hig : gb ≠ i := fun e => hne (by rw [e]; rfl)
            unfold World.freeze; split
            · rfl
            · simp [Array.getElem?_modify, hig]) (.inl ⟨rfl, rfl, rfl, rfl⟩) (fun b hb => by cases hb)
          have H3 := H2.rm k2
          rw [stR_rm] at H3
          exact H3
      clear H; intro w3 H
      refine p_val (r_assign (v := str xs) rfl) ?_
      refine wpList_nil ?_; refine on_norm ?_
      refine x_norm ?_; refine hK2 _ _ ?_
      refine wp_ret ?_
      refine e_1 rfl (q_tmp (v := str xs) rfl) ?_
      exact ⟨rfl, H⟩
end Go.Proofs.Ytmbcolbbekbccaa
namespace Go.Proofs.Ytmbcolbbekbccaa
open Go Go.RowKit
attribute [local irreducible] wpList wpT Code.wp Calls Code.rounds
theorem to67 : TOne Try.prog 67 := ⟨fun _ => by kernel_rfl, fun _ => by kernel_rfl⟩
theorem tz99 : TZero Try.prog 99 (.agg #[.pointer none, .slice none 0 0]) := fun _ => by kernel_rfl
theorem is48 : IsFn Try.prog 48 := isFn Try.func48 (by kernel_rfl) (by kernel_rfl)
theorem is75 : IsFn Try.prog 75 := isFn Try.func75 (by kernel_rfl) (by kernel_rfl)
theorem is78 : IsFn Try.prog 78 := isFn Try.func78 (by kernel_rfl) (by kernel_rfl)
theorem fa99_1 : TField Try.prog 99 1 1 := fun _ _ _ => by kernel_rfl
theorem tsz67 : TSz Try.prog 67 1 := fun _ => by kernel_rfl
def Builder_WriteByte_p (x0 : List UInt8) (x1 : UInt8) : Option ((List UInt8)) :=
  Option.bind (Builder_copyCheck_p x0) fun y1 => Option.bind (app y1 ([x1] : List UInt8)) fun y2 => some (y2)
theorem Builder_WriteByte_c {S : Mem} {w : World} {b0_ : Nat} {x0 : List UInt8} {pv1 : Value} {pcs1 prs1 : List Value} {pa1 : Value} (H : HS ⟨S, keysR [.blk b0_ (([pa1] ++ ([pv1]))) 99, .osl (pv1) (x0).length 1 pcs1 prs1 5], w⟩ S w [.blk b0_ (([pa1] ++ ([pv1]))) 99, .osl (pv1) (x0).length 1 pcs1 prs1 5]) (pg1 : RL S pcs1 x0) (pg2 : BA b0_ pa1) {x1 : UInt8} {r : (List UInt8)} (hF : Builder_WriteByte_p x0 x1 = some r) :
    Calls Try.prog 78 #[.pointer (some ⟨b0_, 0, none⟩), .int .u8 (((x1).toNat : Int))] w fun e w' => ∃ (S2 : Mem) (pv4 : Value) (pcs4 prs4 : List Value) (pa4 : Value), e = .returned (.nilIface) ∧ HS ⟨S, keysR [.blk b0_ (([pa1] ++ ([pv1]))) 99, .osl (pv1) (x0).length 1 pcs1 prs1 5], w⟩ S2 w' [.blk b0_ (([pa4] ++ ([pv4]))) 99, .osl (pv4) (r).length 1 pcs4 prs4 5] ∧ RL S2 pcs4 r ∧ BA b0_ pa4 := by
 refine enter (n := 17) Try.func78 rfl rfl rfl ?_
 unfold Builder_WriteByte_p at hF
 refine sr ?_; intro K1 hK1
 refine p_as (v := .nilIface) rfl ?_
 refine xk hK1 ?_; clear hK1
 refine sr ?_; intro K2 hK2
 refine p_mv (v := .pointer (some ⟨b0_, 0, none⟩)) rfl ?_
 obtain ⟨y1, e1, hF⟩ := bnd hF
 refine p_call (l := [.pointer (some ⟨b0_, 0, none⟩)]) is75 rfl ?_
 refine (Builder_copyCheck_c (H.hand [0, 1] rfl) pg1 pg2 e1).mono ?_; rintro _ w1 ⟨S1, pv2, pcs2, prs2, pa2, rfl, H2, pg3, pg4⟩
 obtain ⟨H1, hle1⟩ := H.frame [0, 1] [] rfl H2; clear H H2; have H := H1; clear H1
 replace H : HS ⟨S, keysR [.blk b0_ (([pa1] ++ ([pv1]))) 99, .osl (pv1) (x0).length 1 pcs1 prs1 5], w⟩ S1 w1 [.blk b0_ (([pa2] ++ ([pv2]))) 99, .osl (pv2) (y1).length 1 pcs2 prs2 5] := H
 refine xk hK2 ?_; clear hK2
 refine sr ?_; intro K3 hK3
 refine p_mv (v := .pointer (some ⟨b0_, 0, none⟩)) rfl ?_
 refine p_mv (v := .pointer (some ⟨b0_, 0, none⟩)) rfl ?_
 refine p_val (r_nilck rfl) ?_
 refine p_val (r_field fa99_1 rfl) ?_
 refine p_val (h_load1 (v := pv2) to67 H rfl (k := 0) rfl rfl) ?_
 refine p_mv (v := .int .u8 (((x1).toNat : Int))) rfl ?_
 have g1 : RL S1 ([Value.int .u8 (((x1).toNat : Int))] ++ ([] : List Value)) ([x1] : List UInt8) := (RL.cons rpU8 RL.nil)
 refine p_of1 (a_bslice (N := 1) (vals := [(0, .int .u8 (((x1).toNat : Int)))]) (l := ([Value.int .u8 (((x1).toNat : Int))] ++ ([] : List Value))) tn67 H rfl rfl rfl g1.len) ?_; clear H; intro w2 v1 H
 generalize ([Value.int .u8 (((x1).toNat : Int))] ++ ([] : List Value)) = cs1 at H g1
 replace H : HS ⟨S, keysR [.blk b0_ (([pa1] ++ ([pv1]))) 99, .osl (pv1) (x0).length 1 pcs1 prs1 5], w⟩ S1 w2 [.osl (v1) (([x1] : List UInt8)).length 1 cs1 [] 5, .blk b0_ (([pa2] ++ ([pv2]))) 99, .osl (pv2) (y1).length 1 pcs2 prs2 5] := H
 obtain ⟨y2, e2, hF⟩ := bnd hF
 refine p_of1 (a_appendX (k := 2) (v2 := v1) tn67 rfl H rfl rfl pg3 rfl (H.slW (k := 0) rfl) g1 e2) ?_; clear H; rintro w3 v2 ⟨cs2, rs1, H, g2⟩
 replace H : HS ⟨S, keysR [.blk b0_ (([pa1] ++ ([pv1]))) 99, .osl (pv1) (x0).length 1 pcs1 prs1 5], w⟩ S1 w3 [.osl (v1) (([x1] : List UInt8)).length 1 cs1 [] 5, .blk b0_ (([pa2] ++ ([pv2]))) 99, .osl (v2) (y2).length 1 cs2 rs1 5] := H
 replace H := H.sel [1, 2] rfl
 replace H : HS ⟨S, keysR [.blk b0_ (([pa1] ++ ([pv1]))) 99, .osl (pv1) (x0).length 1 pcs1 prs1 5], w⟩ S1 w3 [.blk b0_ (([pa2] ++ ([pv2]))) 99, .osl (v2) (y2).length 1 cs2 rs1 5] := H
 refine p_val (r_nilck rfl) ?_
 refine p_val (r_field fa99_1 rfl) ?_
 refine p_ofs (a_store (k := 0) (v := v2) (l := [v2]) tsz67 H rfl rfl rfl (cells_one (HS.ownOne H (k := 1) rfl)) rfl (fun u hu => by rw [List.mem_singleton] at hu; rw [hu]; exact HS.ownOne H (k := 1) rfl) rfl) ?_; clear H; intro w4 H
 replace H : HS ⟨S, keysR [.blk b0_ (([pa1] ++ ([pv1]))) 99, .osl (pv1) (x0).length 1 pcs1 prs1 5], w⟩ S1 w4 [.blk b0_ (([pa2] ++ ([v2]))) 99, .osl (v2) (y2).length 1 cs2 rs1 5] := H
 refine xk hK3 ?_; clear hK3
 refine sr ?_; intro K4 hK4
 refine p_as (v := .nilIface) rfl ?_
 refine xk hK4 ?_; clear hK4
 refine wp_ret ?_
 obtain rfl := Option.some.inj hF
 refine e_1 rfl (q_tmp (v := .nilIface) rfl) ?_
 replace H : HS ⟨S, keysR [.blk b0_ (([pa1] ++ ([pv1]))) 99, .osl (pv1) (x0).length 1 pcs1 prs1 5], w⟩ S1 w4 [.blk b0_ (([pa2] ++ ([v2]))) 99, .osl (v2) (y2).length 1 cs2 rs1 5] := H
 exact ⟨_, _, _, _, _, rfl, H, g2, pg4⟩
def codec_Base64_b1 (s1 : Int × Int × Int × (List UInt8)) (y1 : UInt8) (s2 : Int × (List UInt8)) : Option ((Int × (List UInt8)) ⊕ (Int × (List UInt8))) :=
  bif decide ((6 : Int) ≤ s2.1) then (Option.bind (chk (decide (0 ≤ (w64 (s2.1 - 6))))) fun y2 => Option.bind (idx ([65, 66, 67, 68, 69, 70, 71, 72, 73, 74, 75, 76, 77, 78, 79, 80, 81, 82, 83, 84, 85, 86, 87, 88, 89, 90, 97, 98, 99, 100, 101, 102, 103, 104, 105, 106, 107, 108, 109, 110, 111, 112, 113, 114, 115, 116, 117, 118, 119, 120, 121, 122, 48, 49, 50, 51, 52, 53, 54, 55, 56, 57, 45, 95] : List UInt8) (bits .and .i64 (shrI .i64 (bits .or .i64 (shlI .i64 s1.1 8) ((y1).toNat : Int)) (w64 (s2.1 - 6))) 63)) fun y3 => Option.bind (Builder_WriteByte_p s2.2 y3) fun y4 => some (.inl (((w64 (s2.1 - 6)), y4)))) else (some (.inr ((s2.1, s2.2))))
def codec_Base64_b0 (x0 : List UInt8) (s1 : Int × Int × Int × (List UInt8)) : Option ((Int × Int × Int × (List UInt8)) ⊕ (Int × Int × (List UInt8))) :=
  bif decide (s1.2.2.1 < ((x0).length : Int)) then (Option.bind (Option.bind (idx x0 s1.2.2.1) fun y1 => Option.bind (Option.bind (iter (codec_Base64_b1 s1 y1) (((w64 (s1.2.1 + 8)), s1.2.2.2))) (fun e => some (e))) (fun t3 => Option.bind (chk (decide (0 ≤ t3.1))) fun y5 => some (((bits .and .i64 (bits .or .i64 (shlI .i64 s1.1 8) ((y1).toNat : Int)) (w64 ((shlI .i64 1 t3.1) - 1))), t3.1, t3.2)))) (fun t2 => some (.inl ((t2.1, t2.2.1, (w64 (s1.2.2.1 + 1)), t2.2.2))))) else (some (.inr ((s1.1, s1.2.1, s1.2.2.2))))
def codec_Base64_p (x0 : List UInt8) : Option ((List UInt8)) :=
  Option.bind (Option.bind (iter (codec_Base64_b0 x0) ((0, 0, 0, ([] : List UInt8)))) (fun e => some (e))) (fun t1 => Option.bind (bif decide ((0 : Int) < t1.2.1) then (Option.bind (chk (decide (0 ≤ (w64 ((6 : Int) - t1.2.1))))) fun y6 => Option.bind (idx ([65, 66, 67, 68, 69, 70, 71, 72, 73, 74, 75, 76, 77, 78, 79, 80, 81, 82, 83, 84, 85, 86, 87, 88, 89, 90, 97, 98, 99, 100, 101, 102, 103, 104, 105, 106, 107, 108, 109, 110, 111, 112, 113, 114, 115, 116, 117, 118, 119, 120, 121, 122, 48, 49, 50, 51, 52, 53, 54, 55, 56, 57, 45, 95] : List UInt8) (bits .and .i64 (shlI .i64 t1.1 (w64 ((6 : Int) - t1.2.1))) 63)) fun y7 => Option.bind (Builder_WriteByte_p t1.2.2 y7) fun y8 => some (y8)) else (some (t1.2.2))) (fun t4 => Option.bind (chk (decide ((t4).length ≤ 68719476736))) fun y9 => some (t4)))
theorem codec_Base64_c {S : Mem} {w : World} (hS : Sub S w) {x0 : List UInt8} {r : (List UInt8)} (hF : codec_Base64_p x0 = some r) :
    Calls Try.prog 66 #[str (x0)] w fun e w' => e = .returned (str (r)) ∧ Ext w w' := by
 refine enter (n := 49) Try.func66 rfl rfl rfl ?_
 have H := HS.start hS
 unfold codec_Base64_p at hF
 refine sr ?_; intro K1 hK1
 refine p_as (v := str (([] : List UInt8))) rfl ?_
 refine xk hK1 ?_; clear hK1
 refine sr ?_; intro K2 hK2
 refine p_ofb (a_alloc (l := ([Value.pointer none] ++ ([Value.slice none 0 0]))) H tz99 rfl) ?_; clear H; intro w1 b1 H
 refine xk hK2 ?_; clear hK2
 refine sr ?_; intro K3 hK3
 refine p_as (v := .int .i64 (0)) rfl ?_
 refine p_as (v := .int .i64 (0)) rfl ?_
 refine xk hK3 ?_; clear hK3
 refine wp_seq_k ?_; intro K4 hK4
 refine nameF fun m1 k1 => ?_
 obtain ⟨t1, hE1, hF1⟩ := bnd hF
 have J4 : ∀ (a5 : Value) (v6 : Value) (cs6 rs6 : List Value) (S6 : Mem) (m10 : FM) (w8 : World), (∀ t, has [4, 5, 7, 8, 9, 10, 11, 12, 13, 14, 15, 16, 17, 18, 19, 20, 21, 22, 23, 24, 25, 26, 27, 28, 29, 30, 31, 32, 33, 34, 35, 36, 37, 38] t = false → look m10 t = look m1 t) → look m10 4 = .int .i64 (t1.1) → look m10 5 = .int .i64 (t1.2.1) → Mem.le S S6 → HS ⟨S, [], w⟩ S6 w8 [.osl (v6) (t1.2.2).length 1 cs6 rs6 5, .blk b1 (([a5] ++ ([v6]))) 99] → BA b1 a5 → RL S6 cs6 t1.2.2 → K4 (fr 49 m10) w8 := by
  clear H; intro a5 v6 cs6 rs6 S6 m10 w8 k12 q25 q26 hle6 H g11 g12
  have q27 : look m10 3 = .pointer (some ⟨b1, 0, none⟩) := (k12 3 rfl).trans (k1 3)
  refine hK4 _ _ ?_
  refine wp_seq_k ?_; intro K15 hK15
  refine nameF fun m11 k13 => ?_
  obtain ⟨t4, hE6, hF4⟩ := bnd hF1
  have J3 : ∀ (v7 : Value) (cs7 rs7 : List Value) (a6 : Value) (S8 : Mem) (m12 : FM) (w10 : World), (∀ t, has [39, 40, 41, 42, 43, 44, 45, 46, 47] t = false → look m12 t = look m11 t) → Mem.le S6 S8 → HS ⟨S, [], w⟩ S8 w10 [.osl (v7) (t4).length 1 cs7 rs7 5, .blk b1 (([a6] ++ ([v7]))) 99] → RL S8 cs7 t4 → BA b1 a6 → K15 (fr 49 m12) w10 := by
   clear H; intro v7 cs7 rs7 a6 S8 m12 w10 k14 hle8 H g13 g14
   have q28 : look m12 3 = .pointer (some ⟨b1, 0, none⟩) := (k14 3 rfl).trans ((k13 3).trans q27)
   refine hK15 _ _ ?_
   refine sr ?_; intro K17 hK17
   obtain ⟨y9, e9, hF4⟩ := bnd hF4
   refine p_call (l := [.pointer (some ⟨b1, 0, none⟩)]) is48 (args_cons q28 args_nil) ?_
   refine (Builder_String_c (k1 := 1) (k2 := 0) H rfl rfl g13 (Nat.le_trans (of_decide_eq_true (chk_some e9)) (by decide))).mono ?_; clear H; rintro _ w11 ⟨rfl, H⟩
   replace H : HS ⟨S, [], w⟩ S8 w11 [.blk b1 (([a6] ++ ([v7]))) 99] := H
   refine p_as (v := str (t4)) rfl ?_
   refine xk hK17 ?_; clear hK17
   refine wp_ret ?_
   obtain rfl := Option.some.inj hF4
   refine e_1 rfl (q_tmp (v := str (t4)) rfl) ?_
   exact ⟨rfl, H.toExt⟩
  refine sr ?_; intro K16 hK16
  refine p_mv ((k13 5).trans q26) ?_
  refine p_val (r_gtrI rfl rfl) ?_
  refine xk hK16 ?_; clear hK16
  refine c_split (t := decide ((0 : Int) < t1.2.1)) rfl (fun hc3 => ?_) (fun hc3 => ?_)
  ·replace hE6 := cnd_t hE6 hc3
   refine wp_region_lit ?_
   refine p_mv ((k13 4).trans q25) ?_
   refine p_mv ((k13 5).trans q26) ?_
   refine p_val (r_subI rfl rfl) ?_
   obtain ⟨y6, e6, hE6⟩ := bnd hE6
   refine p_val (r_shl (r := shlI .i64 t1.1 (w64 ((6 : Int) - t1.2.1))) rfl rfl (Int.not_lt.2 (of_decide_eq_true (chk_some e6))) rfl) ?_
   refine p_val (r_bits (bo := .and) (by simp) (r := (bits .and .i64 (shlI .i64 t1.1 (w64 ((6 : Int) - t1.2.1))) 63)) rfl rfl rfl) ?_
   obtain ⟨y7, e7, hE6⟩ := bnd hE6
   refine p_val (r_idxT (i := ((bits .and .i64 (shlI .i64 t1.1 (w64 ((6 : Int) - t1.2.1))) 63) : Int).toNat) (u := y7) u9 rfl rfl (idx_some e7).1 (idx_some e7).2) ?_
   obtain ⟨y8, e8, hE6⟩ := bnd hE6
   refine p_call (l := [.pointer (some ⟨b1, 0, none⟩), .int .u8 (((y7).toNat : Int))]) is78 (args_cons ((k13 3).trans q27) (args_cons rfl args_nil)) ?_
   refine (Builder_WriteByte_c (H.hand [1, 0] rfl) g12 g11 e8).mono ?_; rintro _ w9 ⟨S7, pv2, pcs2, prs2, pa2, rfl, H2, pg3, pg4⟩
   obtain ⟨H1, hle7⟩ := H.frame [1, 0] [] rfl H2; clear H H2; have H := H1; clear H1
   replace H : HS ⟨S, [], w⟩ S7 w9 [.blk b1 (([pa2] ++ ([pv2]))) 99, .osl (pv2) (y8).length 1 pcs2 prs2 5] := H
   refine wpList_nil ?_
   refine x_norm ?_
   replace H := H.sel [1, 0] rfl
   replace H : HS ⟨S, [], w⟩ S7 w9 [.osl (pv2) (y8).length 1 pcs2 prs2 5, .blk b1 (([pa2] ++ ([pv2]))) 99] := H
   obtain rfl := Option.some.inj hE6
   exact J3 _ _ _ _ _ _ _ (by (repeat (refine keep_cons rfl ?_)); exact fun _ _ => rfl) hle7 H pg3 pg4
  ·replace hE6 := cnd_f hE6 hc3
   refine wp_skip ?_
   refine x_norm ?_
   replace H : HS ⟨S, [], w⟩ S6 w8 [.osl (v6) (t1.2.2).length 1 cs6 rs6 5, .blk b1 (([a5] ++ ([v6]))) 99] := H
   obtain rfl := Option.some.inj hE6
   exact J3 _ _ _ _ _ _ _ (by (repeat (refine keep_cons rfl ?_)); exact fun _ _ => rfl) (Mem.le_refl _) H g12 g11
 refine sr ?_; intro K5 hK5
 refine p_mv (k1 0) ?_
 refine p_of1 (a_bytes (l := x0) u9 u67 u5 H rfl) ?_; clear H; rintro w2 v1 ⟨rs1, H⟩
 have g1 : RL S (u8s x0) x0 := RL.of_u8s _
 replace H : HS ⟨S, [], w⟩ S w2 [.osl (v1) (x0).length 1 (u8s x0) rs1 5, .blk b1 (([Value.pointer none] ++ ([Value.slice none 0 0]))) 99] := H
 refine p_val (r_lenO u67 rfl H (k := 0) rfl rfl) ?_
 refine p_mv (v := .int .i64 (0)) rfl ?_
 refine xk hK5 ?_; clear hK5
 refine wp_block ?_
 refine nameF fun m2 k2 => ?_
 obtain ⟨out1, hL1, hE2⟩ := bnd hE1
 replace H := H.nilOwn 1 5; have g4 : RL S [] ([] : List UInt8) := RL.nil
 replace H : HS ⟨S, [], w⟩ S w2 [.osl (.slice none 0 0) (([] : List UInt8)).length 1 [] [] 5, .osl (v1) (x0).length 1 (u8s x0) rs1 5, .blk b1 (([Value.pointer none] ++ ([Value.slice none 0 0]))) 99] := H
 refine loopI [4, 5, 7, 11, 12, 13, 14, 15, 16, 17, 18, 19, 20, 21, 22, 23, 24, 25, 26, 27, 28, 29, 30, 31, 32, 33, 34, 35, 36, 37, 38] (fun (s1 : Int × Int × Int × (List UInt8)) (m3 : FM) (w3 : World) => ∃ (S1 : Mem) (a1 : Value) (v2 : Value) (cs1 rs2 : List Value), look m3 4 = .int .i64 (s1.1) ∧ look m3 5 = .int .i64 (s1.2.1) ∧ look m3 11 = .int .i64 (s1.2.2.1) ∧ Mem.le S S1 ∧ HS ⟨S, [], w⟩ S1 w3 [.osl (v2) (s1.2.2.2).length 1 cs1 rs2 5, .osl (v1) (x0).length 1 (u8s x0) rs1 5, .blk b1 (([a1] ++ ([v2]))) 99] ∧ BA b1 a1 ∧ RL S1 cs1 s1.2.2.2) hL1 ⟨_, _, _, _, _, ((k2 4).trans (k1 4)), ((k2 5).trans (k1 5)), (k2 11), (Mem.le_refl _), H, (Or.inl rfl), g4⟩ ?_
 clear H; intro k4 s1 m3 w3 k3 hI1 o2 hb1 hh1; obtain ⟨S1, a1, v2, cs1, rs2, q1, q2, q3, hle1, H, g2, g3⟩ := hI1
 replace g1 := RL.mono g1 hle1
 have q4 : look m3 3 = .pointer (some ⟨b1, 0, none⟩) := (k3 3 rfl).trans ((k2 3).trans (k1 3))
 have q5 : look m3 9 = v1 := (k3 9 rfl).trans (k2 9)
 have q6 : look m3 10 = .int .i64 (((x0).length : Int)) := (k3 10 rfl).trans (k2 10)
 unfold codec_Base64_b0 at hb1
 refine sr ?_; intro K6 hK6
 refine p_val (r_lssI q3 q6) ?_
 refine xk hK6 ?_; clear hK6
 refine wp_seq_k ?_; intro K7 hK7
 refine c_split (t := decide (s1.2.2.1 < ((x0).length : Int))) rfl (fun hc1 => ?_) (fun hc1 => ?_)
 ·replace hb1 := cnd_t hb1 hc1
  refine wp_skip ?_
  refine xn hK7 ?_; clear hK7
  refine wp_seq_k ?_; intro K8 hK8
  refine nameF fun m4 k5 => ?_
  obtain ⟨t2, hE3, hF2⟩ := bnd hb1
  have J2 : ∀ (v5 : Value) (cs5 rs5 : List Value) (a4 : Value) (S5 : Mem) (m9 : FM) (w7 : World), (∀ t, has [4, 5, 7, 13, 14, 15, 16, 17, 18, 19, 20, 21, 22, 23, 24, 25, 26, 27, 28, 29, 30, 31, 32, 33, 34, 35, 36, 37] t = false → look m9 t = look m4 t) → look m9 4 = .int .i64 (t2.1) → look m9 5 = .int .i64 (t2.2.1) → Mem.le S1 S5 → HS ⟨S, [], w⟩ S5 w7 [.osl (v5) (t2.2.2).length 1 cs5 rs5 5, .osl (v1) (x0).length 1 (u8s x0) rs1 5, .blk b1 (([a4] ++ ([v5]))) 99] → RL S5 cs5 t2.2.2 → BA b1 a4 → K8 (fr 49 m9) w7 := by
   clear H; intro v5 cs5 rs5 a4 S5 m9 w7 k11 q19 q20 hle5 H g9 g10
   replace g1 := RL.mono g1 hle5
   have q21 : look m9 3 = .pointer (some ⟨b1, 0, none⟩) := (k11 3 rfl).trans ((k5 3).trans q4)
   have q22 : look m9 9 = v1 := (k11 9 rfl).trans ((k5 9).trans q5)
   have q23 : look m9 10 = .int .i64 (((x0).length : Int)) := (k11 10 rfl).trans ((k5 10).trans q6)
   have q24 : look m9 11 = .int .i64 (s1.2.2.1) := (k11 11 rfl).trans ((k5 11).trans q3)
   refine hK8 _ _ ?_
   refine wp_region_lit ?_
   refine p_val (r_addI q24 rfl) ?_
   refine p_mv (v := .int .i64 ((w64 (s1.2.2.1 + 1)))) rfl ?_
   refine wpList_nil ?_
   refine x_norm ?_
   replace H : HS ⟨S, [], w⟩ S5 w7 [.osl (v5) (t2.2.2).length 1 cs5 rs5 5, .osl (v1) (x0).length 1 (u8s x0) rs1 5, .blk b1 (([a4] ++ ([v5]))) 99] := H
   obtain rfl := Option.some.inj hF2
   exact ⟨(t2.1, t2.2.1, (w64 (s1.2.2.1 + 1)), t2.2.2), _, rfl, (by (repeat (refine keep_cons rfl ?_)); refine keep_sub k11 rfl ?_; (repeat (refine keep_cons rfl ?_)); refine keep_name k5 ?_; (repeat (refine keep_cons rfl ?_)); refine keep_sub k3 rfl ?_; (repeat (refine keep_cons rfl ?_)); exact fun _ _ => rfl), ⟨_, _, _, _, _, q19, q20, rfl, (Mem.le_trans hle1 hle5), H, g10, g9⟩, hh1⟩
  refine wp_block ?_
  refine sr ?_; intro K9 hK9
  obtain ⟨y1, e1, hE3⟩ := bnd hE3
  obtain ⟨b2, c1, hv1⟩ := H.ownAt (k := 1) rfl (idx_lt e1)
  refine p_val (r_addrV (i := (s1.2.2.1 : Int).toNat) u67 tsz5 ((k5 9).trans q5) hv1 ((k5 11).trans q3) (idx_some e1).1 (idx_lt e1)) ?_
  subst hv1
  have hr1 := RL.get g1 (idx_some e1).2; generalize hghr1 : piece (u8s x0) _ _ = cs2 at hr1
  obtain rfl := elU8 hr1
  refine p_val (o_load1 (v := .int .u8 (((y1).toNat : Int))) to5 H (k := 1) rfl rfl (idx_lt e1) hghr1) ?_
  refine p_as (v := .int .u8 (((y1).toNat : Int))) rfl ?_
  refine xk hK9 ?_; clear hK9
  refine sr ?_; intro K10 hK10
  refine p_mv ((k5 4).trans q1) ?_
  refine p_val (r_shl (r := shlI .i64 s1.1 8) rfl rfl (by decide) rfl) ?_
  refine p_mv (v := .int .u8 (((y1).toNat : Int))) rfl ?_
  refine p_val (r_conv u5 u3 rfl (w64_u8 _)) ?_
  refine p_val (r_bits (bo := .or) (by simp) (r := (bits .or .i64 (shlI .i64 s1.1 8) ((y1).toNat : Int))) rfl rfl rfl) ?_
  refine p_mv ((k5 5).trans q2) ?_
  refine p_val (r_addI rfl rfl) ?_
  refine p_as (v := .int .i64 ((bits .or .i64 (shlI .i64 s1.1 8) ((y1).toNat : Int)))) rfl ?_
  refine p_as (v := .int .i64 ((w64 (s1.2.1 + 8)))) rfl ?_
  refine xk hK10 ?_; clear hK10
  refine wp_seq_k ?_; intro K11 hK11
  refine nameF fun m5 k6 => ?_
  obtain ⟨t3, hE4, hF3⟩ := bnd hE3
  have J1 : ∀ (v4 : Value) (cs4 rs4 : List Value) (a3 : Value) (S4 : Mem) (m8 : FM) (w6 : World), (∀ t, has [5, 22, 23, 24, 25, 26, 27, 28, 29, 30, 31, 32] t = false → look m8 t = look m5 t) → look m8 5 = .int .i64 (t3.1) → Mem.le S1 S4 → HS ⟨S, [], w⟩ S4 w6 [.osl (v4) (t3.2).length 1 cs4 rs4 5, .osl (sl b2 0 (x0).length c1) (x0).length 1 (u8s x0) rs1 5, .blk b1 (([a3] ++ ([v4]))) 99] → RL S4 cs4 t3.2 → BA b1 a3 → K11 (fr 49 m8) w6 := by
   clear H; intro v4 cs4 rs4 a3 S4 m8 w6 k10 q13 hle4 H g7 g8
   replace g1 := RL.mono g1 hle4
   have q14 : look m8 3 = .pointer (some ⟨b1, 0, none⟩) := (k10 3 rfl).trans ((k6 3).trans ((k5 3).trans q4))
   have q15 : look m8 9 = sl b2 0 (x0).length c1 := (k10 9 rfl).trans ((k6 9).trans ((k5 9).trans q5))
   have q16 : look m8 10 = .int .i64 (((x0).length : Int)) := (k10 10 rfl).trans ((k6 10).trans ((k5 10).trans q6))
   have q17 : look m8 4 = .int .i64 ((bits .or .i64 (shlI .i64 s1.1 8) ((y1).toNat : Int))) := (k10 4 rfl).trans (k6 4)
   have q18 : look m8 11 = .int .i64 (s1.2.2.1) := (k10 11 rfl).trans ((k6 11).trans ((k5 11).trans q3))
   refine hK11 _ _ ?_
   refine wp_region_lit ?_
   refine p_mv q17 ?_
   refine p_mv q13 ?_
   obtain ⟨y5, e5, hF3⟩ := bnd hF3
   refine p_val (r_shl (r := shlI .i64 1 t3.1) rfl rfl (Int.not_lt.2 (of_decide_eq_true (chk_some e5))) rfl) ?_
   refine p_val (r_subI rfl rfl) ?_
   refine p_val (r_bits (bo := .and) (by simp) (r := (bits .and .i64 (bits .or .i64 (shlI .i64 s1.1 8) ((y1).toNat : Int)) (w64 ((shlI .i64 1 t3.1) - 1)))) rfl rfl rfl) ?_
   refine p_as (v := .int .i64 ((bits .and .i64 (bits .or .i64 (shlI .i64 s1.1 8) ((y1).toNat : Int)) (w64 ((shlI .i64 1 t3.1) - 1))))) rfl ?_
   refine wpList_nil ?_
   refine b_norm ?_
   refine x_norm ?_
   replace H : HS ⟨S, [], w⟩ S4 w6 [.osl (v4) (t3.2).length 1 cs4 rs4 5, .osl (sl b2 0 (x0).length c1) (x0).length 1 (u8s x0) rs1 5, .blk b1 (([a3] ++ ([v4]))) 99] := H
   obtain rfl := Option.some.inj hF3
   exact J2 _ _ _ _ _ _ _ (by (repeat (refine keep_cons rfl ?_)); refine keep_sub k10 rfl ?_; (repeat (refine keep_cons rfl ?_)); refine keep_name k6 ?_; (repeat (refine keep_cons rfl ?_)); exact fun _ _ => rfl) rfl q13 hle4 H g7 g8
  refine wp_block ?_
  refine nameF fun m6 k7 => ?_
  obtain ⟨out2, hL2, hE5⟩ := bnd hE4
  replace H : HS ⟨S, [], w⟩ S1 w3 [.osl (v2) (s1.2.2.2).length 1 cs1 rs2 5, .osl (sl b2 0 (x0).length c1) (x0).length 1 (u8s x0) rs1 5, .blk b1 (([a1] ++ ([v2]))) 99] := H
  refine loopI [5, 22, 23, 24, 25, 26, 27, 28, 29, 30, 31, 32] (fun (s2 : Int × (List UInt8)) (m7 : FM) (w4 : World) => ∃ (S2 : Mem) (v3 : Value) (cs3 rs3 : List Value) (a2 : Value), look m7 5 = .int .i64 (s2.1) ∧ Mem.le S1 S2 ∧ HS ⟨S, [], w⟩ S2 w4 [.osl (v3) (s2.2).length 1 cs3 rs3 5, .osl (sl b2 0 (x0).length c1) (x0).length 1 (u8s x0) rs1 5, .blk b1 (([a2] ++ ([v3]))) 99] ∧ RL S2 cs3 s2.2 ∧ BA b1 a2) hL2 ⟨_, _, _, _, _, ((k7 5).trans (k6 5)), (Mem.le_refl _), H, g3, g2⟩ ?_
  clear H; intro k9 s2 m7 w4 k8 hI2 o5 hb2 hh2; obtain ⟨S2, v3, cs3, rs3, a2, q7, hle2, H, g5, g6⟩ := hI2
  replace g1 := RL.mono g1 hle2
  have q8 : look m7 3 = .pointer (some ⟨b1, 0, none⟩) := (k8 3 rfl).trans ((k7 3).trans ((k6 3).trans ((k5 3).trans q4)))
  have q9 : look m7 9 = sl b2 0 (x0).length c1 := (k8 9 rfl).trans ((k7 9).trans ((k6 9).trans ((k5 9).trans q5)))
  have q10 : look m7 10 = .int .i64 (((x0).length : Int)) := (k8 10 rfl).trans ((k7 10).trans ((k6 10).trans ((k5 10).trans q6)))
  have q11 : look m7 4 = .int .i64 ((bits .or .i64 (shlI .i64 s1.1 8) ((y1).toNat : Int))) := (k8 4 rfl).trans ((k7 4).trans (k6 4))
  have q12 : look m7 11 = .int .i64 (s1.2.2.1) := (k8 11 rfl).trans ((k7 11).trans ((k6 11).trans ((k5 11).trans q3)))
  unfold codec_Base64_b1 at hb2
  refine wp_seq_k ?_; intro K12 hK12
  refine sr ?_; intro K13 hK13
  refine p_mv q7 ?_
  refine p_val (r_geqI rfl rfl) ?_
  refine xk hK13 ?_; clear hK13
  refine c_split (t := decide ((6 : Int) ≤ s2.1)) rfl (fun hc2 => ?_) (fun hc2 => ?_)
  ·replace hb2 := cnd_t hb2 hc2
   refine wp_skip ?_
   refine xn hK12 ?_; clear hK12
   refine wp_seq_k ?_; intro K14 hK14
   refine wp_block ?_
   refine wp_region_lit ?_
   refine p_mv q11 ?_
   refine p_mv q7 ?_
   refine p_val (r_subI rfl rfl) ?_
   obtain ⟨y2, e2, hb2⟩ := bnd hb2
   refine p_val (r_shr (r := shrI .i64 (bits .or .i64 (shlI .i64 s1.1 8) ((y1).toNat : Int)) (w64 (s2.1 - 6))) rfl rfl (Int.not_lt.2 (of_decide_eq_true (chk_some e2))) rfl) ?_
   refine p_val (r_bits (bo := .and) (by simp) (r := (bits .and .i64 (shrI .i64 (bits .or .i64 (shlI .i64 s1.1 8) ((y1).toNat : Int)) (w64 (s2.1 - 6))) 63)) rfl rfl rfl) ?_
   obtain ⟨y3, e3, hb2⟩ := bnd hb2
   refine p_val (r_idxT (i := ((bits .and .i64 (shrI .i64 (bits .or .i64 (shlI .i64 s1.1 8) ((y1).toNat : Int)) (w64 (s2.1 - 6))) 63) : Int).toNat) (u := y3) u9 rfl rfl (idx_some e3).1 (idx_some e3).2) ?_
   obtain ⟨y4, e4, hb2⟩ := bnd hb2
   refine p_call (l := [.pointer (some ⟨b1, 0, none⟩), .int .u8 (((y3).toNat : Int))]) is78 (args_cons q8 (args_cons rfl args_nil)) ?_
   refine (Builder_WriteByte_c (H.hand [2, 0] rfl) g5 g6 e4).mono ?_; rintro _ w5 ⟨S3, pv1, pcs1, prs1, pa1, rfl, H2, pg1, pg2⟩
   obtain ⟨H1, hle3⟩ := H.frame [2, 0] [1] rfl H2; clear H H2; have H := H1; clear H1
   replace g1 := RL.mono g1 hle3
   replace H : HS ⟨S, [], w⟩ S3 w5 [.blk b1 (([pa1] ++ ([pv1]))) 99, .osl (pv1) (y4).length 1 pcs1 prs1 5, .osl (sl b2 0 (x0).length c1) (x0).length 1 (u8s x0) rs1 5] := H
   refine wpList_nil ?_
   refine b_norm ?_
   refine xn hK14 ?_; clear hK14
   refine wp_region_lit ?_
   refine p_mv q7 ?_
   refine p_val (r_subI rfl rfl) ?_
   refine p_as (v := .int .i64 ((w64 (s2.1 - 6)))) rfl ?_
   refine wpList_nil ?_
   refine x_norm ?_
   replace H := H.sel [1, 2, 0] rfl
   replace H : HS ⟨S, [], w⟩ S3 w5 [.osl (pv1) (y4).length 1 pcs1 prs1 5, .osl (sl b2 0 (x0).length c1) (x0).length 1 (u8s x0) rs1 5, .blk b1 (([pa1] ++ ([pv1]))) 99] := H
   obtain rfl := Option.some.inj hb2
   exact ⟨((w64 (s2.1 - 6)), y4), _, rfl, (by (repeat (refine keep_cons rfl ?_)); refine keep_sub k8 rfl ?_; (repeat (refine keep_cons rfl ?_)); exact fun _ _ => rfl), ⟨_, _, _, _, _, rfl, (Mem.le_trans hle2 hle3), H, pg1, pg2⟩, hh2⟩
  ·replace hb2 := cnd_f hb2 hc2
   refine wp_exit ?_
   refine x_exit ?_
   refine x_exit ?_
   refine b_hit ?_
   refine x_norm ?_
   replace H : HS ⟨S, [], w⟩ S2 w4 [.osl (v3) (s2.2).length 1 cs3 rs3 5, .osl (sl b2 0 (x0).length c1) (x0).length 1 (u8s x0) rs1 5, .blk b1 (([a2] ++ ([v3]))) 99] := H
   obtain rfl := Option.some.inj hb2
   obtain rfl := Option.some.inj hh2
   obtain rfl := Option.some.inj hE5
   exact J1 _ _ _ _ _ _ _ (by (repeat (refine keep_cons rfl ?_)); refine keep_sub k8 rfl ?_; (repeat (refine keep_cons rfl ?_)); refine keep_name k7 ?_; (repeat (refine keep_cons rfl ?_)); exact fun _ _ => rfl) q7 hle2 H g5 g6
 ·replace hb1 := cnd_f hb1 hc1
  refine wp_exit ?_
  refine x_exit ?_
  refine x_exit ?_
  refine b_hit ?_
  refine x_norm ?_
  replace H := H.sel [0, 2] rfl
  replace H : HS ⟨S, [], w⟩ S1 w3 [.osl (v2) (s1.2.2.2).length 1 cs1 rs2 5, .blk b1 (([a1] ++ ([v2]))) 99] := H
  obtain rfl := Option.some.inj hb1
  obtain rfl := Option.some.inj hh1
  obtain rfl := Option.some.inj hE2
  exact J4 _ _ _ _ _ _ _ (by (repeat (refine keep_cons rfl ?_)); refine keep_sub k3 rfl ?_; (repeat (refine keep_cons rfl ?_)); refine keep_name k2 ?_; (repeat (refine keep_cons rfl ?_)); exact fun _ _ => rfl) q1 q2 hle1 H g2 g3
end Go.Proofs.Ytmbcolbbekbccaa
