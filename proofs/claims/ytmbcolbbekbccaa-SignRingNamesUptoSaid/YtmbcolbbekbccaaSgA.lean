/- What some functions compute, and that they do. Conditions: as each theorem says. -/
import Derived.Test.YtmbcolbbekbccaaGs
import Derived.Test.YtmbcolbbekbccaaHsB
namespace Go.Proofs.Ytmbcolbbekbccaa
open Go Go.RowKit
attribute [local irreducible] wpList wpT Code.wp Calls Code.rounds
theorem is17 : IsFn Try.prog 17 := isFn Try.func17 (by kernel_rfl) (by kernel_rfl)
theorem is21 : IsFn Try.prog 21 := isFn Try.func21 (by kernel_rfl) (by kernel_rfl)
theorem is23 : IsFn Try.prog 23 := isFn Try.func23 (by kernel_rfl) (by kernel_rfl)
theorem is28 : IsFn Try.prog 28 := isFn Try.func28 (by kernel_rfl) (by kernel_rfl)
theorem is31 : IsFn Try.prog 31 := isFn Try.func31 (by kernel_rfl) (by kernel_rfl)
theorem eqt24 (x y : UInt64 × UInt64 × UInt64 × UInt64) : EqR Try.prog 2 24 (.agg (cl24 x).toArray) (.agg (cl24 y).toArray) (x == y) :=
  EqR.arr (k := 4) (E := 22) (sz := 1) (by kernel_rfl) (fun w => sz22 w) (l := [(22, 0), (22, 1), (22, 2), (22, 3)]) rfl (EqL.cons (part1 (v := Value.int .u64 ((x.1.toNat : Int))) to22 rfl) (part1 (v := Value.int .u64 ((y.1.toNat : Int))) to22 rfl) (eqU64 u22) (EqL.cons (part1 (v := Value.int .u64 ((x.2.1.toNat : Int))) to22 rfl) (part1 (v := Value.int .u64 ((y.2.1.toNat : Int))) to22 rfl) (eqU64 u22) (EqL.cons (part1 (v := Value.int .u64 ((x.2.2.1.toNat : Int))) to22 rfl) (part1 (v := Value.int .u64 ((y.2.2.1.toNat : Int))) to22 rfl) (eqU64 u22) (EqL.last (part1 (v := Value.int .u64 ((x.2.2.2.toNat : Int))) to22 rfl) (part1 (v := Value.int .u64 ((y.2.2.2.toNat : Int))) to22 rfl) (eqU64 u22)))))
theorem tsz24 : TSz Try.prog 24 4 := fun _ => by kernel_rfl
theorem tsz29 : TSz Try.prog 29 9 := fun _ => by kernel_rfl
def sign_zero_p  : Option ((UInt64 × UInt64 × UInt64 × UInt64)) :=
  some (((0 : UInt64), (0 : UInt64), (0 : UInt64), (0 : UInt64)))
theorem sign_zero_c {S : Mem} {w : World} (hS : Sub S w)  {r : (UInt64 × UInt64 × UInt64 × UInt64)} (hF : sign_zero_p = some r) :
    Calls Try.prog 21 #[] w fun e w' => e = .returned (.agg ((cl24 r)).toArray) ∧ Ext w w' := by
 refine enter (n := 2) Try.func21 rfl rfl rfl ?_
 have H := HS.start hS
 unfold sign_zero_p at hF
 refine sr ?_; intro K1 hK1
 refine p_ofb (a_alloc (l := (cl24 ((0 : UInt64), (0 : UInt64), (0 : UInt64), (0 : UInt64)))) H tz24 rfl) ?_; clear H; intro w1 b1 H
 refine xk hK1 ?_; clear hK1
 refine sr ?_; intro K2 hK2
 refine p_val (r_build (vals := []) (l := (cl24 ((0 : UInt64), (0 : UInt64), (0 : UInt64), (0 : UInt64)))) tb24 rfl rfl) ?_
 refine p_ofs (a_store (k := 0) (v := .agg ((cl24 ((0 : UInt64), (0 : UInt64), (0 : UInt64), (0 : UInt64)))).toArray) (l := (cl24 ((0 : UInt64), (0 : UInt64), (0 : UInt64), (0 : UInt64)))) tsz24 H rfl rfl rfl (cells_agg _) rfl (fun u hu => List.all_eq_true.1 (rfl : ((cl24 ((0 : UInt64), (0 : UInt64), (0 : UInt64), (0 : UInt64)))).all (·.oneCell') = true) u hu) rfl) ?_; clear H; intro w2 H
 replace H : HS ⟨S, [], w⟩ S w2 [.blk b1 ((cl24 ((0 : UInt64), (0 : UInt64), (0 : UInt64), (0 : UInt64)))) 24] := H
 refine xk hK2 ?_; clear hK2
 refine wp_ret ?_
 obtain rfl := Option.some.inj hF
 refine e_1 rfl (qh_cell (l := (cl24 ((0 : UInt64), (0 : UInt64), (0 : UInt64), (0 : UInt64)))) tg24 H rfl (k := 0) rfl rfl rfl) ?_
 exact ⟨rfl, H.toExt⟩
def sign_fine_p (x0 : UInt64 × UInt64 × UInt64 × UInt64) : Option (Bool) :=
  Option.bind (sign_zero_p) fun y1 => bif ((x0 : UInt64 × UInt64 × UInt64 × UInt64) != (y1 : UInt64 × UInt64 × UInt64 × UInt64)) then (Option.bind (sign_zero_p) fun y2 => Option.bind (field_Add_p 1 x0 y2) fun y3 => some (((y3 : UInt64 × UInt64 × UInt64 × UInt64) == (x0 : UInt64 × UInt64 × UInt64 × UInt64)))) else (some (false))
theorem sign_fine_c {S : Mem} {w : World} (hS : Sub S w) {x0 : UInt64 × UInt64 × UInt64 × UInt64} {r : Bool} (hF : sign_fine_p x0 = some r) :
    Calls Try.prog 17 #[.agg ((cl24 x0)).toArray] w fun e w' => e = .returned (.bool (r)) ∧ Ext w w' := by
 refine enter (n := 13) Try.func17 rfl rfl rfl ?_
 have H := HS.start hS
 unfold sign_fine_p at hF
 refine sr ?_; intro K1 hK1
 refine p_ofb (a_box (l := (cl24 x0)) H rfl) ?_; clear H; intro w1 b1 H
 refine p_as (v := .bool (false)) rfl ?_
 refine xk hK1 ?_; clear hK1
 refine wp_seq_k ?_; intro K2 hK2
 obtain ⟨y1, e1, hF⟩ := bnd hF
 rcases Bool.eq_false_or_eq_true (((x0 : UInt64 × UInt64 × UInt64 × UInt64) != (y1 : UInt64 × UInt64 × UInt64 × UInt64))) with hb1 | hb1
 ·replace hF := cnd_t hF hb1
  obtain ⟨y2, e2, hF⟩ := bnd hF
  obtain ⟨y3, e3, hF⟩ := bnd hF
  apply wp_region_ext 10 (kindsF [(1, .inl (.agg ((cl24 y1)).toArray)), (5, .inl (.agg ((cl24 y2)).toArray)), (6, .inl (.agg ((cl24 y3)).toArray))]) rfl rfl (by kernel_rfl); intro vs1
  simp only [List.take_succ_cons, List.take_zero, List.drop_succ_cons, List.drop_zero]
  replace H := H.drew
  refine t_v (fun w hx => h_load (l := (cl24 x0)) tg24 (H.ext hx) rfl (k := 0) rfl rfl rfl) ?_
  refine t_call (l := []) rfl rfl is21 rfl (fun w hx hF => (sign_zero_c (H.ext hx).sub e1).mono (fun _ _ ⟨he, hx⟩ => ⟨he, hx⟩)) ?_
  refine t_v (fun w hx => r_neR eg24 (by decide) (eqt24 x0 y1) rfl rfl) ?_
  refine t_v (fun w hx => r_move (v := .bool (((x0 : UInt64 × UInt64 × UInt64 × UInt64) != (y1 : UInt64 × UInt64 × UInt64 × UInt64)))) rfl) ?_
  refine t_valG rfl hb1 (fun w hx => h_load (l := (cl24 x0)) tg24 (H.ext hx) rfl (k := 0) rfl rfl rfl) rfl rfl ?_
  refine t_callG rfl hb1 (l := []) rfl rfl is21 rfl (fun w hx hF => (sign_zero_c (H.ext hx).sub e2).mono (fun _ _ ⟨he, hx⟩ => ⟨he, hx⟩)) ?_
  refine t_callG rfl hb1 (l := [.int .i64 (1), .agg ((cl24 x0)).toArray, .agg ((cl24 y2)).toArray]) rfl rfl is22 rfl (fun w hx hF => (field_Add_c (H.ext hx).sub e3).mono (fun _ _ ⟨he, hx⟩ => ⟨he, hx⟩)) ?_
  refine t_valG rfl hb1 (fun w hx => h_load (l := (cl24 x0)) tg24 (H.ext hx) rfl (k := 0) rfl rfl rfl) rfl rfl ?_
  refine t_valG rfl hb1 (fun w hx => r_eqR eg24 (by decide) (eqt24 y3 x0) rfl rfl) rfl rfl ?_
  refine t_v (fun w hx => r_pickt (v := .bool (((y3 : UInt64 × UInt64 × UInt64 × UInt64) == (x0 : UInt64 × UInt64 × UInt64 × UInt64)))) rfl hb1 rfl) ?_
  refine t_nil (fun w2 hx hF hA => ?_)
  replace H := H.ext hx; clear hx hF hA
  refine p_as (v := .bool (((y3 : UInt64 × UInt64 × UInt64 × UInt64) == (x0 : UInt64 × UInt64 × UInt64 × UInt64)))) rfl ?_
  refine wpList_nil ?_; refine on_norm ?_
  refine xn hK2 ?_; clear hK2
  refine wp_ret ?_
  obtain rfl := Option.some.inj hF
  refine e_1 rfl (q_tmp (v := .bool (((y3 : UInt64 × UInt64 × UInt64 × UInt64) == (x0 : UInt64 × UInt64 × UInt64 × UInt64)))) rfl) ?_
  exact ⟨rfl, H.toExt⟩
 ·replace hF := cnd_f hF hb1
  apply wp_region_ext 10 (kindsF [(1, .inl (.agg ((cl24 y1)).toArray))]) rfl rfl (by kernel_rfl); intro vs1
  simp only [List.take_succ_cons, List.take_zero, List.drop_succ_cons, List.drop_zero]
  replace H := H.drew
  refine t_v (fun w hx => h_load (l := (cl24 x0)) tg24 (H.ext hx) rfl (k := 0) rfl rfl rfl) ?_
  refine t_call (l := []) rfl rfl is21 rfl (fun w hx hF => (sign_zero_c (H.ext hx).sub e1).mono (fun _ _ ⟨he, hx⟩ => ⟨he, hx⟩)) ?_
  refine t_v (fun w hx => r_neR eg24 (by decide) (eqt24 x0 y1) rfl rfl) ?_
  refine t_v (fun w hx => r_move (v := .bool (((x0 : UInt64 × UInt64 × UInt64 × UInt64) != (y1 : UInt64 × UInt64 × UInt64 × UInt64)))) rfl) ?_
  refine t_skip rfl hb1 rfl ?_
  rw [put_fr]
  refine t_skip rfl hb1 rfl ?_
  rw [put_fr]
  refine t_skip rfl hb1 rfl ?_
  rw [put_fr]
  refine t_skip rfl hb1 rfl ?_
  rw [put_fr]
  refine t_skip rfl hb1 rfl ?_
  rw [put_fr]
  refine t_v (fun w hx => r_pickf (v := .bool (false)) rfl hb1 rfl) ?_
  refine t_nil (fun w3 hx hF hA => ?_)
  replace H := H.ext hx; clear hx hF hA
  refine p_as (v := .bool (false)) rfl ?_
  refine wpList_nil ?_; refine on_norm ?_
  refine xn hK2 ?_; clear hK2
  refine wp_ret ?_
  obtain rfl := Option.some.inj hF
  refine e_1 rfl (q_tmp (v := .bool (false)) rfl) ?_
  exact ⟨rfl, H.toExt⟩
def sign_times_p (x0 : UInt64 × UInt64 × UInt64 × UInt64) : Option (((UInt64 × UInt64 × UInt64 × UInt64) × (UInt64 × UInt64 × UInt64 × UInt64) × Bool)) :=
  Option.bind (curve_Base_p) fun y1 => Option.bind (curve_Mul_p x0 y1) fun y2 => some (y2.1)
theorem sign_times_c {S : Mem} {w : World} (hS : Sub S w) {x0 : UInt64 × UInt64 × UInt64 × UInt64} {r : ((UInt64 × UInt64 × UInt64 × UInt64) × (UInt64 × UInt64 × UInt64 × UInt64) × Bool)} (hF : sign_times_p x0 = some r) :
    Calls Try.prog 23 #[.agg ((cl24 x0)).toArray] w fun e w' => e = .returned (.agg ((cl29 r)).toArray) ∧ Ext w w' := by
 refine enter (n := 12) Try.func23 rfl rfl rfl ?_
 have H := HS.start hS
 unfold sign_times_p at hF
 refine sr ?_; intro K1 hK1
 refine p_ofb (a_box (l := (cl24 x0)) H rfl) ?_; clear H; intro w1 b1 H
 refine p_ofb (a_alloc (l := (cl29 (((0 : UInt64), (0 : UInt64), (0 : UInt64), (0 : UInt64)), ((0 : UInt64), (0 : UInt64), (0 : UInt64), (0 : UInt64)), false))) H tz29 rfl) ?_; clear H; intro w2 b2 H
 refine xk hK1 ?_; clear hK1
 refine wp_seq_k ?_; intro K2 hK2
 obtain ⟨y1, e1, hF⟩ := bnd hF
 obtain ⟨y2, e2, hF⟩ := bnd hF
 apply wp_region_ext 7 (kindsF [(1, .inl (.agg ((cl29 y1)).toArray)), (2, .inl (.tuple #[.agg ((cl29 y2.1)).toArray, .int .i64 (y2.2)])), (6, .inr (lowR (NewAt w2.drew ((cl29 (((0 : UInt64), (0 : UInt64), (0 : UInt64), (0 : UInt64)), ((0 : UInt64), (0 : UInt64), (0 : UInt64), (0 : UInt64)), false))) 29)))]) rfl rfl (by kernel_rfl); intro vs1
 simp only [List.take_succ_cons, List.take_zero, List.drop_succ_cons, List.drop_zero]
 replace H := H.drew
 refine t_v (fun w hx => h_load (l := (cl24 x0)) tg24 (H.ext hx) rfl (k := 1) rfl rfl rfl) ?_
 refine t_call (l := []) rfl rfl is28 rfl (fun w hx hF => (curve_Base_c (H.ext hx).sub e1).mono (fun _ _ ⟨he, hx⟩ => ⟨he, hx⟩)) ?_
 refine t_call (l := [.agg ((cl24 x0)).toArray, .agg ((cl29 y1)).toArray]) rfl rfl is31 rfl (fun w hx hF => (curve_Mul_c (H.ext hx).sub e2).mono (fun _ _ ⟨he, hx⟩ => ⟨he, hx⟩)) ?_
 refine t_v (fun w hx => r_move (v := .tuple #[.agg ((cl29 y2.1)).toArray, .int .i64 (y2.2)]) rfl) ?_
 refine t_v (fun w hx => r_extract (v := .agg ((cl29 y2.1)).toArray) rfl rfl) ?_
 refine t_float (fun w => r_extract (v := .int .i64 (y2.2)) rfl rfl) rfl rfl ?_
 refine t_alloc rfl rfl tz29 rfl ?_
 refine t_nil (fun w3 hx hF hA => ?_)
 obtain ⟨F1, hd1, h01⟩ := depE hF
 obtain ⟨⟨b3, eq1, hb1, hh1⟩, hn1⟩ := fact_relF hF 6 rfl rfl
 have hle1 := gf_le (F := F1) (w := w3) H.sub; replace H := (HS.adopt (H.callF (F := F1) hx) (Nat.le_trans H.fr.size hb1) (gf_none hb1 (by rw [h01]; exact noF hA (by decide) rfl eq1 hn1)) hh1 (HS.keys_lt H hb1)); clear hx hF hA hd1 h01; generalize gf S w2.drew F1 w3 = S1 at hle1 H
 refine p_ofs (a_store (k := 0) (v := .agg ((cl29 y2.1)).toArray) (l := (cl29 y2.1)) tsz29 H eq1 rfl rfl (cells_agg _) rfl (fun u hu => List.all_eq_true.1 (rfl : ((cl29 y2.1)).all (·.oneCell') = true) u hu) rfl) ?_; clear H; intro w4 H
 replace H : HS ⟨S, [], w⟩ S1 w4 [.blk b3 ((cl29 y2.1)) 29, .blk b2 ((cl29 (((0 : UInt64), (0 : UInt64), (0 : UInt64), (0 : UInt64)), ((0 : UInt64), (0 : UInt64), (0 : UInt64), (0 : UInt64)), false))) 29, .blk b1 ((cl24 x0)) 24] := H
 refine p_as (v := .int .i64 (y2.2)) rfl ?_
 refine wpList_nil ?_; refine on_norm ?_
 refine xn hK2 ?_; clear hK2
 refine sr ?_; intro K3 hK3
 refine p_val (h_load (l := (cl29 y2.1)) tg29 H eq1 (k := 0) rfl rfl rfl) ?_
 refine p_ofs (a_store (k := 1) (v := .agg ((cl29 y2.1)).toArray) (l := (cl29 y2.1)) tsz29 H rfl rfl rfl (cells_agg _) rfl (fun u hu => List.all_eq_true.1 (rfl : ((cl29 y2.1)).all (·.oneCell') = true) u hu) rfl) ?_; clear H; intro w5 H
 replace H : HS ⟨S, [], w⟩ S1 w5 [.blk b3 ((cl29 y2.1)) 29, .blk b2 ((cl29 y2.1)) 29, .blk b1 ((cl24 x0)) 24] := H
 refine xk hK3 ?_; clear hK3
 refine wp_ret ?_
 obtain rfl := Option.some.inj hF
 refine e_1 rfl (qh_cell (l := (cl29 y2.1)) tg29 H rfl (k := 1) rfl rfl rfl) ?_
 exact ⟨rfl, H.toExt⟩
def sign_Public_p (x0 : UInt64 × UInt64 × UInt64 × UInt64) : Option (((UInt64 × UInt64 × UInt64 × UInt64) × (UInt64 × UInt64 × UInt64 × UInt64) × Bool) × Int) :=
  Option.bind (sign_fine_p x0) fun y1 => bif (!y1) then (some (((((0 : UInt64), (0 : UInt64), (0 : UInt64), (0 : UInt64)), ((0 : UInt64), (0 : UInt64), (0 : UInt64), (0 : UInt64)), false), 80))) else (Option.bind (sign_times_p x0) fun y2 => some ((y2, 0)))
theorem sign_Public_c {S : Mem} {w : World} (hS : Sub S w) {x0 : UInt64 × UInt64 × UInt64 × UInt64} {r : ((UInt64 × UInt64 × UInt64 × UInt64) × (UInt64 × UInt64 × UInt64 × UInt64) × Bool) × Int} (hF : sign_Public_p x0 = some r) :
    Calls Try.prog 6 #[.agg ((cl24 x0)).toArray] w fun e w' => e = .returned (.tuple #[.agg ((cl29 r.1)).toArray, .int .i64 (r.2)]) ∧ Ext w w' := by
 refine enter (n := 10) Try.func6 rfl rfl rfl ?_
 have H := HS.start hS
 unfold sign_Public_p at hF
 refine sr ?_; intro K1 hK1
 refine p_ofb (a_box (l := (cl24 x0)) H rfl) ?_; clear H; intro w1 b1 H
 refine p_ofb (a_alloc (l := (cl29 (((0 : UInt64), (0 : UInt64), (0 : UInt64), (0 : UInt64)), ((0 : UInt64), (0 : UInt64), (0 : UInt64), (0 : UInt64)), false))) H tz29 rfl) ?_; clear H; intro w2 b2 H
 refine p_as (v := .int .i64 (0)) rfl ?_
 refine xk hK1 ?_; clear hK1
 refine wp_seq_k ?_; intro K2 hK2
 refine sr ?_; intro K3 hK3
 refine p_val (h_load (l := (cl24 x0)) tg24 H rfl (k := 1) rfl rfl rfl) ?_
 obtain ⟨y1, e1, hF⟩ := bnd hF
 refine p_call (l := [.agg ((cl24 x0)).toArray]) is17 rfl ?_
 refine (sign_fine_c H.sub e1).mono ?_; rintro _ w3 ⟨rfl, hx⟩; replace H := H.ext hx; clear hx
 refine p_val (r_not (t := (!y1)) rfl rfl) ?_
 refine xk hK3 ?_; clear hK3
 refine c_split (t := (!y1)) rfl (fun hc1 => ?_) (fun hc1 => ?_)
 ·replace hF := cnd_t hF hc1
  refine sr ?_; intro K4 hK4
  refine p_val (r_build (vals := []) (l := (cl29 (((0 : UInt64), (0 : UInt64), (0 : UInt64), (0 : UInt64)), ((0 : UInt64), (0 : UInt64), (0 : UInt64), (0 : UInt64)), false))) tb29 rfl rfl) ?_
  refine p_ofs (a_store (k := 0) (v := .agg ((cl29 (((0 : UInt64), (0 : UInt64), (0 : UInt64), (0 : UInt64)), ((0 : UInt64), (0 : UInt64), (0 : UInt64), (0 : UInt64)), false))).toArray) (l := (cl29 (((0 : UInt64), (0 : UInt64), (0 : UInt64), (0 : UInt64)), ((0 : UInt64), (0 : UInt64), (0 : UInt64), (0 : UInt64)), false))) tsz29 H rfl rfl rfl (cells_agg _) rfl (fun u hu => List.all_eq_true.1 (rfl : ((cl29 (((0 : UInt64), (0 : UInt64), (0 : UInt64), (0 : UInt64)), ((0 : UInt64), (0 : UInt64), (0 : UInt64), (0 : UInt64)), false))).all (·.oneCell') = true) u hu) rfl) ?_; clear H; intro w4 H
  replace H : HS ⟨S, [], w⟩ S w4 [.blk b2 ((cl29 (((0 : UInt64), (0 : UInt64), (0 : UInt64), (0 : UInt64)), ((0 : UInt64), (0 : UInt64), (0 : UInt64), (0 : UInt64)), false))) 29, .blk b1 ((cl24 x0)) 24] := H
  refine p_as (v := .int .i64 (80)) rfl ?_
  refine xk hK4 ?_; clear hK4
  refine wp_ret ?_
  refine x_ret ?_
  obtain rfl := Option.some.inj hF
  refine e_2 rfl (qh_cell (l := (cl29 (((0 : UInt64), (0 : UInt64), (0 : UInt64), (0 : UInt64)), ((0 : UInt64), (0 : UInt64), (0 : UInt64), (0 : UInt64)), false))) tg29 H rfl (k := 0) rfl rfl rfl) (q_tmp (v := .int .i64 (80)) rfl) ?_
  exact ⟨rfl, H.toExt⟩
 ·replace hF := cnd_f hF hc1
  refine wp_skip ?_
  refine xn hK2 ?_; clear hK2
  refine sr ?_; intro K5 hK5
  refine p_val (h_load (l := (cl24 x0)) tg24 H rfl (k := 1) rfl rfl rfl) ?_
  obtain ⟨y2, e2, hF⟩ := bnd hF
  refine p_call (l := [.agg ((cl24 x0)).toArray]) is23 rfl ?_
  refine (sign_times_c H.sub e2).mono ?_; rintro _ w5 ⟨rfl, hx⟩; replace H := H.ext hx; clear hx
  refine p_ofs (a_store (k := 0) (v := .agg ((cl29 y2)).toArray) (l := (cl29 y2)) tsz29 H rfl rfl rfl (cells_agg _) rfl (fun u hu => List.all_eq_true.1 (rfl : ((cl29 y2)).all (·.oneCell') = true) u hu) rfl) ?_; clear H; intro w6 H
  replace H : HS ⟨S, [], w⟩ S w6 [.blk b2 ((cl29 y2)) 29, .blk b1 ((cl24 x0)) 24] := H
  refine p_as (v := .int .i64 (0)) rfl ?_
  refine xk hK5 ?_; clear hK5
  refine wp_ret ?_
  obtain rfl := Option.some.inj hF
  refine e_2 rfl (qh_cell (l := (cl29 y2)) tg29 H rfl (k := 0) rfl rfl rfl) (q_tmp (v := .int .i64 (0)) rfl) ?_
  exact ⟨rfl, H.toExt⟩
end Go.Proofs.Ytmbcolbbekbccaa
