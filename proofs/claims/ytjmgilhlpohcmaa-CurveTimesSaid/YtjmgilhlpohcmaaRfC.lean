/- What some functions compute, and that they do. Conditions: as each theorem says. -/
import Derived.Test.YtjmgilhlpohcmaaRfB
namespace Go.Proofs.Ytjmgilhlpohcmaa
open Go Go.RowKit
attribute [local irreducible] wpList wpT Code.wp Calls Code.rounds
theorem tg52 : TAgg Try.prog 52 9 := ⟨fun _ => by kernel_rfl, fun _ => by kernel_rfl⟩
theorem to4 : TOne Try.prog 4 := ⟨fun _ => by kernel_rfl, fun _ => by kernel_rfl⟩
theorem tz52 : TZero Try.prog 52 (.agg #[.int .u64 0, .int .u64 0, .int .u64 0, .int .u64 0, .int .u64 0, .int .u64 0, .int .u64 0, .int .u64 0, .bool false]) := fun _ => by kernel_rfl
theorem eg24 : Try.prog.eqGuardType Try.prog.depth 24 = false := by kernel_rfl
theorem is16 : IsFn Try.prog 16 := isFn Try.func16 (by kernel_rfl) (by kernel_rfl)
theorem is22 : IsFn Try.prog 22 := isFn Try.func22 (by kernel_rfl) (by kernel_rfl)
theorem is24 : IsFn Try.prog 24 := isFn Try.func24 (by kernel_rfl) (by kernel_rfl)
theorem is26 : IsFn Try.prog 26 := isFn Try.func26 (by kernel_rfl) (by kernel_rfl)
theorem is74 : IsFn Try.prog 74 := isFn Try.func74 (by kernel_rfl) (by kernel_rfl)
theorem is75 : IsFn Try.prog 75 := isFn Try.func75 (by kernel_rfl) (by kernel_rfl)
theorem is76 : IsFn Try.prog 76 := isFn Try.func76 (by kernel_rfl) (by kernel_rfl)
theorem is77 : IsFn Try.prog 77 := isFn Try.func77 (by kernel_rfl) (by kernel_rfl)
theorem tb52 : TBuild Try.prog 52 (.agg #[.int .u64 0, .int .u64 0, .int .u64 0, .int .u64 0, .int .u64 0, .int .u64 0, .int .u64 0, .int .u64 0, .bool false]) [(0, 4), (4, 4), (8, 1)] := tbuildS (fs := fieldsOf Try.prog 52) (by kernel_rfl) tz52 (fun _ => by kernel_rfl)
theorem fa52_0 : TField Try.prog 52 0 0 := fun _ _ _ => by kernel_rfl
theorem fa52_1 : TField Try.prog 52 1 4 := fun _ _ _ => by kernel_rfl
theorem fa52_2 : TField Try.prog 52 2 8 := fun _ _ _ => by kernel_rfl
def cl52 (x : (UInt64 × UInt64 × UInt64 × UInt64) × (UInt64 × UInt64 × UInt64 × UInt64) × Bool) : List Value := cl24 x.1 ++ (cl24 x.2.1 ++ ([Value.bool (x.2.2)]))
theorem rp52c {S : Mem} (x : (UInt64 × UInt64 × UInt64 × UInt64) × (UInt64 × UInt64 × UInt64 × UInt64) × Bool) : Rp.rep S (cl52 x) x := rpP (rp24c _) (rpP (rp24c _) (rpB))
theorem el52c {S : Mem} {c : List Value} {x : (UInt64 × UInt64 × UInt64 × UInt64) × (UInt64 × UInt64 × UInt64 × UInt64) × Bool} (h : Rp.rep S c x) : c = cl52 x := by
  obtain ⟨c0, d0, rfl, h0, k1⟩ := elP h; obtain rfl := el24c h0
  obtain ⟨c1, d1, rfl, h1, k2⟩ := elP k1; obtain rfl := el24c h1
  obtain rfl := elB k2; rfl
theorem eqt24 (x y : UInt64 × UInt64 × UInt64 × UInt64) : EqR Try.prog 2 24 (.agg (cl24 x).toArray) (.agg (cl24 y).toArray) (x == y) :=
  EqR.arr (k := 4) (E := 22) (sz := 1) (by kernel_rfl) (fun w => sz22 w) (l := [(22, 0), (22, 1), (22, 2), (22, 3)]) rfl (EqL.cons (part1 (v := Value.int .u64 ((x.1.toNat : Int))) to22 rfl) (part1 (v := Value.int .u64 ((y.1.toNat : Int))) to22 rfl) (eqU64 u22) (EqL.cons (part1 (v := Value.int .u64 ((x.2.1.toNat : Int))) to22 rfl) (part1 (v := Value.int .u64 ((y.2.1.toNat : Int))) to22 rfl) (eqU64 u22) (EqL.cons (part1 (v := Value.int .u64 ((x.2.2.1.toNat : Int))) to22 rfl) (part1 (v := Value.int .u64 ((y.2.2.1.toNat : Int))) to22 rfl) (eqU64 u22) (EqL.last (part1 (v := Value.int .u64 ((x.2.2.2.toNat : Int))) to22 rfl) (part1 (v := Value.int .u64 ((y.2.2.2.toNat : Int))) to22 rfl) (eqU64 u22)))))
theorem tsz52 : TSz Try.prog 52 9 := fun _ => by kernel_rfl
def seneschalref07_b_p  : Option ((List UInt32)) :=
  Option.bind (seneschalref06_In_p ((4309448131093880907 : UInt64), (7285987128567378166 : UInt64), (12964664127075681980 : UInt64), (6540974713487397863 : UInt64))) fun y1 => some (y1)
theorem seneschalref07_b_c {S : Mem} {w : World} (hS : Sub S w)  {r : (List UInt32)} (hF : seneschalref07_b_p = some r) :
    Calls Try.prog 77 #[] w fun e w' => Ext w w' ∧ ∃ (v0' : Value), e = .returned (v0') ∧ RdS (gr S w w') v0' r := by
 refine enter (n := 3) Try.func77 rfl rfl rfl ?_
 have H := HS.start hS
 unfold seneschalref07_b_p at hF
 refine sr ?_; intro K1 hK1
 refine p_as (v := .slice none 0 0) rfl ?_
 refine xk hK1 ?_; clear hK1
 refine sr ?_; intro K2 hK2
 refine p_val (r_build (vals := [(0, .int .u64 (4309448131093880907)), (1, .int .u64 (7285987128567378166)), (2, .int .u64 (12964664127075681980)), (3, .int .u64 (6540974713487397863))]) (l := (cl24 ((4309448131093880907 : UInt64), (7285987128567378166 : UInt64), (12964664127075681980 : UInt64), (6540974713487397863 : UInt64)))) tb24 rfl rfl) ?_
 obtain ⟨y1, e1, hF⟩ := bnd hF
 refine p_call (l := [.agg ((cl24 ((4309448131093880907 : UInt64), (7285987128567378166 : UInt64), (12964664127075681980 : UInt64), (6540974713487397863 : UInt64)))).toArray]) is16 rfl ?_
 refine (seneschalref06_In_c H.sub e1).mono ?_; rintro _ w1 ⟨hx, v1, rfl, g1⟩
 have hle1 := gr_le (w' := w1) H.sub; replace H := H.call hx; clear hx; generalize gr S w w1 = S1 at hle1 H g1
 refine p_as (v := v1) rfl ?_
 refine xk hK2 ?_; clear hK2
 refine wp_ret ?_
 obtain rfl := Option.some.inj hF
 refine e_1 rfl (q_tmp (v := v1) rfl) ?_
 exact ⟨H.toExt, _, rfl, RdS.mono g1 H.gr⟩
def seneschalref07_Base_p  : Option (((UInt64 × UInt64 × UInt64 × UInt64) × (UInt64 × UInt64 × UInt64 × UInt64) × Bool)) :=
  some ((((17627433388654248598 : UInt64), (8575836109218198432 : UInt64), (17923454489921339634 : UInt64), (7716867327612699207 : UInt64)), ((14678990851816772085 : UInt64), (3156516839386865358 : UInt64), (10297457778147434006 : UInt64), (5756518291402817435 : UInt64)), false))
theorem seneschalref07_Base_c {S : Mem} {w : World} (hS : Sub S w)  {r : ((UInt64 × UInt64 × UInt64 × UInt64) × (UInt64 × UInt64 × UInt64 × UInt64) × Bool)} (hF : seneschalref07_Base_p = some r) :
    Calls Try.prog 79 #[] w fun e w' => e = .returned (.agg ((cl52 r)).toArray) ∧ Ext w w' := by
 refine enter (n := 4) Try.func79 rfl rfl rfl ?_
 have H := HS.start hS
 unfold seneschalref07_Base_p at hF
 refine sr ?_; intro K1 hK1
 refine p_ofb (a_alloc (l := (cl52 (((0 : UInt64), (0 : UInt64), (0 : UInt64), (0 : UInt64)), ((0 : UInt64), (0 : UInt64), (0 : UInt64), (0 : UInt64)), false))) H tz52 rfl) ?_; clear H; intro w1 b1 H
 refine xk hK1 ?_; clear hK1
 refine sr ?_; intro K2 hK2
 refine p_val (r_build (vals := [(0, .int .u64 (17627433388654248598)), (1, .int .u64 (8575836109218198432)), (2, .int .u64 (17923454489921339634)), (3, .int .u64 (7716867327612699207))]) (l := (cl24 ((17627433388654248598 : UInt64), (8575836109218198432 : UInt64), (17923454489921339634 : UInt64), (7716867327612699207 : UInt64)))) tb24 rfl rfl) ?_
 refine p_val (r_build (vals := [(0, .int .u64 (14678990851816772085)), (1, .int .u64 (3156516839386865358)), (2, .int .u64 (10297457778147434006)), (3, .int .u64 (5756518291402817435))]) (l := (cl24 ((14678990851816772085 : UInt64), (3156516839386865358 : UInt64), (10297457778147434006 : UInt64), (5756518291402817435 : UInt64)))) tb24 rfl rfl) ?_
 refine p_val (r_build (vals := [(0, .agg ((cl24 ((17627433388654248598 : UInt64), (8575836109218198432 : UInt64), (17923454489921339634 : UInt64), (7716867327612699207 : UInt64)))).toArray), (1, .agg ((cl24 ((14678990851816772085 : UInt64), (3156516839386865358 : UInt64), (10297457778147434006 : UInt64), (5756518291402817435 : UInt64)))).toArray)]) (l := (cl52 (((17627433388654248598 : UInt64), (8575836109218198432 : UInt64), (17923454489921339634 : UInt64), (7716867327612699207 : UInt64)), ((14678990851816772085 : UInt64), (3156516839386865358 : UInt64), (10297457778147434006 : UInt64), (5756518291402817435 : UInt64)), false))) tb52 rfl rfl) ?_
 refine p_ofs (a_store (k := 0) (v := .agg ((cl52 (((17627433388654248598 : UInt64), (8575836109218198432 : UInt64), (17923454489921339634 : UInt64), (7716867327612699207 : UInt64)), ((14678990851816772085 : UInt64), (3156516839386865358 : UInt64), (10297457778147434006 : UInt64), (5756518291402817435 : UInt64)), false))).toArray) (l := (cl52 (((17627433388654248598 : UInt64), (8575836109218198432 : UInt64), (17923454489921339634 : UInt64), (7716867327612699207 : UInt64)), ((14678990851816772085 : UInt64), (3156516839386865358 : UInt64), (10297457778147434006 : UInt64), (5756518291402817435 : UInt64)), false))) tsz52 H rfl rfl rfl (cells_agg _) rfl (fun u hu => List.all_eq_true.1 (rfl : ((cl52 (((17627433388654248598 : UInt64), (8575836109218198432 : UInt64), (17923454489921339634 : UInt64), (7716867327612699207 : UInt64)), ((14678990851816772085 : UInt64), (3156516839386865358 : UInt64), (10297457778147434006 : UInt64), (5756518291402817435 : UInt64)), false))).all (·.oneCell') = true) u hu) rfl) ?_; clear H; intro w2 H
 replace H : HS ⟨S, [], w⟩ S w2 [.blk b1 ((cl52 (((17627433388654248598 : UInt64), (8575836109218198432 : UInt64), (17923454489921339634 : UInt64), (7716867327612699207 : UInt64)), ((14678990851816772085 : UInt64), (3156516839386865358 : UInt64), (10297457778147434006 : UInt64), (5756518291402817435 : UInt64)), false))) 52] := H
 refine xk hK2 ?_; clear hK2
 refine wp_ret ?_
 obtain rfl := Option.some.inj hF
 refine e_1 rfl (qh_cell (l := (cl52 (((17627433388654248598 : UInt64), (8575836109218198432 : UInt64), (17923454489921339634 : UInt64), (7716867327612699207 : UInt64)), ((14678990851816772085 : UInt64), (3156516839386865358 : UInt64), (10297457778147434006 : UInt64), (5756518291402817435 : UInt64)), false))) tg52 H rfl (k := 0) rfl rfl rfl) ?_
 exact ⟨rfl, H.toExt⟩
def seneschalref07_times_p (x0 : List UInt32) (x1 : List UInt32) : Option ((List UInt32)) :=
  Option.bind (seneschalref06_Product_p 0 x0 x1) fun y1 => some (y1)
theorem seneschalref07_times_c {S : Mem} {w : World} (hS : Sub S w) {v0_ : Value} {x0 : List UInt32} (h0_ : RdS S v0_ x0) {v1_ : Value} {x1 : List UInt32} (h1_ : RdS S v1_ x1) {r : (List UInt32)} (hF : seneschalref07_times_p x0 x1 = some r) :
    Calls Try.prog 76 #[v0_, v1_] w fun e w' => Ext w w' ∧ ∃ (v0' : Value), e = .returned (v0') ∧ RdS (gr S w w') v0' r := by
 refine enter (n := 8) Try.func76 rfl rfl rfl ?_
 have H := HS.start hS
 unfold seneschalref07_times_p at hF
 refine sr ?_; intro K1 hK1
 refine p_as (v := .slice none 0 0) rfl ?_
 refine xk hK1 ?_; clear hK1
 refine sr ?_; intro K2 hK2
 refine p_mv (v := v0_) rfl ?_
 refine p_mv (v := v1_) rfl ?_
 obtain ⟨y1, e1, hF⟩ := bnd hF
 refine p_call (l := [.int .i64 (0), v0_, v1_]) is26 rfl ?_
 refine (seneschalref06_Product_c H.sub h0_ h1_ e1).mono ?_; rintro _ w1 ⟨hx, v1, rfl, g1⟩
 have hle1 := gr_le (w' := w1) H.sub; replace H := H.call hx; clear hx; generalize gr S w w1 = S1 at hle1 H g1
 replace h0_ := RdS.mono h0_ hle1
 replace h1_ := RdS.mono h1_ hle1
 refine p_as (v := v1) rfl ?_
 refine xk hK2 ?_; clear hK2
 refine wp_ret ?_
 obtain rfl := Option.some.inj hF
 refine e_1 rfl (q_tmp (v := v1) rfl) ?_
 exact ⟨H.toExt, _, rfl, RdS.mono g1 H.gr⟩
def seneschalref07_plus_p (x0 : List UInt32) (x1 : List UInt32) : Option ((List UInt32)) :=
  Option.bind (seneschalref06_Sum_p 0 x0 x1) fun y1 => some (y1)
theorem seneschalref07_plus_c {S : Mem} {w : World} (hS : Sub S w) {v0_ : Value} {x0 : List UInt32} (h0_ : RdS S v0_ x0) {v1_ : Value} {x1 : List UInt32} (h1_ : RdS S v1_ x1) {r : (List UInt32)} (hF : seneschalref07_plus_p x0 x1 = some r) :
    Calls Try.prog 74 #[v0_, v1_] w fun e w' => Ext w w' ∧ ∃ (v0' : Value), e = .returned (v0') ∧ RdS (gr S w w') v0' r := by
 refine enter (n := 8) Try.func74 rfl rfl rfl ?_
 have H := HS.start hS
 unfold seneschalref07_plus_p at hF
 refine sr ?_; intro K1 hK1
 refine p_as (v := .slice none 0 0) rfl ?_
 refine xk hK1 ?_; clear hK1
 refine sr ?_; intro K2 hK2
 refine p_mv (v := v0_) rfl ?_
 refine p_mv (v := v1_) rfl ?_
 obtain ⟨y1, e1, hF⟩ := bnd hF
 refine p_call (l := [.int .i64 (0), v0_, v1_]) is22 rfl ?_
 refine (seneschalref06_Sum_c H.sub h0_ h1_ e1).mono ?_; rintro _ w1 ⟨hx, v1, rfl, g1⟩
 have hle1 := gr_le (w' := w1) H.sub; replace H := H.call hx; clear hx; generalize gr S w w1 = S1 at hle1 H g1
 replace h0_ := RdS.mono h0_ hle1
 replace h1_ := RdS.mono h1_ hle1
 refine p_as (v := v1) rfl ?_
 refine xk hK2 ?_; clear hK2
 refine wp_ret ?_
 obtain rfl := Option.some.inj hF
 refine e_1 rfl (q_tmp (v := v1) rfl) ?_
 exact ⟨H.toExt, _, rfl, RdS.mono g1 H.gr⟩
def seneschalref07_minus_p (x0 : List UInt32) (x1 : List UInt32) : Option ((List UInt32)) :=
  Option.bind (seneschalref06_Opposite_p 0 x1) fun y1 => Option.bind (seneschalref06_Sum_p 0 x0 y1) fun y2 => some (y2)
theorem seneschalref07_minus_c {S : Mem} {w : World} (hS : Sub S w) {v0_ : Value} {x0 : List UInt32} (h0_ : RdS S v0_ x0) {v1_ : Value} {x1 : List UInt32} (h1_ : RdS S v1_ x1) {r : (List UInt32)} (hF : seneschalref07_minus_p x0 x1 = some r) :
    Calls Try.prog 75 #[v0_, v1_] w fun e w' => Ext w w' ∧ ∃ (v0' : Value), e = .returned (v0') ∧ RdS (gr S w w') v0' r := by
 refine enter (n := 9) Try.func75 rfl rfl rfl ?_
 have H := HS.start hS
 unfold seneschalref07_minus_p at hF
 refine sr ?_; intro K1 hK1
 refine p_as (v := .slice none 0 0) rfl ?_
 refine xk hK1 ?_; clear hK1
 refine sr ?_; intro K2 hK2
 refine p_mv (v := v0_) rfl ?_
 refine p_mv (v := v1_) rfl ?_
 obtain ⟨y1, e1, hF⟩ := bnd hF
 refine p_call (l := [.int .i64 (0), v1_]) is24 rfl ?_
 refine (seneschalref06_Opposite_c H.sub h1_ e1).mono ?_; rintro _ w1 ⟨hx, v1, rfl, g1⟩
 have hle1 := gr_le (w' := w1) H.sub; replace H := H.call hx; clear hx; generalize gr S w w1 = S1 at hle1 H g1
 replace h0_ := RdS.mono h0_ hle1
 replace h1_ := RdS.mono h1_ hle1
 obtain ⟨y2, e2, hF⟩ := bnd hF
 refine p_call (l := [.int .i64 (0), v0_, v1]) is22 rfl ?_
 refine (seneschalref06_Sum_c H.sub h0_ g1 e2).mono ?_; rintro _ w2 ⟨hx, v2, rfl, g2⟩
 have hle2 := gr_le (w' := w2) H.sub; replace H := H.call hx; clear hx; generalize gr S1 w1 w2 = S2 at hle2 H g2
 replace h0_ := RdS.mono h0_ hle2
 replace g1 := RdS.mono g1 hle2
 refine p_as (v := v2) rfl ?_
 refine xk hK2 ?_; clear hK2
 refine wp_ret ?_
 obtain rfl := Option.some.inj hF
 refine e_1 rfl (q_tmp (v := v2) rfl) ?_
 exact ⟨H.toExt, _, rfl, RdS.mono g2 H.gr⟩
def seneschalref07_On_p (x0 : (UInt64 × UInt64 × UInt64 × UInt64) × (UInt64 × UInt64 × UInt64 × UInt64) × Bool) : Option (Bool) :=
  bif x0.2.2 then (Option.bind (bif ((x0.1 : UInt64 × UInt64 × UInt64 × UInt64) == (((0 : UInt64), (0 : UInt64), (0 : UInt64), (0 : UInt64)) : UInt64 × UInt64 × UInt64 × UInt64)) then (some (((x0.2.1 : UInt64 × UInt64 × UInt64 × UInt64) == (((0 : UInt64), (0 : UInt64), (0 : UInt64), (0 : UInt64)) : UInt64 × UInt64 × UInt64 × UInt64)))) else (some (false))) (fun t1 => some (t1))) else (Option.bind (seneschalref06_In_p x0.1) fun y1 => Option.bind (seneschalref06_In_p x0.2.1) fun y2 => Option.bind (seneschalref06_Modulus_p 0) fun y3 => Option.bind (seneschalref06_Cmp_p y1 y3) fun y4 => Option.bind (bif decide ((0 : Int) ≤ y4) then (some (true)) else (Option.bind (seneschalref06_Modulus_p 0) fun y5 => Option.bind (seneschalref06_Cmp_p y2 y5) fun y6 => some (decide ((0 : Int) ≤ y6)))) (fun t2 => bif t2 then (some (false)) else (Option.bind (seneschalref07_times_p y1 y1) fun y7 => Option.bind (seneschalref07_times_p y1 y7) fun y8 => Option.bind (seneschalref07_times_p ([(3 : UInt32)] : List UInt32) y1) fun y9 => Option.bind (seneschalref07_minus_p y8 y9) fun y10 => Option.bind (seneschalref07_b_p) fun y11 => Option.bind (seneschalref07_plus_p y10 y11) fun y12 => Option.bind (seneschalref07_times_p y2 y2) fun y13 => Option.bind (seneschalref06_Cmp_p y13 y12) fun y14 => some ((y14 == 0)))))
theorem seneschalref07_On_c {S : Mem} {w : World} (hS : Sub S w) {x0 : (UInt64 × UInt64 × UInt64 × UInt64) × (UInt64 × UInt64 × UInt64 × UInt64) × Bool} {r : Bool} (hF : seneschalref07_On_p x0 = some r) :
    Calls Try.prog 42 #[.agg ((cl52 x0)).toArray] w fun e w' => e = .returned (.bool (r)) ∧ Ext w w' := by
 refine enter (n := 51) Try.func42 rfl rfl rfl ?_
 have H := HS.start hS
 unfold seneschalref07_On_p at hF
 refine sr ?_; intro K1 hK1
 refine p_ofb (a_box (l := (cl52 x0)) H rfl) ?_; clear H; intro w1 b1 H
 refine p_as (v := .bool (false)) rfl ?_
 refine xk hK1 ?_; clear hK1
 refine wp_seq_k ?_; intro K2 hK2
 refine sr ?_; intro K3 hK3
 refine p_val (r_field fa52_2 rfl) ?_
 refine p_val (h_load1 (v := .bool (x0.2.2)) to4 H rfl (k := 0) rfl rfl) ?_
 refine xk hK3 ?_; clear hK3
 refine c_split (t := x0.2.2) rfl (fun hc1 => ?_) (fun hc1 => ?_)
 ·replace hF := cnd_t hF hc1
  refine sr ?_; intro K4 hK4
  refine p_val (r_field fa52_0 rfl) ?_
  refine p_val (h_load (l := (cl24 x0.1)) tg24 H rfl (k := 0) rfl rfl rfl) ?_
  refine p_val (r_build (vals := []) (l := (cl24 ((0 : UInt64), (0 : UInt64), (0 : UInt64), (0 : UInt64)))) tb24 rfl rfl) ?_
  refine p_val (r_eqR eg24 (by decide) (eqt24 x0.1 ((0 : UInt64), (0 : UInt64), (0 : UInt64), (0 : UInt64))) rfl rfl) ?_
  refine p_mv (v := .bool (((x0.1 : UInt64 × UInt64 × UInt64 × UInt64) == (((0 : UInt64), (0 : UInt64), (0 : UInt64), (0 : UInt64)) : UInt64 × UInt64 × UInt64 × UInt64)))) rfl ?_
  refine nameL fun m1 k1 => ?_
  refine gs_at 5 fun K5 hK5 R2 hR2 => ?_
  obtain ⟨t1, hE1, hF1⟩ := bnd hF
  have J1 : ∀ (m2 : FM) (w2 : World), (∀ t, has [13, 14, 15, 16, 17] t = false → look m2 t = look m1 t) → look m2 17 = .bool (t1) → HS ⟨S, [], w⟩ S w2 [.blk b1 ((cl52 x0)) 52] → K5 m2 w2 := by
   clear H; intro m2 w2 k2 q1 H
   refine hK5 _ _ ?_
   refine p_as (v := .bool (t1)) q1 ?_
   refine xk hK4 ?_; clear hK4
   refine wp_ret ?_
   refine x_ret ?_
   obtain rfl := Option.some.inj hF1
   refine e_1 rfl (q_tmp (v := .bool (t1)) rfl) ?_
   exact ⟨rfl, H.toExt⟩
  refine p_gs (j := 4) (gvl_at rfl rfl (k1 12)) (fun hb1 => ?_) (fun hb1 => ?_)
  ·replace hE1 := cnd_t hE1 hb1
   refine p_want (gvl_at rfl rfl (k1 12)) hb1 ?_
   refine p_val (r_field fa52_1 (k1 1)) ?_
   refine p_want (gvl_at rfl rfl (k1 12)) hb1 ?_
   refine p_val (h_load (l := (cl24 x0.2.1)) tg24 H rfl (k := 0) rfl rfl rfl) ?_
   refine p_want (gvl_at rfl rfl (k1 12)) hb1 ?_
   refine p_val (r_build (vals := []) (l := (cl24 ((0 : UInt64), (0 : UInt64), (0 : UInt64), (0 : UInt64)))) tb24 rfl rfl) ?_
   refine p_want (gvl_at rfl rfl (k1 12)) hb1 ?_
   refine p_val (r_eqR eg24 (by decide) (eqt24 x0.2.1 ((0 : UInt64), (0 : UInt64), (0 : UInt64), (0 : UInt64))) rfl rfl) ?_
   refine p_val (r_pickt (v := .bool (((x0.2.1 : UInt64 × UInt64 × UInt64 × UInt64) == (((0 : UInt64), (0 : UInt64), (0 : UInt64), (0 : UInt64)) : UInt64 × UInt64 × UInt64 × UInt64)))) (k1 12) hb1 rfl) ?_
   refine hR2 _ _ ?_
   replace H : HS ⟨S, [], w⟩ S w1 [.blk b1 ((cl52 x0)) 52] := H
   obtain rfl := Option.some.inj hE1
   exact J1 _ _ (by (repeat (refine keep_cons rfl ?_)); exact fun _ _ => rfl) rfl H
  ·replace hE1 := cnd_f hE1 hb1
   refine p_skip (gvl_at rfl rfl (k1 12)) hb1 ?_
   rw [put_fr]
   refine p_skip (gvl_at rfl rfl (k1 12)) hb1 ?_
   rw [put_fr]
   refine p_skip (gvl_at rfl rfl (k1 12)) hb1 ?_
   rw [put_fr]
   refine p_skip (gvl_at rfl rfl (k1 12)) hb1 ?_
   rw [put_fr]
   refine p_val (r_pickf (v := .bool (false)) (k1 12) hb1 rfl) ?_
   refine hR2 _ _ ?_
   replace H : HS ⟨S, [], w⟩ S w1 [.blk b1 ((cl52 x0)) 52] := H
   obtain rfl := Option.some.inj hE1
   exact J1 _ _ (by (repeat (refine keep_cons rfl ?_)); exact fun _ _ => rfl) rfl H
 ·replace hF := cnd_f hF hc1
  refine wp_skip ?_
  refine xn hK2 ?_; clear hK2
  refine wp_seq_k ?_; intro K6 hK6
  obtain ⟨y1, e1, hF⟩ := bnd hF
  obtain ⟨y2, e2, hF⟩ := bnd hF
  apply wp_region_ext 6 (kindsF [(2, .inr (fun g w' => RdS (gf S w1.drew g.f w') g.v y1)), (5, .inr (fun g w' => RdS (gf S w1.drew g.f w') g.v y2))]) rfl rfl (by kernel_rfl); intro vs1
  simp only [List.take_succ_cons, List.take_zero, List.drop_succ_cons, List.drop_zero]
  replace H := H.drew
  refine t_v (fun w hx => r_field fa52_0 rfl) ?_
  refine t_v (fun w hx => h_load (l := (cl24 x0.1)) tg24 (H.ext hx) rfl (k := 0) rfl rfl rfl) ?_
  refine t_callF (l := [.agg ((cl24 x0.1)).toArray]) rfl rfl (stRd) is16 rfl (fun w hx hF => callRd hx (seneschalref06_In_c (gf_sub H.sub hx) e1)) ?_
  refine t_v (fun w hx => r_field fa52_1 rfl) ?_
  refine t_v (fun w hx => h_load (l := (cl24 x0.2.1)) tg24 (H.ext hx) rfl (k := 0) rfl rfl rfl) ?_
  refine t_callF (l := [.agg ((cl24 x0.2.1)).toArray]) rfl rfl (stRd) is16 rfl (fun w hx hF => callRd hx (seneschalref06_In_c (gf_sub H.sub hx) e2)) ?_
  refine t_nil (fun w3 hx hF hA => ?_)
  obtain ⟨F1, hd1, h01⟩ := depE hF
  have g3 := RdS.mono (fact_relF hF 2 rfl rfl) (hd1 2 rfl rfl)
  have g4 := RdS.mono (fact_relF hF 5 rfl rfl) (hd1 5 rfl rfl)
  have hle1 := gf_le (F := F1) (w := w3) H.sub; replace H := H.callF (F := F1) hx; clear hx hF hA hd1 h01; generalize gf S w1.drew F1 w3 = S1 at hle1 H g3 g4
  refine p_as (v := (vs1 2).v) rfl ?_
  refine p_as (v := (vs1 5).v) rfl ?_
  refine wpList_nil ?_; refine on_norm ?_
  refine xn hK6 ?_; clear hK6
  refine wp_seq_k ?_; intro K7 hK7
  refine sr ?_; intro K8 hK8
  refine p_mv (v := (vs1 2).v) rfl ?_
  obtain ⟨y3, e3, hF⟩ := bnd hF
  refine p_call (l := [.int .i64 (0)]) is20 rfl ?_
  refine (seneschalref06_Modulus_c H.sub e3).mono ?_; rintro _ w4 ⟨hx, v1, rfl, g5⟩
  have hle2 := gr_le (w' := w4) H.sub; replace H := H.call hx; clear hx; generalize gr S1 w3 w4 = S2 at hle2 H g5
  replace g3 := RdS.mono g3 hle2
  replace g4 := RdS.mono g4 hle2
  obtain ⟨y4, e4, hF⟩ := bnd hF
  refine p_call (l := [(vs1 2).v, v1]) is35 rfl ?_
  refine (seneschalref06_Cmp_c H.sub g3 g5 e4).mono ?_; rintro _ w5 ⟨rfl, hx⟩; replace H := H.ext hx; clear hx
  refine p_val (r_geq (t := decide ((0 : Int) ≤ y4)) rfl rfl rfl) ?_
  refine p_mv (v := .bool (decide ((0 : Int) ≤ y4))) rfl ?_
  refine nameL fun m3 k3 => ?_
  refine gs_at 5 fun K9 hK9 R3 hR3 => ?_
  obtain ⟨t2, hE2, hF2⟩ := bnd hF
  have J2 : ∀ (S4 : Mem) (m4 : FM) (w8 : World), (∀ t, has [29, 30, 31, 32, 33] t = false → look m4 t = look m3 t) → look m4 33 = .bool (t2) → Mem.le S2 S4 → HS ⟨S, [], w⟩ S4 w8 [.blk b1 ((cl52 x0)) 52] → K9 m4 w8 := by
   clear H; intro S4 m4 w8 k4 q2 hle4 H
   replace g3 := RdS.mono g3 hle4
   replace g4 := RdS.mono g4 hle4
   replace g5 := RdS.mono g5 hle4
   have q3 : look m4 3 = (vs1 2).v := (k4 3 rfl).trans (k3 3)
   have q4 : look m4 4 = (vs1 5).v := (k4 4 rfl).trans (k3 4)
   refine hK9 _ _ ?_
   refine xk hK8 ?_; clear hK8
   refine c_split (t := t2) q2 (fun hc2 => ?_) (fun hc2 => ?_)
   ·replace hF2 := cnd_t hF2 hc2
    refine sr ?_; intro K10 hK10
    refine p_as (v := .bool (false)) rfl ?_
    refine xk hK10 ?_; clear hK10
    refine wp_ret ?_
    refine x_ret ?_
    obtain rfl := Option.some.inj hF2
    refine e_1 rfl (q_tmp (v := .bool (false)) rfl) ?_
    exact ⟨rfl, H.toExt⟩
   ·replace hF2 := cnd_f hF2 hc2
    refine wp_skip ?_
    refine xn hK7 ?_; clear hK7
    refine sr ?_; intro K11 hK11
    refine p_mv (v := (vs1 2).v) q3 ?_
    refine p_mv (v := (vs1 2).v) q3 ?_
    refine p_mv (v := (vs1 2).v) q3 ?_
    obtain ⟨y7, e7, hF2⟩ := bnd hF2
    refine p_call (l := [(vs1 2).v, (vs1 2).v]) is76 rfl ?_
    refine (seneschalref07_times_c H.sub g3 g3 e7).mono ?_; rintro _ w9 ⟨hx, v3, rfl, g7⟩
    have hle5 := gr_le (w' := w9) H.sub; replace H := H.call hx; clear hx; generalize gr S4 w8 w9 = S5 at hle5 H g7
    replace g3 := RdS.mono g3 hle5
    replace g4 := RdS.mono g4 hle5
    obtain ⟨y8, e8, hF2⟩ := bnd hF2
    refine p_call (l := [(vs1 2).v, v3]) is76 rfl ?_
    refine (seneschalref07_times_c H.sub g3 g7 e8).mono ?_; rintro _ w10 ⟨hx, v4, rfl, g8⟩
    have hle6 := gr_le (w' := w10) H.sub; replace H := H.call hx; clear hx; generalize gr S5 w9 w10 = S6 at hle6 H g8
    replace g3 := RdS.mono g3 hle6
    replace g4 := RdS.mono g4 hle6
    replace g7 := RdS.mono g7 hle6
    have g9 : RL S6 ([Value.int .u32 (3)] ++ ([] : List Value)) ([(3 : UInt32)] : List UInt32) := (RL.cons (rpU32c (x := (3 : UInt32)) rfl) RL.nil)
    refine p_of1 (a_bslice (N := 1) (vals := [(0, .int .u32 (3))]) (l := ([Value.int .u32 (3)] ++ ([] : List Value))) tn26 H rfl rfl rfl g9.len) ?_; clear H; intro w11 v5 H
    generalize ([Value.int .u32 (3)] ++ ([] : List Value)) = cs1 at H g9
    replace H : HS ⟨S, [], w⟩ S6 w11 [.osl (v5) (([(3 : UInt32)] : List UInt32)).length 1 cs1 [] 76, .blk b1 ((cl52 x0)) 52] := H
    refine p_mv (v := (vs1 2).v) q3 ?_
    obtain ⟨S7, hle7, g10, H1⟩ := H.fixX (k := 0) rfl g9; clear H; have H := H1; clear H1
    replace g3 := RdS.mono g3 hle7
    replace g4 := RdS.mono g4 hle7
    replace g8 := RdS.mono g8 hle7
    replace H : HS ⟨S, [], w⟩ S7 w11 [.blk b1 ((cl52 x0)) 52] := H
    obtain ⟨y9, e9, hF2⟩ := bnd hF2
    refine p_call (l := [v5, (vs1 2).v]) is76 rfl ?_
    refine (seneschalref07_times_c H.sub g10 g3 e9).mono ?_; rintro _ w12 ⟨hx, v6, rfl, g11⟩
    have hle8 := gr_le (w' := w12) H.sub; replace H := H.call hx; clear hx; generalize gr S7 w11 w12 = S8 at hle8 H g11
    replace g3 := RdS.mono g3 hle8
    replace g4 := RdS.mono g4 hle8
    replace g8 := RdS.mono g8 hle8
    replace g10 := RdS.mono g10 hle8
    obtain ⟨y10, e10, hF2⟩ := bnd hF2
    refine p_call (l := [v4, v6]) is75 rfl ?_
    refine (seneschalref07_minus_c H.sub g8 g11 e10).mono ?_; rintro _ w13 ⟨hx, v7, rfl, g12⟩
    have hle9 := gr_le (w' := w13) H.sub; replace H := H.call hx; clear hx; generalize gr S8 w12 w13 = S9 at hle9 H g12
    replace g4 := RdS.mono g4 hle9
    replace g8 := RdS.mono g8 hle9
    replace g11 := RdS.mono g11 hle9
    obtain ⟨y11, e11, hF2⟩ := bnd hF2
    refine p_call (l := []) is77 rfl ?_
    refine (seneschalref07_b_c H.sub e11).mono ?_; rintro _ w14 ⟨hx, v8, rfl, g13⟩
    have hle10 := gr_le (w' := w14) H.sub; replace H := H.call hx; clear hx; generalize gr S9 w13 w14 = S10 at hle10 H g13
    replace g4 := RdS.mono g4 hle10
    replace g12 := RdS.mono g12 hle10
    obtain ⟨y12, e12, hF2⟩ := bnd hF2
    refine p_call (l := [v7, v8]) is74 rfl ?_
    refine (seneschalref07_plus_c H.sub g12 g13 e12).mono ?_; rintro _ w15 ⟨hx, v9, rfl, g14⟩
    have hle11 := gr_le (w' := w15) H.sub; replace H := H.call hx; clear hx; generalize gr S10 w14 w15 = S11 at hle11 H g14
    replace g4 := RdS.mono g4 hle11
    replace g12 := RdS.mono g12 hle11
    replace g13 := RdS.mono g13 hle11
    refine p_as (v := v9) rfl ?_
    refine xk hK11 ?_; clear hK11
    refine sr ?_; intro K12 hK12
    refine p_mv (v := (vs1 5).v) q4 ?_
    refine p_mv (v := (vs1 5).v) q4 ?_
    obtain ⟨y13, e13, hF2⟩ := bnd hF2
    refine p_call (l := [(vs1 5).v, (vs1 5).v]) is76 rfl ?_
    refine (seneschalref07_times_c H.sub g4 g4 e13).mono ?_; rintro _ w16 ⟨hx, v10, rfl, g15⟩
    have hle12 := gr_le (w' := w16) H.sub; replace H := H.call hx; clear hx; generalize gr S11 w15 w16 = S12 at hle12 H g15
    replace g4 := RdS.mono g4 hle12
    replace g14 := RdS.mono g14 hle12
    refine p_mv (v := v9) rfl ?_
    obtain ⟨y14, e14, hF2⟩ := bnd hF2
    refine p_call (l := [v10, v9]) is35 rfl ?_
    refine (seneschalref06_Cmp_c H.sub g15 g14 e14).mono ?_; rintro _ w17 ⟨rfl, hx⟩; replace H := H.ext hx; clear hx
    refine p_val (r_eql (t := (y14 == 0)) rfl rfl rfl) ?_
    refine p_as (v := .bool ((y14 == 0))) rfl ?_
    refine xk hK12 ?_; clear hK12
    refine wp_ret ?_
    obtain rfl := Option.some.inj hF2
    refine e_1 rfl (q_tmp (v := .bool ((y14 == 0))) rfl) ?_
    exact ⟨rfl, H.toExt⟩
  refine p_gs (j := 4) (gvl_at rfl rfl (k3 28)) (fun hb2 => ?_) (fun hb2 => ?_)
  ·replace hE2 := cnd_t hE2 hb2
   refine p_skip (gvl_at rfl rfl (k3 28)) hb2 ?_
   rw [put_fr]
   refine p_skip (gvl_at rfl rfl (k3 28)) hb2 ?_
   rw [put_fr]
   refine p_skip (gvl_at rfl rfl (k3 28)) hb2 ?_
   rw [put_fr]
   refine p_skip (gvl_at rfl rfl (k3 28)) hb2 ?_
   rw [put_fr]
   refine p_val (r_pickt (v := .bool (true)) (k3 28) hb2 rfl) ?_
   refine hR3 _ _ ?_
   replace H : HS ⟨S, [], w⟩ S2 w5 [.blk b1 ((cl52 x0)) 52] := H
   obtain rfl := Option.some.inj hE2
   exact J2 _ _ _ (by (repeat (refine keep_cons rfl ?_)); exact fun _ _ => rfl) rfl (Mem.le_refl _) H
  ·replace hE2 := cnd_f hE2 hb2
   refine p_want (gvl_at rfl rfl (k3 28)) hb2 ?_
   refine p_mv (v := (vs1 5).v) (k3 4) ?_
   refine p_want (gvl_at rfl rfl (k3 28)) hb2 ?_
   obtain ⟨y5, e5, hE2⟩ := bnd hE2
   refine p_call (l := [.int .i64 (0)]) is20 rfl ?_
   refine (seneschalref06_Modulus_c H.sub e5).mono ?_; rintro _ w6 ⟨hx, v2, rfl, g6⟩
   have hle3 := gr_le (w' := w6) H.sub; replace H := H.call hx; clear hx; generalize gr S2 w5 w6 = S3 at hle3 H g6
   replace g3 := RdS.mono g3 hle3
   replace g4 := RdS.mono g4 hle3
   refine p_want (gvl_at rfl rfl (k3 28)) hb2 ?_
   obtain ⟨y6, e6, hE2⟩ := bnd hE2
   refine p_call (l := [(vs1 5).v, v2]) is35 rfl ?_
   refine (seneschalref06_Cmp_c H.sub g4 g6 e6).mono ?_; rintro _ w7 ⟨rfl, hx⟩; replace H := H.ext hx; clear hx
   refine p_want (gvl_at rfl rfl (k3 28)) hb2 ?_
   refine p_val (r_geq (t := decide ((0 : Int) ≤ y6)) rfl rfl rfl) ?_
   refine p_val (r_pickf (v := .bool (decide ((0 : Int) ≤ y6))) (k3 28) hb2 rfl) ?_
   refine hR3 _ _ ?_
   replace H : HS ⟨S, [], w⟩ S3 w7 [.blk b1 ((cl52 x0)) 52] := H
   obtain rfl := Option.some.inj hE2
   exact J2 _ _ _ (by (repeat (refine keep_cons rfl ?_)); exact fun _ _ => rfl) rfl hle3 H
end Go.Proofs.Ytjmgilhlpohcmaa
